/- A text in quotes: for every text of at most 2^44 bytes. No other condition. -/
import Derived.Test.YtopbpdgnjnoddaaDoorVB
set_option linter.unusedSimpArgs false
set_option linter.unusedVariables false
namespace Go.Proofs.YtopbpdgnjnoddaaDoor
open Go Go.RowKit Go.Shelf
def quoteFrom (s : ByteArray) : Nat → Nat → List UInt8
  | 0, _ => []
  | fuel + 1, pos => if pos < s.size then ((if (Utf8.decode s pos).1 = 34 ∨ (Utf8.decode s pos).1 = 92 then [92] else []) ++ Lib.encodeRune (Utf8.decode s pos).1) ++ quoteFrom s fuel (pos + (Utf8.decode s pos).2) else []
theorem width_pos (s : ByteArray) (pos : Nat) (h : pos < s.size) : 1 ≤ (Utf8.decode s pos).2 := by
  by_cases ha : (s[pos]'h).toNat < 128
  · rw [decode_ascii s pos h ha]
    exact Nat.le_refl _
  · exact (decode_high s pos h (by omega)).2
theorem quoteFrom_end (s : ByteArray) (fuel pos : Nat) (h : ¬ pos < s.size) : quoteFrom s fuel pos = [] := by
  cases fuel with
  | zero => rfl
  | succ f => simp [quoteFrom, h]
set_option maxHeartbeats 4000000 in
set_option maxRecDepth 1000000 in
theorem quote_walk (s : ByteArray) (w : World) (hs : s.size ≤ 17592186044416) :
    Calls Tryd.prog 31 #[.string s] w fun e w' => e = .returned (.string ⟨(34 :: quoteFrom s s.size 0 ++ [34]).toArray⟩) ∧ Below w.heap.size w w' := by
  go_enter Tryd.func31, Tryd.ntmps31
  go_wp2_with (go_at_call 49; refine (writeByte_k w.heap.size w.heap.size [] 34 _ (Lib.IsBuilderF.of (Lib.fresh_isBuilder 56 5 w)) (by simp) (by simp)).mono ?_)
  rintro e W1 ⟨rfl, h1, b1, k1⟩
  have b01 : Below w.heap.size w W1 := ((Below.refl _ w).alloc (Nat.le_refl _) _).trans b1
  have hs1 : w.heap.size < W1.heap.size := by
    obtain ⟨_, v, hb, _⟩ := h1
    exact (Array.getElem?_eq_some_iff.1 hb).1
  go_wp2
  go_loopw [] (fun wr => ∃ (pos fuel : Nat) (acc : List UInt8), Lib.IsBuilderF 56 5 w.heap.size w.heap.size (Lib.byteCells acc) wr ∧ wr.heap[W1.heap.size]? = some (.stringIter s pos) ∧ Below w.heap.size w wr ∧ acc ++ quoteFrom s fuel pos = 34 :: quoteFrom s s.size 0 ∧ s.size ≤ pos + fuel ∧ acc.length ≤ 1 + 5 * pos) (fun wr => s.size - wr.iterPos W1.heap.size)
  case atStart =>
    refine ⟨0, s.size, [34], Lib.IsBuilderF.alloc (.inr h1) _, ?_, b01.alloc (by omega) _, rfl, by omega, by simp⟩
    exact World.iter_heap W1 s 0
  case round =>
    obtain ⟨pos, fuel, acc, hI, hit, hbw, hacc, hfu, hal⟩ := hrel
    have hsz : W1.heap.size < wr.heap.size := (Array.getElem?_eq_some_iff.1 hit).1
    by_cases hp : pos < s.size
    · have hnx : ∀ ty, (Instr.next (.pointer (some ⟨W1.heap.size, 0, none⟩)) true ty).run Tryd.prog wr = _ := fun ty => Lib.run_next_any_at wr W1.heap.size s pos ty hit hp
      have hwd := width_pos s pos hp
      have hd1 := decode_le s pos
      have hI2 := hI.iterAt hit (pos + (Utf8.decode s pos).2)
      have hit2 := Lib.iterAt_heap wr W1.heap.size s pos (pos + (Utf8.decode s pos).2) hit
      have hbw2 := Lib.below_iterAt hbw (k := W1.heap.size) (by omega) s (pos + (Utf8.decode s pos).2)
      have hsz2 : w.heap.size ≤ (wr.iterAt W1.heap.size s (pos + (Utf8.decode s pos).2)).heap.size := by rw [Lib.iterAt_size]; omega
      obtain ⟨f, rfl⟩ : ∃ f, fuel = f + 1 := ⟨fuel - 1, by omega⟩
      have hl4 := Lib.runeCells_le ((Utf8.decode s pos).1 : Int)
      rw [Lib.runeCells_length] at hl4
      by_cases h34 : (Utf8.decode s pos).1 = 34 ∨ (Utf8.decode s pos).1 = 92
      · rcases h34 with h34 | h34
        · go_wp2_with (go_at_call 49; refine (writeByte_k w.heap.size w.heap.size _ 92 _ hI2 (by rw [Lib.byteCells_length]; omega) hsz2).mono ?_)
          rintro e W2 ⟨rfl, h2, b2, k2⟩
          have hz2 := b2.size
          have h2' : Lib.BuilderAtF 56 5 w.heap.size w.heap.size (.pointer (some ⟨w.heap.size, 0, none⟩)) (Lib.byteCells (acc ++ [92])) W2 := by rw [Lib.byteCells_append]; exact h2
          go_wp2_with (go_at_call 50; refine (writeRune_k w.heap.size w.heap.size _ _ (by omega) (by omega) _ (.inr h2') (by rw [Lib.byteCells_length, List.length_append, List.length_singleton]; omega) (by omega)).mono ?_)
          rintro e W3 ⟨rfl, h3, b3, k3⟩
          go_wp2
          go_roundw
          case rel =>
            refine ⟨pos + (Utf8.decode s pos).2, f, acc ++ [92] ++ Lib.encodeRune (Utf8.decode s pos).1, ?_, k3.iter (k2.iter hit2 (by omega)) (by omega), (hbw2.trans b2).trans b3, ?_, by omega, by simp; omega⟩
            · rw [Lib.byteCells_append, Lib.byteCells_encodeRune, h34]; exact Or.inr h3
            · rw [← hacc]; simp [quoteFrom, hp, h34]
          case measure =>
            simp only [World.iterPos, k3.iter (k2.iter hit2 (by omega)) (by omega), hit]
            omega
        · go_wp2_with (go_at_call 49; refine (writeByte_k w.heap.size w.heap.size _ 92 _ hI2 (by rw [Lib.byteCells_length]; omega) hsz2).mono ?_)
          rintro e W2 ⟨rfl, h2, b2, k2⟩
          have hz2 := b2.size
          have h2' : Lib.BuilderAtF 56 5 w.heap.size w.heap.size (.pointer (some ⟨w.heap.size, 0, none⟩)) (Lib.byteCells (acc ++ [92])) W2 := by rw [Lib.byteCells_append]; exact h2
          go_wp2_with (go_at_call 50; refine (writeRune_k w.heap.size w.heap.size _ _ (by omega) (by omega) _ (.inr h2') (by rw [Lib.byteCells_length, List.length_append, List.length_singleton]; omega) (by omega)).mono ?_)
          rintro e W3 ⟨rfl, h3, b3, k3⟩
          go_wp2
          go_roundw
          case rel =>
            refine ⟨pos + (Utf8.decode s pos).2, f, acc ++ [92] ++ Lib.encodeRune (Utf8.decode s pos).1, ?_, k3.iter (k2.iter hit2 (by omega)) (by omega), (hbw2.trans b2).trans b3, ?_, by omega, by simp; omega⟩
            · rw [Lib.byteCells_append, Lib.byteCells_encodeRune, h34]; exact Or.inr h3
            · rw [← hacc]; simp [quoteFrom, hp, h34]
          case measure =>
            simp only [World.iterPos, k3.iter (k2.iter hit2 (by omega)) (by omega), hit]
            omega
      · have h34a : ¬ (Utf8.decode s pos).1 = 34 := fun h => h34 (.inl h)
        have h34b : ¬ (Utf8.decode s pos).1 = 92 := fun h => h34 (.inr h)
        go_wp2_with (go_at_call 50; refine (writeRune_k w.heap.size w.heap.size _ _ (by omega) (by omega) _ hI2 (by rw [Lib.byteCells_length]; omega) hsz2).mono ?_)
        rintro e W3 ⟨rfl, h3, b3, k3⟩
        go_wp2
        go_roundw
        case rel =>
          refine ⟨pos + (Utf8.decode s pos).2, f, acc ++ Lib.encodeRune (Utf8.decode s pos).1, ?_, k3.iter hit2 (by omega), hbw2.trans b3, ?_, by omega, by simp; omega⟩
          · rw [Lib.byteCells_append, Lib.byteCells_encodeRune]; exact Or.inr h3
          · rw [← hacc]; simp [quoteFrom, hp, h34a, h34b]
        case measure =>
          simp only [World.iterPos, k3.iter hit2 (by omega), hit]
          omega
    · have hnx : ∀ ty, (Instr.next (.pointer (some ⟨W1.heap.size, 0, none⟩)) true ty).run Tryd.prog wr = _ := fun ty => Lib.run_next_end_at wr W1.heap.size s pos ty hit hp
      have hI0 : pos ≤ s.size ∨ s.size ≤ pos := Nat.le_total _ _
      rw [quoteFrom_end s fuel pos hp, List.append_nil] at hacc
      have hlen : acc.length ≤ 87960930222082 := by
        have h5 : ∀ (g q : Nat), (quoteFrom s g q).length ≤ 5 * (s.size - q) := by
          intro g
          induction g with
          | zero => intro q; simp [quoteFrom]
          | succ g ih =>
            intro q
            by_cases hq : q < s.size
            · have hl := Lib.runeCells_le ((Utf8.decode s q).1 : Int)
              rw [Lib.runeCells_length] at hl
              have hw := width_pos s q hq
              have := ih (q + (Utf8.decode s q).2)
              simp only [quoteFrom, hq, if_true, List.length_append]
              split <;> simp <;> omega
            · simp [quoteFrom, hq]
        have := h5 s.size 0
        rw [hacc, List.length_cons]; omega
      go_wp2_with (go_at_call 49; refine (writeByte_k w.heap.size w.heap.size _ 34 _ hI (by rw [Lib.byteCells_length]; omega) (by omega)).mono ?_)
      rintro e W2 ⟨rfl, h2, b2, k2⟩
      have hz2 := b2.size
      have h2' : Lib.BuilderAtF 56 5 w.heap.size w.heap.size (.pointer (some ⟨w.heap.size, 0, none⟩)) (Lib.byteCells (acc ++ [34])) W2 := by rw [Lib.byteCells_append]; exact h2
      go_wp2_with (go_at_call 26; refine (Tryd.Builder_String_any_k w.heap.size w.heap.size (acc ++ [34]) _ (.inr h2') (by omega)).mono ?_)
      rintro e W3 ⟨rfl, _, b3, _⟩
      go_wp2
      go_ret
      subst hacc
      exact ⟨rfl, (hbw.trans b2).trans b3⟩
end Go.Proofs.YtopbpdgnjnoddaaDoor
