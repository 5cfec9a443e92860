/- Laws of one step of a walk, and of what memory holds. No condition beyond what each names. -/
import Derived.Test.YtopbpdgnjnoddaaDoorDxS
import Derived.Test.YtopbpdgnjnoddaaDoorDxZ
import Derived.Deep.Slices
set_option linter.unusedSimpArgs false
set_option linter.unusedVariables false
namespace Go.Dx
open Go Go.RowKit Go.ChangeShapes Go.WideShapes Go.ChangeAt

/-! opening what came in: structs, and slices of whatever -/
section opens
variable {H : Type} {enc : TypeId × Value → H} {P : Program} {W : World} {base : Nat} {spare : Nat → Bool} {held : Bool}

def FldIs (P : Program) (t i off ty sz : Nat) : Prop := ∃ (fs : Array Field) (f : Field), P.underlying t = some (.struct fs) ∧ fs[i]? = some f ∧ f.type = ty ∧ f.offset = off ∧ P.cellsOf ty = sz
def fldIsB (P : Program) (t i : Nat) : Option (Nat × Nat × Nat) := match P.underlying t with
  | some (.struct fs) => (fs[i]?).map fun f => (f.type, f.offset, P.cellsOf f.type)
  | _ => none
theorem FldIs.of {t i off ty sz : Nat} (h : fldIsB P t i = some (ty, off, sz)) : FldIs P t i off ty sz := by
  unfold fldIsB at h
  split at h
  · rename_i fs hu
    cases hf : fs[i]? with
    | none => simp [hf] at h
    | some f =>
      simp [hf] at h
      obtain ⟨h1, h2, h3⟩ := h
      exact ⟨fs, f, hu, hf, h1, h2, by rw [← h1]; exact h3⟩
  · cases h
theorem trod_at {t i off ty sz fuel : Nat} {cs : List Value} {x : DataW H × List MemPlace} (hf : FldIs P t i off ty sz) (h : DataW.trod enc P W base spare held fuel t cs = some x) :
    cs.length = P.cellsOf t ∧ ∃ n y, n < fuel ∧ DataW.trod enc P W base spare held n ty ((cs.drop off).take sz) = some y := by
  obtain ⟨fs, f, hu, hi, h1, h2, h3⟩ := hf
  obtain ⟨xs, n, rfl, rfl, hl, hlen, hx⟩ := DataW.trod_struct hu h
  refine ⟨hl, n, ?_⟩
  have hlt : i < xs.length := by rw [hlen]; exact (Array.getElem?_eq_some_iff.1 hi).1
  have := hx i f hi
  rw [h1, h2, h3, List.getElem?_eq_getElem hlt] at this
  exact ⟨_, Nat.lt_succ_self n, this⟩

theorem open_sl {t e sz fuel : Nat} {v : Value} {x : DataW H × List MemPlace} (ht : P.underlying t = some (.slice e)) (hsz : P.cellsOf e = sz) (hpos : 0 < sz) (h : DataW.trod enc P W base spare held fuel t [v] = some x) :
    ∃ (ad : Option Addr) (cap n0 : Nat) (c : Nat → List Value), v = .slice ad n0 cap ∧ SlC e sz (flatR c) (Full W) (.slice ad (List.range n0).length cap) (List.range n0) ∧ ∀ i, i < n0 → ∃ n y, n < fuel ∧ DataW.trod enc P W base spare held n e (c i) = some y := by
  subst hsz
  rcases DataW.trod_slice ht h with ⟨hcs, _⟩ | ⟨a, len, cap, elems, rest, n, rfl, hcs, _, hb, hl, hm, hlen, hel, _⟩
  · cases hcs
    exact ⟨none, 0, 0, fun _ => [], rfl, SlC.nil (by simp [maxLen]), fun i hi => absurd hi (Nat.not_lt_zero i)⟩
  · cases hcs
    have one : ∀ i, i < len → ∃ cs' : List Value, W.cells? base (a.add (i * P.cellsOf e)) (P.cellsOf e) = some cs' ∧ ∃ y, DataW.trod enc P W base spare held n e cs' = some y := by
      intro i hi
      have := hel i hi
      rw [List.getElem?_eq_getElem (by omega)] at this
      obtain ⟨cs', h1, h2⟩ := Option.bind_eq_some_iff.1 this
      exact ⟨cs', h1, _, h2⟩
    obtain ⟨c, hc⟩ := Go.Deep.choose_lt one
    refine ⟨some a, cap, len, c, rfl, ?_, fun i hi => let ⟨y, hy⟩ := (hc i hi).2; ⟨n, y, Nat.lt_succ_self n, hy⟩⟩
    refine ⟨some a, cap, rfl, by rw [List.length_range]; exact hl, hm, fun hne => ?_⟩
    have hn0 : 0 < len := by
      rcases Nat.eq_zero_or_pos len with h | h
      · subst h; exact absurd rfl hne
      · exact h
    have hcell : ∀ i, i < len → ∀ j, j < P.cellsOf e → W.cell? ((a.add (i * P.cellsOf e)).add j) = (c i)[j]? := fun i hi => (World.cells?_some (hc i hi).1).2.2
    have hclen : ∀ i, i < len → (c i).length = P.cellsOf e := fun i hi => (World.cells?_some (hc i hi).1).2.1
    have hsp : a.spot = none := by
      have h0 := hcell 0 hn0 0 hpos
      rw [List.getElem?_eq_getElem (by rw [hclen 0 hn0]; exact hpos)] at h0
      simpa [Addr.add] using World.cell?_spot h0
    obtain ⟨b, off, spot⟩ := a
    subst hsp
    have hcell' : ∀ i, i < len → ∀ j, j < P.cellsOf e → W.cell? ⟨b, off + i * P.cellsOf e + j, none⟩ = (c i)[j]? := fun i hi j hj => by
      have := hcell i hi j hj
      rwa [add_mk, add_mk] at this
    have h00 := hcell' 0 hn0 0 hpos
    rw [List.getElem?_eq_getElem (by rw [hclen 0 hn0]; exact hpos)] at h00
    unfold World.cell? at h00
    cases hbk : W.heap[b]? with
    | none => simp [hbk] at h00
    | some o =>
      cases o with
      | cells arr T fz =>
        refine ⟨b, off, arr, fz, rfl, ⟨T, hbk⟩, fun i x hi => ?_⟩
        have hi' : i < len := by
          have := (List.getElem?_eq_some_iff.1 hi).1
          simpa using this
        have hx : x = i := by simp [hi'] at hi; exact hi.symm
        subst hx
        refine ⟨c x, hclen x hi', rfl, ?_⟩
        apply List.ext_getElem?
        intro j
        rw [List.getElem?_take]
        split
        · rename_i hj
          have := hcell' x hi' j hj
          rw [List.getElem?_drop]
          simpa [World.cell?, hbk] using this
        · rename_i hj
          rw [List.getElem?_eq_none (by rw [hclen x hi']; omega)]
      | _ => simp [hbk] at h00
theorem trod_i {t fuel : Nat} {cs : List Value} {x : DataW H × List MemPlace} (ht : P.underlying t = some (.int .i64)) (h : DataW.trod enc P W base spare held fuel t cs = some x) : ∃ n : Int, cs = [.int .i64 n] ∧ -9223372036854775808 ≤ n ∧ n ≤ 9223372036854775807 := by
  obtain ⟨n, h1, _, h2⟩ := DataW.trod_int ht h
  exact ⟨n, h1, int_bounds h2⟩
theorem trod_s {t fuel : Nat} {cs : List Value} {x : DataW H × List MemPlace} (ht : P.underlying t = some .string) (h : DataW.trod enc P W base spare held fuel t cs = some x) : ∃ s : List UInt8, cs = [vs s] ∧ s.length ≤ 9223372036854775807 := by
  obtain ⟨s, h1, _, h2⟩ := DataW.trod_string ht h
  refine ⟨s.data.toList, by rw [h1], ?_⟩
  simp only [maxLen] at h2
  have : s.data.toList.length = s.size := by simp [← ByteArray.size_data]
  omega
theorem trod_b {t fuel : Nat} {cs : List Value} {x : DataW H × List MemPlace} (ht : P.underlying t = some .bool) (h : DataW.trod enc P W base spare held fuel t cs = some x) : ∃ b : Bool, cs = [.bool b] := by
  obtain ⟨b, h1, _⟩ := DataW.trod_bool ht h
  exact ⟨b, h1⟩
end opens
end Go.Dx
