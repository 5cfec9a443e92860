/- What the functions of the program compute: the texts of tokens. Each with its conditions. -/
import Derived.Test.YtopbpdgnjnoddaaDoorDx8
import Derived.Test.YtopbpdgnjnoddaaDoorT13c
import Derived.Sort.Grow
import Derived.Lib.AppendIntMem
import Derived.Lib.LaidTab
import Derived.Lib.ItoaLen
set_option linter.unusedSimpArgs false
set_option linter.unusedVariables false
namespace Go.Proofs.YtopbpdgnjnoddaaDoor
open Go Go.Dx Go.RowKit
def TT : Tab := ⟨[(2, ⟨.int .i64, 1, false, [.int .i64 0]⟩),
  (3, ⟨.int .i64, 1, false, [.int .i64 0]⟩),
  (4, ⟨.bool, 1, false, [.bool false]⟩),
  (5, ⟨.int .u8, 1, false, [.int .u8 0]⟩),
  (9, ⟨.str, 1, false, [vs []]⟩),
  (21, ⟨.int .i32, 1, false, [.int .i32 0]⟩),
  (22, ⟨.sl 26 4, 1, false, [.slice none 0 0]⟩),
  (24, ⟨.int .i64, 1, false, [.int .i64 0]⟩),
  (26, ⟨.st [(0, 1, false), (1, 1, false), (2, 1, false), (3, 1, false)], 4, true, [.int .i64 0, vs [], .int .i64 0, .int .i64 0]⟩),
  (27, ⟨.int .i64, 1, false, [.int .i64 0]⟩),
  (38, ⟨.ot, 1, false, [.nilFunc]⟩),
  (39, ⟨.sl 9 1, 1, false, [.slice none 0 0]⟩),
  (44, ⟨.int .i64, 1, false, [.int .i64 0]⟩),
  (46, ⟨.st [(0, 1, false), (1, 1, false), (2, 1, false)], 3, true, [.int .i64 0, .int .i64 0, vs []]⟩),
  (49, ⟨.st [(0, 4, true), (4, 1, false)], 5, true, [.int .i64 0, vs [], .int .i64 0, .int .i64 0, .int .i64 0]⟩),
  (53, ⟨.ot, 1, false, [.pointer none]⟩),
  (54, ⟨.sl 5 1, 1, false, [.slice none 0 0]⟩),
  (56, ⟨.st [(0, 1, false), (1, 1, false)], 2, true, [.pointer none, .slice none 0 0]⟩),
  (67, ⟨.ot, 1, false, [.nilFunc]⟩),
  (69, ⟨.ot, 1, false, [.pointer none]⟩),
  (76, ⟨.ot, 1, false, [.pointer none]⟩),
  (79, ⟨.ar 24 5 1, 24, true, [.int .u8 0, .int .u8 0, .int .u8 0, .int .u8 0, .int .u8 0, .int .u8 0, .int .u8 0, .int .u8 0, .int .u8 0, .int .u8 0, .int .u8 0, .int .u8 0, .int .u8 0, .int .u8 0, .int .u8 0, .int .u8 0, .int .u8 0, .int .u8 0, .int .u8 0, .int .u8 0, .int .u8 0, .int .u8 0, .int .u8 0, .int .u8 0]⟩),
  (80, ⟨.int .u64, 1, false, [.int .u64 0]⟩),
  (88, ⟨.ar 20 80 1, 20, true, [.int .u64 0, .int .u64 0, .int .u64 0, .int .u64 0, .int .u64 0, .int .u64 0, .int .u64 0, .int .u64 0, .int .u64 0, .int .u64 0, .int .u64 0, .int .u64 0, .int .u64 0, .int .u64 0, .int .u64 0, .int .u64 0, .int .u64 0, .int .u64 0, .int .u64 0, .int .u64 0]⟩),
  (89, ⟨.int .u32, 1, false, [.int .u32 0]⟩),
  (92, ⟨.int .u64, 1, false, [.int .u64 0]⟩),
  (95, ⟨.ar 32 5 1, 32, true, [.int .u8 0, .int .u8 0, .int .u8 0, .int .u8 0, .int .u8 0, .int .u8 0, .int .u8 0, .int .u8 0, .int .u8 0, .int .u8 0, .int .u8 0, .int .u8 0, .int .u8 0, .int .u8 0, .int .u8 0, .int .u8 0, .int .u8 0, .int .u8 0, .int .u8 0, .int .u8 0, .int .u8 0, .int .u8 0, .int .u8 0, .int .u8 0, .int .u8 0, .int .u8 0, .int .u8 0, .int .u8 0, .int .u8 0, .int .u8 0, .int .u8 0, .int .u8 0]⟩)], [6, 7, 8, 9, 10, 11, 12, 13, 14, 15, 16, 17, 18, 19, 20, 21, 22, 23, 24, 25, 26, 27, 28, 29, 30, 31, 32, 33, 34, 35, 36, 37, 38, 39, 40, 41, 42, 43, 44, 45, 46, 47, 48, 49, 50, 51, 52, 53, 54, 55, 56, 59, 60, 61, 62, 63, 64, 65, 66, 67, 68, 69, 70, 71, 72]⟩
theorem TT_ok : Tab.Ok Tryd.prog TT := ⟨by kernel_rfl, by kernel_rfl, by kernel_rfl⟩
/-- the table of powers of ten, as it was laid -/
def powG : Nat := 1
def PowV (h : View) : Prop := ∃ (T : TypeId) (fz : Nat × Nat), h powG = some (.cells (Lib.pow10Tab.map fun z => Value.int .u64 z).toArray T fz)
theorem pow_tab {h : View} {w : World} (hp : PowV h) (hv : VLe h (Full w)) : Lib.TabIs Tryd.prog w "internal/strconv.uint64pow10" .u64 Lib.pow10Tab := by
  obtain ⟨T, fz, hg⟩ := hp
  have hw : w.heap[powG]? = _ := hv _ _ hg
  have hn : Tryd.prog.globalNamed "internal/strconv.uint64pow10" = some powG := by kernel_rfl
  unfold Lib.TabIs World.var?
  rw [hn, Option.bind_some, hw]
theorem c_Itoa (n : Int) (hn : I64 n) (w0 : World) (h0 : View) (hv : VLe h0 (Full w0)) (hp : PowV h0) : Calls Tryd.prog 16 #[.int .i64 n] w0 (Ret w0 h0 fun u _ => u = vs (Lib.itoa n)) := by
  refine calls_below ((Tryd.strconv_Itoa n hn.1 hn.2 w0 (pow_tab hp hv)).mono ?_)
  rintro e w' ⟨rfl, k, os, rfl⟩
  exact ⟨rfl, Lib.below_grow _ _ (Nat.le_refl _) k os⟩
theorem vB2 {n : Int} (hn : I64 n) (s : List UInt8) : valB ⟨2, n, s⟩ := ⟨⟨by simp, by simp⟩, hn⟩
theorem c_VTextQ (s : List UInt8) (hp : plainS s = true) (w0 : World) (h0 : View) (hv : VLe h0 (Full w0)) : Calls Tryd.prog 17 #[.agg (valC ⟨2, 0, s⟩).toArray] w0 (Ret w0 h0 fun u _ => u = tsV (quS s, 0)) := by
  refine ent (args := [.agg (valC ⟨2, 0, s⟩).toArray]) TT_ok [] [] Tryd.func17 rfl Tryd.ntmps17 rfl rfl hv ?_
  intro b
  have hok : valOk ⟨2, 0, s⟩ = true := by simp [valOk, hp]
  refine cl (c_VCheck ⟨2, 0, s⟩ (vB2 ⟨by decide, by decide⟩ s)) ?_
  refine cnd (fun h => ?_) (fun h => ?_)
  · exact absurd (by rw [chkV, if_pos hok]) h
  · refine cnd (fun h1 => ?_) (fun h1 => ?_)
    · cases h1
    · refine cnd (fun h2 => ?_) (fun h2 => ?_)
      · refine cl (c_quote s hp) ?_
        exact rfl
      · exact absurd rfl h2
theorem itoa_len' {n : Int} (h : I64 n) : (Lib.itoa n).length ≤ 21 := Lib.itoa_length_le n h.1 h.2
theorem u8_digit {m : Nat} (h : m < 10) : IntKind.u8.wrap (48 + (m : Int)) = ((UInt8.ofNat (48 + m)).toNat : Int) := by
  rw [digit_val h, wrap_u8 (by omega) (by omega)]; omega
theorem c_Digits : ∀ (k : Nat) (n : Int), n.natAbs ≤ k → I64 n → ∀ (w0 : World) (h0 : View) (_ : VLe h0 (Full w0)), Calls Tryd.prog 19 #[.int .i64 n] w0 (Ret w0 h0 fun u _ => u = vs (Lib.itoa n)) := by
  intro k
  induction k using Nat.strongRecOn with
  | _ k ih =>
  intro n hk hn w0 h0 hv
  have hn1 := hn.1
  have hn2 := hn.2
  refine ent (args := [.int .i64 n]) TT_ok [] [8] Tryd.func19 rfl Tryd.ntmps19 rfl rfl hv ?_
  refine cnd (fun h => ?_) (fun h => ?_)
  · refine cnd (fun h1 => ?_) (fun h1 => ?_)
    · refine wi ?_
      refine ew _ (show IntKind.u8.wrap (48 - n) = ((UInt8.ofNat (48 + n.natAbs)).toNat : Int) by rw [show 48 - n = 48 + (n.natAbs : Int) by omega]; exact u8_digit (by omega)) ?_
      intro b
      refine ew [UInt8.ofNat (48 + n.natAbs)] rfl ?_
      refine ct ?_
      show vs _ = _
      rw [itoa_neg' h1, dec_lo (by omega)]; rfl
    · refine wi ?_
      refine ew _ (show IntKind.u8.wrap (48 + n) = ((UInt8.ofNat (48 + n.natAbs)).toNat : Int) by rw [show 48 + n = 48 + (n.natAbs : Int) by omega]; exact u8_digit (by omega)) ?_
      intro b
      refine ew [UInt8.ofNat (48 + n.natAbs)] rfl ?_
      show vs _ = _
      rw [itoa_pos h1, dec_lo (by omega)]
  · have ht : (n.tdiv 10).natAbs = n.natAbs / 10 := by rw [Int.natAbs_tdiv]; rfl
    have hm : (n.tmod 10).natAbs = n.natAbs % 10 := by rw [Int.natAbs_tmod]; rfl
    have hi := itoa_hi (n := n) (by omega)
    refine rm (by decide) ?_
    refine w_cut TT_ok (fun _ : Unit => [(3, .v (.int .i64 ((n.natAbs % 10 : Nat) : Int)))]) (fun _ => True) ?_
    refine And.intro ?_ ?_
    · refine cnd (fun h1 => ?_) (fun h1 => ?_)
      · refine wi ?_
        exact ⟨(), trivial, gs (by rw [show 0 - n.tmod 10 = ((n.natAbs % 10 : Nat) : Int) by omega]; rfl)⟩
      · exact ⟨(), trivial, gs (by rw [show n.tmod 10 = ((n.natAbs % 10 : Nat) : Int) by omega]; rfl)⟩
    · intro _ _
      refine And.intro (by kernel_rfl) ?_
      refine qu (by decide) ?_
      refine cl (ih (n.natAbs / 10) (by omega) (n.tdiv 10) (by omega) ⟨by omega, by omega⟩) ?_
      refine wi ?_
      refine ew _ (u8_digit (Nat.mod_lt _ (by decide))) ?_
      refine ew [UInt8.ofNat (48 + n.natAbs % 10)] rfl ?_
      refine ct ?_ (by have := itoa_len' (n := n.tdiv 10) ⟨by omega, by omega⟩; simp; omega)
      exact congrArg vs hi.symm
theorem u8i {b : UInt8} {m : Nat} (hm : m < 256) : ((b.toNat : Int) = (m : Int)) ↔ b = UInt8.ofNat m :=
  ⟨fun h => UInt8.toNat_inj.1 (by rw [byte_lo hm]; omega), fun h => by rw [h, byte_lo hm]⟩
theorem c_RQuote (s : List UInt8) (hs : s.length ≤ 1000000) (w0 : World) (h0 : View) (hv : VLe h0 (Full w0)) : Calls Tryd.prog 20 #[vs s] w0 (Ret w0 h0 fun u _ => u = vs (quS s)) := by
  refine ent (args := [vs s]) TT_ok [] [7] Tryd.func20 rfl Tryd.ntmps20 rfl rfl hv ?_
  have hfl : ∀ k : Nat, ((s.take k).flatMap qB).length ≤ 2 * s.length := fun k => Nat.le_trans (flat_len _) (by rw [List.length_take]; omega)
  refine w_loop TT_ok (fun k : Nat => [(4, .v (.int .i64 k)), (3, .v (vs (34 :: (s.take k).flatMap qB)))]) 0 (fun k => k ≤ s.length) (fun k => s.length - k) ?_
  refine And.intro ⟨Nat.zero_le _, gs⟩ ?_
  intro k hk
  have hf := hfl k
  refine cnd (fun h => ?_) (fun h => ?_)
  · refine w_cut TT_ok (fun _ : Unit => [(3, .v (vs (34 :: (s.take k).flatMap qB ++ if s.getD k 0 = 34 ∨ s.getD k 0 = 92 then [92] else [])))]) (fun _ => True) ?_
    refine And.intro ?_ ?_
    · refine ix k ?_
      refine ixg k ?_
      have e1 : ((s.getD k 0).toNat : Int) = 34 ↔ s.getD k 0 = 34 := u8i (m := 34) (by decide)
      have e2 : ((s.getD k 0).toNat : Int) = 92 ↔ s.getD k 0 = 92 := u8i (m := 92) (by decide)
      refine cnd (fun h1 => ?_) (fun h1 => ?_)
      · refine ct ?_ (by simp only [List.length_cons, List.length_nil]; omega)
        exact ⟨(), trivial, gs (by rw [if_pos (by rwa [e1, e2] at h1)]; rfl)⟩
      · exact ⟨(), trivial, gs (by rw [if_neg (by rw [e1, e2] at h1; simpa using h1), List.append_nil]; rfl)⟩
    · intro _ _
      refine wi ?_
      refine sl2 k (k + 1) ?_
      have h2 : (s.drop k).take (k + 1 - k) = [s.getD k 0] := by
        rw [show k + 1 - k = 1 by omega, drop_getD s k (by omega)]; rfl
      have h3 : (34 :: (s.take k).flatMap qB ++ if s.getD k 0 = 34 ∨ s.getD k 0 = 92 then [92] else []) ++ (s.drop k).take (k + 1 - k) = 34 :: (s.take (k + 1)).flatMap qB := by
        rw [h2, flat_snoc s k (by omega), List.cons_append, List.cons_append, List.append_assoc]
        congr 2
        unfold qB; split <;> rfl
      refine ct ?_ (by rw [← List.length_append, h3, List.length_cons]; have := hfl (k + 1); omega)
      refine wi ?_
      exact ⟨k + 1, ⟨by omega, by omega⟩, gs (by rw [h3]; rfl)⟩
  · have e : s.take k = s := List.take_of_length_le (by omega)
    refine ct ?_ (by simp only [List.length_cons, List.length_nil]; omega)
    show vs _ = _
    rw [e]; exact rfl
theorem c_SIndex (ad : Option Addr) (cap : Nat) (l : List (List UInt8)) (s : List UInt8) (hl : l.length ≤ 1000000) (w0 : World) (h0 : View) (hv : VLe h0 (Full w0)) (hb : SlC 9 1 (flatR fun s => [vs s]) h0 (.slice ad l.length cap) l) :
    Calls Tryd.prog 47 #[.slice ad l.length cap, vs s] w0 (Ret w0 h0 fun u _ => u = .int .i64 (ixF (fun m => decide (s = m)) l)) := by
  refine ent (args := [.slice ad l.length cap, vs s]) TT_ok [] [] Tryd.func47 rfl Tryd.ntmps47 rfl rfl hv ?_
  refine w_loop TT_ok (fun k : Nat => [(8, .v (.int .i64 k))]) 0 (fun k => k ≤ l.length ∧ (l.take k).any (fun m => decide (s = m)) = false) (fun k => l.length - k) ?_
  refine And.intro ⟨⟨Nat.zero_le _, rfl⟩, gs⟩ ?_
  intro k ⟨hk, ha⟩
  refine cnd (fun h => ?_) (fun h => ?_)
  · refine ixs hb k [] ?_
    refine cnd (fun h1 => ?_) (fun h1 => ?_)
    · rw [ixF_at _ l k (by omega) ha (decide_eq_true h1)]; exact rfl
    · refine wi ?_
      exact ⟨k + 1, ⟨⟨by omega, any_snoc _ l k (by omega) ha (decide_eq_false h1)⟩, by omega⟩, gs⟩
  · rw [ixF_none _ l (by rwa [List.take_of_length_le (by omega)] at ha)]; exact rfl
theorem ix_contains (l : List (List UInt8)) (s : List UInt8) : decide (ixF (fun m => decide (s = m)) l ≥ 0) = l.contains s := by
  unfold ixF
  cases h : l.findIdx? (fun m => decide (s = m)) with
  | none =>
    rw [List.findIdx?_eq_none_iff] at h
    symm
    have : s ∉ l := fun hm => by have := h s hm; simp at this
    simpa using this
  | some i =>
    rw [List.findIdx?_eq_some_iff_getElem] at h
    obtain ⟨hi, he, _⟩ := h
    have : s ∈ l := by rw [of_decide_eq_true he]; exact List.getElem_mem _
    simpa using this
theorem c_SContains (ad : Option Addr) (cap : Nat) (l : List (List UInt8)) (s : List UInt8) (hl : l.length ≤ 1000000) (w0 : World) (h0 : View) (hv : VLe h0 (Full w0)) (hb : SlC 9 1 (flatR fun s => [vs s]) h0 (.slice ad l.length cap) l) :
    Calls Tryd.prog 28 #[.slice ad l.length cap, vs s] w0 (Ret w0 h0 fun u _ => u = .bool (l.contains s)) := by
  refine ent (args := [.slice ad l.length cap, vs s]) TT_ok [] [] Tryd.func28 rfl Tryd.ntmps28 rfl rfl hv ?_
  refine cb (fun w hw => c_SIndex ad cap l s hl w h0 hw hb) ?_
  show Value.bool _ = _
  rw [← ix_contains]
theorem c_marksHas (b : Nat) (s : List UInt8) (w : World) (hb : w.heap[b]? = some (.cells (cellsL (marksL.map vs)).toArray 9 (0, 0))) :
    Calls Tryd.prog 28 #[.slice (some ⟨b, 0, none⟩) 16 16, vs s] w (Ret w (Full w) fun u _ => u = .bool (marksL.contains s)) :=
  c_SContains _ _ marksL s (by decide) w (Full w) (VLe.refl _) (SlC.ofRow (f := fun s => [vs s]) (fun _ _ => rfl) (h := Full w) hb rfl (by decide) (by decide) rfl)
set_option maxHeartbeats 1000000 in
theorem c_right (t : Tok) (hn : I64 t.n) (hs : t.s.length ≤ 1000000) (w0 : World) (h0 : View) (hv : VLe h0 (Full w0)) : Calls Tryd.prog 15 #[.agg (tokC t).toArray] w0 (Ret w0 h0 fun u _ => u = .bool (rightT t)) := by
  by_cases hz : t.n = 0
  · refine ent (args := [.agg (tokC t).toArray]) TT_ok [2000055, 2000056, 2000057, 2000058] [] Tryd.func15 rfl Tryd.ntmps15 rfl rfl hv ?_
    intro b
    refine cnd (fun h1 => ?_) (fun h1 => ?_)
    · refine And.intro (by kernel_rfl) ?_
      refine clg (fun _ => c_word t.s hs) ?_
      rw [right_1 h1]; exact rfl
    · refine cnd (fun h2 => ?_) (fun h2 => ?_)
      · rw [right_2 h2]; exact rfl
      · refine cnd (fun h3 => ?_) (fun h3 => ?_)
        · refine cl (c_VCheck ⟨2, t.n, t.s⟩ (vB2 hn t.s)) ?_
          rw [right_3 h3]
          show Value.bool _ = _
          congr 1
          simp [chkV, valOk]
        · refine cnd (fun h4 => ?_) (fun h4 => ?_)
          · refine And.intro (by kernel_rfl) ?_
            refine And.intro (decide_eq_true hz) ?_
            refine CallG.r 9 16 (cellsL (marksL.map vs)) rfl rfl (fun w hS => c_marks w h0 hS.st.base) ?_
            refine And.intro (decide_eq_true hz) ?_
            refine And.intro (decide_eq_true hz) ?_
            refine And.intro (decide_eq_true hz) ?_
            refine ⟨_, fun w b hS hb => ⟨Full w, c_marksHas b t.s w hb⟩, ?_⟩
            rw [right_4 h4]; exact rfl
          · rw [right_0 h1 h2 h3 h4]; exact rfl
  · refine ent (args := [.agg (tokC t).toArray]) TT_ok [] [] Tryd.func15 rfl Tryd.ntmps15 rfl rfl hv ?_
    intro b
    refine cnd (fun h1 => ?_) (fun h1 => ?_)
    · refine And.intro (by kernel_rfl) ?_
      refine clg (fun _ => c_word t.s hs) ?_
      rw [right_1 h1]; exact rfl
    · refine cnd (fun h2 => ?_) (fun h2 => ?_)
      · rw [right_2 h2]; exact rfl
      · refine cnd (fun h3 => ?_) (fun h3 => ?_)
        · refine cl (c_VCheck ⟨2, t.n, t.s⟩ (vB2 hn t.s)) ?_
          rw [right_3 h3]
          show Value.bool _ = _
          congr 1
          simp [chkV, valOk]
        · refine cnd (fun h4 => ?_) (fun h4 => ?_)
          · refine And.intro (by kernel_rfl) ?_
            refine clg (x := .slice none 0 0) (fun h => absurd h hz) ?_
            refine clg (x := .bool false) (fun h => absurd h hz) ?_
            rw [right_4 h4]
            show Value.bool _ = _
            rw [decide_eq_false hz]; rfl
          · rw [right_0 h1 h2 h3 h4]; exact rfl

end Go.Proofs.YtopbpdgnjnoddaaDoor
