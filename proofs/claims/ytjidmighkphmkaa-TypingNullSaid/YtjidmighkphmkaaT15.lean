/- What the functions of the program compute, each with its conditions. -/
import Derived.Test.YtjidmighkphmkaaTypSpec
import Derived.Test.YtjidmighkphmkaaT13b
set_option linter.unusedSimpArgs false
set_option linter.unusedVariables false
namespace Go.Proofs.Ytjidmighkphmkaa
open Go Go.Dx Go.RowKit
theorem agg101 : AggT Try.prog 101 3 := AggT.of (by kernel_rfl) (by kernel_rfl)
theorem agg34 : AggT Try.prog 34 3 := AggT.of (by kernel_rfl) (by kernel_rfl)
theorem agg37 : AggT Try.prog 37 6 := AggT.of (by kernel_rfl) (by kernel_rfl)
theorem agg39 : AggT Try.prog 39 6 := AggT.of (by kernel_rfl) (by kernel_rfl)
theorem agg58 : AggT Try.prog 58 3 := AggT.of (by kernel_rfl) (by kernel_rfl)
theorem fld101_0 : FldAt Try.prog 101 0 0 := FldAt.of (n := 0) (by kernel_rfl)
theorem fld34_0 : FldAt Try.prog 34 0 0 := FldAt.of (n := 0) (by kernel_rfl)
theorem fld34_1 : FldAt Try.prog 34 1 1 := FldAt.of (n := 0) (by kernel_rfl)
theorem fld34_2 : FldAt Try.prog 34 2 2 := FldAt.of (n := 0) (by kernel_rfl)
theorem fld37_0 : FldAt Try.prog 37 0 0 := FldAt.of (n := 0) (by kernel_rfl)
theorem fld37_1 : FldAt Try.prog 37 1 1 := FldAt.of (n := 2) (by kernel_rfl)
theorem fld37_2 : FldAt Try.prog 37 2 4 := FldAt.of (n := 0) (by kernel_rfl)
theorem fld37_3 : FldAt Try.prog 37 3 5 := FldAt.of (n := 0) (by kernel_rfl)
theorem fld58_0 : FldAt Try.prog 58 0 0 := FldAt.of (n := 0) (by kernel_rfl)
theorem fld58_1 : FldAt Try.prog 58 1 1 := FldAt.of (n := 0) (by kernel_rfl)
theorem fldv101_2 : FldV Try.prog 101 2 2 := FldV.of (by kernel_rfl)
theorem ok14 : CallOk Try.prog 14 := CallOk.of (by kernel_rfl)
theorem ok15 : CallOk Try.prog 15 := CallOk.of (by kernel_rfl)
theorem ok16 : CallOk Try.prog 16 := CallOk.of (by kernel_rfl)
theorem ok17 : CallOk Try.prog 17 := CallOk.of (by kernel_rfl)
theorem ok18 : CallOk Try.prog 18 := CallOk.of (by kernel_rfl)
theorem ok19 : CallOk Try.prog 19 := CallOk.of (by kernel_rfl)
theorem ok20 : CallOk Try.prog 20 := CallOk.of (by kernel_rfl)
theorem ok21 : CallOk Try.prog 21 := CallOk.of (by kernel_rfl)
theorem ok22 : CallOk Try.prog 22 := CallOk.of (by kernel_rfl)
theorem ok23 : CallOk Try.prog 23 := CallOk.of (by kernel_rfl)
theorem ok24 : CallOk Try.prog 24 := CallOk.of (by kernel_rfl)
theorem ok25 : CallOk Try.prog 25 := CallOk.of (by kernel_rfl)
theorem ok33 : CallOk Try.prog 33 := CallOk.of (by kernel_rfl)
theorem ok34 : CallOk Try.prog 34 := CallOk.of (by kernel_rfl)
theorem ok35 : CallOk Try.prog 35 := CallOk.of (by kernel_rfl)
theorem ok36 : CallOk Try.prog 36 := CallOk.of (by kernel_rfl)
theorem ok37 : CallOk Try.prog 37 := CallOk.of (by kernel_rfl)
theorem ok38 : CallOk Try.prog 38 := CallOk.of (by kernel_rfl)
theorem ok39 : CallOk Try.prog 39 := CallOk.of (by kernel_rfl)
theorem ok40 : CallOk Try.prog 40 := CallOk.of (by kernel_rfl)
theorem ok41 : CallOk Try.prog 41 := CallOk.of (by kernel_rfl)
theorem ok42 : CallOk Try.prog 42 := CallOk.of (by kernel_rfl)
theorem ok59 : CallOk Try.prog 59 := CallOk.of (by kernel_rfl)
theorem ok60 : CallOk Try.prog 60 := CallOk.of (by kernel_rfl)
theorem ok61 : CallOk Try.prog 61 := CallOk.of (by kernel_rfl)
theorem ok62 : CallOk Try.prog 62 := CallOk.of (by kernel_rfl)
theorem ok63 : CallOk Try.prog 63 := CallOk.of (by kernel_rfl)
theorem ok64 : CallOk Try.prog 64 := CallOk.of (by kernel_rfl)
theorem ok65 : CallOk Try.prog 65 := CallOk.of (by kernel_rfl)
theorem ok66 : CallOk Try.prog 66 := CallOk.of (by kernel_rfl)
theorem ok67 : CallOk Try.prog 67 := CallOk.of (by kernel_rfl)
theorem ok68 : CallOk Try.prog 68 := CallOk.of (by kernel_rfl)
theorem ok76 : CallOk Try.prog 76 := CallOk.of (by kernel_rfl)
theorem ok77 : CallOk Try.prog 77 := CallOk.of (by kernel_rfl)
theorem ok78 : CallOk Try.prog 78 := CallOk.of (by kernel_rfl)
theorem ok79 : CallOk Try.prog 79 := CallOk.of (by kernel_rfl)
theorem ok80 : CallOk Try.prog 80 := CallOk.of (by kernel_rfl)
theorem ok81 : CallOk Try.prog 81 := CallOk.of (by kernel_rfl)
theorem ok82 : CallOk Try.prog 82 := CallOk.of (by kernel_rfl)
theorem ok83 : CallOk Try.prog 83 := CallOk.of (by kernel_rfl)
theorem ok84 : CallOk Try.prog 84 := CallOk.of (by kernel_rfl)
theorem ok86 : CallOk Try.prog 86 := CallOk.of (by kernel_rfl)
theorem ok87 : CallOk Try.prog 87 := CallOk.of (by kernel_rfl)
theorem one31 : OneT Try.prog 31 := OneT.of (by kernel_rfl)
theorem one32 : OneT Try.prog 32 := OneT.of (by kernel_rfl)
theorem one35 : OneT Try.prog 35 := OneT.of (by kernel_rfl)
theorem strb101 : StrB Try.prog 101 [(0, 1), (1, 1), (2, 1)] [.int .i64 0, vs [], .int .i64 0] := StrB.of (by kernel_rfl) (by kernel_rfl)
theorem strb34 : StrB Try.prog 34 [(0, 1), (1, 1), (2, 1)] [.int .i64 0, .int .i64 0, vs []] := StrB.of (by kernel_rfl) (by kernel_rfl)
theorem strb37 : StrB Try.prog 37 [(0, 1), (1, 3), (4, 1), (5, 1)] [.int .i64 0, .int .i64 0, .int .i64 0, vs [], vs [], .slice none 0 0] := StrB.of (by kernel_rfl) (by kernel_rfl)
theorem strb58 : StrB Try.prog 58 [(0, 1), (1, 1), (2, 1)] [vs [], .int .i64 0, .slice none 0 0] := StrB.of (by kernel_rfl) (by kernel_rfl)
theorem sz101 : SzIs Try.prog 101 3 := SzIs.of (by kernel_rfl)
theorem sz32 : SzIs Try.prog 32 1 := SzIs.of (by kernel_rfl)
theorem sz35 : SzIs Try.prog 35 1 := SzIs.of (by kernel_rfl)
theorem sz37 : SzIs Try.prog 37 6 := SzIs.of (by kernel_rfl)
theorem sz58 : SzIs Try.prog 58 3 := SzIs.of (by kernel_rfl)
theorem tyL105 : Try.prog.underlying 105 = some (.slice 101) := by kernel_rfl
theorem tyL35 : Try.prog.underlying 35 = some (.slice 37) := by kernel_rfl
theorem tyL38 : Try.prog.underlying 38 = some (.slice 58) := by kernel_rfl
theorem tyL40 : Try.prog.underlying 40 = some (.slice 58) := by kernel_rfl
theorem tyL81 : Try.prog.underlying 81 = some (.slice 32) := by kernel_rfl
theorem zero101 : ZeroT Try.prog 101 [.int .i64 0, vs [], .int .i64 0] := ZeroT.of (by kernel_rfl)
theorem zero37 : ZeroT Try.prog 37 [.int .i64 0, .int .i64 0, .int .i64 0, vs [], vs [], .slice none 0 0] := ZeroT.of (by kernel_rfl)
theorem zero58 : ZeroT Try.prog 58 [vs [], .int .i64 0, .slice none 0 0] := ZeroT.of (by kernel_rfl)
theorem slt105 : SlT Try.prog 105 101 3 := ⟨tyL105, sz101⟩
theorem slt35 : SlT Try.prog 35 37 6 := ⟨tyL35, sz37⟩
theorem slt38 : SlT Try.prog 38 58 3 := ⟨tyL38, sz58⟩
theorem slt40 : SlT Try.prog 40 58 3 := ⟨tyL40, sz58⟩
theorem slt81 : SlT Try.prog 81 32 1 := ⟨tyL81, sz32⟩
theorem slt_a35_35 : AppT Try.prog 35 35 37 6 80 := AppT.of (sz := 5) tyL35 (by kernel_rfl) (by kernel_rfl)
theorem slt_a81_81 : AppT Try.prog 81 81 32 1 8 := AppT.of (sz := 0) tyL81 (by kernel_rfl) (by kernel_rfl)
theorem slt_b105 : BldT Try.prog 105 101 3 := BldT.of tyL105 (by kernel_rfl)
theorem slt_b35 : BldT Try.prog 35 37 6 := BldT.of tyL35 (by kernel_rfl)
theorem slt_b38 : BldT Try.prog 38 58 3 := BldT.of tyL38 (by kernel_rfl)
theorem slt_b81 : BldT Try.prog 81 32 1 := BldT.of tyL81 (by kernel_rfl)
theorem eqV : EqT Try.prog 34 valC := EqT.of [(0, .i .i64), (1, .i .i64), (2, .s)] (by kernel_rfl) (by kernel_rfl) (by kernel_rfl) (by kernel_rfl)
  (fun a b s hs => by
    simp only [List.mem_cons, List.mem_nil_iff, or_false] at hs
    rcases hs with rfl | rfl | rfl
    · exact ⟨_, _, rfl, rfl, ⟨_, rfl⟩, ⟨_, rfl⟩⟩
    · exact ⟨_, _, rfl, rfl, ⟨_, rfl⟩, ⟨_, rfl⟩⟩
    · exact ⟨_, _, rfl, rfl, ⟨_, rfl⟩, ⟨_, rfl⟩⟩)
  (fun a b => by
    obtain ⟨k, n, s⟩ := a
    obtain ⟨k', n', s'⟩ := b
    simp [valC, eqC, vs, Bool.and_assoc])
def binL : List (Int × List UInt8 × Int) := [(4, [43], 4), (5, [45], 4), (6, [42], 5), (7, [47], 5), (8, [61], 3), (9, [33, 61], 3), (10, [60], 3), (11, [60, 61], 3), (12, [62], 3), (13, [62, 61], 3), (14, [97, 110, 100], 2), (15, [111, 114], 1)]
def binC (b : Int × List UInt8 × Int) : List Value := [.int .i64 b.1, vs b.2.1, .int .i64 b.2.2]
def findS (op : Int) : Int × List UInt8 × Int := (binL.find? fun b => decide (b.1 = op)).getD (0, [], 0)
theorem bin_get : ∀ k, k < 12 → ((cellsL (binL.map fun b => .agg (binC b).toArray)).drop (0 + k * 3)).take 3 = binC (binL.getD k (0, [], 0))
  | 0, _ | 1, _ | 2, _ | 3, _ | 4, _ | 5, _ | 6, _ | 7, _ | 8, _ | 9, _ | 10, _ | 11, _ => rfl
  | n + 12, h => by omega
theorem find_hit (op : Int) (k : Nat) (hk : k < 12) (hn : ∀ j, j < k → ¬ (binL.getD j (0, [], 0)).1 = op) (hp : (binL.getD k (0, [], 0)).1 = op) : findS op = binL.getD k (0, [], 0) := by
  have e : binL.find? (fun b => decide (b.1 = op)) = some (binL.getD k (0, [], 0)) := by
    rw [List.find?_eq_some_iff_getElem]
    refine ⟨by simpa using hp, k, hk, by rw [getD_lt _ _ _ (show k < binL.length from hk)]; rfl, fun j hj => ?_⟩
    have := hn j hj
    simpa [List.getD, show j < binL.length by have : binL.length = 12 := rfl; omega] using this
  rw [findS, e]; rfl
theorem find_none (op : Int) (hn : ∀ j, j < 12 → ¬ (binL.getD j (0, [], 0)).1 = op) : findS op = (0, [], 0) := by
  have e : binL.find? (fun b => decide (b.1 = op)) = none := by
    rw [List.find?_eq_none]
    intro b hb
    obtain ⟨j, hj⟩ := List.mem_iff_getElem?.1 hb
    have hlt := (List.getElem?_eq_some_iff.1 hj).1
    have := hn j hlt
    simpa [List.getD, hj] using this
  rw [findS, e]; rfl
theorem find_lev (op : Int) : (0 < (findS op).2.2) ↔ (4 ≤ op ∧ op ≤ 15) := by
  by_cases h : 4 ≤ op ∧ op ≤ 15
  · have : op = 4 ∨ op = 5 ∨ op = 6 ∨ op = 7 ∨ op = 8 ∨ op = 9 ∨ op = 10 ∨ op = 11 ∨ op = 12 ∨ op = 13 ∨ op = 14 ∨ op = 15 := by omega
    refine ⟨fun _ => h, fun _ => ?_⟩
    rcases this with rfl | rfl | rfl | rfl | rfl | rfl | rfl | rfl | rfl | rfl | rfl | rfl <;> decide
  · refine ⟨fun h2 => ?_, fun h2 => absurd h2 h⟩
    rw [find_none op (fun j hj e => h (by
      match j, hj with
      | 0, _ | 1, _ | 2, _ | 3, _ | 4, _ | 5, _ | 6, _ | 7, _ | 8, _ | 9, _ | 10, _ | 11, _ => (subst e; decide)
      | n + 12, hj => omega))] at h2
    exact absurd h2 (by decide)
theorem bin_other (op : Int) (h : ¬ (4 ≤ op ∧ op ≤ 15)) : ∀ j, j < 12 → ¬ (binL.getD j (0, [], 0)).1 = op := fun j hj e => h (by
  match j, hj with
  | 0, _ | 1, _ | 2, _ | 3, _ | 4, _ | 5, _ | 6, _ | 7, _ | 8, _ | 9, _ | 10, _ | 11, _ => (subst e; decide)
  | n + 12, hj => omega)
theorem find_sgn (op : Int) : ((findS op).2.1 = []) ↔ ¬ (4 ≤ op ∧ op ≤ 15) := by
  by_cases h : 4 ≤ op ∧ op ≤ 15
  · have : op = 4 ∨ op = 5 ∨ op = 6 ∨ op = 7 ∨ op = 8 ∨ op = 9 ∨ op = 10 ∨ op = 11 ∨ op = 12 ∨ op = 13 ∨ op = 14 ∨ op = 15 := by omega
    refine ⟨fun h2 => ?_, fun h2 => absurd h h2⟩
    rcases this with rfl | rfl | rfl | rfl | rfl | rfl | rfl | rfl | rfl | rfl | rfl | rfl <;> exact absurd h2 (by decide)
  · refine ⟨fun _ => h, fun _ => ?_⟩
    rw [find_none op (bin_other op h)]
theorem small_no (d : Nat) (x : Ex) (h : d = 0 ∨ 300 < x.s.length ∨ 300 < x.v.s.length ∨ 5 < x.l.length) : smallX d x = false := by
  rcases Nat.eq_zero_or_pos d with rfl | hd
  · rfl
  · rw [small_eq hd]
    rcases h with h | h | h | h
    · omega
    · rw [decide_eq_false (show ¬ x.s.length ≤ 300 by omega)]; simp
    · rw [decide_eq_false (show ¬ x.v.s.length ≤ 300 by omega)]; simp
    · rw [decide_eq_false (show ¬ x.l.length ≤ 5 by omega)]; simp
def XSm (x : Ex) : Bool := smallX 30 x && decide (szF x ≤ 300)
theorem kids_ok {cl : List Col} {l : List Ex} (h : ∀ j, j < l.length → (kindS cl (l.getD j ex0)).2 = 0) : ∀ y ∈ l, (kindS cl y).2 = 0 := by
  intro y hy
  obtain ⟨j, hj⟩ := List.mem_iff_getElem?.1 hy
  have := h j (List.getElem?_eq_some_iff.1 hj).1
  simpa [List.getD, hj] using this
theorem sm_of {x : Ex} (h : XSm x = true) : SmX x := ⟨30, loose_small 30 x (Bool.and_eq_true_iff.1 h).1⟩
theorem kind_ok {cl : List Col} {x : Ex} (h1 : ¬ x.op = 1) (h2 : ¬ x.op = 2) (h : ∀ j, j < x.l.length → (kindS cl (x.l.getD j ex0)).2 = 0) : kindS cl x = ofK (rulS x.op (x.l.map fun y => (kindS cl y).1)) := by
  rw [kind_eq cl x, if_neg h1, if_neg h2, kindL_ok cl x.l (kids_ok h)]
theorem kind_er {cl : List Col} {x : Ex} {k : Nat} (h1 : ¬ x.op = 1) (h2 : ¬ x.op = 2) (hk : k < x.l.length) (h : ∀ j, j < k → (kindS cl (x.l.getD j ex0)).2 = 0) (he : ¬ (kindS cl (x.l.getD k ex0)).2 = 0) : kindS cl x = (0, (kindS cl (x.l.getD k ex0)).2) := by
  rw [kind_eq cl x, if_neg h1, if_neg h2, kindL_err cl x.l k hk h he]
theorem contains_idx (l : List Int) (v : Int) : decide (idxS (fun x => decide (v = x)) l ≥ 0) = l.contains v := by
  have := idx_any (p := fun x => decide (v = x)) (l := l)
  rw [show decide (idxS (fun x => decide (v = x)) l ≥ 0) = decide (0 ≤ idxS (fun x => decide (v = x)) l) from rfl, this, List.contains_eq_any_beq]
  congr 1
theorem upto_snoc {P : Nat → Prop} {k : Nat} (h : ∀ j, j < k → P j) (hk : P k) : ∀ j, j < k + 1 → P j := by
  intro j hj
  rcases Nat.lt_or_ge j k with h1 | h1
  · exact h j h1
  · rw [show j = k by omega]; exact hk
theorem _root_.Go.Dx.SlC.lm {α : Type} {T sz : Nat} {R : View → List Value → α → Prop} {h : View} {v : Value} {l : List α} (hs : SlC T sz R h v l) : l.length ≤ 9223372036854775807 := by
  obtain ⟨_, _, _, h1, h2⟩ := hs.parts
  simp only [maxLen] at h2; omega

theorem c_Fits (p q : Int) (w0 : World) (h0 : View) (hv : VLe h0 (Full w0))  : Calls Try.prog 21 #[.int .i64 p, .int .i64 q] w0 (Ret w0 h0 fun u _ => u = .bool (fitS p q)) := by
  refine f_enter (args := [.int .i64 p, .int .i64 q]) Try.func21 rfl Try.ntmps21 rfl fun a hF => ?_
  have hS := St.init w0 h0 hv
  refine c_seq ?_
  refine c_reg ?_
  refine s_pu hF (pu_assign rfl) rfl ?_; clear hF; intro a hF
  refine c_nil ?_
  refine n_then ?_
  refine c_seq ?_
  refine c_reg ?_
  refine s_pu hF (pu_move rfl) rfl ?_; clear hF; intro a hF
  refine s_pu hF (pu_move rfl) rfl ?_; clear hF; intro a hF
  refine s_pu hF (pu_ieq rfl rfl) rfl ?_; clear hF; intro a hF
  refine s_pu hF (pu_move rfl) rfl ?_; clear hF; intro a hF
  refine w_split hF ⟨_, _, (rfl : _[3]? = some _), rfl, rfl⟩ (fun hg1_3 => ?_) (fun hg1_3 => ?_)
  · have hg1_3p := hg1_3
    try simp only [decide_eq_true_eq, decide_eq_false_iff_not, Bool.not_eq_true', Bool.not_eq_false', Bool.not_eq_eq_eq_not, Bool.not_true, Bool.not_false] at hg1_3p
    refine g_no hF ⟨_, _, (rfl : _[3]? = some _), rfl, rfl⟩ hg1_3 rfl ?_; clear hF; intro a hF
    refine g_no hF ⟨_, _, (rfl : _[3]? = some _), rfl, rfl⟩ hg1_3 rfl ?_; clear hF; intro a hF
    refine s_pu hF (pu_pick_t rfl hg1_3 rfl) rfl ?_; clear hF; intro a hF
    refine s_pu hF (pu_move rfl) rfl ?_; clear hF; intro a hF
    refine g_no hF ⟨_, _, (rfl : _[7]? = some _), rfl, rfl⟩ rfl rfl ?_; clear hF; intro a hF
    refine g_no hF ⟨_, _, (rfl : _[7]? = some _), rfl, rfl⟩ rfl rfl ?_; clear hF; intro a hF
    refine s_pu hF (pu_pick_t rfl rfl rfl) rfl ?_; clear hF; intro a hF
    refine s_pu hF (pu_assign rfl) rfl ?_; clear hF; intro a hF
    refine c_nil ?_
    refine n_then ?_
    refine c_ret ?_
    exact f_ret hF rfl (.tmp rfl (.nil)) (hS.retv (congrArg Value.bool (by simp_all [fitS])))
  · have hg1_3p := hg1_3
    try simp only [decide_eq_true_eq, decide_eq_false_iff_not, Bool.not_eq_true', Bool.not_eq_false', Bool.not_eq_eq_eq_not, Bool.not_true, Bool.not_false] at hg1_3p
    refine g_pu hF ⟨_, _, (rfl : _[3]? = some _), rfl, rfl⟩ hg1_3 (pu_move rfl) rfl ?_; clear hF; intro a hF
    refine g_pu hF ⟨_, _, (rfl : _[3]? = some _), rfl, rfl⟩ hg1_3 (pu_ieq rfl rfl) rfl ?_; clear hF; intro a hF
    refine s_pu hF (pu_pick_f rfl hg1_3 rfl) rfl ?_; clear hF; intro a hF
    refine s_pu hF (pu_move rfl) rfl ?_; clear hF; intro a hF
    refine w_split hF ⟨_, _, (rfl : _[7]? = some _), rfl, rfl⟩ (fun hg1_7 => ?_) (fun hg1_7 => ?_)
    · have hg1_7p := hg1_7
      try simp only [decide_eq_true_eq, decide_eq_false_iff_not, Bool.not_eq_true', Bool.not_eq_false', Bool.not_eq_eq_eq_not, Bool.not_true, Bool.not_false] at hg1_7p
      refine g_no hF ⟨_, _, (rfl : _[7]? = some _), rfl, rfl⟩ hg1_7 rfl ?_; clear hF; intro a hF
      refine g_no hF ⟨_, _, (rfl : _[7]? = some _), rfl, rfl⟩ hg1_7 rfl ?_; clear hF; intro a hF
      refine s_pu hF (pu_pick_t rfl hg1_7 rfl) rfl ?_; clear hF; intro a hF
      refine s_pu hF (pu_assign rfl) rfl ?_; clear hF; intro a hF
      refine c_nil ?_
      refine n_then ?_
      refine c_ret ?_
      exact f_ret hF rfl (.tmp rfl (.nil)) (hS.retv (congrArg Value.bool (by simp_all [fitS])))
    · have hg1_7p := hg1_7
      try simp only [decide_eq_true_eq, decide_eq_false_iff_not, Bool.not_eq_true', Bool.not_eq_false', Bool.not_eq_eq_eq_not, Bool.not_true, Bool.not_false] at hg1_7p
      refine g_pu hF ⟨_, _, (rfl : _[7]? = some _), rfl, rfl⟩ hg1_7 (pu_move rfl) rfl ?_; clear hF; intro a hF
      refine g_pu hF ⟨_, _, (rfl : _[7]? = some _), rfl, rfl⟩ hg1_7 (pu_ieq rfl rfl) rfl ?_; clear hF; intro a hF
      refine s_pu hF (pu_pick_f rfl hg1_7 rfl) rfl ?_; clear hF; intro a hF
      refine s_pu hF (pu_assign rfl) rfl ?_; clear hF; intro a hF
      refine c_nil ?_
      refine n_then ?_
      refine c_ret ?_
      exact f_ret hF rfl (.tmp rfl (.nil)) (hS.retv (congrArg Value.bool (by simp_all [fitS])))
theorem c_RFits (p q : Int) (w0 : World) (h0 : View) (hv : VLe h0 (Full w0))  : Calls Try.prog 22 #[.int .i64 p, .int .i64 q] w0 (Ret w0 h0 fun u _ => u = .bool (fitS p q)) := by
  refine f_enter (args := [.int .i64 p, .int .i64 q]) Try.func22 rfl Try.ntmps22 rfl fun a hF => ?_
  have hS := St.init w0 h0 hv
  refine c_seq ?_
  refine c_reg ?_
  refine s_pu hF (pu_assign rfl) rfl ?_; clear hF; intro a hF
  refine c_nil ?_
  refine n_then ?_
  refine c_seq ?_
  refine c_reg ?_
  refine s_pu hF (pu_move rfl) rfl ?_; clear hF; intro a hF
  refine s_pu hF (pu_move rfl) rfl ?_; clear hF; intro a hF
  refine s_pu hF (pu_ieq rfl rfl) rfl ?_; clear hF; intro a hF
  refine s_pu hF (pu_move rfl) rfl ?_; clear hF; intro a hF
  refine w_split hF ⟨_, _, (rfl : _[3]? = some _), rfl, rfl⟩ (fun hg1_3 => ?_) (fun hg1_3 => ?_)
  · have hg1_3p := hg1_3
    try simp only [decide_eq_true_eq, decide_eq_false_iff_not, Bool.not_eq_true', Bool.not_eq_false', Bool.not_eq_eq_eq_not, Bool.not_true, Bool.not_false] at hg1_3p
    refine g_no hF ⟨_, _, (rfl : _[3]? = some _), rfl, rfl⟩ hg1_3 rfl ?_; clear hF; intro a hF
    refine g_no hF ⟨_, _, (rfl : _[3]? = some _), rfl, rfl⟩ hg1_3 rfl ?_; clear hF; intro a hF
    refine s_pu hF (pu_pick_t rfl hg1_3 rfl) rfl ?_; clear hF; intro a hF
    refine s_pu hF (pu_move rfl) rfl ?_; clear hF; intro a hF
    refine g_no hF ⟨_, _, (rfl : _[7]? = some _), rfl, rfl⟩ rfl rfl ?_; clear hF; intro a hF
    refine g_no hF ⟨_, _, (rfl : _[7]? = some _), rfl, rfl⟩ rfl rfl ?_; clear hF; intro a hF
    refine s_pu hF (pu_pick_t rfl rfl rfl) rfl ?_; clear hF; intro a hF
    refine s_pu hF (pu_assign rfl) rfl ?_; clear hF; intro a hF
    refine c_nil ?_
    refine n_then ?_
    refine c_ret ?_
    exact f_ret hF rfl (.tmp rfl (.nil)) (hS.retv (congrArg Value.bool (by simp_all [fitS])))
  · have hg1_3p := hg1_3
    try simp only [decide_eq_true_eq, decide_eq_false_iff_not, Bool.not_eq_true', Bool.not_eq_false', Bool.not_eq_eq_eq_not, Bool.not_true, Bool.not_false] at hg1_3p
    refine g_pu hF ⟨_, _, (rfl : _[3]? = some _), rfl, rfl⟩ hg1_3 (pu_move rfl) rfl ?_; clear hF; intro a hF
    refine g_pu hF ⟨_, _, (rfl : _[3]? = some _), rfl, rfl⟩ hg1_3 (pu_ieq rfl rfl) rfl ?_; clear hF; intro a hF
    refine s_pu hF (pu_pick_f rfl hg1_3 rfl) rfl ?_; clear hF; intro a hF
    refine s_pu hF (pu_move rfl) rfl ?_; clear hF; intro a hF
    refine w_split hF ⟨_, _, (rfl : _[7]? = some _), rfl, rfl⟩ (fun hg1_7 => ?_) (fun hg1_7 => ?_)
    · have hg1_7p := hg1_7
      try simp only [decide_eq_true_eq, decide_eq_false_iff_not, Bool.not_eq_true', Bool.not_eq_false', Bool.not_eq_eq_eq_not, Bool.not_true, Bool.not_false] at hg1_7p
      refine g_no hF ⟨_, _, (rfl : _[7]? = some _), rfl, rfl⟩ hg1_7 rfl ?_; clear hF; intro a hF
      refine g_no hF ⟨_, _, (rfl : _[7]? = some _), rfl, rfl⟩ hg1_7 rfl ?_; clear hF; intro a hF
      refine s_pu hF (pu_pick_t rfl hg1_7 rfl) rfl ?_; clear hF; intro a hF
      refine s_pu hF (pu_assign rfl) rfl ?_; clear hF; intro a hF
      refine c_nil ?_
      refine n_then ?_
      refine c_ret ?_
      exact f_ret hF rfl (.tmp rfl (.nil)) (hS.retv (congrArg Value.bool (by simp_all [fitS])))
    · have hg1_7p := hg1_7
      try simp only [decide_eq_true_eq, decide_eq_false_iff_not, Bool.not_eq_true', Bool.not_eq_false', Bool.not_eq_eq_eq_not, Bool.not_true, Bool.not_false] at hg1_7p
      refine g_pu hF ⟨_, _, (rfl : _[7]? = some _), rfl, rfl⟩ hg1_7 (pu_move rfl) rfl ?_; clear hF; intro a hF
      refine g_pu hF ⟨_, _, (rfl : _[7]? = some _), rfl, rfl⟩ hg1_7 (pu_ieq rfl rfl) rfl ?_; clear hF; intro a hF
      refine s_pu hF (pu_pick_f rfl hg1_7 rfl) rfl ?_; clear hF; intro a hF
      refine s_pu hF (pu_assign rfl) rfl ?_; clear hF; intro a hF
      refine c_nil ?_
      refine n_then ?_
      refine c_ret ?_
      exact f_ret hF rfl (.tmp rfl (.nil)) (hS.retv (congrArg Value.bool (by simp_all [fitS])))
theorem c_either (p q : Int) (w0 : World) (h0 : View) (hv : VLe h0 (Full w0))  : Calls Try.prog 77 #[.int .i64 p, .int .i64 q] w0 (Ret w0 h0 fun u _ => u = .int .i64 (eith p q)) := by
  refine f_enter (args := [.int .i64 p, .int .i64 q]) Try.func77 rfl Try.ntmps77 rfl fun a hF => ?_
  have hS := St.init w0 h0 hv
  refine c_seq ?_
  refine c_reg ?_
  refine s_pu hF (pu_assign rfl) rfl ?_; clear hF; intro a hF
  refine c_nil ?_
  refine n_then ?_
  refine c_seq ?_
  refine c_reg ?_
  refine s_pu hF (pu_assign rfl) rfl ?_; clear hF; intro a hF
  refine c_nil ?_
  refine n_then ?_
  refine c_seq ?_
  refine c_seq ?_
  refine c_reg ?_
  refine s_pu hF (pu_move rfl) rfl ?_; clear hF; intro a hF
  refine s_pu hF (pu_move rfl) rfl ?_; clear hF; intro a hF
  refine s_pu hF (pu_ine rfl rfl) rfl ?_; clear hF; intro a hF
  refine c_nil ?_
  refine n_then ?_
  refine c_if hF rfl (fun hc8 => ?_) (fun hc8 => ?_)
  · try simp only [decide_eq_true_eq, decide_eq_false_iff_not, Bool.not_eq_true', Bool.not_eq_false', Bool.not_eq_eq_eq_not, Bool.not_true, Bool.not_false] at hc8
    refine c_seq ?_
    refine c_reg ?_
    refine s_pu hF (pu_move rfl) rfl ?_; clear hF; intro a hF
    refine s_pu hF (pu_assign rfl) rfl ?_; clear hF; intro a hF
    refine c_nil ?_
    refine n_then ?_
    refine c_ret (r_then ?_)
    exact f_ret hF rfl (.tmp rfl (.nil)) (hS.retv (congrArg (Value.int .i64) (by simp_all [eith])))
  · try simp only [decide_eq_true_eq, decide_eq_false_iff_not, Bool.not_eq_true', Bool.not_eq_false', Bool.not_eq_eq_eq_not, Bool.not_true, Bool.not_false] at hc8
    refine c_skip ?_
    refine n_then ?_
    refine c_seq ?_
    refine c_reg ?_
    refine s_pu hF (pu_move rfl) rfl ?_; clear hF; intro a hF
    refine s_pu hF (pu_assign rfl) rfl ?_; clear hF; intro a hF
    refine c_nil ?_
    refine n_then ?_
    refine c_ret ?_
    exact f_ret hF rfl (.tmp rfl (.nil)) (hS.retv (congrArg (Value.int .i64) (by simp_all [eith])))
theorem c_Ror (p q : Int) (w0 : World) (h0 : View) (hv : VLe h0 (Full w0))  : Calls Try.prog 81 #[.int .i64 p, .int .i64 q] w0 (Ret w0 h0 fun u _ => u = .int .i64 (eith p q)) := by
  refine f_enter (args := [.int .i64 p, .int .i64 q]) Try.func81 rfl Try.ntmps81 rfl fun a hF => ?_
  have hS := St.init w0 h0 hv
  refine c_seq ?_
  refine c_reg ?_
  refine s_pu hF (pu_assign rfl) rfl ?_; clear hF; intro a hF
  refine c_nil ?_
  refine n_then ?_
  refine c_seq ?_
  refine c_seq ?_
  refine c_reg ?_
  refine s_pu hF (pu_move rfl) rfl ?_; clear hF; intro a hF
  refine s_pu hF (pu_ieq rfl rfl) rfl ?_; clear hF; intro a hF
  refine c_nil ?_
  refine n_then ?_
  refine c_if hF rfl (fun hc6 => ?_) (fun hc6 => ?_)
  · try simp only [decide_eq_true_eq, decide_eq_false_iff_not, Bool.not_eq_true', Bool.not_eq_false', Bool.not_eq_eq_eq_not, Bool.not_true, Bool.not_false] at hc6
    refine c_seq ?_
    refine c_reg ?_
    refine s_pu hF (pu_move rfl) rfl ?_; clear hF; intro a hF
    refine s_pu hF (pu_assign rfl) rfl ?_; clear hF; intro a hF
    refine c_nil ?_
    refine n_then ?_
    refine c_ret (r_then ?_)
    exact f_ret hF rfl (.tmp rfl (.nil)) (hS.retv (congrArg (Value.int .i64) (by simp_all [eith])))
  · try simp only [decide_eq_true_eq, decide_eq_false_iff_not, Bool.not_eq_true', Bool.not_eq_false', Bool.not_eq_eq_eq_not, Bool.not_true, Bool.not_false] at hc6
    refine c_skip ?_
    refine n_then ?_
    refine c_seq ?_
    refine c_reg ?_
    refine s_pu hF (pu_move rfl) rfl ?_; clear hF; intro a hF
    refine s_pu hF (pu_assign rfl) rfl ?_; clear hF; intro a hF
    refine c_nil ?_
    refine n_then ?_
    refine c_ret ?_
    exact f_ret hF rfl (.tmp rfl (.nil)) (hS.retv (congrArg (Value.int .i64) (by simp_all [eith])))
theorem c_all (want : Int) (ad : Option Addr) (cap : Nat) (l : List Int) (w0 : World) (h0 : View) (hv : VLe h0 (Full w0)) (hb : SlC 0 1 (flatR fun n => [Value.int .i64 n]) h0 (.slice ad l.length cap) l) : Calls Try.prog 76 #[.int .i64 want, .slice ad l.length cap] w0 (Ret w0 h0 fun u _ => u = .bool (l.all (fitS · want))) := by
  refine f_enter (args := [.int .i64 want, .slice ad l.length cap]) Try.func76 rfl Try.ntmps76 rfl fun a hF => ?_
  have hS := St.init w0 h0 hv
  have hlm := hb.lm
  refine c_seq ?_
  refine c_reg ?_
  refine s_pu hF (pu_assign rfl) rfl ?_; clear hF; intro a hF
  refine c_nil ?_
  refine n_then ?_
  refine c_seq ?_
  refine c_seq ?_
  refine c_reg ?_
  refine s_pu hF (pu_move rfl) rfl ?_; clear hF; intro a hF
  refine s_pu hF (pu_len_sl tyL81 rfl rfl) rfl ?_; clear hF; intro a hF
  refine s_pu hF (pu_move rfl) rfl ?_; clear hF; intro a hF
  refine c_nil ?_
  refine n_then ?_
  refine c_block ?_
  refine hS.cut fun O0 F0 hO0 hF0 hS => ?_
  refine hF.cut (.cons (k := 9) rfl <| .nil) (.cons (k := 0) rfl <| .cons (k := 7) rfl <| .cons (k := 8) rfl <| .nil) fun L0 hL0 hF => ?_
  refine c_loop (α := Nat) (fun k a w => k ≤ l.length ∧ (∀ j, j < k → fitS (l.getD j 0) want = true) ∧ Fr a 18 ([(9, .val (.int .i64 (k : Nat)))] ++ L0) ∧ St w0 h0 [] w O0 F0) (fun k => l.length - k) 0 (⟨Nat.zero_le _, fun j hj => absurd hj (Nat.not_lt_zero j), hF, hS⟩) ?_
  subst hO0 hF0 hL0
  rintro k a w ⟨hk, hn, hF, hS⟩
  refine c_seq ?_
  refine c_reg ?_
  refine s_pu hF (pu_ilt rfl rfl) rfl ?_; clear hF; intro a hF
  refine c_nil ?_
  refine n_then ?_
  refine c_seq ?_
  refine c_if hF rfl (fun hc10 => ?_) (fun hc10 => ?_)
  · try simp only [decide_eq_true_eq, decide_eq_false_iff_not, Bool.not_eq_true', Bool.not_eq_false', Bool.not_eq_eq_eq_not, Bool.not_true, Bool.not_false] at hc10
    obtain ⟨g1, o, ha, hH⟩ := hb.atD 0 (i := k) (by omega)
    refine c_skip ?_
    refine n_then ?_
    refine c_seq ?_
    refine c_block ?_
    refine c_seq ?_
    refine c_reg ?_
    refine s_pu hF (pu_iaddr_sla (j := k) ha slt81 rfl rfl (by omega) (by omega)) rfl ?_; clear hF; intro a hF
    refine s_pu hF (pu_load1 one32 rfl (hH _ hS.base)) rfl ?_; clear hF; intro a hF
    refine s_pu hF (pu_assign rfl) rfl ?_; clear hF; intro a hF
    refine c_nil ?_
    refine n_then ?_
    refine c_seq ?_
    refine c_reg ?_
    refine s_pu hF (pu_move rfl) rfl ?_; clear hF; intro a hF
    refine s_pu hF (pu_move rfl) rfl ?_; clear hF; intro a hF
    refine s_callv hF hS ok21 rfl (c_Fits _ _ _ _ hS.view) rfl ?_; clear hS hF; intro w a hS hF
    refine s_pu hF (pu_not rfl) rfl ?_; clear hF; intro a hF
    refine c_nil ?_
    refine n_then ?_
    refine c_if hF rfl (fun hc16 => ?_) (fun hc16 => ?_)
    · try simp only [decide_eq_true_eq, decide_eq_false_iff_not, Bool.not_eq_true', Bool.not_eq_false', Bool.not_eq_eq_eq_not, Bool.not_true, Bool.not_false] at hc16
      refine c_seq ?_
      refine c_reg ?_
      refine s_pu hF (pu_assign rfl) rfl ?_; clear hF; intro a hF
      refine c_nil ?_
      refine n_then ?_
      refine c_ret (r_block (r_then (r_then (r_block (r_then ?_)))))
      exact f_ret hF rfl (.tmp rfl (.nil)) (hS.retv (congrArg Value.bool (all_not (p := (fitS · want)) 0 (by omega) hc16).symm))
    · try simp only [decide_eq_true_eq, decide_eq_false_iff_not, Bool.not_eq_true', Bool.not_eq_false', Bool.not_eq_eq_eq_not, Bool.not_true, Bool.not_false] at hc16
      refine c_skip ?_
      refine n_block ?_
      refine n_then ?_
      refine c_reg ?_
      refine s_pu hF (pu_add rfl rfl (by first | exact wrap_i64 (by omega) (by omega) | rfl)) rfl ?_; clear hF; intro a hF
      refine s_pu hF (pu_move rfl) rfl ?_; clear hF; intro a hF
      refine c_nil ?_
      exact ⟨k + 1, ⟨by omega, upto_snoc hn hc16, hF.pick (.cons (k := 9) rfl <| .cons (k := 0) rfl <| .cons (k := 7) rfl <| .cons (k := 8) rfl <| .nil), hS⟩, by omega⟩
  · try simp only [decide_eq_true_eq, decide_eq_false_iff_not, Bool.not_eq_true', Bool.not_eq_false', Bool.not_eq_eq_eq_not, Bool.not_true, Bool.not_false] at hc10
    refine c_exit (x_then (x_then (x_here ?_)))
    refine n_then ?_
    refine c_seq ?_
    refine c_reg ?_
    refine s_pu hF (pu_assign rfl) rfl ?_; clear hF; intro a hF
    refine c_nil ?_
    refine n_then ?_
    refine c_ret ?_
    exact f_ret hF rfl (.tmp rfl (.nil)) (hS.retv (congrArg Value.bool (all_upto (p := (fitS · want)) 0 (fun j hj => hn j (by omega))).symm))
theorem c_IndexK (ad : Option Addr) (cap : Nat) (l : List Int) (v : Int) (w0 : World) (h0 : View) (hv : VLe h0 (Full w0)) (hb : SlC 0 1 (flatR fun n => [Value.int .i64 n]) h0 (.slice ad l.length cap) l) : Calls Try.prog 86 #[.slice ad l.length cap, .int .i64 v] w0 (Ret w0 h0 fun u _ => u = .int .i64 (idxS (fun x => decide (v = x)) l)) := by
  refine f_enter (args := [.slice ad l.length cap, .int .i64 v]) Try.func86 rfl Try.ntmps86 rfl fun a hF => ?_
  have hS := St.init w0 h0 hv
  have hlm := hb.lm
  refine c_seq ?_
  refine c_reg ?_
  refine s_pu hF (pu_assign rfl) rfl ?_; clear hF; intro a hF
  refine c_nil ?_
  refine n_then ?_
  refine c_seq ?_
  refine c_seq ?_
  refine c_reg ?_
  refine s_pu hF (pu_move rfl) rfl ?_; clear hF; intro a hF
  refine s_pu hF (pu_len_sl tyL81 rfl rfl) rfl ?_; clear hF; intro a hF
  refine s_pu hF (pu_move rfl) rfl ?_; clear hF; intro a hF
  refine c_nil ?_
  refine n_then ?_
  refine c_block ?_
  refine hS.cut fun O0 F0 hO0 hF0 hS => ?_
  refine hF.cut (.cons (k := 8) rfl <| .nil) (.cons (k := 0) rfl <| .cons (k := 1) rfl <| .cons (k := 7) rfl <| .nil) fun L0 hL0 hF => ?_
  refine c_loop (α := Nat) (fun k a w => k ≤ l.length ∧ (∀ j, j < k → (fun x => decide (v = x)) (l.getD j 0) = false) ∧ Fr a 19 ([(8, .val (.int .i64 (k : Nat)))] ++ L0) ∧ St w0 h0 [] w O0 F0) (fun k => l.length - k) 0 (⟨Nat.zero_le _, fun j hj => absurd hj (Nat.not_lt_zero j), hF, hS⟩) ?_
  subst hO0 hF0 hL0
  rintro k a w ⟨hk, hn, hF, hS⟩
  refine c_seq ?_
  refine c_reg ?_
  refine s_pu hF (pu_ilt rfl rfl) rfl ?_; clear hF; intro a hF
  refine c_nil ?_
  refine n_then ?_
  refine c_seq ?_
  refine c_if hF rfl (fun hc9 => ?_) (fun hc9 => ?_)
  · try simp only [decide_eq_true_eq, decide_eq_false_iff_not, Bool.not_eq_true', Bool.not_eq_false', Bool.not_eq_eq_eq_not, Bool.not_true, Bool.not_false] at hc9
    obtain ⟨g1, o, ha, hH⟩ := hb.atD 0 (i := k) (by omega)
    refine c_skip ?_
    refine n_then ?_
    refine c_seq ?_
    refine c_block ?_
    refine c_seq ?_
    refine c_reg ?_
    refine s_pu hF (pu_move rfl) rfl ?_; clear hF; intro a hF
    refine s_pu hF (pu_assign rfl) rfl ?_; clear hF; intro a hF
    refine c_nil ?_
    refine n_then ?_
    refine c_seq ?_
    refine c_reg ?_
    refine s_pu hF (pu_move rfl) rfl ?_; clear hF; intro a hF
    refine s_pu hF (pu_move rfl) rfl ?_; clear hF; intro a hF
    refine s_pu hF (pu_move rfl) rfl ?_; clear hF; intro a hF
    refine s_pu hF (pu_iaddr_sla (j := k) ha slt81 rfl rfl (by omega) (by omega)) rfl ?_; clear hF; intro a hF
    refine s_pu hF (pu_load1 one32 rfl (hH _ hS.base)) rfl ?_; clear hF; intro a hF
    refine s_pu hF (pu_ieq rfl rfl) rfl ?_; clear hF; intro a hF
    refine c_nil ?_
    refine n_then ?_
    refine c_if hF rfl (fun hc16 => ?_) (fun hc16 => ?_)
    · try simp only [decide_eq_true_eq, decide_eq_false_iff_not, Bool.not_eq_true', Bool.not_eq_false', Bool.not_eq_eq_eq_not, Bool.not_true, Bool.not_false] at hc16
      refine c_seq ?_
      refine c_reg ?_
      refine s_pu hF (pu_move rfl) rfl ?_; clear hF; intro a hF
      refine s_pu hF (pu_assign rfl) rfl ?_; clear hF; intro a hF
      refine c_nil ?_
      refine n_then ?_
      refine c_ret (r_block (r_then (r_then (r_block (r_then ?_)))))
      exact f_ret hF rfl (.tmp rfl (.nil)) (hS.retv (congrArg (Value.int .i64) (idx_hit 0 (by omega) hn (by simpa using hc16)).symm))
    · try simp only [decide_eq_true_eq, decide_eq_false_iff_not, Bool.not_eq_true', Bool.not_eq_false', Bool.not_eq_eq_eq_not, Bool.not_true, Bool.not_false] at hc16
      refine c_skip ?_
      refine n_block ?_
      refine n_then ?_
      refine c_reg ?_
      refine s_pu hF (pu_add rfl rfl (by first | exact wrap_i64 (by omega) (by omega) | rfl)) rfl ?_; clear hF; intro a hF
      refine s_pu hF (pu_move rfl) rfl ?_; clear hF; intro a hF
      refine c_nil ?_
      exact ⟨k + 1, ⟨by omega, upto_snoc hn (by simpa using hc16), hF.pick (.cons (k := 8) rfl <| .cons (k := 0) rfl <| .cons (k := 1) rfl <| .cons (k := 7) rfl <| .nil), hS⟩, by omega⟩
  · try simp only [decide_eq_true_eq, decide_eq_false_iff_not, Bool.not_eq_true', Bool.not_eq_false', Bool.not_eq_eq_eq_not, Bool.not_true, Bool.not_false] at hc9
    refine c_exit (x_then (x_then (x_here ?_)))
    refine n_then ?_
    refine c_seq ?_
    refine c_reg ?_
    refine s_pu hF (pu_assign rfl) rfl ?_; clear hF; intro a hF
    refine c_nil ?_
    refine n_then ?_
    refine c_ret ?_
    exact f_ret hF rfl (.tmp rfl (.nil)) (hS.retv (congrArg (Value.int .i64) (idx_none 0 (fun j hj => hn j (by omega))).symm))
theorem c_ContainsK (ad : Option Addr) (cap : Nat) (l : List Int) (v : Int) (w0 : World) (h0 : View) (hv : VLe h0 (Full w0)) (hb : SlC 0 1 (flatR fun n => [Value.int .i64 n]) h0 (.slice ad l.length cap) l) : Calls Try.prog 78 #[.slice ad l.length cap, .int .i64 v] w0 (Ret w0 h0 fun u _ => u = .bool (l.contains v)) := by
  refine f_enter (args := [.slice ad l.length cap, .int .i64 v]) Try.func78 rfl Try.ntmps78 rfl fun a hF => ?_
  have hS := St.init w0 h0 hv
  refine c_seq ?_
  refine c_reg ?_
  refine s_pu hF (pu_assign rfl) rfl ?_; clear hF; intro a hF
  refine c_nil ?_
  refine n_then ?_
  refine c_seq ?_
  refine c_reg ?_
  refine s_pu hF (pu_move rfl) rfl ?_; clear hF; intro a hF
  refine s_pu hF (pu_move rfl) rfl ?_; clear hF; intro a hF
  refine s_calld hF hS ok86 rfl (c_IndexK ad cap l v _ h0 hS.base hb) rfl ?_; clear hS hF; intro w a hS hF
  refine s_pu hF (pu_ige rfl rfl) rfl ?_; clear hF; intro a hF
  refine s_pu hF (pu_assign rfl) rfl ?_; clear hF; intro a hF
  refine c_nil ?_
  refine n_then ?_
  refine c_ret ?_
  exact f_ret hF rfl (.tmp rfl (.nil)) (hS.retv (congrArg Value.bool (contains_idx l v)))
theorem c_binaries (w0 : World) (h0 : View) (hv : VLe h0 (Full w0)) : Calls Try.prog 87 #[] w0 (RetM [] w0 fun v w' => ∃ b, v = .slice (some ⟨b, 0, none⟩) 12 12 ∧ NewRow w0 101 (cellsL (binL.map fun b => .agg (binC b).toArray)) b w') := by
  refine f_enter (args := []) Try.func87 rfl Try.ntmps87 rfl fun a hF => ?_
  have hS := St.init w0 h0 hv
  refine c_seq ?_
  refine c_reg ?_
  refine s_pu hF (pu_assign rfl) rfl ?_; clear hF; intro a hF
  refine c_nil ?_
  refine n_then ?_
  refine c_seq ?_
  refine c_reg ?_
  refine s_pu hF (pu_build_st (cs := binC (binL.getD 0 (0, [], 0))) strb101 rfl rfl) rfl ?_; clear hF; intro a hF
  refine s_pu hF (pu_build_st (cs := binC (binL.getD 1 (0, [], 0))) strb101 rfl rfl) rfl ?_; clear hF; intro a hF
  refine s_pu hF (pu_build_st (cs := binC (binL.getD 2 (0, [], 0))) strb101 rfl rfl) rfl ?_; clear hF; intro a hF
  refine s_pu hF (pu_build_st (cs := binC (binL.getD 3 (0, [], 0))) strb101 rfl rfl) rfl ?_; clear hF; intro a hF
  refine s_pu hF (pu_build_st (cs := binC (binL.getD 4 (0, [], 0))) strb101 rfl rfl) rfl ?_; clear hF; intro a hF
  refine s_pu hF (pu_build_st (cs := binC (binL.getD 5 (0, [], 0))) strb101 rfl rfl) rfl ?_; clear hF; intro a hF
  refine s_pu hF (pu_build_st (cs := binC (binL.getD 6 (0, [], 0))) strb101 rfl rfl) rfl ?_; clear hF; intro a hF
  refine s_pu hF (pu_build_st (cs := binC (binL.getD 7 (0, [], 0))) strb101 rfl rfl) rfl ?_; clear hF; intro a hF
  refine s_pu hF (pu_build_st (cs := binC (binL.getD 8 (0, [], 0))) strb101 rfl rfl) rfl ?_; clear hF; intro a hF
  refine s_pu hF (pu_build_st (cs := binC (binL.getD 9 (0, [], 0))) strb101 rfl rfl) rfl ?_; clear hF; intro a hF
  refine s_pu hF (pu_build_st (cs := binC (binL.getD 10 (0, [], 0))) strb101 rfl rfl) rfl ?_; clear hF; intro a hF
  refine s_pu hF (pu_build_st (cs := binC (binL.getD 11 (0, [], 0))) strb101 rfl rfl) rfl ?_; clear hF; intro a hF
  refine s_build (xs := [.tmp 1, .tmp 2, .tmp 3, .tmp 4, .tmp 5, .tmp 6, .tmp 7, .tmp 8, .tmp 9, .tmp 10, .tmp 11, .tmp 12]) hF hS slt_b105 rfl rfl (by simp [Value.cells, binC]) (by decide) rfl ?_; clear hS hF; intro b0 w a hS hF
  refine s_pu hF (pu_assign rfl) rfl ?_; clear hF; intro a hF
  refine c_nil ?_
  refine n_then ?_
  refine c_ret ?_
  refine f_ret hF rfl (.tmp rfl (.nil)) ?_
  refine hS.retM ⟨_, rfl, (hS.fresh _ (by simp [ids])).1.resolve_right (by simp), hS.at (i := 0) rfl⟩
theorem c_find (op : Int) (w0 : World) (h0 : View) (hv : VLe h0 (Full w0))  : Calls Try.prog 82 #[.int .i64 op] w0 (Ret w0 h0 fun u _ => u = .agg (binC (findS op)).toArray) := by
  refine f_enter (args := [.int .i64 op]) Try.func82 rfl Try.ntmps82 rfl fun a hF => ?_
  have hS := St.init w0 h0 hv
  refine c_seq ?_
  refine c_reg ?_
  refine s_alloc hF hS zero101 rfl ?_; clear hS hF; intro b0 w a hS hF
  refine c_nil ?_
  refine n_then ?_
  refine c_seq ?_
  refine c_seq ?_
  refine c_reg ?_
  refine s_callG hF ok87 rfl (c_binaries _ _ (VLe.refl _)) rfl ?_; clear hF; rintro _ w1 a hk1 ⟨mb, rfl, hmb⟩ hF; replace hS := hS.addRow hk1 hmb; clear hk1 hmb
  refine s_pu hF (pu_len_sl tyL105 rfl rfl) rfl ?_; clear hF; intro a hF
  refine s_pu hF (pu_move rfl) rfl ?_; clear hF; intro a hF
  refine c_nil ?_
  refine n_then ?_
  refine c_block ?_
  refine hS.cut fun O0 F0 hO0 hF0 hS => ?_
  subst hO0
  refine hF.cut (.cons (k := 7) rfl <| .nil) (.cons (k := 0) rfl <| .cons (k := 2) rfl <| .cons (k := 5) rfl <| .cons (k := 6) rfl <| .nil) fun L0 hL0 hF => ?_
  refine c_loop (α := Nat) (fun k a w => k ≤ 12 ∧ (∀ j, j < k → ¬ (binL.getD j (0, [], 0)).1 = op) ∧ Fr a 18 ([(7, .val (.int .i64 (k : Nat)))] ++ L0) ∧ St w0 h0 [] w [(some mb, CellsC 101 (cellsL (binL.map fun b => .agg (binC b).toArray))), (some b0, CellsC 101 (binC (0, [], 0)))] F0) (fun k => 12 - k) 0 (⟨Nat.zero_le _, fun j hj => absurd hj (Nat.not_lt_zero j), hF, hS⟩) ?_
  subst hF0 hL0
  rintro k a w ⟨hk, hn, hF, hS⟩
  refine c_seq ?_
  refine c_reg ?_
  refine s_pu hF (pu_ilt rfl rfl) rfl ?_; clear hF; intro a hF
  refine c_nil ?_
  refine n_then ?_
  refine c_seq ?_
  refine c_if hF rfl (fun hc8 => ?_) (fun hc8 => ?_)
  · try simp only [decide_eq_true_eq, decide_eq_false_iff_not, Bool.not_eq_true', Bool.not_eq_false', Bool.not_eq_eq_eq_not, Bool.not_true, Bool.not_false] at hc8
    refine c_skip ?_
    refine n_then ?_
    refine c_seq ?_
    refine c_block ?_
    refine c_seq ?_
    refine c_reg ?_
    refine s_pu hF (pu_iaddr_sla (j := k) rfl slt105 rfl rfl (by omega) (by omega)) rfl ?_; clear hF; intro a hF
    refine s_pu hF (o_loadA (i := 0) (new := binC (binL.getD k (0, [], 0))) hS rfl agg101 rfl (bin_get k (by omega))) rfl ?_; clear hF; intro a hF
    refine s_alloc hF hS zero101 rfl ?_; clear hS hF; intro b1 w a hS hF
    refine s_store (i := 0) (new := binC (binL.getD k (0, [], 0))) hF hS rfl rfl rfl rfl (by exact sz101) rfl (by simp [binC]) ?_; clear hS hF; intro w a hS hF
    rw [spl_all (by simp [binC])] at hS
    refine c_nil ?_
    refine n_then ?_
    refine c_seq ?_
    refine c_reg ?_
    refine s_pu hF (pu_faddr fld101_0 rfl) rfl ?_; clear hF; intro a hF
    refine s_pu hF (o_load1 (i := 0) hS rfl one31 rfl rfl) rfl ?_; clear hF; intro a hF
    refine s_pu hF (pu_move rfl) rfl ?_; clear hF; intro a hF
    refine s_pu hF (pu_ieq rfl rfl) rfl ?_; clear hF; intro a hF
    refine c_nil ?_
    refine n_then ?_
    refine c_if hF rfl (fun hc14 => ?_) (fun hc14 => ?_)
    · try simp only [decide_eq_true_eq, decide_eq_false_iff_not, Bool.not_eq_true', Bool.not_eq_false', Bool.not_eq_eq_eq_not, Bool.not_true, Bool.not_false] at hc14
      refine c_seq ?_
      refine c_reg ?_
      refine s_pu hF (o_loadA (i := 0) (new := binC (binL.getD k (0, [], 0))) hS rfl agg101 rfl (rfl)) rfl ?_; clear hF; intro a hF
      refine s_store (i := 2) (new := binC (binL.getD k (0, [], 0))) hF hS rfl rfl rfl rfl (by exact sz101) rfl (by simp [binC]) ?_; clear hS hF; intro w a hS hF
      rw [spl_all (by simp [binC])] at hS
      refine c_nil ?_
      refine n_then ?_
      refine c_ret (r_block (r_then (r_then (r_block (r_then ?_)))))
      exact f_ret hF rfl (.cell rfl (o_lvA (i := 2) hS rfl agg101) (.nil)) (hS.retv (by rw [find_hit op k (by omega) hn hc14]; rfl))
    · try simp only [decide_eq_true_eq, decide_eq_false_iff_not, Bool.not_eq_true', Bool.not_eq_false', Bool.not_eq_eq_eq_not, Bool.not_true, Bool.not_false] at hc14
      refine c_skip ?_
      refine n_block ?_
      refine n_then ?_
      refine c_reg ?_
      refine s_pu hF (pu_add rfl rfl (by first | exact wrap_i64 (by omega) (by omega) | rfl)) rfl ?_; clear hF; intro a hF
      refine s_pu hF (pu_move rfl) rfl ?_; clear hF; intro a hF
      refine c_nil ?_
      replace hS := hS.forget 0
      exact ⟨k + 1, ⟨by omega, upto_snoc hn hc14, hF.pick (.cons (k := 7) rfl <| .cons (k := 0) rfl <| .cons (k := 2) rfl <| .cons (k := 5) rfl <| .cons (k := 6) rfl <| .nil), hS⟩, by omega⟩
  · try simp only [decide_eq_true_eq, decide_eq_false_iff_not, Bool.not_eq_true', Bool.not_eq_false', Bool.not_eq_eq_eq_not, Bool.not_true, Bool.not_false] at hc8
    obtain rfl : k = 12 := by omega
    refine c_exit (x_then (x_then (x_here ?_)))
    refine n_then ?_
    refine c_seq ?_
    refine c_reg ?_
    refine s_pu hF (pu_build_st (cs := binC (0, [], 0)) strb101 rfl rfl) rfl ?_; clear hF; intro a hF
    refine s_store (i := 1) (new := binC (0, [], 0)) hF hS rfl rfl rfl rfl (by exact sz101) rfl (by simp [binC]) ?_; clear hS hF; intro w a hS hF
    rw [spl_all (by simp [binC])] at hS
    refine c_nil ?_
    refine n_then ?_
    refine c_ret ?_
    exact f_ret hF rfl (.cell rfl (o_lvA (i := 1) hS rfl agg101) (.nil)) (hS.retv (by rw [find_none op hn]; rfl))
theorem c_count (op : Int) (w0 : World) (h0 : View) (hv : VLe h0 (Full w0))  : Calls Try.prog 65 #[.int .i64 op] w0 (Ret w0 h0 fun u _ => u = .int .i64 (cntS op)) := by
  refine f_enter (args := [.int .i64 op]) Try.func65 rfl Try.ntmps65 rfl fun a hF => ?_
  have hS := St.init w0 h0 hv
  refine c_seq ?_
  refine c_reg ?_
  refine s_pu hF (pu_assign rfl) rfl ?_; clear hF; intro a hF
  refine c_nil ?_
  refine n_then ?_
  refine c_seq ?_
  refine c_block ?_
  refine c_seq ?_
  refine c_reg ?_
  refine s_pu hF (pu_move rfl) rfl ?_; clear hF; intro a hF
  refine s_pu hF (pu_ieq rfl rfl) rfl ?_; clear hF; intro a hF
  refine s_pu hF (pu_move rfl) rfl ?_; clear hF; intro a hF
  refine w_split hF ⟨_, _, (rfl : _[2]? = some _), rfl, rfl⟩ (fun hg1_2 => ?_) (fun hg1_2 => ?_)
  · have hg1_2p := hg1_2
    try simp only [decide_eq_true_eq, decide_eq_false_iff_not, Bool.not_eq_true', Bool.not_eq_false', Bool.not_eq_eq_eq_not, Bool.not_true, Bool.not_false] at hg1_2p
    refine g_no hF ⟨_, _, (rfl : _[2]? = some _), rfl, rfl⟩ hg1_2 rfl ?_; clear hF; intro a hF
    refine g_no hF ⟨_, _, (rfl : _[2]? = some _), rfl, rfl⟩ hg1_2 rfl ?_; clear hF; intro a hF
    refine s_pu hF (pu_pick_t rfl hg1_2 rfl) rfl ?_; clear hF; intro a hF
    refine s_pu hF (pu_assign rfl) rfl ?_; clear hF; intro a hF
    refine c_nil ?_
    refine n_then ?_
    refine c_ift hF rfl rfl ?_
    refine c_seq ?_
    refine c_reg ?_
    refine s_pu hF (pu_assign rfl) rfl ?_; clear hF; intro a hF
    refine c_nil ?_
    refine n_then ?_
    refine c_ret (r_block (r_then ?_))
    exact f_ret hF rfl (.tmp rfl (.nil)) (hS.retv (congrArg (Value.int .i64) (by simp_all [cntS] <;> (intros; omega))))
  · have hg1_2p := hg1_2
    try simp only [decide_eq_true_eq, decide_eq_false_iff_not, Bool.not_eq_true', Bool.not_eq_false', Bool.not_eq_eq_eq_not, Bool.not_true, Bool.not_false] at hg1_2p
    refine g_pu hF ⟨_, _, (rfl : _[2]? = some _), rfl, rfl⟩ hg1_2 (pu_move rfl) rfl ?_; clear hF; intro a hF
    refine g_pu hF ⟨_, _, (rfl : _[2]? = some _), rfl, rfl⟩ hg1_2 (pu_ieq rfl rfl) rfl ?_; clear hF; intro a hF
    refine s_pu hF (pu_pick_f rfl hg1_2 rfl) rfl ?_; clear hF; intro a hF
    refine s_pu hF (pu_assign rfl) rfl ?_; clear hF; intro a hF
    refine c_nil ?_
    refine n_then ?_
    refine c_if hF rfl (fun hc3 => ?_) (fun hc3 => ?_)
    · try simp only [decide_eq_true_eq, decide_eq_false_iff_not, Bool.not_eq_true', Bool.not_eq_false', Bool.not_eq_eq_eq_not, Bool.not_true, Bool.not_false] at hc3
      refine c_seq ?_
      refine c_reg ?_
      refine s_pu hF (pu_assign rfl) rfl ?_; clear hF; intro a hF
      refine c_nil ?_
      refine n_then ?_
      refine c_ret (r_block (r_then ?_))
      exact f_ret hF rfl (.tmp rfl (.nil)) (hS.retv (congrArg (Value.int .i64) (by simp_all [cntS] <;> (intros; omega))))
    · try simp only [decide_eq_true_eq, decide_eq_false_iff_not, Bool.not_eq_true', Bool.not_eq_false', Bool.not_eq_eq_eq_not, Bool.not_true, Bool.not_false] at hc3
      refine c_seq ?_
      refine c_reg ?_
      refine s_pu hF (pu_move rfl) rfl ?_; clear hF; intro a hF
      refine s_pu hF (pu_ieq rfl rfl) rfl ?_; clear hF; intro a hF
      refine s_pu hF (pu_assign rfl) rfl ?_; clear hF; intro a hF
      refine c_nil ?_
      refine n_then ?_
      refine c_if hF rfl (fun hc10 => ?_) (fun hc10 => ?_)
      · try simp only [decide_eq_true_eq, decide_eq_false_iff_not, Bool.not_eq_true', Bool.not_eq_false', Bool.not_eq_eq_eq_not, Bool.not_true, Bool.not_false] at hc10
        refine c_seq ?_
        refine c_reg ?_
        refine s_pu hF (pu_assign rfl) rfl ?_; clear hF; intro a hF
        refine c_nil ?_
        refine n_then ?_
        refine c_ret (r_block (r_then ?_))
        exact f_ret hF rfl (.tmp rfl (.nil)) (hS.retv (congrArg (Value.int .i64) (by simp_all [cntS] <;> (intros; omega))))
      · try simp only [decide_eq_true_eq, decide_eq_false_iff_not, Bool.not_eq_true', Bool.not_eq_false', Bool.not_eq_eq_eq_not, Bool.not_true, Bool.not_false] at hc10
        refine c_seq ?_
        refine c_reg ?_
        refine s_pu hF (pu_move rfl) rfl ?_; clear hF; intro a hF
        refine s_pu hF (pu_ieq rfl rfl) rfl ?_; clear hF; intro a hF
        refine s_pu hF (pu_assign rfl) rfl ?_; clear hF; intro a hF
        refine c_nil ?_
        refine n_then ?_
        refine c_if hF rfl (fun hc13 => ?_) (fun hc13 => ?_)
        · try simp only [decide_eq_true_eq, decide_eq_false_iff_not, Bool.not_eq_true', Bool.not_eq_false', Bool.not_eq_eq_eq_not, Bool.not_true, Bool.not_false] at hc13
          refine c_seq ?_
          refine c_reg ?_
          refine s_pu hF (pu_assign rfl) rfl ?_; clear hF; intro a hF
          refine c_nil ?_
          refine n_then ?_
          refine c_ret (r_block (r_then ?_))
          exact f_ret hF rfl (.tmp rfl (.nil)) (hS.retv (congrArg (Value.int .i64) (by simp_all [cntS] <;> (intros; omega))))
        · try simp only [decide_eq_true_eq, decide_eq_false_iff_not, Bool.not_eq_true', Bool.not_eq_false', Bool.not_eq_eq_eq_not, Bool.not_true, Bool.not_false] at hc13
          refine c_seq ?_
          refine c_reg ?_
          refine s_pu hF (pu_move rfl) rfl ?_; clear hF; intro a hF
          refine s_callv hF hS ok82 rfl (c_find op _ _ hS.view) rfl ?_; clear hS hF; intro w a hS hF
          refine s_pu hF (pu_field fldv101_2 rfl rfl) rfl ?_; clear hF; intro a hF
          refine s_pu hF (pu_igt rfl rfl) rfl ?_; clear hF; intro a hF
          refine s_pu hF (pu_assign rfl) rfl ?_; clear hF; intro a hF
          refine c_nil ?_
          refine n_then ?_
          refine c_if hF rfl (fun hc16 => ?_) (fun hc16 => ?_)
          · try simp only [decide_eq_true_eq, decide_eq_false_iff_not, Bool.not_eq_true', Bool.not_eq_false', Bool.not_eq_eq_eq_not, Bool.not_true, Bool.not_false] at hc16
            rw [find_lev] at hc16
            refine c_seq ?_
            refine c_reg ?_
            refine s_pu hF (pu_assign rfl) rfl ?_; clear hF; intro a hF
            refine c_nil ?_
            refine n_then ?_
            refine c_ret (r_block (r_then ?_))
            exact f_ret hF rfl (.tmp rfl (.nil)) (hS.retv (congrArg (Value.int .i64) (by simp_all [cntS] <;> (intros; omega))))
          · try simp only [decide_eq_true_eq, decide_eq_false_iff_not, Bool.not_eq_true', Bool.not_eq_false', Bool.not_eq_eq_eq_not, Bool.not_true, Bool.not_false] at hc16
            rw [find_lev] at hc16
            refine c_skip ?_
            refine n_block ?_
            refine n_then ?_
            refine c_seq ?_
            refine c_reg ?_
            refine s_pu hF (pu_assign rfl) rfl ?_; clear hF; intro a hF
            refine c_nil ?_
            refine n_then ?_
            refine c_ret ?_
            exact f_ret hF rfl (.tmp rfl (.nil)) (hS.retv (congrArg (Value.int .i64) (by simp_all [cntS] <;> (intros; omega))))
theorem c_RPlain (s : List UInt8) (hs : s.length ≤ 9223372036854775807) (w0 : World) (h0 : View) (hv : VLe h0 (Full w0))  : Calls Try.prog 80 #[vs s] w0 (Ret w0 h0 fun u _ => u = .bool (plainS s)) := by
  refine f_enter (args := [vs s]) Try.func80 rfl Try.ntmps80 rfl fun a hF => ?_
  have hS := St.init w0 h0 hv
  refine c_seq ?_
  refine c_reg ?_
  refine s_pu hF (pu_assign rfl) rfl ?_; clear hF; intro a hF
  refine c_nil ?_
  refine n_then ?_
  refine c_seq ?_
  refine c_seq ?_
  refine c_reg ?_
  refine s_pu hF (pu_assign rfl) rfl ?_; clear hF; intro a hF
  refine c_nil ?_
  refine n_then ?_
  refine c_block ?_
  refine hS.cut fun O0 F0 hO0 hF0 hS => ?_
  refine hF.cut (.cons (k := 3) rfl <| .nil) (.cons (k := 0) rfl <| .nil) fun L0 hL0 hF => ?_
  refine c_loop (α := Nat) (fun k a w => k ≤ s.length ∧ (∀ j, j < k → plB (s.getD j 0) = true) ∧ Fr a 23 ([(3, .val (.int .i64 (k : Nat)))] ++ L0) ∧ St w0 h0 [] w O0 F0) (fun k => s.length - k) 0 (⟨Nat.zero_le _, fun j hj => absurd hj (Nat.not_lt_zero j), hF, hS⟩) ?_
  subst hO0 hF0 hL0
  rintro k a w ⟨hk, hn, hF, hS⟩
  refine c_seq ?_
  refine c_seq ?_
  refine c_reg ?_
  refine s_pu hF (pu_move rfl) rfl ?_; clear hF; intro a hF
  refine s_pu hF (pu_move rfl) rfl ?_; clear hF; intro a hF
  refine s_pu hF (pu_len_s tyS9 rfl rfl) rfl ?_; clear hF; intro a hF
  refine s_pu hF (pu_ilt rfl rfl) rfl ?_; clear hF; intro a hF
  refine c_nil ?_
  refine n_then ?_
  refine c_if hF rfl (fun hc7 => ?_) (fun hc7 => ?_)
  · try simp only [decide_eq_true_eq, decide_eq_false_iff_not, Bool.not_eq_true', Bool.not_eq_false', Bool.not_eq_eq_eq_not, Bool.not_true, Bool.not_false] at hc7
    refine c_skip ?_
    refine n_then ?_
    refine c_seq ?_
    refine c_block ?_
    refine c_seq ?_
    refine c_reg ?_
    refine s_pu hF (pu_move rfl) rfl ?_; clear hF; intro a hF
    refine s_pu hF (pu_move rfl) rfl ?_; clear hF; intro a hF
    refine s_pu hF (pu_idxn tyS9 rfl rfl rfl (by omega)) rfl ?_; clear hF; intro a hF
    refine s_pu hF (pu_ilt rfl rfl) rfl ?_; clear hF; intro a hF
    refine s_pu hF (pu_move rfl) rfl ?_; clear hF; intro a hF
    refine w_split hF ⟨_, _, (rfl : _[4]? = some _), rfl, rfl⟩ (fun hg4_4 => ?_) (fun hg4_4 => ?_)
    · have hg4_4p := hg4_4
      try simp only [decide_eq_true_eq, decide_eq_false_iff_not, Bool.not_eq_true', Bool.not_eq_false', Bool.not_eq_eq_eq_not, Bool.not_true, Bool.not_false] at hg4_4p
      refine g_no hF ⟨_, _, (rfl : _[4]? = some _), rfl, rfl⟩ hg4_4 rfl ?_; clear hF; intro a hF
      refine g_no hF ⟨_, _, (rfl : _[4]? = some _), rfl, rfl⟩ hg4_4 rfl ?_; clear hF; intro a hF
      refine g_no hF ⟨_, _, (rfl : _[4]? = some _), rfl, rfl⟩ hg4_4 rfl ?_; clear hF; intro a hF
      refine g_no hF ⟨_, _, (rfl : _[4]? = some _), rfl, rfl⟩ hg4_4 rfl ?_; clear hF; intro a hF
      refine s_pu hF (pu_pick_t rfl hg4_4 rfl) rfl ?_; clear hF; intro a hF
      refine c_nil ?_
      refine n_then ?_
      refine c_ift hF rfl rfl ?_
      refine c_seq ?_
      refine c_reg ?_
      refine s_pu hF (pu_assign rfl) rfl ?_; clear hF; intro a hF
      refine c_nil ?_
      refine n_then ?_
      refine c_ret (r_block (r_then (r_then (r_block (r_then ?_)))))
      exact f_ret hF rfl (.tmp rfl (.nil)) (hS.retv (congrArg Value.bool (plain_no (k := k) (by omega) (by first | exact .inl hg4_4p | (right; omega))).symm))
    · have hg4_4p := hg4_4
      try simp only [decide_eq_true_eq, decide_eq_false_iff_not, Bool.not_eq_true', Bool.not_eq_false', Bool.not_eq_eq_eq_not, Bool.not_true, Bool.not_false] at hg4_4p
      refine g_pu hF ⟨_, _, (rfl : _[4]? = some _), rfl, rfl⟩ hg4_4 (pu_move rfl) rfl ?_; clear hF; intro a hF
      refine g_pu hF ⟨_, _, (rfl : _[4]? = some _), rfl, rfl⟩ hg4_4 (pu_move rfl) rfl ?_; clear hF; intro a hF
      refine g_pu hF ⟨_, _, (rfl : _[4]? = some _), rfl, rfl⟩ hg4_4 (pu_idxn tyS9 rfl rfl rfl (by omega)) rfl ?_; clear hF; intro a hF
      refine g_pu hF ⟨_, _, (rfl : _[4]? = some _), rfl, rfl⟩ hg4_4 (pu_igt rfl rfl) rfl ?_; clear hF; intro a hF
      refine s_pu hF (pu_pick_f rfl hg4_4 rfl) rfl ?_; clear hF; intro a hF
      refine c_nil ?_
      refine n_then ?_
      refine c_if hF rfl (fun hc19 => ?_) (fun hc19 => ?_)
      · try simp only [decide_eq_true_eq, decide_eq_false_iff_not, Bool.not_eq_true', Bool.not_eq_false', Bool.not_eq_eq_eq_not, Bool.not_true, Bool.not_false] at hc19
        refine c_seq ?_
        refine c_reg ?_
        refine s_pu hF (pu_assign rfl) rfl ?_; clear hF; intro a hF
        refine c_nil ?_
        refine n_then ?_
        refine c_ret (r_block (r_then (r_then (r_block (r_then ?_)))))
        exact f_ret hF rfl (.tmp rfl (.nil)) (hS.retv (congrArg Value.bool (plain_no (k := k) (by omega) (by first | exact .inl hg4_4p | (right; omega))).symm))
      · try simp only [decide_eq_true_eq, decide_eq_false_iff_not, Bool.not_eq_true', Bool.not_eq_false', Bool.not_eq_eq_eq_not, Bool.not_true, Bool.not_false] at hc19
        refine c_skip ?_
        refine n_block ?_
        refine n_then ?_
        refine c_reg ?_
        refine s_pu hF (pu_move rfl) rfl ?_; clear hF; intro a hF
        refine s_pu hF (pu_add rfl rfl (by first | exact wrap_i64 (by omega) (by omega) | rfl)) rfl ?_; clear hF; intro a hF
        refine s_pu hF (pu_assign rfl) rfl ?_; clear hF; intro a hF
        refine c_nil ?_
        exact ⟨k + 1, ⟨by omega, upto_snoc hn (pl_yes (by omega) (by omega)), hF.pick (.cons (k := 3) rfl <| .cons (k := 0) rfl <| .nil), hS⟩, by omega⟩
  · try simp only [decide_eq_true_eq, decide_eq_false_iff_not, Bool.not_eq_true', Bool.not_eq_false', Bool.not_eq_eq_eq_not, Bool.not_true, Bool.not_false] at hc7
    refine c_exit (x_then (x_then (x_here ?_)))
    refine n_then ?_
    refine c_seq ?_
    refine c_reg ?_
    refine s_pu hF (pu_move rfl) rfl ?_; clear hF; intro a hF
    refine s_pu hF (pu_len_s tyS9 rfl rfl) rfl ?_; clear hF; intro a hF
    refine s_pu hF (pu_ile rfl rfl) rfl ?_; clear hF; intro a hF
    refine s_pu hF (pu_assign rfl) rfl ?_; clear hF; intro a hF
    refine c_nil ?_
    refine n_then ?_
    refine c_ret ?_
    exact f_ret hF rfl (.tmp rfl (.nil)) (hS.retv (congrArg Value.bool (plain_len s (fun j hj => hn j (by omega)))))
theorem c_plain (s : List UInt8) (w0 : World) (h0 : View) (hv : VLe h0 (Full w0))  : Calls Try.prog 83 #[vs s] w0 (Ret w0 h0 fun u _ => u = .bool (plainS s)) := by
  refine f_enter (args := [vs s]) Try.func83 rfl Try.ntmps83 rfl fun a hF => ?_
  have hS := St.init w0 h0 hv
  refine c_seq ?_
  refine c_reg ?_
  refine s_pu hF (pu_assign rfl) rfl ?_; clear hF; intro a hF
  refine c_nil ?_
  refine n_then ?_
  refine c_seq ?_
  refine c_seq ?_
  refine c_reg ?_
  refine s_pu hF (pu_move rfl) rfl ?_; clear hF; intro a hF
  refine s_pu hF (pu_len_s tyS9 rfl rfl) rfl ?_; clear hF; intro a hF
  refine s_pu hF (pu_igt rfl rfl) rfl ?_; clear hF; intro a hF
  refine c_nil ?_
  refine n_then ?_
  refine c_if hF rfl (fun hc7 => ?_) (fun hc7 => ?_)
  · try simp only [decide_eq_true_eq, decide_eq_false_iff_not, Bool.not_eq_true', Bool.not_eq_false', Bool.not_eq_eq_eq_not, Bool.not_true, Bool.not_false] at hc7
    have hlong := hc7
    refine c_seq ?_
    refine c_reg ?_
    refine s_pu hF (pu_assign rfl) rfl ?_; clear hF; intro a hF
    refine c_nil ?_
    refine n_then ?_
    refine c_ret (r_then ?_)
    exact f_ret hF rfl (.tmp rfl (.nil)) (hS.retv (congrArg Value.bool (plain_long (by omega)).symm))
  · try simp only [decide_eq_true_eq, decide_eq_false_iff_not, Bool.not_eq_true', Bool.not_eq_false', Bool.not_eq_eq_eq_not, Bool.not_true, Bool.not_false] at hc7
    refine c_skip ?_
    refine n_then ?_
    refine c_seq ?_
    refine c_seq ?_
    refine c_reg ?_
    refine s_pu hF (pu_move rfl) rfl ?_; clear hF; intro a hF
    refine s_range hF hS tyS9 rfl rfl ?_; clear hS hF; intro b0 w a hS hF
    refine c_nil ?_
    refine n_then ?_
    refine c_block ?_
    refine hS.cut fun O0 F0 hO0 hF0 hS => ?_
    subst hO0
    refine hF.cut (.nil) (.cons (k := 9) rfl <| .nil) fun L0 hL0 hF => ?_
    refine c_loop (α := Nat) (fun k a w => k ≤ s.length ∧ (∀ j, j < k → plB (s.getD j 0) = true) ∧ Fr a 19 ([] ++ L0) ∧ St w0 h0 [] w [(some b0, IterC s k)] F0) (fun k => s.length - k) 0 (⟨Nat.zero_le _, fun j hj => absurd hj (Nat.not_lt_zero j), hF, hS⟩) ?_
    subst hF0 hL0
    rintro k a w ⟨hk, hn, hF, hS⟩
    refine c_seq ?_
    refine c_reg ?_
    refine s_next (i := 0) hF hS rfl rfl rfl (fun hnx w a hS hF => ?_) (fun hnx a hF => ?_)
    · skip
      refine s_pu hF (pu_extract rfl rfl) rfl ?_; clear hF; intro a hF
      refine c_nil ?_
      refine n_then ?_
      refine c_seq ?_
      refine c_ift hF rfl rfl ?_
      refine c_skip ?_
      refine n_then ?_
      refine c_block ?_
      refine c_seq ?_
      refine c_reg ?_
      refine s_pu hF (pu_extract rfl rfl) rfl ?_; clear hF; intro a hF
      refine s_pu hF (pu_assign rfl) rfl ?_; clear hF; intro a hF
      refine c_nil ?_
      refine n_then ?_
      refine c_seq ?_
      refine c_reg ?_
      refine s_pu hF (pu_move rfl) rfl ?_; clear hF; intro a hF
      refine s_pu hF (pu_ilt rfl rfl) rfl ?_; clear hF; intro a hF
      refine s_pu hF (pu_move rfl) rfl ?_; clear hF; intro a hF
      refine w_split hF ⟨_, _, (rfl : _[2]? = some _), rfl, rfl⟩ (fun hg6_2 => ?_) (fun hg6_2 => ?_)
      · have hg6_2p := hg6_2
        try simp only [decide_eq_true_eq, decide_eq_false_iff_not, Bool.not_eq_true', Bool.not_eq_false', Bool.not_eq_eq_eq_not, Bool.not_true, Bool.not_false] at hg6_2p
        refine g_no hF ⟨_, _, (rfl : _[2]? = some _), rfl, rfl⟩ hg6_2 rfl ?_; clear hF; intro a hF
        refine g_no hF ⟨_, _, (rfl : _[2]? = some _), rfl, rfl⟩ hg6_2 rfl ?_; clear hF; intro a hF
        refine s_pu hF (pu_pick_t rfl hg6_2 rfl) rfl ?_; clear hF; intro a hF
        refine c_nil ?_
        refine n_then ?_
        refine c_ift hF rfl rfl ?_
        refine c_seq ?_
        refine c_reg ?_
        refine s_pu hF (pu_assign rfl) rfl ?_; clear hF; intro a hF
        refine c_nil ?_
        refine n_then ?_
        refine c_ret (r_block (r_then (r_block (r_then ?_))))
        exact f_ret hF rfl (.tmp rfl (.nil)) (hS.retv (congrArg Value.bool (plain_not (k := k) (by omega) (dec_bad (s := s) (k := k) hnx (by first | exact .inl hg6_2p | (right; omega)))).symm))
      · have hg6_2p := hg6_2
        try simp only [decide_eq_true_eq, decide_eq_false_iff_not, Bool.not_eq_true', Bool.not_eq_false', Bool.not_eq_eq_eq_not, Bool.not_true, Bool.not_false] at hg6_2p
        refine g_pu hF ⟨_, _, (rfl : _[2]? = some _), rfl, rfl⟩ hg6_2 (pu_move rfl) rfl ?_; clear hF; intro a hF
        refine g_pu hF ⟨_, _, (rfl : _[2]? = some _), rfl, rfl⟩ hg6_2 (pu_igt rfl rfl) rfl ?_; clear hF; intro a hF
        refine s_pu hF (pu_pick_f rfl hg6_2 rfl) rfl ?_; clear hF; intro a hF
        refine c_nil ?_
        refine n_then ?_
        refine c_if hF rfl (fun hc18 => ?_) (fun hc18 => ?_)
        · try simp only [decide_eq_true_eq, decide_eq_false_iff_not, Bool.not_eq_true', Bool.not_eq_false', Bool.not_eq_eq_eq_not, Bool.not_true, Bool.not_false] at hc18
          refine c_seq ?_
          refine c_reg ?_
          refine s_pu hF (pu_assign rfl) rfl ?_; clear hF; intro a hF
          refine c_nil ?_
          refine n_then ?_
          refine c_ret (r_block (r_then (r_block (r_then ?_))))
          exact f_ret hF rfl (.tmp rfl (.nil)) (hS.retv (congrArg Value.bool (plain_not (k := k) (by omega) (dec_bad (s := s) (k := k) hnx (by first | exact .inl hg6_2p | (right; omega)))).symm))
        · try simp only [decide_eq_true_eq, decide_eq_false_iff_not, Bool.not_eq_true', Bool.not_eq_false', Bool.not_eq_eq_eq_not, Bool.not_true, Bool.not_false] at hc18
          refine c_skip ?_
          refine n_block ?_
          obtain ⟨e1, e2⟩ := dec_plain (s := s) (k := k) hnx (by omega) (by omega)
          rw [e2] at hS
          exact ⟨k + 1, ⟨by omega, upto_snoc hn e1, hF.pick (.cons (k := 9) rfl <| .nil), hS⟩, by omega⟩
    · skip
      refine s_pu hF (pu_extract rfl rfl) rfl ?_; clear hF; intro a hF
      refine c_nil ?_
      refine n_then ?_
      refine c_seq ?_
      refine c_iff hF rfl rfl ?_
      refine c_exit (x_then (x_then (x_here ?_)))
      refine n_then ?_
      refine c_seq ?_
      refine c_reg ?_
      refine s_pu hF (pu_assign rfl) rfl ?_; clear hF; intro a hF
      refine c_nil ?_
      refine n_then ?_
      refine c_ret ?_
      exact f_ret hF rfl (.tmp rfl (.nil)) (hS.retv (congrArg Value.bool (plain_all (by omega) (fun j hj => hn j (by omega))).symm))
theorem c_RRight (v : Val) (hs : v.s.length ≤ 9223372036854775807) (w0 : World) (h0 : View) (hv : VLe h0 (Full w0))  : Calls Try.prog 61 #[.agg (valC v).toArray] w0 (Ret w0 h0 fun u _ => u = .bool (valOk v)) := by
  refine f_enter (args := [.agg (valC v).toArray]) Try.func61 rfl Try.ntmps61 rfl fun a hF => ?_
  have hS := St.init w0 h0 hv
  refine c_seq ?_
  refine c_reg ?_
  refine s_box hF hS rfl rfl rfl ?_; clear hS hF; intro b0 w a hS hF
  refine s_pu hF (pu_assign rfl) rfl ?_; clear hF; intro a hF
  refine c_nil ?_
  refine n_then ?_
  refine c_seq ?_
  refine c_seq ?_
  refine c_reg ?_
  refine s_pu hF (pu_faddr fld34_0 rfl) rfl ?_; clear hF; intro a hF
  refine s_pu hF (o_load1 (i := 0) hS rfl one32 rfl rfl) rfl ?_; clear hF; intro a hF
  refine c_nil ?_
  refine n_then ?_
  refine c_block ?_
  refine c_seq ?_
  refine c_reg ?_
  refine s_pu hF (pu_ieq rfl rfl) rfl ?_; clear hF; intro a hF
  refine s_pu hF (pu_assign rfl) rfl ?_; clear hF; intro a hF
  refine c_nil ?_
  refine n_then ?_
  refine c_if hF rfl (fun hc5 => ?_) (fun hc5 => ?_)
  · try simp only [decide_eq_true_eq, decide_eq_false_iff_not, Bool.not_eq_true', Bool.not_eq_false', Bool.not_eq_eq_eq_not, Bool.not_true, Bool.not_false] at hc5
    refine c_seq ?_
    refine c_reg ?_
    refine s_pu hF (pu_faddr fld34_1 rfl) rfl ?_; clear hF; intro a hF
    refine s_pu hF (o_load1 (i := 0) hS rfl one3 rfl rfl) rfl ?_; clear hF; intro a hF
    refine s_pu hF (pu_ieq rfl rfl) rfl ?_; clear hF; intro a hF
    refine s_pu hF (pu_move rfl) rfl ?_; clear hF; intro a hF
    refine w_split hF ⟨_, _, (rfl : _[3]? = some _), rfl, rfl⟩ (fun hg3_3 => ?_) (fun hg3_3 => ?_)
    · have hg3_3p := hg3_3
      try simp only [decide_eq_true_eq, decide_eq_false_iff_not, Bool.not_eq_true', Bool.not_eq_false', Bool.not_eq_eq_eq_not, Bool.not_true, Bool.not_false] at hg3_3p
      refine g_pu hF ⟨_, _, (rfl : _[3]? = some _), rfl, rfl⟩ hg3_3 (pu_faddr fld34_2 rfl) rfl ?_; clear hF; intro a hF
      refine g_pu hF ⟨_, _, (rfl : _[3]? = some _), rfl, rfl⟩ hg3_3 (o_load1 (i := 0) hS rfl one9 rfl rfl) rfl ?_; clear hF; intro a hF
      refine g_pu hF ⟨_, _, (rfl : _[3]? = some _), rfl, rfl⟩ hg3_3 (pu_seq rfl rfl) rfl ?_; clear hF; intro a hF
      refine s_pu hF (pu_pick_t rfl hg3_3 rfl) rfl ?_; clear hF; intro a hF
      refine s_pu hF (pu_assign rfl) rfl ?_; clear hF; intro a hF
      refine c_nil ?_
      refine n_then ?_
      refine c_ret (r_block (r_then ?_))
      exact f_ret hF rfl (.tmp rfl (.nil)) (hS.retv (congrArg Value.bool (by simp_all [valOk])))
    · have hg3_3p := hg3_3
      try simp only [decide_eq_true_eq, decide_eq_false_iff_not, Bool.not_eq_true', Bool.not_eq_false', Bool.not_eq_eq_eq_not, Bool.not_true, Bool.not_false] at hg3_3p
      refine g_no hF ⟨_, _, (rfl : _[3]? = some _), rfl, rfl⟩ hg3_3 rfl ?_; clear hF; intro a hF
      refine g_no hF ⟨_, _, (rfl : _[3]? = some _), rfl, rfl⟩ hg3_3 rfl ?_; clear hF; intro a hF
      refine g_no hF ⟨_, _, (rfl : _[3]? = some _), rfl, rfl⟩ hg3_3 rfl ?_; clear hF; intro a hF
      refine s_pu hF (pu_pick_f rfl hg3_3 rfl) rfl ?_; clear hF; intro a hF
      refine s_pu hF (pu_assign rfl) rfl ?_; clear hF; intro a hF
      refine c_nil ?_
      refine n_then ?_
      refine c_ret (r_block (r_then ?_))
      exact f_ret hF rfl (.tmp rfl (.nil)) (hS.retv (congrArg Value.bool (by simp_all [valOk])))
  · try simp only [decide_eq_true_eq, decide_eq_false_iff_not, Bool.not_eq_true', Bool.not_eq_false', Bool.not_eq_eq_eq_not, Bool.not_true, Bool.not_false] at hc5
    refine c_seq ?_
    refine c_reg ?_
    refine s_pu hF (pu_ieq rfl rfl) rfl ?_; clear hF; intro a hF
    refine s_pu hF (pu_assign rfl) rfl ?_; clear hF; intro a hF
    refine c_nil ?_
    refine n_then ?_
    refine c_if hF rfl (fun hc15 => ?_) (fun hc15 => ?_)
    · try simp only [decide_eq_true_eq, decide_eq_false_iff_not, Bool.not_eq_true', Bool.not_eq_false', Bool.not_eq_eq_eq_not, Bool.not_true, Bool.not_false] at hc15
      refine c_seq ?_
      refine c_reg ?_
      refine s_pu hF (pu_faddr fld34_2 rfl) rfl ?_; clear hF; intro a hF
      refine s_pu hF (o_load1 (i := 0) hS rfl one9 rfl rfl) rfl ?_; clear hF; intro a hF
      refine s_pu hF (pu_seq rfl rfl) rfl ?_; clear hF; intro a hF
      refine s_pu hF (pu_assign rfl) rfl ?_; clear hF; intro a hF
      refine c_nil ?_
      refine n_then ?_
      refine c_ret (r_block (r_then ?_))
      exact f_ret hF rfl (.tmp rfl (.nil)) (hS.retv (congrArg Value.bool (by simp_all [valOk])))
    · try simp only [decide_eq_true_eq, decide_eq_false_iff_not, Bool.not_eq_true', Bool.not_eq_false', Bool.not_eq_eq_eq_not, Bool.not_true, Bool.not_false] at hc15
      refine c_seq ?_
      refine c_reg ?_
      refine s_pu hF (pu_ieq rfl rfl) rfl ?_; clear hF; intro a hF
      refine s_pu hF (pu_assign rfl) rfl ?_; clear hF; intro a hF
      refine c_nil ?_
      refine n_then ?_
      refine c_if hF rfl (fun hc20 => ?_) (fun hc20 => ?_)
      · try simp only [decide_eq_true_eq, decide_eq_false_iff_not, Bool.not_eq_true', Bool.not_eq_false', Bool.not_eq_eq_eq_not, Bool.not_true, Bool.not_false] at hc20
        refine c_seq ?_
        refine c_reg ?_
        refine s_pu hF (pu_faddr fld34_1 rfl) rfl ?_; clear hF; intro a hF
        refine s_pu hF (o_load1 (i := 0) hS rfl one3 rfl rfl) rfl ?_; clear hF; intro a hF
        refine s_pu hF (pu_ieq rfl rfl) rfl ?_; clear hF; intro a hF
        refine s_pu hF (pu_move rfl) rfl ?_; clear hF; intro a hF
        refine w_split hF ⟨_, _, (rfl : _[3]? = some _), rfl, rfl⟩ (fun hg7_3 => ?_) (fun hg7_3 => ?_)
        · have hg7_3p := hg7_3
          try simp only [decide_eq_true_eq, decide_eq_false_iff_not, Bool.not_eq_true', Bool.not_eq_false', Bool.not_eq_eq_eq_not, Bool.not_true, Bool.not_false] at hg7_3p
          refine g_pu hF ⟨_, _, (rfl : _[3]? = some _), rfl, rfl⟩ hg7_3 (pu_faddr fld34_2 rfl) rfl ?_; clear hF; intro a hF
          refine g_pu hF ⟨_, _, (rfl : _[3]? = some _), rfl, rfl⟩ hg7_3 (o_load1 (i := 0) hS rfl one9 rfl rfl) rfl ?_; clear hF; intro a hF
          refine g_callv hF hS ⟨_, _, (rfl : _[3]? = some _), rfl, rfl⟩ hg7_3 ok80 rfl (c_RPlain v.s hs _ _ hS.view) rfl ?_; clear hS hF; intro w a hS hF
          refine s_pu hF (pu_pick_t rfl hg7_3 rfl) rfl ?_; clear hF; intro a hF
          refine s_pu hF (pu_assign rfl) rfl ?_; clear hF; intro a hF
          refine c_nil ?_
          refine n_then ?_
          refine c_ret (r_block (r_then ?_))
          exact f_ret hF rfl (.tmp rfl (.nil)) (hS.retv (congrArg Value.bool (by simp_all [valOk])))
        · have hg7_3p := hg7_3
          try simp only [decide_eq_true_eq, decide_eq_false_iff_not, Bool.not_eq_true', Bool.not_eq_false', Bool.not_eq_eq_eq_not, Bool.not_true, Bool.not_false] at hg7_3p
          refine g_no hF ⟨_, _, (rfl : _[3]? = some _), rfl, rfl⟩ hg7_3 rfl ?_; clear hF; intro a hF
          refine g_no hF ⟨_, _, (rfl : _[3]? = some _), rfl, rfl⟩ hg7_3 rfl ?_; clear hF; intro a hF
          refine g_no hF ⟨_, _, (rfl : _[3]? = some _), rfl, rfl⟩ hg7_3 rfl ?_; clear hF; intro a hF
          refine s_pu hF (pu_pick_f rfl hg7_3 rfl) rfl ?_; clear hF; intro a hF
          refine s_pu hF (pu_assign rfl) rfl ?_; clear hF; intro a hF
          refine c_nil ?_
          refine n_then ?_
          refine c_ret (r_block (r_then ?_))
          exact f_ret hF rfl (.tmp rfl (.nil)) (hS.retv (congrArg Value.bool (by simp_all [valOk])))
      · try simp only [decide_eq_true_eq, decide_eq_false_iff_not, Bool.not_eq_true', Bool.not_eq_false', Bool.not_eq_eq_eq_not, Bool.not_true, Bool.not_false] at hc20
        refine c_seq ?_
        refine c_reg ?_
        refine s_pu hF (pu_ieq rfl rfl) rfl ?_; clear hF; intro a hF
        refine s_pu hF (pu_assign rfl) rfl ?_; clear hF; intro a hF
        refine c_nil ?_
        refine n_then ?_
        refine c_if hF rfl (fun hc30 => ?_) (fun hc30 => ?_)
        · try simp only [decide_eq_true_eq, decide_eq_false_iff_not, Bool.not_eq_true', Bool.not_eq_false', Bool.not_eq_eq_eq_not, Bool.not_true, Bool.not_false] at hc30
          refine c_seq ?_
          refine c_reg ?_
          refine s_pu hF (pu_faddr fld34_2 rfl) rfl ?_; clear hF; intro a hF
          refine s_pu hF (o_load1 (i := 0) hS rfl one9 rfl rfl) rfl ?_; clear hF; intro a hF
          refine s_pu hF (pu_seq rfl rfl) rfl ?_; clear hF; intro a hF
          refine s_pu hF (pu_move rfl) rfl ?_; clear hF; intro a hF
          refine w_split hF ⟨_, _, (rfl : _[3]? = some _), rfl, rfl⟩ (fun hg9_3 => ?_) (fun hg9_3 => ?_)
          · have hg9_3p := hg9_3
            try simp only [decide_eq_true_eq, decide_eq_false_iff_not, Bool.not_eq_true', Bool.not_eq_false', Bool.not_eq_eq_eq_not, Bool.not_true, Bool.not_false] at hg9_3p
            refine g_pu hF ⟨_, _, (rfl : _[3]? = some _), rfl, rfl⟩ hg9_3 (pu_faddr fld34_1 rfl) rfl ?_; clear hF; intro a hF
            refine g_pu hF ⟨_, _, (rfl : _[3]? = some _), rfl, rfl⟩ hg9_3 (o_load1 (i := 0) hS rfl one3 rfl rfl) rfl ?_; clear hF; intro a hF
            refine g_pu hF ⟨_, _, (rfl : _[3]? = some _), rfl, rfl⟩ hg9_3 (pu_ieq rfl rfl) rfl ?_; clear hF; intro a hF
            refine g_pu hF ⟨_, _, (rfl : _[3]? = some _), rfl, rfl⟩ hg9_3 (pu_move rfl) rfl ?_; clear hF; intro a hF
            refine w_split hF ⟨_, _, (rfl : _[7]? = some _), rfl, rfl⟩ (fun hg9_7 => ?_) (fun hg9_7 => ?_)
            · have hg9_7p := hg9_7
              try simp only [decide_eq_true_eq, decide_eq_false_iff_not, Bool.not_eq_true', Bool.not_eq_false', Bool.not_eq_eq_eq_not, Bool.not_true, Bool.not_false] at hg9_7p
              refine g_no hF ⟨_, _, (rfl : _[7]? = some _), rfl, rfl⟩ hg9_7 rfl ?_; clear hF; intro a hF
              refine g_no hF ⟨_, _, (rfl : _[7]? = some _), rfl, rfl⟩ hg9_7 rfl ?_; clear hF; intro a hF
              refine g_no hF ⟨_, _, (rfl : _[7]? = some _), rfl, rfl⟩ hg9_7 rfl ?_; clear hF; intro a hF
              refine g_pu hF ⟨_, _, (rfl : _[3]? = some _), rfl, rfl⟩ hg9_3 (pu_pick_t rfl hg9_7 rfl) rfl ?_; clear hF; intro a hF
              refine s_pu hF (pu_pick_t rfl hg9_3 rfl) rfl ?_; clear hF; intro a hF
              refine s_pu hF (pu_assign rfl) rfl ?_; clear hF; intro a hF
              refine c_nil ?_
              refine n_then ?_
              refine c_ret (r_block (r_then ?_))
              exact f_ret hF rfl (.tmp rfl (.nil)) (hS.retv (congrArg Value.bool (by simp_all [valOk])))
            · have hg9_7p := hg9_7
              try simp only [decide_eq_true_eq, decide_eq_false_iff_not, Bool.not_eq_true', Bool.not_eq_false', Bool.not_eq_eq_eq_not, Bool.not_true, Bool.not_false] at hg9_7p
              refine g_pu hF ⟨_, _, (rfl : _[7]? = some _), rfl, rfl⟩ hg9_7 (pu_faddr fld34_1 rfl) rfl ?_; clear hF; intro a hF
              refine g_pu hF ⟨_, _, (rfl : _[7]? = some _), rfl, rfl⟩ hg9_7 (o_load1 (i := 0) hS rfl one3 rfl rfl) rfl ?_; clear hF; intro a hF
              refine g_pu hF ⟨_, _, (rfl : _[7]? = some _), rfl, rfl⟩ hg9_7 (pu_ieq rfl rfl) rfl ?_; clear hF; intro a hF
              refine g_pu hF ⟨_, _, (rfl : _[3]? = some _), rfl, rfl⟩ hg9_3 (pu_pick_f rfl hg9_7 rfl) rfl ?_; clear hF; intro a hF
              refine s_pu hF (pu_pick_t rfl hg9_3 rfl) rfl ?_; clear hF; intro a hF
              refine s_pu hF (pu_assign rfl) rfl ?_; clear hF; intro a hF
              refine c_nil ?_
              refine n_then ?_
              refine c_ret (r_block (r_then ?_))
              exact f_ret hF rfl (.tmp rfl (.nil)) (hS.retv (congrArg Value.bool (by simp_all [valOk])))
          · have hg9_3p := hg9_3
            try simp only [decide_eq_true_eq, decide_eq_false_iff_not, Bool.not_eq_true', Bool.not_eq_false', Bool.not_eq_eq_eq_not, Bool.not_true, Bool.not_false] at hg9_3p
            refine g_no hF ⟨_, _, (rfl : _[3]? = some _), rfl, rfl⟩ hg9_3 rfl ?_; clear hF; intro a hF
            refine g_no hF ⟨_, _, (rfl : _[3]? = some _), rfl, rfl⟩ hg9_3 rfl ?_; clear hF; intro a hF
            refine g_no hF ⟨_, _, (rfl : _[3]? = some _), rfl, rfl⟩ hg9_3 rfl ?_; clear hF; intro a hF
            refine g_no hF ⟨_, _, (rfl : _[3]? = some _), rfl, rfl⟩ hg9_3 rfl ?_; clear hF; intro a hF
            refine g_noU hF ⟨_, _, (rfl : _[7]? = some _), rfl, rfl⟩ rfl ?_; clear hF; intro a hF
            refine g_noU hF ⟨_, _, (rfl : _[7]? = some _), rfl, rfl⟩ rfl ?_; clear hF; intro a hF
            refine g_noU hF ⟨_, _, (rfl : _[7]? = some _), rfl, rfl⟩ rfl ?_; clear hF; intro a hF
            refine g_no hF ⟨_, _, (rfl : _[3]? = some _), rfl, rfl⟩ hg9_3 rfl ?_; clear hF; intro a hF
            refine s_pu hF (pu_pick_f rfl hg9_3 rfl) rfl ?_; clear hF; intro a hF
            refine s_pu hF (pu_assign rfl) rfl ?_; clear hF; intro a hF
            refine c_nil ?_
            refine n_then ?_
            refine c_ret (r_block (r_then ?_))
            exact f_ret hF rfl (.tmp rfl (.nil)) (hS.retv (congrArg Value.bool (by simp_all [valOk])))
        · try simp only [decide_eq_true_eq, decide_eq_false_iff_not, Bool.not_eq_true', Bool.not_eq_false', Bool.not_eq_eq_eq_not, Bool.not_true, Bool.not_false] at hc30
          refine c_skip ?_
          refine n_block ?_
          refine n_then ?_
          refine c_seq ?_
          refine c_reg ?_
          refine s_pu hF (pu_assign rfl) rfl ?_; clear hF; intro a hF
          refine c_nil ?_
          refine n_then ?_
          refine c_ret ?_
          exact f_ret hF rfl (.tmp rfl (.nil)) (hS.retv (congrArg Value.bool (by simp_all [valOk])))
theorem c_VCheck (v : Val) (hvb : valB v) (w0 : World) (h0 : View) (hv : VLe h0 (Full w0))  : Calls Try.prog 66 #[.agg (valC v).toArray] w0 (Ret w0 h0 fun u _ => u = .int .i64 (if valOk v then 0 else 2)) := by
  refine f_enter (args := [.agg (valC v).toArray]) Try.func66 rfl Try.ntmps66 rfl fun a hF => ?_
  have hS := St.init w0 h0 hv
  refine c_seq ?_
  refine c_reg ?_
  refine s_box hF hS rfl rfl rfl ?_; clear hS hF; intro b0 w a hS hF
  refine s_pu hF (pu_assign rfl) rfl ?_; clear hF; intro a hF
  refine c_nil ?_
  refine n_then ?_
  refine c_seq ?_
  refine c_reg ?_
  refine s_pu hF (pu_assign rfl) rfl ?_; clear hF; intro a hF
  refine c_nil ?_
  refine n_then ?_
  refine hS.cut fun OK11 FK11 hOK11 hFK11 hS => ?_
  refine hF.cut .nil (.nil) fun LK11 hLK11 _ => ?_
  refine c_seq_cut (fun a w => ∃ (r : Bool), r = valOk v ∧ Fr a 39 ([(3, .val (.bool r))] ++ LK11) ∧ St w0 h0 [] w OK11 FK11) ?_ ?_
  · subst hOK11 hFK11 hLK11
    refine c_seq ?_
    refine c_reg ?_
    refine s_pu hF (pu_faddr fld34_0 rfl) rfl ?_; clear hF; intro a hF
    refine s_pu hF (o_load1 (i := 0) hS rfl one32 rfl rfl) rfl ?_; clear hF; intro a hF
    refine c_nil ?_
    refine n_then ?_
    refine c_block ?_
    refine c_seq ?_
    refine c_reg ?_
    refine s_pu hF (pu_ieq rfl rfl) rfl ?_; clear hF; intro a hF
    refine s_pu hF (pu_assign rfl) rfl ?_; clear hF; intro a hF
    refine c_nil ?_
    refine n_then ?_
    refine c_if hF rfl (fun hc6 => ?_) (fun hc6 => ?_)
    · try simp only [decide_eq_true_eq, decide_eq_false_iff_not, Bool.not_eq_true', Bool.not_eq_false', Bool.not_eq_eq_eq_not, Bool.not_true, Bool.not_false] at hc6
      refine c_reg ?_
      refine s_pu hF (o_loadA (i := 0) (new := valC v) hS rfl agg34 rfl (rfl)) rfl ?_; clear hF; intro a hF
      refine s_pu hF (pu_build_st (cs := valC v0) strb34 rfl rfl) rfl ?_; clear hF; intro a hF
      refine s_pu hF (pu_aeq (a := v) (b := v0) eqV rfl rfl) rfl ?_; clear hF; intro a hF
      refine s_pu hF (pu_assign rfl) rfl ?_; clear hF; intro a hF
      refine c_nil ?_
      refine n_block ?_
      refine n_then ?_
      exact ⟨_, by first | (obtain ⟨vk, vn, vt⟩ := v; simp_all [valOk, v0]; done) | (have e := andnot1 (h := hvb.2) (hr := rfl); simp_all [valOk]; done), hF.pick (.cons (k := 3) rfl <| .nil), hS⟩
    · try simp only [decide_eq_true_eq, decide_eq_false_iff_not, Bool.not_eq_true', Bool.not_eq_false', Bool.not_eq_eq_eq_not, Bool.not_true, Bool.not_false] at hc6
      refine c_seq ?_
      refine c_reg ?_
      refine s_pu hF (pu_ieq rfl rfl) rfl ?_; clear hF; intro a hF
      refine s_pu hF (pu_assign rfl) rfl ?_; clear hF; intro a hF
      refine c_nil ?_
      refine n_then ?_
      refine c_if hF rfl (fun hc11 => ?_) (fun hc11 => ?_)
      · try simp only [decide_eq_true_eq, decide_eq_false_iff_not, Bool.not_eq_true', Bool.not_eq_false', Bool.not_eq_eq_eq_not, Bool.not_true, Bool.not_false] at hc11
        refine c_reg ?_
        refine s_pu hF (pu_faddr fld34_2 rfl) rfl ?_; clear hF; intro a hF
        refine s_pu hF (o_load1 (i := 0) hS rfl one9 rfl rfl) rfl ?_; clear hF; intro a hF
        refine s_pu hF (pu_seq rfl rfl) rfl ?_; clear hF; intro a hF
        refine s_pu hF (pu_assign rfl) rfl ?_; clear hF; intro a hF
        refine c_nil ?_
        refine n_block ?_
        refine n_then ?_
        exact ⟨_, by first | (obtain ⟨vk, vn, vt⟩ := v; simp_all [valOk, v0]; done) | (have e := andnot1 (h := hvb.2) (hr := rfl); simp_all [valOk]; done), hF.pick (.cons (k := 3) rfl <| .nil), hS⟩
      · try simp only [decide_eq_true_eq, decide_eq_false_iff_not, Bool.not_eq_true', Bool.not_eq_false', Bool.not_eq_eq_eq_not, Bool.not_true, Bool.not_false] at hc11
        refine c_seq ?_
        refine c_reg ?_
        refine s_pu hF (pu_ieq rfl rfl) rfl ?_; clear hF; intro a hF
        refine s_pu hF (pu_assign rfl) rfl ?_; clear hF; intro a hF
        refine c_nil ?_
        refine n_then ?_
        refine c_if hF rfl (fun hc16 => ?_) (fun hc16 => ?_)
        · try simp only [decide_eq_true_eq, decide_eq_false_iff_not, Bool.not_eq_true', Bool.not_eq_false', Bool.not_eq_eq_eq_not, Bool.not_true, Bool.not_false] at hc16
          refine c_reg ?_
          refine s_pu hF (pu_faddr fld34_1 rfl) rfl ?_; clear hF; intro a hF
          refine s_pu hF (o_load1 (i := 0) hS rfl one3 rfl rfl) rfl ?_; clear hF; intro a hF
          refine s_pu hF (pu_ieq rfl rfl) rfl ?_; clear hF; intro a hF
          refine s_pu hF (pu_move rfl) rfl ?_; clear hF; intro a hF
          refine w_split hF ⟨_, _, (rfl : _[3]? = some _), rfl, rfl⟩ (fun hg8_3 => ?_) (fun hg8_3 => ?_)
          · have hg8_3p := hg8_3
            try simp only [decide_eq_true_eq, decide_eq_false_iff_not, Bool.not_eq_true', Bool.not_eq_false', Bool.not_eq_eq_eq_not, Bool.not_true, Bool.not_false] at hg8_3p
            refine g_pu hF ⟨_, _, (rfl : _[3]? = some _), rfl, rfl⟩ hg8_3 (pu_faddr fld34_2 rfl) rfl ?_; clear hF; intro a hF
            refine g_pu hF ⟨_, _, (rfl : _[3]? = some _), rfl, rfl⟩ hg8_3 (o_load1 (i := 0) hS rfl one9 rfl rfl) rfl ?_; clear hF; intro a hF
            refine g_callv hF hS ⟨_, _, (rfl : _[3]? = some _), rfl, rfl⟩ hg8_3 ok83 rfl (c_plain v.s _ _ hS.view) rfl ?_; clear hS hF; intro w a hS hF
            refine s_pu hF (pu_pick_t rfl hg8_3 rfl) rfl ?_; clear hF; intro a hF
            refine s_pu hF (pu_assign rfl) rfl ?_; clear hF; intro a hF
            refine c_nil ?_
            refine n_block ?_
            refine n_then ?_
            exact ⟨_, by first | (obtain ⟨vk, vn, vt⟩ := v; simp_all [valOk, v0]; done) | (have e := andnot1 (h := hvb.2) (hr := rfl); simp_all [valOk]; done), hF.pick (.cons (k := 3) rfl <| .nil), hS⟩
          · have hg8_3p := hg8_3
            try simp only [decide_eq_true_eq, decide_eq_false_iff_not, Bool.not_eq_true', Bool.not_eq_false', Bool.not_eq_eq_eq_not, Bool.not_true, Bool.not_false] at hg8_3p
            refine g_no hF ⟨_, _, (rfl : _[3]? = some _), rfl, rfl⟩ hg8_3 rfl ?_; clear hF; intro a hF
            refine g_no hF ⟨_, _, (rfl : _[3]? = some _), rfl, rfl⟩ hg8_3 rfl ?_; clear hF; intro a hF
            refine g_no hF ⟨_, _, (rfl : _[3]? = some _), rfl, rfl⟩ hg8_3 rfl ?_; clear hF; intro a hF
            refine s_pu hF (pu_pick_f rfl hg8_3 rfl) rfl ?_; clear hF; intro a hF
            refine s_pu hF (pu_assign rfl) rfl ?_; clear hF; intro a hF
            refine c_nil ?_
            refine n_block ?_
            refine n_then ?_
            exact ⟨_, by first | (obtain ⟨vk, vn, vt⟩ := v; simp_all [valOk, v0]; done) | (have e := andnot1 (h := hvb.2) (hr := rfl); simp_all [valOk]; done), hF.pick (.cons (k := 3) rfl <| .nil), hS⟩
        · try simp only [decide_eq_true_eq, decide_eq_false_iff_not, Bool.not_eq_true', Bool.not_eq_false', Bool.not_eq_eq_eq_not, Bool.not_true, Bool.not_false] at hc16
          refine c_seq ?_
          refine c_reg ?_
          refine s_pu hF (pu_ieq rfl rfl) rfl ?_; clear hF; intro a hF
          refine s_pu hF (pu_assign rfl) rfl ?_; clear hF; intro a hF
          refine c_nil ?_
          refine n_then ?_
          refine c_if hF rfl (fun hc26 => ?_) (fun hc26 => ?_)
          · try simp only [decide_eq_true_eq, decide_eq_false_iff_not, Bool.not_eq_true', Bool.not_eq_false', Bool.not_eq_eq_eq_not, Bool.not_true, Bool.not_false] at hc26
            refine c_reg ?_
            refine s_pu hF (pu_faddr fld34_2 rfl) rfl ?_; clear hF; intro a hF
            refine s_pu hF (o_load1 (i := 0) hS rfl one9 rfl rfl) rfl ?_; clear hF; intro a hF
            refine s_pu hF (pu_seq rfl rfl) rfl ?_; clear hF; intro a hF
            refine s_pu hF (pu_move rfl) rfl ?_; clear hF; intro a hF
            refine w_split hF ⟨_, _, (rfl : _[3]? = some _), rfl, rfl⟩ (fun hg10_3 => ?_) (fun hg10_3 => ?_)
            · have hg10_3p := hg10_3
              try simp only [decide_eq_true_eq, decide_eq_false_iff_not, Bool.not_eq_true', Bool.not_eq_false', Bool.not_eq_eq_eq_not, Bool.not_true, Bool.not_false] at hg10_3p
              refine g_pu hF ⟨_, _, (rfl : _[3]? = some _), rfl, rfl⟩ hg10_3 (pu_faddr fld34_1 rfl) rfl ?_; clear hF; intro a hF
              refine g_pu hF ⟨_, _, (rfl : _[3]? = some _), rfl, rfl⟩ hg10_3 (o_load1 (i := 0) hS rfl one3 rfl rfl) rfl ?_; clear hF; intro a hF
              refine g_pu hF ⟨_, _, (rfl : _[3]? = some _), rfl, rfl⟩ hg10_3 (pu_andnot rfl rfl rfl) rfl ?_; clear hF; intro a hF
              refine g_pu hF ⟨_, _, (rfl : _[3]? = some _), rfl, rfl⟩ hg10_3 (pu_ieq rfl rfl) rfl ?_; clear hF; intro a hF
              refine s_pu hF (pu_pick_t rfl hg10_3 rfl) rfl ?_; clear hF; intro a hF
              refine s_pu hF (pu_assign rfl) rfl ?_; clear hF; intro a hF
              refine c_nil ?_
              refine n_block ?_
              refine n_then ?_
              exact ⟨_, by first | (obtain ⟨vk, vn, vt⟩ := v; simp_all [valOk, v0]; done) | (have e := andnot1 (h := hvb.2) (hr := rfl); simp_all [valOk]; done), hF.pick (.cons (k := 3) rfl <| .nil), hS⟩
            · have hg10_3p := hg10_3
              try simp only [decide_eq_true_eq, decide_eq_false_iff_not, Bool.not_eq_true', Bool.not_eq_false', Bool.not_eq_eq_eq_not, Bool.not_true, Bool.not_false] at hg10_3p
              refine g_no hF ⟨_, _, (rfl : _[3]? = some _), rfl, rfl⟩ hg10_3 rfl ?_; clear hF; intro a hF
              refine g_no hF ⟨_, _, (rfl : _[3]? = some _), rfl, rfl⟩ hg10_3 rfl ?_; clear hF; intro a hF
              refine g_no hF ⟨_, _, (rfl : _[3]? = some _), rfl, rfl⟩ hg10_3 rfl ?_; clear hF; intro a hF
              refine g_no hF ⟨_, _, (rfl : _[3]? = some _), rfl, rfl⟩ hg10_3 rfl ?_; clear hF; intro a hF
              refine s_pu hF (pu_pick_f rfl hg10_3 rfl) rfl ?_; clear hF; intro a hF
              refine s_pu hF (pu_assign rfl) rfl ?_; clear hF; intro a hF
              refine c_nil ?_
              refine n_block ?_
              refine n_then ?_
              exact ⟨_, by first | (obtain ⟨vk, vn, vt⟩ := v; simp_all [valOk, v0]; done) | (have e := andnot1 (h := hvb.2) (hr := rfl); simp_all [valOk]; done), hF.pick (.cons (k := 3) rfl <| .nil), hS⟩
          · try simp only [decide_eq_true_eq, decide_eq_false_iff_not, Bool.not_eq_true', Bool.not_eq_false', Bool.not_eq_eq_eq_not, Bool.not_true, Bool.not_false] at hc26
            refine c_skip ?_
            refine n_block ?_
            refine n_then ?_
            exact ⟨_, by first | (obtain ⟨vk, vn, vt⟩ := v; simp_all [valOk, v0]; done) | (have e := andnot1 (h := hvb.2) (hr := rfl); simp_all [valOk]; done), hF.pick (.cons (k := 3) rfl <| .nil), hS⟩
  · subst hOK11 hFK11 hLK11
    rintro a w ⟨r, hr, hF, hS⟩
    refine c_seq ?_
    refine c_seq ?_
    refine c_reg ?_
    refine s_pu hF (pu_move rfl) rfl ?_; clear hF; intro a hF
    refine s_pu hF (pu_not rfl) rfl ?_; clear hF; intro a hF
    refine c_nil ?_
    refine n_then ?_
    refine c_if hF rfl (fun hc38 => ?_) (fun hc38 => ?_)
    · try simp only [decide_eq_true_eq, decide_eq_false_iff_not, Bool.not_eq_true', Bool.not_eq_false', Bool.not_eq_eq_eq_not, Bool.not_true, Bool.not_false] at hc38
      refine c_seq ?_
      refine c_reg ?_
      refine s_pu hF (pu_assign rfl) rfl ?_; clear hF; intro a hF
      refine c_nil ?_
      refine n_then ?_
      refine c_ret (r_then ?_)
      exact f_ret hF rfl (.tmp rfl (.nil)) (hS.retv (congrArg (Value.int .i64) (by rw [if_neg (by simp [← hr, hc38])])))
    · try simp only [decide_eq_true_eq, decide_eq_false_iff_not, Bool.not_eq_true', Bool.not_eq_false', Bool.not_eq_eq_eq_not, Bool.not_true, Bool.not_false] at hc38
      refine c_skip ?_
      refine n_then ?_
      refine c_seq ?_
      refine c_reg ?_
      refine s_pu hF (pu_assign rfl) rfl ?_; clear hF; intro a hF
      refine c_nil ?_
      refine n_then ?_
      refine c_ret ?_
      exact f_ret hF rfl (.tmp rfl (.nil)) (hS.retv (congrArg (Value.int .i64) (by rw [if_pos (by rw [← hr]; simpa using hc38)])))
theorem c_IndexX (ad : Option Addr) (cap : Nat) (l : List Ex) (g : FuncId) (p : Ex → Bool) (hg : CallOk Try.prog g) (w0 : World) (h0 : View) (hv : VLe h0 (Full w0)) (hx : GL h0 ad cap l) (hp : ∀ y ∈ l, ∀ ad cap w, VLe h0 (Full w) → GX h0 ad cap y → Calls Try.prog g ([] ++ [Value.agg (exC y.op y.v y.s (.slice ad y.l.length cap)).toArray] ++ []).toArray w (Ret w h0 fun u _ => u = .bool (p y))) : Calls Try.prog 84 #[.slice ad l.length cap, .func (.func g) #[] #[]] w0 (Ret w0 h0 fun u _ => u = .int .i64 (idxS p l)) := by
  refine f_enter (args := [.slice ad l.length cap, .func (.func g) #[] #[]]) Try.func84 rfl Try.ntmps84 rfl fun a hF => ?_
  have hS := St.init w0 h0 hv
  have hlm := hx.1.lm
  refine c_seq ?_
  refine c_reg ?_
  refine s_pu hF (pu_assign rfl) rfl ?_; clear hF; intro a hF
  refine c_nil ?_
  refine n_then ?_
  refine c_seq ?_
  refine c_seq ?_
  refine c_reg ?_
  refine s_pu hF (pu_move rfl) rfl ?_; clear hF; intro a hF
  refine s_pu hF (pu_len_sl tyL35 rfl rfl) rfl ?_; clear hF; intro a hF
  refine s_pu hF (pu_move rfl) rfl ?_; clear hF; intro a hF
  refine c_nil ?_
  refine n_then ?_
  refine c_block ?_
  refine hS.cut fun O0 F0 hO0 hF0 hS => ?_
  refine hF.cut (.cons (k := 8) rfl <| .nil) (.cons (k := 0) rfl <| .cons (k := 1) rfl <| .cons (k := 7) rfl <| .nil) fun L0 hL0 hF => ?_
  refine c_loop (α := Nat) (fun k a w => k ≤ l.length ∧ (∀ j, j < k → p (l.getD j ex0) = false) ∧ Fr a 19 ([(8, .val (.int .i64 (k : Nat)))] ++ L0) ∧ St w0 h0 [] w O0 F0) (fun k => l.length - k) 0 (⟨Nat.zero_le _, fun j hj => absurd hj (Nat.not_lt_zero j), hF, hS⟩) ?_
  subst hO0 hF0 hL0
  rintro k a w ⟨hk, hn, hF, hS⟩
  refine c_seq ?_
  refine c_reg ?_
  refine s_pu hF (pu_ilt rfl rfl) rfl ?_; clear hF; intro a hF
  refine c_nil ?_
  refine n_then ?_
  refine c_seq ?_
  refine c_if hF rfl (fun hc9 => ?_) (fun hc9 => ?_)
  · try simp only [decide_eq_true_eq, decide_eq_false_iff_not, Bool.not_eq_true', Bool.not_eq_false', Bool.not_eq_eq_eq_not, Bool.not_true, Bool.not_false] at hc9
    obtain ⟨g1, o, ad2, cap2, ha, hgx, HX⟩ := hx.at (i := k) (by omega)
    refine c_skip ?_
    refine n_then ?_
    refine c_seq ?_
    refine c_block ?_
    refine c_seq ?_
    refine c_reg ?_
    refine s_pu hF (pu_move rfl) rfl ?_; clear hF; intro a hF
    refine s_pu hF (pu_assign rfl) rfl ?_; clear hF; intro a hF
    refine c_nil ?_
    refine n_then ?_
    refine c_seq ?_
    refine c_reg ?_
    refine s_pu hF (pu_move rfl) rfl ?_; clear hF; intro a hF
    refine s_pu hF (pu_move rfl) rfl ?_; clear hF; intro a hF
    refine s_pu hF (pu_move rfl) rfl ?_; clear hF; intro a hF
    refine s_pu hF (pu_iaddr_sla (j := k) ha slt35 rfl rfl (by omega) (by omega)) rfl ?_; clear hF; intro a hF
    refine s_pu hF (pu_loadA (cs := (exC (l.getD k ex0).op (l.getD k ex0).v (l.getD k ex0).s (.slice ad2 (l.getD k ex0).l.length cap2))) agg37 rfl (fun j v hj => by rw [add_mk]; exact HX _ hS.base j v hj)) rfl ?_; clear hF; intro a hF
    refine s_callF (first := []) (cap := []) hF hS hg rfl rfl (hp _ (getD_mem l k ex0 (by omega)) _ _ _ hS.base hgx) rfl ?_; clear hS hF; intro w a hS hF
    refine c_nil ?_
    refine n_then ?_
    refine c_if hF rfl (fun hc16 => ?_) (fun hc16 => ?_)
    · try simp only [decide_eq_true_eq, decide_eq_false_iff_not, Bool.not_eq_true', Bool.not_eq_false', Bool.not_eq_eq_eq_not, Bool.not_true, Bool.not_false] at hc16
      refine c_seq ?_
      refine c_reg ?_
      refine s_pu hF (pu_move rfl) rfl ?_; clear hF; intro a hF
      refine s_pu hF (pu_assign rfl) rfl ?_; clear hF; intro a hF
      refine c_nil ?_
      refine n_then ?_
      refine c_ret (r_block (r_then (r_then (r_block (r_then ?_)))))
      exact f_ret hF rfl (.tmp rfl (.nil)) (hS.retv (congrArg (Value.int .i64) (idx_hit ex0 (by omega) hn hc16).symm))
    · try simp only [decide_eq_true_eq, decide_eq_false_iff_not, Bool.not_eq_true', Bool.not_eq_false', Bool.not_eq_eq_eq_not, Bool.not_true, Bool.not_false] at hc16
      refine c_skip ?_
      refine n_block ?_
      refine n_then ?_
      refine c_reg ?_
      refine s_pu hF (pu_add rfl rfl (by first | exact wrap_i64 (by omega) (by omega) | rfl)) rfl ?_; clear hF; intro a hF
      refine s_pu hF (pu_move rfl) rfl ?_; clear hF; intro a hF
      refine c_nil ?_
      exact ⟨k + 1, ⟨by omega, upto_snoc hn hc16, hF.pick (.cons (k := 8) rfl <| .cons (k := 0) rfl <| .cons (k := 1) rfl <| .cons (k := 7) rfl <| .nil), hS⟩, by omega⟩
  · try simp only [decide_eq_true_eq, decide_eq_false_iff_not, Bool.not_eq_true', Bool.not_eq_false', Bool.not_eq_eq_eq_not, Bool.not_true, Bool.not_false] at hc9
    refine c_exit (x_then (x_then (x_here ?_)))
    refine n_then ?_
    refine c_seq ?_
    refine c_reg ?_
    refine s_pu hF (pu_assign rfl) rfl ?_; clear hF; intro a hF
    refine c_nil ?_
    refine n_then ?_
    refine c_ret ?_
    exact f_ret hF rfl (.tmp rfl (.nil)) (hS.retv (congrArg (Value.int .i64) (idx_none ex0 (fun j hj => hn j (by omega))).symm))
theorem c_ContainsX (ad : Option Addr) (cap : Nat) (l : List Ex) (g : FuncId) (p : Ex → Bool) (hg : CallOk Try.prog g) (w0 : World) (h0 : View) (hv : VLe h0 (Full w0)) (hx : GL h0 ad cap l) (hp : ∀ y ∈ l, ∀ ad cap w, VLe h0 (Full w) → GX h0 ad cap y → Calls Try.prog g ([] ++ [Value.agg (exC y.op y.v y.s (.slice ad y.l.length cap)).toArray] ++ []).toArray w (Ret w h0 fun u _ => u = .bool (p y))) : Calls Try.prog 67 #[.slice ad l.length cap, .func (.func g) #[] #[]] w0 (Ret w0 h0 fun u _ => u = .bool (l.any p)) := by
  refine f_enter (args := [.slice ad l.length cap, .func (.func g) #[] #[]]) Try.func67 rfl Try.ntmps67 rfl fun a hF => ?_
  have hS := St.init w0 h0 hv
  have hlm := hx.1.lm
  refine c_seq ?_
  refine c_reg ?_
  refine s_pu hF (pu_assign rfl) rfl ?_; clear hF; intro a hF
  refine c_nil ?_
  refine n_then ?_
  refine c_seq ?_
  refine c_reg ?_
  refine s_pu hF (pu_move rfl) rfl ?_; clear hF; intro a hF
  refine s_pu hF (pu_move rfl) rfl ?_; clear hF; intro a hF
  refine s_calld hF hS ok84 rfl (c_IndexX ad cap l g p hg _ h0 hS.base hx hp) rfl ?_; clear hS hF; intro w a hS hF
  refine s_pu hF (pu_ige rfl rfl) rfl ?_; clear hF; intro a hF
  refine s_pu hF (pu_assign rfl) rfl ?_; clear hF; intro a hF
  refine c_nil ?_
  refine n_then ?_
  refine c_ret ?_
  exact f_ret hF rfl (.tmp rfl (.nil)) (hS.retv (congrArg Value.bool (idx_any (p := p) (l := l))))
theorem c_right1 (x : Ex) (ad : Option Addr) (cap : Nat) (w0 : World) (h0 : View) (hv : VLe h0 (Full w0)) (hf : ∀ w, VLe h0 (Full w) → Calls Try.prog 42 #[Value.agg (exC x.op x.v x.s (.slice ad x.l.length cap)).toArray] w (Ret w h0 fun u _ => u = .bool (rightS x))) : Calls Try.prog 68 #[Value.agg (exC x.op x.v x.s (.slice ad x.l.length cap)).toArray] w0 (Ret w0 h0 fun u _ => u = .bool (!rightS x)) := by
  refine f_enter (args := [Value.agg (exC x.op x.v x.s (.slice ad x.l.length cap)).toArray]) Try.func68 rfl Try.ntmps68 rfl fun a hF => ?_
  have hS := St.init w0 h0 hv
  refine c_seq ?_
  refine c_reg ?_
  refine s_box hF hS rfl rfl rfl ?_; clear hS hF; intro b0 w a hS hF
  refine s_pu hF (pu_assign rfl) rfl ?_; clear hF; intro a hF
  refine c_nil ?_
  refine n_then ?_
  refine c_seq ?_
  refine c_reg ?_
  refine s_pu hF (o_loadA (i := 0) (new := exC x.op x.v x.s (.slice ad x.l.length cap)) hS rfl agg37 rfl (rfl)) rfl ?_; clear hF; intro a hF
  refine s_calld hF hS ok42 rfl (hf _ hS.base) rfl ?_; clear hS hF; intro w a hS hF
  refine s_pu hF (pu_not rfl) rfl ?_; clear hF; intro a hF
  refine s_pu hF (pu_assign rfl) rfl ?_; clear hF; intro a hF
  refine c_nil ?_
  refine n_then ?_
  refine c_ret ?_
  exact f_ret hF rfl (.tmp rfl (.nil)) (hS.retv rfl)
set_option maxHeartbeats 1000000 in
theorem c_right_ (x : Ex) (ad : Option Addr) (cap : Nat) (ih : ∀ y ∈ x.l, ∀ (ad : Option Addr) (cap : Nat) (w : World) (h0 : View), VLe h0 (Full w) → GX h0 ad cap y → Calls Try.prog 42 #[Value.agg (exC y.op y.v y.s (.slice ad y.l.length cap)).toArray] w (Ret w h0 fun u _ => u = .bool (rightS y))) (w0 : World) (h0 : View) (hv : VLe h0 (Full w0)) (hx : GX h0 ad cap x) : Calls Try.prog 42 #[Value.agg (exC x.op x.v x.s (.slice ad x.l.length cap)).toArray] w0 (Ret w0 h0 fun u _ => u = .bool (rightS x)) := by
  refine f_enter (args := [Value.agg (exC x.op x.v x.s (.slice ad x.l.length cap)).toArray]) Try.func42 rfl Try.ntmps42 rfl fun a hF => ?_
  have hS := St.init w0 h0 hv
  have hsm := hx.sm.parts
  refine c_seq ?_
  refine c_reg ?_
  refine s_box hF hS rfl rfl rfl ?_; clear hS hF; intro b0 w a hS hF
  refine s_pu hF (pu_assign rfl) rfl ?_; clear hF; intro a hF
  refine c_nil ?_
  refine n_then ?_
  refine c_seq ?_
  refine c_seq ?_
  refine region_st 7 hF hS (allV_ne rfl) mix (by kernel_rfl) fun Γ hG => ?_
  refine t_pu hG (fun w hC => pu_faddr fld37_3 rfl) ?_; clear hG; intro Γ hG
  refine t_pu hG (fun w hC => o_load1 (i := 0) hC.st rfl one35 rfl rfl) ?_; clear hG; intro Γ hG
  refine t_pu hG (fun w hC => pu_len_sl tyL35 rfl rfl) ?_; clear hG; intro Γ hG
  refine t_pu hG (fun w hC => pu_faddr fld37_0 rfl) ?_; clear hG; intro Γ hG
  refine t_pu hG (fun w hC => o_load1 (i := 0) hC.st rfl one31 rfl rfl) ?_; clear hG; intro Γ hG
  refine t_callv hG ok65 rfl (fun w hS => (c_count _ _ _ hS.view)) ?_; clear hG; intro Γ hG
  refine t_pu hG (fun w hC => pu_ine rfl rfl) ?_; clear hG; intro Γ hG
  refine t_end hG ?_; clear hG hF; intro a w hC hE hF hP; replace hS := hC.st; clear hC
  clear hE
  clear hP
  refine c_nil ?_
  refine n_then ?_
  refine c_if hF rfl (fun hc9 => ?_) (fun hc9 => ?_)
  · try simp only [decide_eq_true_eq, decide_eq_false_iff_not, Bool.not_eq_true', Bool.not_eq_false', Bool.not_eq_eq_eq_not, Bool.not_true, Bool.not_false] at hc9
    refine c_seq ?_
    refine c_reg ?_
    refine s_pu hF (pu_assign rfl) rfl ?_; clear hF; intro a hF
    refine c_nil ?_
    refine n_then ?_
    refine c_ret (r_then ?_)
    exact f_ret hF rfl (.tmp rfl (.nil)) (hS.retv (congrArg Value.bool (by rw [right_eq]; simp_all [any_all])))
  · try simp only [decide_eq_true_eq, decide_eq_false_iff_not, Bool.not_eq_true', Bool.not_eq_false', Bool.not_eq_eq_eq_not, Bool.not_true, Bool.not_false] at hc9
    refine c_skip ?_
    refine n_then ?_
    refine c_seq ?_
    refine c_seq ?_
    refine c_reg ?_
    refine s_pu hF (pu_faddr fld37_0 rfl) rfl ?_; clear hF; intro a hF
    refine s_pu hF (o_load1 (i := 0) hS rfl one31 rfl rfl) rfl ?_; clear hF; intro a hF
    refine c_nil ?_
    refine n_then ?_
    refine c_block ?_
    refine c_seq ?_
    refine c_reg ?_
    refine s_pu hF (pu_ieq rfl rfl) rfl ?_; clear hF; intro a hF
    refine s_pu hF (pu_assign rfl) rfl ?_; clear hF; intro a hF
    refine c_nil ?_
    refine n_then ?_
    refine c_if hF rfl (fun hc12 => ?_) (fun hc12 => ?_)
    · try simp only [decide_eq_true_eq, decide_eq_false_iff_not, Bool.not_eq_true', Bool.not_eq_false', Bool.not_eq_eq_eq_not, Bool.not_true, Bool.not_false] at hc12
      refine c_seq ?_
      refine c_reg ?_
      refine s_pu hF (pu_faddr fld37_2 rfl) rfl ?_; clear hF; intro a hF
      refine s_pu hF (o_load1 (i := 0) hS rfl one9 rfl rfl) rfl ?_; clear hF; intro a hF
      refine s_pu hF (pu_seq rfl rfl) rfl ?_; clear hF; intro a hF
      refine s_pu hF (pu_move rfl) rfl ?_; clear hF; intro a hF
      refine w_split hF ⟨_, _, (rfl : _[3]? = some _), rfl, rfl⟩ (fun hg5_3 => ?_) (fun hg5_3 => ?_)
      · have hg5_3p := hg5_3
        try simp only [decide_eq_true_eq, decide_eq_false_iff_not, Bool.not_eq_true', Bool.not_eq_false', Bool.not_eq_eq_eq_not, Bool.not_true, Bool.not_false] at hg5_3p
        refine g_pu hF ⟨_, _, (rfl : _[3]? = some _), rfl, rfl⟩ hg5_3 (pu_faddr fld37_1 rfl) rfl ?_; clear hF; intro a hF
        refine g_pu hF ⟨_, _, (rfl : _[3]? = some _), rfl, rfl⟩ hg5_3 (o_loadA (i := 0) (new := valC x.v) hS rfl agg34 rfl (rfl)) rfl ?_; clear hF; intro a hF
        refine g_calld hF hS ⟨_, _, (rfl : _[3]? = some _), rfl, rfl⟩ hg5_3 ok66 rfl (c_VCheck x.v hx.v _ h0 hS.base ) rfl ?_; clear hS hF; intro w a hS hF
        refine g_pu hF ⟨_, _, (rfl : _[3]? = some _), rfl, rfl⟩ hg5_3 (pu_ieq rfl rfl) rfl ?_; clear hF; intro a hF
        refine s_pu hF (pu_pick_t rfl hg5_3 rfl) rfl ?_; clear hF; intro a hF
        refine s_pu hF (pu_move rfl) rfl ?_; clear hF; intro a hF
        refine w_split hF ⟨_, _, (rfl : _[9]? = some _), rfl, rfl⟩ (fun hg5_9 => ?_) (fun hg5_9 => ?_)
        · have hg5_9p := hg5_9
          try simp only [decide_eq_true_eq, decide_eq_false_iff_not, Bool.not_eq_true', Bool.not_eq_false', Bool.not_eq_eq_eq_not, Bool.not_true, Bool.not_false] at hg5_9p
          refine g_pu hF ⟨_, _, (rfl : _[9]? = some _), rfl, rfl⟩ hg5_9 (pu_faddr fld37_1 rfl) rfl ?_; clear hF; intro a hF
          refine g_pu hF ⟨_, _, (rfl : _[9]? = some _), rfl, rfl⟩ hg5_9 (pu_faddr fld34_0 rfl) rfl ?_; clear hF; intro a hF
          refine g_pu hF ⟨_, _, (rfl : _[9]? = some _), rfl, rfl⟩ hg5_9 (o_load1 (i := 0) hS rfl one32 rfl rfl) rfl ?_; clear hF; intro a hF
          refine g_pu hF ⟨_, _, (rfl : _[9]? = some _), rfl, rfl⟩ hg5_9 (pu_ine rfl rfl) rfl ?_; clear hF; intro a hF
          refine g_pu hF ⟨_, _, (rfl : _[9]? = some _), rfl, rfl⟩ hg5_9 (pu_move rfl) rfl ?_; clear hF; intro a hF
          refine w_split hF ⟨_, _, (rfl : _[14]? = some _), rfl, rfl⟩ (fun hg5_14 => ?_) (fun hg5_14 => ?_)
          · have hg5_14p := hg5_14
            try simp only [decide_eq_true_eq, decide_eq_false_iff_not, Bool.not_eq_true', Bool.not_eq_false', Bool.not_eq_eq_eq_not, Bool.not_true, Bool.not_false] at hg5_14p
            refine g_no hF ⟨_, _, (rfl : _[14]? = some _), rfl, rfl⟩ hg5_14 rfl ?_; clear hF; intro a hF
            refine g_no hF ⟨_, _, (rfl : _[14]? = some _), rfl, rfl⟩ hg5_14 rfl ?_; clear hF; intro a hF
            refine g_no hF ⟨_, _, (rfl : _[14]? = some _), rfl, rfl⟩ hg5_14 rfl ?_; clear hF; intro a hF
            refine g_no hF ⟨_, _, (rfl : _[14]? = some _), rfl, rfl⟩ hg5_14 rfl ?_; clear hF; intro a hF
            refine g_pu hF ⟨_, _, (rfl : _[9]? = some _), rfl, rfl⟩ hg5_9 (pu_pick_t rfl hg5_14 rfl) rfl ?_; clear hF; intro a hF
            refine s_pu hF (pu_pick_t rfl hg5_9 rfl) rfl ?_; clear hF; intro a hF
            refine s_pu hF (pu_assign rfl) rfl ?_; clear hF; intro a hF
            refine c_nil ?_
            refine n_then ?_
            refine c_ret (r_block (r_then ?_))
            exact f_ret hF rfl (.tmp rfl (.nil)) (hS.retv (congrArg Value.bool (by rw [right_eq]; simp_all [any_all])))
          · have hg5_14p := hg5_14
            try simp only [decide_eq_true_eq, decide_eq_false_iff_not, Bool.not_eq_true', Bool.not_eq_false', Bool.not_eq_eq_eq_not, Bool.not_true, Bool.not_false] at hg5_14p
            refine g_pu hF ⟨_, _, (rfl : _[14]? = some _), rfl, rfl⟩ hg5_14 (pu_faddr fld37_1 rfl) rfl ?_; clear hF; intro a hF
            refine g_pu hF ⟨_, _, (rfl : _[14]? = some _), rfl, rfl⟩ hg5_14 (pu_faddr fld34_1 rfl) rfl ?_; clear hF; intro a hF
            refine g_pu hF ⟨_, _, (rfl : _[14]? = some _), rfl, rfl⟩ hg5_14 (o_load1 (i := 0) hS rfl one3 rfl rfl) rfl ?_; clear hF; intro a hF
            refine g_pu hF ⟨_, _, (rfl : _[14]? = some _), rfl, rfl⟩ hg5_14 (pu_ige rfl rfl) rfl ?_; clear hF; intro a hF
            refine g_pu hF ⟨_, _, (rfl : _[9]? = some _), rfl, rfl⟩ hg5_9 (pu_pick_f rfl hg5_14 rfl) rfl ?_; clear hF; intro a hF
            refine s_pu hF (pu_pick_t rfl hg5_9 rfl) rfl ?_; clear hF; intro a hF
            refine s_pu hF (pu_assign rfl) rfl ?_; clear hF; intro a hF
            refine c_nil ?_
            refine n_then ?_
            refine c_ret (r_block (r_then ?_))
            exact f_ret hF rfl (.tmp rfl (.nil)) (hS.retv (congrArg Value.bool (by rw [right_eq]; simp_all [any_all])))
        · have hg5_9p := hg5_9
          try simp only [decide_eq_true_eq, decide_eq_false_iff_not, Bool.not_eq_true', Bool.not_eq_false', Bool.not_eq_eq_eq_not, Bool.not_true, Bool.not_false] at hg5_9p
          refine g_no hF ⟨_, _, (rfl : _[9]? = some _), rfl, rfl⟩ hg5_9 rfl ?_; clear hF; intro a hF
          refine g_no hF ⟨_, _, (rfl : _[9]? = some _), rfl, rfl⟩ hg5_9 rfl ?_; clear hF; intro a hF
          refine g_no hF ⟨_, _, (rfl : _[9]? = some _), rfl, rfl⟩ hg5_9 rfl ?_; clear hF; intro a hF
          refine g_no hF ⟨_, _, (rfl : _[9]? = some _), rfl, rfl⟩ hg5_9 rfl ?_; clear hF; intro a hF
          refine g_no hF ⟨_, _, (rfl : _[9]? = some _), rfl, rfl⟩ hg5_9 rfl ?_; clear hF; intro a hF
          refine g_noU hF ⟨_, _, (rfl : _[14]? = some _), rfl, rfl⟩ rfl ?_; clear hF; intro a hF
          refine g_noU hF ⟨_, _, (rfl : _[14]? = some _), rfl, rfl⟩ rfl ?_; clear hF; intro a hF
          refine g_noU hF ⟨_, _, (rfl : _[14]? = some _), rfl, rfl⟩ rfl ?_; clear hF; intro a hF
          refine g_noU hF ⟨_, _, (rfl : _[14]? = some _), rfl, rfl⟩ rfl ?_; clear hF; intro a hF
          refine g_no hF ⟨_, _, (rfl : _[9]? = some _), rfl, rfl⟩ hg5_9 rfl ?_; clear hF; intro a hF
          refine s_pu hF (pu_pick_f rfl hg5_9 rfl) rfl ?_; clear hF; intro a hF
          refine s_pu hF (pu_assign rfl) rfl ?_; clear hF; intro a hF
          refine c_nil ?_
          refine n_then ?_
          refine c_ret (r_block (r_then ?_))
          exact f_ret hF rfl (.tmp rfl (.nil)) (hS.retv (congrArg Value.bool (by rw [right_eq]; simp_all [any_all])))
      · have hg5_3p := hg5_3
        try simp only [decide_eq_true_eq, decide_eq_false_iff_not, Bool.not_eq_true', Bool.not_eq_false', Bool.not_eq_eq_eq_not, Bool.not_true, Bool.not_false] at hg5_3p
        refine g_no hF ⟨_, _, (rfl : _[3]? = some _), rfl, rfl⟩ hg5_3 rfl ?_; clear hF; intro a hF
        refine g_no hF ⟨_, _, (rfl : _[3]? = some _), rfl, rfl⟩ hg5_3 rfl ?_; clear hF; intro a hF
        refine g_no hF ⟨_, _, (rfl : _[3]? = some _), rfl, rfl⟩ hg5_3 rfl ?_; clear hF; intro a hF
        refine g_no hF ⟨_, _, (rfl : _[3]? = some _), rfl, rfl⟩ hg5_3 rfl ?_; clear hF; intro a hF
        refine s_pu hF (pu_pick_f rfl hg5_3 rfl) rfl ?_; clear hF; intro a hF
        refine s_pu hF (pu_move rfl) rfl ?_; clear hF; intro a hF
        refine g_no hF ⟨_, _, (rfl : _[9]? = some _), rfl, rfl⟩ rfl rfl ?_; clear hF; intro a hF
        refine g_no hF ⟨_, _, (rfl : _[9]? = some _), rfl, rfl⟩ rfl rfl ?_; clear hF; intro a hF
        refine g_no hF ⟨_, _, (rfl : _[9]? = some _), rfl, rfl⟩ rfl rfl ?_; clear hF; intro a hF
        refine g_no hF ⟨_, _, (rfl : _[9]? = some _), rfl, rfl⟩ rfl rfl ?_; clear hF; intro a hF
        refine g_no hF ⟨_, _, (rfl : _[9]? = some _), rfl, rfl⟩ rfl rfl ?_; clear hF; intro a hF
        refine g_noU hF ⟨_, _, (rfl : _[14]? = some _), rfl, rfl⟩ rfl ?_; clear hF; intro a hF
        refine g_noU hF ⟨_, _, (rfl : _[14]? = some _), rfl, rfl⟩ rfl ?_; clear hF; intro a hF
        refine g_noU hF ⟨_, _, (rfl : _[14]? = some _), rfl, rfl⟩ rfl ?_; clear hF; intro a hF
        refine g_noU hF ⟨_, _, (rfl : _[14]? = some _), rfl, rfl⟩ rfl ?_; clear hF; intro a hF
        refine g_no hF ⟨_, _, (rfl : _[9]? = some _), rfl, rfl⟩ rfl rfl ?_; clear hF; intro a hF
        refine s_pu hF (pu_pick_f rfl rfl rfl) rfl ?_; clear hF; intro a hF
        refine s_pu hF (pu_assign rfl) rfl ?_; clear hF; intro a hF
        refine c_nil ?_
        refine n_then ?_
        refine c_ret (r_block (r_then ?_))
        exact f_ret hF rfl (.tmp rfl (.nil)) (hS.retv (congrArg Value.bool (by rw [right_eq]; simp_all [any_all])))
    · try simp only [decide_eq_true_eq, decide_eq_false_iff_not, Bool.not_eq_true', Bool.not_eq_false', Bool.not_eq_eq_eq_not, Bool.not_true, Bool.not_false] at hc12
      refine c_seq ?_
      refine c_reg ?_
      refine s_pu hF (pu_ieq rfl rfl) rfl ?_; clear hF; intro a hF
      refine s_pu hF (pu_assign rfl) rfl ?_; clear hF; intro a hF
      refine c_nil ?_
      refine n_then ?_
      refine c_if hF rfl (fun hc35 => ?_) (fun hc35 => ?_)
      · try simp only [decide_eq_true_eq, decide_eq_false_iff_not, Bool.not_eq_true', Bool.not_eq_false', Bool.not_eq_eq_eq_not, Bool.not_true, Bool.not_false] at hc35
        refine c_seq ?_
        refine c_reg ?_
        refine s_pu hF (pu_faddr fld37_1 rfl) rfl ?_; clear hF; intro a hF
        refine s_pu hF (o_loadA (i := 0) (new := valC x.v) hS rfl agg34 rfl (rfl)) rfl ?_; clear hF; intro a hF
        refine s_pu hF (pu_build_st (cs := valC v0) strb34 rfl rfl) rfl ?_; clear hF; intro a hF
        refine s_pu hF (pu_aeq (a := x.v) (b := v0) eqV rfl rfl) rfl ?_; clear hF; intro a hF
        refine s_pu hF (pu_move rfl) rfl ?_; clear hF; intro a hF
        refine w_split hF ⟨_, _, (rfl : _[4]? = some _), rfl, rfl⟩ (fun hg7_4 => ?_) (fun hg7_4 => ?_)
        · have hg7_4p := hg7_4
          try simp only [decide_eq_true_eq, decide_eq_false_iff_not, Bool.not_eq_true', Bool.not_eq_false', Bool.not_eq_eq_eq_not, Bool.not_true, Bool.not_false] at hg7_4p
          refine g_pu hF ⟨_, _, (rfl : _[4]? = some _), rfl, rfl⟩ hg7_4 (pu_faddr fld37_2 rfl) rfl ?_; clear hF; intro a hF
          refine g_pu hF ⟨_, _, (rfl : _[4]? = some _), rfl, rfl⟩ hg7_4 (o_load1 (i := 0) hS rfl one9 rfl rfl) rfl ?_; clear hF; intro a hF
          refine g_calld hF hS ⟨_, _, (rfl : _[4]? = some _), rfl, rfl⟩ hg7_4 ok12 rfl (c_Name x.s (by omega) _ h0 hS.base ) rfl ?_; clear hS hF; intro w a hS hF
          refine s_pu hF (pu_pick_t rfl hg7_4 rfl) rfl ?_; clear hF; intro a hF
          refine s_pu hF (pu_assign rfl) rfl ?_; clear hF; intro a hF
          refine c_nil ?_
          refine n_then ?_
          refine c_ret (r_block (r_then ?_))
          exact f_ret hF rfl (.tmp rfl (.nil)) (hS.retv (congrArg Value.bool (by rw [right_eq]; simp_all [any_all])))
        · have hg7_4p := hg7_4
          try simp only [decide_eq_true_eq, decide_eq_false_iff_not, Bool.not_eq_true', Bool.not_eq_false', Bool.not_eq_eq_eq_not, Bool.not_true, Bool.not_false] at hg7_4p
          refine g_no hF ⟨_, _, (rfl : _[4]? = some _), rfl, rfl⟩ hg7_4 rfl ?_; clear hF; intro a hF
          refine g_no hF ⟨_, _, (rfl : _[4]? = some _), rfl, rfl⟩ hg7_4 rfl ?_; clear hF; intro a hF
          refine g_no hF ⟨_, _, (rfl : _[4]? = some _), rfl, rfl⟩ hg7_4 rfl ?_; clear hF; intro a hF
          refine s_pu hF (pu_pick_f rfl hg7_4 rfl) rfl ?_; clear hF; intro a hF
          refine s_pu hF (pu_assign rfl) rfl ?_; clear hF; intro a hF
          refine c_nil ?_
          refine n_then ?_
          refine c_ret (r_block (r_then ?_))
          exact f_ret hF rfl (.tmp rfl (.nil)) (hS.retv (congrArg Value.bool (by rw [right_eq]; simp_all [any_all])))
      · try simp only [decide_eq_true_eq, decide_eq_false_iff_not, Bool.not_eq_true', Bool.not_eq_false', Bool.not_eq_eq_eq_not, Bool.not_true, Bool.not_false] at hc35
        refine c_skip ?_
        refine n_block ?_
        refine n_then ?_
        refine c_seq ?_
        refine c_reg ?_
        refine s_pu hF (pu_faddr fld37_1 rfl) rfl ?_; clear hF; intro a hF
        refine s_pu hF (o_loadA (i := 0) (new := valC x.v) hS rfl agg34 rfl (rfl)) rfl ?_; clear hF; intro a hF
        refine s_pu hF (pu_build_st (cs := valC v0) strb34 rfl rfl) rfl ?_; clear hF; intro a hF
        refine s_pu hF (pu_aeq (a := x.v) (b := v0) eqV rfl rfl) rfl ?_; clear hF; intro a hF
        refine s_pu hF (pu_move rfl) rfl ?_; clear hF; intro a hF
        refine w_split hF ⟨_, _, (rfl : _[4]? = some _), rfl, rfl⟩ (fun hg8_4 => ?_) (fun hg8_4 => ?_)
        · have hg8_4p := hg8_4
          try simp only [decide_eq_true_eq, decide_eq_false_iff_not, Bool.not_eq_true', Bool.not_eq_false', Bool.not_eq_eq_eq_not, Bool.not_true, Bool.not_false] at hg8_4p
          refine g_pu hF ⟨_, _, (rfl : _[4]? = some _), rfl, rfl⟩ hg8_4 (pu_faddr fld37_2 rfl) rfl ?_; clear hF; intro a hF
          refine g_pu hF ⟨_, _, (rfl : _[4]? = some _), rfl, rfl⟩ hg8_4 (o_load1 (i := 0) hS rfl one9 rfl rfl) rfl ?_; clear hF; intro a hF
          refine g_pu hF ⟨_, _, (rfl : _[4]? = some _), rfl, rfl⟩ hg8_4 (pu_seq rfl rfl) rfl ?_; clear hF; intro a hF
          refine s_pu hF (pu_pick_t rfl hg8_4 rfl) rfl ?_; clear hF; intro a hF
          refine s_pu hF (pu_move rfl) rfl ?_; clear hF; intro a hF
          refine w_split hF ⟨_, _, (rfl : _[9]? = some _), rfl, rfl⟩ (fun hg8_9 => ?_) (fun hg8_9 => ?_)
          · have hg8_9p := hg8_9
            try simp only [decide_eq_true_eq, decide_eq_false_iff_not, Bool.not_eq_true', Bool.not_eq_false', Bool.not_eq_eq_eq_not, Bool.not_true, Bool.not_false] at hg8_9p
            refine g_pu hF ⟨_, _, (rfl : _[9]? = some _), rfl, rfl⟩ hg8_9 (pu_faddr fld37_3 rfl) rfl ?_; clear hF; intro a hF
            refine g_pu hF ⟨_, _, (rfl : _[9]? = some _), rfl, rfl⟩ hg8_9 (o_load1 (i := 0) hS rfl one35 rfl rfl) rfl ?_; clear hF; intro a hF
            refine g_calld hF hS ⟨_, _, (rfl : _[9]? = some _), rfl, rfl⟩ hg8_9 ok67 rfl (c_ContainsX ad cap x.l 68 (fun y => !rightS y) ok68 _ h0 hS.base hx.gl (fun y hy ad2 cap2 w2 hv2 hy2 => c_right1 y ad2 cap2 w2 h0 hv2 (fun w3 hv3 => ih y hy ad2 cap2 w3 h0 hv3 hy2))) rfl ?_; clear hS hF; intro w a hS hF
            refine g_pu hF ⟨_, _, (rfl : _[9]? = some _), rfl, rfl⟩ hg8_9 (pu_not rfl) rfl ?_; clear hF; intro a hF
            refine s_pu hF (pu_pick_t rfl hg8_9 rfl) rfl ?_; clear hF; intro a hF
            refine s_pu hF (pu_assign rfl) rfl ?_; clear hF; intro a hF
            refine c_nil ?_
            refine n_then ?_
            refine c_ret ?_
            exact f_ret hF rfl (.tmp rfl (.nil)) (hS.retv (congrArg Value.bool (by rw [right_eq]; simp_all [any_all])))
          · have hg8_9p := hg8_9
            try simp only [decide_eq_true_eq, decide_eq_false_iff_not, Bool.not_eq_true', Bool.not_eq_false', Bool.not_eq_eq_eq_not, Bool.not_true, Bool.not_false] at hg8_9p
            refine g_no hF ⟨_, _, (rfl : _[9]? = some _), rfl, rfl⟩ hg8_9 rfl ?_; clear hF; intro a hF
            refine g_no hF ⟨_, _, (rfl : _[9]? = some _), rfl, rfl⟩ hg8_9 rfl ?_; clear hF; intro a hF
            refine g_no hF ⟨_, _, (rfl : _[9]? = some _), rfl, rfl⟩ hg8_9 rfl ?_; clear hF; intro a hF
            refine g_no hF ⟨_, _, (rfl : _[9]? = some _), rfl, rfl⟩ hg8_9 rfl ?_; clear hF; intro a hF
            refine s_pu hF (pu_pick_f rfl hg8_9 rfl) rfl ?_; clear hF; intro a hF
            refine s_pu hF (pu_assign rfl) rfl ?_; clear hF; intro a hF
            refine c_nil ?_
            refine n_then ?_
            refine c_ret ?_
            exact f_ret hF rfl (.tmp rfl (.nil)) (hS.retv (congrArg Value.bool (by rw [right_eq]; simp_all [any_all])))
        · have hg8_4p := hg8_4
          try simp only [decide_eq_true_eq, decide_eq_false_iff_not, Bool.not_eq_true', Bool.not_eq_false', Bool.not_eq_eq_eq_not, Bool.not_true, Bool.not_false] at hg8_4p
          refine g_no hF ⟨_, _, (rfl : _[4]? = some _), rfl, rfl⟩ hg8_4 rfl ?_; clear hF; intro a hF
          refine g_no hF ⟨_, _, (rfl : _[4]? = some _), rfl, rfl⟩ hg8_4 rfl ?_; clear hF; intro a hF
          refine g_no hF ⟨_, _, (rfl : _[4]? = some _), rfl, rfl⟩ hg8_4 rfl ?_; clear hF; intro a hF
          refine s_pu hF (pu_pick_f rfl hg8_4 rfl) rfl ?_; clear hF; intro a hF
          refine s_pu hF (pu_move rfl) rfl ?_; clear hF; intro a hF
          refine g_no hF ⟨_, _, (rfl : _[9]? = some _), rfl, rfl⟩ rfl rfl ?_; clear hF; intro a hF
          refine g_no hF ⟨_, _, (rfl : _[9]? = some _), rfl, rfl⟩ rfl rfl ?_; clear hF; intro a hF
          refine g_no hF ⟨_, _, (rfl : _[9]? = some _), rfl, rfl⟩ rfl rfl ?_; clear hF; intro a hF
          refine g_no hF ⟨_, _, (rfl : _[9]? = some _), rfl, rfl⟩ rfl rfl ?_; clear hF; intro a hF
          refine s_pu hF (pu_pick_f rfl rfl rfl) rfl ?_; clear hF; intro a hF
          refine s_pu hF (pu_assign rfl) rfl ?_; clear hF; intro a hF
          refine c_nil ?_
          refine n_then ?_
          refine c_ret ?_
          exact f_ret hF rfl (.tmp rfl (.nil)) (hS.retv (congrArg Value.bool (by rw [right_eq]; simp_all [any_all])))
theorem c_right  : ∀ (x : Ex) (ad : Option Addr) (cap : Nat) (w : World) (h0 : View), VLe h0 (Full w) → GX h0 ad cap x → Calls Try.prog 42 #[Value.agg (exC x.op x.v x.s (.slice ad x.l.length cap)).toArray] w (Ret w h0 fun u _ => u = .bool (rightS x))
  | x, ad, cap, w, h0, hv, hx => c_right_  x ad cap (fun y hy ad cap w h0 hv hx => c_right  y ad cap w h0 hv hx) w h0 hv hx
termination_by x => SizeOf.sizeOf x
decreasing_by exact Ex.lt hy

set_option maxHeartbeats 1000000 in
theorem c_sign (op : Int) (w0 : World) (h0 : View) (hv : VLe h0 (Full w0))  : Calls Try.prog 79 #[.int .i64 op] w0 (Ret w0 h0 fun u _ => u = vs (findS op).2.1) := by
  refine f_enter (args := [.int .i64 op]) Try.func79 rfl Try.ntmps79 rfl fun a hF => ?_
  have hS := St.init w0 h0 hv
  refine c_seq ?_
  refine c_reg ?_
  refine s_pu hF (pu_assign rfl) rfl ?_; clear hF; intro a hF
  refine c_nil ?_
  refine n_then ?_
  refine c_seq ?_
  refine c_seq ?_
  refine c_reg ?_
  refine s_pu hF (pu_move rfl) rfl ?_; clear hF; intro a hF
  refine c_nil ?_
  refine n_then ?_
  refine c_block ?_
  refine c_seq ?_
  refine c_reg ?_
  refine s_pu hF (pu_ieq rfl rfl) rfl ?_; clear hF; intro a hF
  refine s_pu hF (pu_assign rfl) rfl ?_; clear hF; intro a hF
  refine c_nil ?_
  refine n_then ?_
  refine c_if hF rfl (fun hc4 => ?_) (fun hc4 => ?_)
  · try simp only [decide_eq_true_eq, decide_eq_false_iff_not, Bool.not_eq_true', Bool.not_eq_false', Bool.not_eq_eq_eq_not, Bool.not_true, Bool.not_false] at hc4
    refine c_seq ?_
    refine c_reg ?_
    refine s_pu hF (pu_assign rfl) rfl ?_; clear hF; intro a hF
    refine c_nil ?_
    refine n_then ?_
    refine c_ret (r_block (r_then ?_))
    exact f_ret hF rfl (.tmp rfl (.nil)) (hS.retv (by first | (subst_vars; rfl) | (rw [find_none op (fun j hj => bin_other op (by omega) j hj)]; rfl)))
  · try simp only [decide_eq_true_eq, decide_eq_false_iff_not, Bool.not_eq_true', Bool.not_eq_false', Bool.not_eq_eq_eq_not, Bool.not_true, Bool.not_false] at hc4
    refine c_seq ?_
    refine c_reg ?_
    refine s_pu hF (pu_ieq rfl rfl) rfl ?_; clear hF; intro a hF
    refine s_pu hF (pu_assign rfl) rfl ?_; clear hF; intro a hF
    refine c_nil ?_
    refine n_then ?_
    refine c_if hF rfl (fun hc6 => ?_) (fun hc6 => ?_)
    · try simp only [decide_eq_true_eq, decide_eq_false_iff_not, Bool.not_eq_true', Bool.not_eq_false', Bool.not_eq_eq_eq_not, Bool.not_true, Bool.not_false] at hc6
      refine c_seq ?_
      refine c_reg ?_
      refine s_pu hF (pu_assign rfl) rfl ?_; clear hF; intro a hF
      refine c_nil ?_
      refine n_then ?_
      refine c_ret (r_block (r_then ?_))
      exact f_ret hF rfl (.tmp rfl (.nil)) (hS.retv (by first | (subst_vars; rfl) | (rw [find_none op (fun j hj => bin_other op (by omega) j hj)]; rfl)))
    · try simp only [decide_eq_true_eq, decide_eq_false_iff_not, Bool.not_eq_true', Bool.not_eq_false', Bool.not_eq_eq_eq_not, Bool.not_true, Bool.not_false] at hc6
      refine c_seq ?_
      refine c_reg ?_
      refine s_pu hF (pu_ieq rfl rfl) rfl ?_; clear hF; intro a hF
      refine s_pu hF (pu_assign rfl) rfl ?_; clear hF; intro a hF
      refine c_nil ?_
      refine n_then ?_
      refine c_if hF rfl (fun hc8 => ?_) (fun hc8 => ?_)
      · try simp only [decide_eq_true_eq, decide_eq_false_iff_not, Bool.not_eq_true', Bool.not_eq_false', Bool.not_eq_eq_eq_not, Bool.not_true, Bool.not_false] at hc8
        refine c_seq ?_
        refine c_reg ?_
        refine s_pu hF (pu_assign rfl) rfl ?_; clear hF; intro a hF
        refine c_nil ?_
        refine n_then ?_
        refine c_ret (r_block (r_then ?_))
        exact f_ret hF rfl (.tmp rfl (.nil)) (hS.retv (by first | (subst_vars; rfl) | (rw [find_none op (fun j hj => bin_other op (by omega) j hj)]; rfl)))
      · try simp only [decide_eq_true_eq, decide_eq_false_iff_not, Bool.not_eq_true', Bool.not_eq_false', Bool.not_eq_eq_eq_not, Bool.not_true, Bool.not_false] at hc8
        refine c_seq ?_
        refine c_reg ?_
        refine s_pu hF (pu_ieq rfl rfl) rfl ?_; clear hF; intro a hF
        refine s_pu hF (pu_assign rfl) rfl ?_; clear hF; intro a hF
        refine c_nil ?_
        refine n_then ?_
        refine c_if hF rfl (fun hc10 => ?_) (fun hc10 => ?_)
        · try simp only [decide_eq_true_eq, decide_eq_false_iff_not, Bool.not_eq_true', Bool.not_eq_false', Bool.not_eq_eq_eq_not, Bool.not_true, Bool.not_false] at hc10
          refine c_seq ?_
          refine c_reg ?_
          refine s_pu hF (pu_assign rfl) rfl ?_; clear hF; intro a hF
          refine c_nil ?_
          refine n_then ?_
          refine c_ret (r_block (r_then ?_))
          exact f_ret hF rfl (.tmp rfl (.nil)) (hS.retv (by first | (subst_vars; rfl) | (rw [find_none op (fun j hj => bin_other op (by omega) j hj)]; rfl)))
        · try simp only [decide_eq_true_eq, decide_eq_false_iff_not, Bool.not_eq_true', Bool.not_eq_false', Bool.not_eq_eq_eq_not, Bool.not_true, Bool.not_false] at hc10
          refine c_seq ?_
          refine c_reg ?_
          refine s_pu hF (pu_ieq rfl rfl) rfl ?_; clear hF; intro a hF
          refine s_pu hF (pu_assign rfl) rfl ?_; clear hF; intro a hF
          refine c_nil ?_
          refine n_then ?_
          refine c_if hF rfl (fun hc12 => ?_) (fun hc12 => ?_)
          · try simp only [decide_eq_true_eq, decide_eq_false_iff_not, Bool.not_eq_true', Bool.not_eq_false', Bool.not_eq_eq_eq_not, Bool.not_true, Bool.not_false] at hc12
            refine c_seq ?_
            refine c_reg ?_
            refine s_pu hF (pu_assign rfl) rfl ?_; clear hF; intro a hF
            refine c_nil ?_
            refine n_then ?_
            refine c_ret (r_block (r_then ?_))
            exact f_ret hF rfl (.tmp rfl (.nil)) (hS.retv (by first | (subst_vars; rfl) | (rw [find_none op (fun j hj => bin_other op (by omega) j hj)]; rfl)))
          · try simp only [decide_eq_true_eq, decide_eq_false_iff_not, Bool.not_eq_true', Bool.not_eq_false', Bool.not_eq_eq_eq_not, Bool.not_true, Bool.not_false] at hc12
            refine c_seq ?_
            refine c_reg ?_
            refine s_pu hF (pu_ieq rfl rfl) rfl ?_; clear hF; intro a hF
            refine s_pu hF (pu_assign rfl) rfl ?_; clear hF; intro a hF
            refine c_nil ?_
            refine n_then ?_
            refine c_if hF rfl (fun hc14 => ?_) (fun hc14 => ?_)
            · try simp only [decide_eq_true_eq, decide_eq_false_iff_not, Bool.not_eq_true', Bool.not_eq_false', Bool.not_eq_eq_eq_not, Bool.not_true, Bool.not_false] at hc14
              refine c_seq ?_
              refine c_reg ?_
              refine s_pu hF (pu_assign rfl) rfl ?_; clear hF; intro a hF
              refine c_nil ?_
              refine n_then ?_
              refine c_ret (r_block (r_then ?_))
              exact f_ret hF rfl (.tmp rfl (.nil)) (hS.retv (by first | (subst_vars; rfl) | (rw [find_none op (fun j hj => bin_other op (by omega) j hj)]; rfl)))
            · try simp only [decide_eq_true_eq, decide_eq_false_iff_not, Bool.not_eq_true', Bool.not_eq_false', Bool.not_eq_eq_eq_not, Bool.not_true, Bool.not_false] at hc14
              refine c_seq ?_
              refine c_reg ?_
              refine s_pu hF (pu_ieq rfl rfl) rfl ?_; clear hF; intro a hF
              refine s_pu hF (pu_assign rfl) rfl ?_; clear hF; intro a hF
              refine c_nil ?_
              refine n_then ?_
              refine c_if hF rfl (fun hc16 => ?_) (fun hc16 => ?_)
              · try simp only [decide_eq_true_eq, decide_eq_false_iff_not, Bool.not_eq_true', Bool.not_eq_false', Bool.not_eq_eq_eq_not, Bool.not_true, Bool.not_false] at hc16
                refine c_seq ?_
                refine c_reg ?_
                refine s_pu hF (pu_assign rfl) rfl ?_; clear hF; intro a hF
                refine c_nil ?_
                refine n_then ?_
                refine c_ret (r_block (r_then ?_))
                exact f_ret hF rfl (.tmp rfl (.nil)) (hS.retv (by first | (subst_vars; rfl) | (rw [find_none op (fun j hj => bin_other op (by omega) j hj)]; rfl)))
              · try simp only [decide_eq_true_eq, decide_eq_false_iff_not, Bool.not_eq_true', Bool.not_eq_false', Bool.not_eq_eq_eq_not, Bool.not_true, Bool.not_false] at hc16
                refine c_seq ?_
                refine c_reg ?_
                refine s_pu hF (pu_ieq rfl rfl) rfl ?_; clear hF; intro a hF
                refine s_pu hF (pu_assign rfl) rfl ?_; clear hF; intro a hF
                refine c_nil ?_
                refine n_then ?_
                refine c_if hF rfl (fun hc18 => ?_) (fun hc18 => ?_)
                · try simp only [decide_eq_true_eq, decide_eq_false_iff_not, Bool.not_eq_true', Bool.not_eq_false', Bool.not_eq_eq_eq_not, Bool.not_true, Bool.not_false] at hc18
                  refine c_seq ?_
                  refine c_reg ?_
                  refine s_pu hF (pu_assign rfl) rfl ?_; clear hF; intro a hF
                  refine c_nil ?_
                  refine n_then ?_
                  refine c_ret (r_block (r_then ?_))
                  exact f_ret hF rfl (.tmp rfl (.nil)) (hS.retv (by first | (subst_vars; rfl) | (rw [find_none op (fun j hj => bin_other op (by omega) j hj)]; rfl)))
                · try simp only [decide_eq_true_eq, decide_eq_false_iff_not, Bool.not_eq_true', Bool.not_eq_false', Bool.not_eq_eq_eq_not, Bool.not_true, Bool.not_false] at hc18
                  refine c_seq ?_
                  refine c_reg ?_
                  refine s_pu hF (pu_ieq rfl rfl) rfl ?_; clear hF; intro a hF
                  refine s_pu hF (pu_assign rfl) rfl ?_; clear hF; intro a hF
                  refine c_nil ?_
                  refine n_then ?_
                  refine c_if hF rfl (fun hc20 => ?_) (fun hc20 => ?_)
                  · try simp only [decide_eq_true_eq, decide_eq_false_iff_not, Bool.not_eq_true', Bool.not_eq_false', Bool.not_eq_eq_eq_not, Bool.not_true, Bool.not_false] at hc20
                    refine c_seq ?_
                    refine c_reg ?_
                    refine s_pu hF (pu_assign rfl) rfl ?_; clear hF; intro a hF
                    refine c_nil ?_
                    refine n_then ?_
                    refine c_ret (r_block (r_then ?_))
                    exact f_ret hF rfl (.tmp rfl (.nil)) (hS.retv (by first | (subst_vars; rfl) | (rw [find_none op (fun j hj => bin_other op (by omega) j hj)]; rfl)))
                  · try simp only [decide_eq_true_eq, decide_eq_false_iff_not, Bool.not_eq_true', Bool.not_eq_false', Bool.not_eq_eq_eq_not, Bool.not_true, Bool.not_false] at hc20
                    refine c_seq ?_
                    refine c_reg ?_
                    refine s_pu hF (pu_ieq rfl rfl) rfl ?_; clear hF; intro a hF
                    refine s_pu hF (pu_assign rfl) rfl ?_; clear hF; intro a hF
                    refine c_nil ?_
                    refine n_then ?_
                    refine c_if hF rfl (fun hc22 => ?_) (fun hc22 => ?_)
                    · try simp only [decide_eq_true_eq, decide_eq_false_iff_not, Bool.not_eq_true', Bool.not_eq_false', Bool.not_eq_eq_eq_not, Bool.not_true, Bool.not_false] at hc22
                      refine c_seq ?_
                      refine c_reg ?_
                      refine s_pu hF (pu_assign rfl) rfl ?_; clear hF; intro a hF
                      refine c_nil ?_
                      refine n_then ?_
                      refine c_ret (r_block (r_then ?_))
                      exact f_ret hF rfl (.tmp rfl (.nil)) (hS.retv (by first | (subst_vars; rfl) | (rw [find_none op (fun j hj => bin_other op (by omega) j hj)]; rfl)))
                    · try simp only [decide_eq_true_eq, decide_eq_false_iff_not, Bool.not_eq_true', Bool.not_eq_false', Bool.not_eq_eq_eq_not, Bool.not_true, Bool.not_false] at hc22
                      refine c_seq ?_
                      refine c_reg ?_
                      refine s_pu hF (pu_ieq rfl rfl) rfl ?_; clear hF; intro a hF
                      refine s_pu hF (pu_assign rfl) rfl ?_; clear hF; intro a hF
                      refine c_nil ?_
                      refine n_then ?_
                      refine c_if hF rfl (fun hc24 => ?_) (fun hc24 => ?_)
                      · try simp only [decide_eq_true_eq, decide_eq_false_iff_not, Bool.not_eq_true', Bool.not_eq_false', Bool.not_eq_eq_eq_not, Bool.not_true, Bool.not_false] at hc24
                        refine c_seq ?_
                        refine c_reg ?_
                        refine s_pu hF (pu_assign rfl) rfl ?_; clear hF; intro a hF
                        refine c_nil ?_
                        refine n_then ?_
                        refine c_ret (r_block (r_then ?_))
                        exact f_ret hF rfl (.tmp rfl (.nil)) (hS.retv (by first | (subst_vars; rfl) | (rw [find_none op (fun j hj => bin_other op (by omega) j hj)]; rfl)))
                      · try simp only [decide_eq_true_eq, decide_eq_false_iff_not, Bool.not_eq_true', Bool.not_eq_false', Bool.not_eq_eq_eq_not, Bool.not_true, Bool.not_false] at hc24
                        refine c_seq ?_
                        refine c_reg ?_
                        refine s_pu hF (pu_ieq rfl rfl) rfl ?_; clear hF; intro a hF
                        refine s_pu hF (pu_assign rfl) rfl ?_; clear hF; intro a hF
                        refine c_nil ?_
                        refine n_then ?_
                        refine c_if hF rfl (fun hc26 => ?_) (fun hc26 => ?_)
                        · try simp only [decide_eq_true_eq, decide_eq_false_iff_not, Bool.not_eq_true', Bool.not_eq_false', Bool.not_eq_eq_eq_not, Bool.not_true, Bool.not_false] at hc26
                          refine c_seq ?_
                          refine c_reg ?_
                          refine s_pu hF (pu_assign rfl) rfl ?_; clear hF; intro a hF
                          refine c_nil ?_
                          refine n_then ?_
                          refine c_ret (r_block (r_then ?_))
                          exact f_ret hF rfl (.tmp rfl (.nil)) (hS.retv (by first | (subst_vars; rfl) | (rw [find_none op (fun j hj => bin_other op (by omega) j hj)]; rfl)))
                        · try simp only [decide_eq_true_eq, decide_eq_false_iff_not, Bool.not_eq_true', Bool.not_eq_false', Bool.not_eq_eq_eq_not, Bool.not_true, Bool.not_false] at hc26
                          refine c_skip ?_
                          refine n_block ?_
                          refine n_then ?_
                          refine c_seq ?_
                          refine c_reg ?_
                          refine s_pu hF (pu_assign rfl) rfl ?_; clear hF; intro a hF
                          refine c_nil ?_
                          refine n_then ?_
                          refine c_ret ?_
                          exact f_ret hF rfl (.tmp rfl (.nil)) (hS.retv (by first | (subst_vars; rfl) | (rw [find_none op (fun j hj => bin_other op (by omega) j hj)]; rfl)))
theorem c_Rcount (op : Int) (w0 : World) (h0 : View) (hv : VLe h0 (Full w0))  : Calls Try.prog 60 #[.int .i64 op] w0 (Ret w0 h0 fun u _ => u = .int .i64 (cntS op)) := by
  refine f_enter (args := [.int .i64 op]) Try.func60 rfl Try.ntmps60 rfl fun a hF => ?_
  have hS := St.init w0 h0 hv
  refine c_seq ?_
  refine c_reg ?_
  refine s_pu hF (pu_assign rfl) rfl ?_; clear hF; intro a hF
  refine c_nil ?_
  refine n_then ?_
  refine c_seq ?_
  refine c_block ?_
  refine c_seq ?_
  refine c_reg ?_
  refine s_pu hF (pu_move rfl) rfl ?_; clear hF; intro a hF
  refine s_pu hF (pu_ieq rfl rfl) rfl ?_; clear hF; intro a hF
  refine s_pu hF (pu_move rfl) rfl ?_; clear hF; intro a hF
  refine w_split hF ⟨_, _, (rfl : _[2]? = some _), rfl, rfl⟩ (fun hg1_2 => ?_) (fun hg1_2 => ?_)
  · have hg1_2p := hg1_2
    try simp only [decide_eq_true_eq, decide_eq_false_iff_not, Bool.not_eq_true', Bool.not_eq_false', Bool.not_eq_eq_eq_not, Bool.not_true, Bool.not_false] at hg1_2p
    refine g_no hF ⟨_, _, (rfl : _[2]? = some _), rfl, rfl⟩ hg1_2 rfl ?_; clear hF; intro a hF
    refine g_no hF ⟨_, _, (rfl : _[2]? = some _), rfl, rfl⟩ hg1_2 rfl ?_; clear hF; intro a hF
    refine s_pu hF (pu_pick_t rfl hg1_2 rfl) rfl ?_; clear hF; intro a hF
    refine s_pu hF (pu_assign rfl) rfl ?_; clear hF; intro a hF
    refine c_nil ?_
    refine n_then ?_
    refine c_ift hF rfl rfl ?_
    refine c_seq ?_
    refine c_reg ?_
    refine s_pu hF (pu_assign rfl) rfl ?_; clear hF; intro a hF
    refine c_nil ?_
    refine n_then ?_
    refine c_ret (r_block (r_then ?_))
    exact f_ret hF rfl (.tmp rfl (.nil)) (hS.retv (congrArg (Value.int .i64) (by simp_all [cntS] <;> (intros; omega))))
  · have hg1_2p := hg1_2
    try simp only [decide_eq_true_eq, decide_eq_false_iff_not, Bool.not_eq_true', Bool.not_eq_false', Bool.not_eq_eq_eq_not, Bool.not_true, Bool.not_false] at hg1_2p
    refine g_pu hF ⟨_, _, (rfl : _[2]? = some _), rfl, rfl⟩ hg1_2 (pu_move rfl) rfl ?_; clear hF; intro a hF
    refine g_pu hF ⟨_, _, (rfl : _[2]? = some _), rfl, rfl⟩ hg1_2 (pu_ieq rfl rfl) rfl ?_; clear hF; intro a hF
    refine s_pu hF (pu_pick_f rfl hg1_2 rfl) rfl ?_; clear hF; intro a hF
    refine s_pu hF (pu_assign rfl) rfl ?_; clear hF; intro a hF
    refine c_nil ?_
    refine n_then ?_
    refine c_if hF rfl (fun hc3 => ?_) (fun hc3 => ?_)
    · try simp only [decide_eq_true_eq, decide_eq_false_iff_not, Bool.not_eq_true', Bool.not_eq_false', Bool.not_eq_eq_eq_not, Bool.not_true, Bool.not_false] at hc3
      refine c_seq ?_
      refine c_reg ?_
      refine s_pu hF (pu_assign rfl) rfl ?_; clear hF; intro a hF
      refine c_nil ?_
      refine n_then ?_
      refine c_ret (r_block (r_then ?_))
      exact f_ret hF rfl (.tmp rfl (.nil)) (hS.retv (congrArg (Value.int .i64) (by simp_all [cntS] <;> (intros; omega))))
    · try simp only [decide_eq_true_eq, decide_eq_false_iff_not, Bool.not_eq_true', Bool.not_eq_false', Bool.not_eq_eq_eq_not, Bool.not_true, Bool.not_false] at hc3
      refine c_seq ?_
      refine c_reg ?_
      refine s_pu hF (pu_move rfl) rfl ?_; clear hF; intro a hF
      refine s_pu hF (pu_ieq rfl rfl) rfl ?_; clear hF; intro a hF
      refine s_pu hF (pu_assign rfl) rfl ?_; clear hF; intro a hF
      refine c_nil ?_
      refine n_then ?_
      refine c_if hF rfl (fun hc10 => ?_) (fun hc10 => ?_)
      · try simp only [decide_eq_true_eq, decide_eq_false_iff_not, Bool.not_eq_true', Bool.not_eq_false', Bool.not_eq_eq_eq_not, Bool.not_true, Bool.not_false] at hc10
        refine c_seq ?_
        refine c_reg ?_
        refine s_pu hF (pu_assign rfl) rfl ?_; clear hF; intro a hF
        refine c_nil ?_
        refine n_then ?_
        refine c_ret (r_block (r_then ?_))
        exact f_ret hF rfl (.tmp rfl (.nil)) (hS.retv (congrArg (Value.int .i64) (by simp_all [cntS] <;> (intros; omega))))
      · try simp only [decide_eq_true_eq, decide_eq_false_iff_not, Bool.not_eq_true', Bool.not_eq_false', Bool.not_eq_eq_eq_not, Bool.not_true, Bool.not_false] at hc10
        refine c_seq ?_
        refine c_reg ?_
        refine s_pu hF (pu_move rfl) rfl ?_; clear hF; intro a hF
        refine s_pu hF (pu_ieq rfl rfl) rfl ?_; clear hF; intro a hF
        refine s_pu hF (pu_assign rfl) rfl ?_; clear hF; intro a hF
        refine c_nil ?_
        refine n_then ?_
        refine c_if hF rfl (fun hc13 => ?_) (fun hc13 => ?_)
        · try simp only [decide_eq_true_eq, decide_eq_false_iff_not, Bool.not_eq_true', Bool.not_eq_false', Bool.not_eq_eq_eq_not, Bool.not_true, Bool.not_false] at hc13
          refine c_seq ?_
          refine c_reg ?_
          refine s_pu hF (pu_assign rfl) rfl ?_; clear hF; intro a hF
          refine c_nil ?_
          refine n_then ?_
          refine c_ret (r_block (r_then ?_))
          exact f_ret hF rfl (.tmp rfl (.nil)) (hS.retv (congrArg (Value.int .i64) (by simp_all [cntS] <;> (intros; omega))))
        · try simp only [decide_eq_true_eq, decide_eq_false_iff_not, Bool.not_eq_true', Bool.not_eq_false', Bool.not_eq_eq_eq_not, Bool.not_true, Bool.not_false] at hc13
          refine c_seq ?_
          refine c_reg ?_
          refine s_pu hF (pu_move rfl) rfl ?_; clear hF; intro a hF
          refine s_callv hF hS ok79 rfl (c_sign op _ _ hS.view) rfl ?_; clear hS hF; intro w a hS hF
          refine s_pu hF (pu_sne rfl rfl) rfl ?_; clear hF; intro a hF
          refine s_pu hF (pu_assign rfl) rfl ?_; clear hF; intro a hF
          refine c_nil ?_
          refine n_then ?_
          refine c_if hF rfl (fun hc16 => ?_) (fun hc16 => ?_)
          · try simp only [decide_eq_true_eq, decide_eq_false_iff_not, Bool.not_eq_true', Bool.not_eq_false', Bool.not_eq_eq_eq_not, Bool.not_true, Bool.not_false] at hc16
            rw [find_sgn] at hc16
            refine c_seq ?_
            refine c_reg ?_
            refine s_pu hF (pu_assign rfl) rfl ?_; clear hF; intro a hF
            refine c_nil ?_
            refine n_then ?_
            refine c_ret (r_block (r_then ?_))
            exact f_ret hF rfl (.tmp rfl (.nil)) (hS.retv (congrArg (Value.int .i64) (by simp_all [cntS] <;> (intros; omega))))
          · try simp only [decide_eq_true_eq, decide_eq_false_iff_not, Bool.not_eq_true', Bool.not_eq_false', Bool.not_eq_eq_eq_not, Bool.not_true, Bool.not_false] at hc16
            rw [find_sgn] at hc16
            refine c_skip ?_
            refine n_block ?_
            refine n_then ?_
            refine c_seq ?_
            refine c_reg ?_
            refine s_pu hF (pu_assign rfl) rfl ?_; clear hF; intro a hF
            refine c_nil ?_
            refine n_then ?_
            refine c_ret ?_
            exact f_ret hF rfl (.tmp rfl (.nil)) (hS.retv (congrArg (Value.int .i64) (by simp_all [cntS] <;> (intros; omega))))
set_option maxHeartbeats 1000000 in
theorem c_RRightX_ (x : Ex) (ad : Option Addr) (cap : Nat) (ih : ∀ y ∈ x.l, ∀ (ad : Option Addr) (cap : Nat) (w : World) (h0 : View), VLe h0 (Full w) → GX h0 ad cap y → Calls Try.prog 38 #[Value.agg (exC y.op y.v y.s (.slice ad y.l.length cap)).toArray] w (Ret w h0 fun u _ => u = .bool (rightS y))) (w0 : World) (h0 : View) (hv : VLe h0 (Full w0)) (hx : GX h0 ad cap x) : Calls Try.prog 38 #[Value.agg (exC x.op x.v x.s (.slice ad x.l.length cap)).toArray] w0 (Ret w0 h0 fun u _ => u = .bool (rightS x)) := by
  refine f_enter (args := [Value.agg (exC x.op x.v x.s (.slice ad x.l.length cap)).toArray]) Try.func38 rfl Try.ntmps38 rfl fun a hF => ?_
  have hS := St.init w0 h0 hv
  have hsm := hx.sm.parts
  have hlm := hx.xl.lm
  refine c_seq ?_
  refine c_reg ?_
  refine s_box hF hS rfl rfl rfl ?_; clear hS hF; intro b0 w a hS hF
  refine s_pu hF (pu_assign rfl) rfl ?_; clear hF; intro a hF
  refine c_nil ?_
  refine n_then ?_
  refine c_seq ?_
  refine c_seq ?_
  refine region_st 7 hF hS (allV_ne rfl) mix (by kernel_rfl) fun Γ hG => ?_
  refine t_pu hG (fun w hC => pu_faddr fld37_3 rfl) ?_; clear hG; intro Γ hG
  refine t_pu hG (fun w hC => o_load1 (i := 0) hC.st rfl one35 rfl rfl) ?_; clear hG; intro Γ hG
  refine t_pu hG (fun w hC => pu_len_sl tyL35 rfl rfl) ?_; clear hG; intro Γ hG
  refine t_pu hG (fun w hC => pu_faddr fld37_0 rfl) ?_; clear hG; intro Γ hG
  refine t_pu hG (fun w hC => o_load1 (i := 0) hC.st rfl one31 rfl rfl) ?_; clear hG; intro Γ hG
  refine t_callv hG ok60 rfl (fun w hS => (c_Rcount _ _ _ hS.view)) ?_; clear hG; intro Γ hG
  refine t_pu hG (fun w hC => pu_ine rfl rfl) ?_; clear hG; intro Γ hG
  refine t_end hG ?_; clear hG hF; intro a w hC hE hF hP; replace hS := hC.st; clear hC
  clear hE
  clear hP
  refine c_nil ?_
  refine n_then ?_
  refine c_if hF rfl (fun hc10 => ?_) (fun hc10 => ?_)
  · try simp only [decide_eq_true_eq, decide_eq_false_iff_not, Bool.not_eq_true', Bool.not_eq_false', Bool.not_eq_eq_eq_not, Bool.not_true, Bool.not_false] at hc10
    refine c_seq ?_
    refine c_reg ?_
    refine s_pu hF (pu_assign rfl) rfl ?_; clear hF; intro a hF
    refine c_nil ?_
    refine n_then ?_
    refine c_ret (r_then ?_)
    exact f_ret hF rfl (.tmp rfl (.nil)) (hS.retv (congrArg Value.bool (by rw [right_eq]; simp_all)))
  · try simp only [decide_eq_true_eq, decide_eq_false_iff_not, Bool.not_eq_true', Bool.not_eq_false', Bool.not_eq_eq_eq_not, Bool.not_true, Bool.not_false] at hc10
    refine c_skip ?_
    refine n_then ?_
    refine c_seq ?_
    refine c_seq ?_
    refine c_reg ?_
    refine s_pu hF (pu_faddr fld37_0 rfl) rfl ?_; clear hF; intro a hF
    refine s_pu hF (o_load1 (i := 0) hS rfl one31 rfl rfl) rfl ?_; clear hF; intro a hF
    refine c_nil ?_
    refine n_then ?_
    refine c_block ?_
    refine c_seq ?_
    refine c_reg ?_
    refine s_pu hF (pu_ieq rfl rfl) rfl ?_; clear hF; intro a hF
    refine s_pu hF (pu_assign rfl) rfl ?_; clear hF; intro a hF
    refine c_nil ?_
    refine n_then ?_
    refine c_if hF rfl (fun hc13 => ?_) (fun hc13 => ?_)
    · try simp only [decide_eq_true_eq, decide_eq_false_iff_not, Bool.not_eq_true', Bool.not_eq_false', Bool.not_eq_eq_eq_not, Bool.not_true, Bool.not_false] at hc13
      refine c_seq ?_
      refine c_reg ?_
      refine s_pu hF (pu_faddr fld37_2 rfl) rfl ?_; clear hF; intro a hF
      refine s_pu hF (o_load1 (i := 0) hS rfl one9 rfl rfl) rfl ?_; clear hF; intro a hF
      refine s_pu hF (pu_seq rfl rfl) rfl ?_; clear hF; intro a hF
      refine s_pu hF (pu_move rfl) rfl ?_; clear hF; intro a hF
      refine w_split hF ⟨_, _, (rfl : _[3]? = some _), rfl, rfl⟩ (fun hg5_3 => ?_) (fun hg5_3 => ?_)
      · have hg5_3p := hg5_3
        try simp only [decide_eq_true_eq, decide_eq_false_iff_not, Bool.not_eq_true', Bool.not_eq_false', Bool.not_eq_eq_eq_not, Bool.not_true, Bool.not_false] at hg5_3p
        refine g_pu hF ⟨_, _, (rfl : _[3]? = some _), rfl, rfl⟩ hg5_3 (pu_faddr fld37_1 rfl) rfl ?_; clear hF; intro a hF
        refine g_pu hF ⟨_, _, (rfl : _[3]? = some _), rfl, rfl⟩ hg5_3 (o_loadA (i := 0) (new := valC x.v) hS rfl agg34 rfl (rfl)) rfl ?_; clear hF; intro a hF
        refine g_calld hF hS ⟨_, _, (rfl : _[3]? = some _), rfl, rfl⟩ hg5_3 ok61 rfl (c_RRight x.v (by omega) _ h0 hS.base ) rfl ?_; clear hS hF; intro w a hS hF
        refine s_pu hF (pu_pick_t rfl hg5_3 rfl) rfl ?_; clear hF; intro a hF
        refine s_pu hF (pu_move rfl) rfl ?_; clear hF; intro a hF
        refine w_split hF ⟨_, _, (rfl : _[8]? = some _), rfl, rfl⟩ (fun hg5_8 => ?_) (fun hg5_8 => ?_)
        · have hg5_8p := hg5_8
          try simp only [decide_eq_true_eq, decide_eq_false_iff_not, Bool.not_eq_true', Bool.not_eq_false', Bool.not_eq_eq_eq_not, Bool.not_true, Bool.not_false] at hg5_8p
          refine g_pu hF ⟨_, _, (rfl : _[8]? = some _), rfl, rfl⟩ hg5_8 (pu_faddr fld37_1 rfl) rfl ?_; clear hF; intro a hF
          refine g_pu hF ⟨_, _, (rfl : _[8]? = some _), rfl, rfl⟩ hg5_8 (pu_faddr fld34_0 rfl) rfl ?_; clear hF; intro a hF
          refine g_pu hF ⟨_, _, (rfl : _[8]? = some _), rfl, rfl⟩ hg5_8 (o_load1 (i := 0) hS rfl one32 rfl rfl) rfl ?_; clear hF; intro a hF
          refine g_pu hF ⟨_, _, (rfl : _[8]? = some _), rfl, rfl⟩ hg5_8 (pu_ine rfl rfl) rfl ?_; clear hF; intro a hF
          refine g_pu hF ⟨_, _, (rfl : _[8]? = some _), rfl, rfl⟩ hg5_8 (pu_move rfl) rfl ?_; clear hF; intro a hF
          refine w_split hF ⟨_, _, (rfl : _[13]? = some _), rfl, rfl⟩ (fun hg5_13 => ?_) (fun hg5_13 => ?_)
          · have hg5_13p := hg5_13
            try simp only [decide_eq_true_eq, decide_eq_false_iff_not, Bool.not_eq_true', Bool.not_eq_false', Bool.not_eq_eq_eq_not, Bool.not_true, Bool.not_false] at hg5_13p
            refine g_no hF ⟨_, _, (rfl : _[13]? = some _), rfl, rfl⟩ hg5_13 rfl ?_; clear hF; intro a hF
            refine g_no hF ⟨_, _, (rfl : _[13]? = some _), rfl, rfl⟩ hg5_13 rfl ?_; clear hF; intro a hF
            refine g_no hF ⟨_, _, (rfl : _[13]? = some _), rfl, rfl⟩ hg5_13 rfl ?_; clear hF; intro a hF
            refine g_no hF ⟨_, _, (rfl : _[13]? = some _), rfl, rfl⟩ hg5_13 rfl ?_; clear hF; intro a hF
            refine g_pu hF ⟨_, _, (rfl : _[8]? = some _), rfl, rfl⟩ hg5_8 (pu_pick_t rfl hg5_13 rfl) rfl ?_; clear hF; intro a hF
            refine s_pu hF (pu_pick_t rfl hg5_8 rfl) rfl ?_; clear hF; intro a hF
            refine s_pu hF (pu_assign rfl) rfl ?_; clear hF; intro a hF
            refine c_nil ?_
            refine n_then ?_
            refine c_ret (r_block (r_then ?_))
            exact f_ret hF rfl (.tmp rfl (.nil)) (hS.retv (congrArg Value.bool (by rw [right_eq]; simp_all)))
          · have hg5_13p := hg5_13
            try simp only [decide_eq_true_eq, decide_eq_false_iff_not, Bool.not_eq_true', Bool.not_eq_false', Bool.not_eq_eq_eq_not, Bool.not_true, Bool.not_false] at hg5_13p
            refine g_pu hF ⟨_, _, (rfl : _[13]? = some _), rfl, rfl⟩ hg5_13 (pu_faddr fld37_1 rfl) rfl ?_; clear hF; intro a hF
            refine g_pu hF ⟨_, _, (rfl : _[13]? = some _), rfl, rfl⟩ hg5_13 (pu_faddr fld34_1 rfl) rfl ?_; clear hF; intro a hF
            refine g_pu hF ⟨_, _, (rfl : _[13]? = some _), rfl, rfl⟩ hg5_13 (o_load1 (i := 0) hS rfl one3 rfl rfl) rfl ?_; clear hF; intro a hF
            refine g_pu hF ⟨_, _, (rfl : _[13]? = some _), rfl, rfl⟩ hg5_13 (pu_ige rfl rfl) rfl ?_; clear hF; intro a hF
            refine g_pu hF ⟨_, _, (rfl : _[8]? = some _), rfl, rfl⟩ hg5_8 (pu_pick_f rfl hg5_13 rfl) rfl ?_; clear hF; intro a hF
            refine s_pu hF (pu_pick_t rfl hg5_8 rfl) rfl ?_; clear hF; intro a hF
            refine s_pu hF (pu_assign rfl) rfl ?_; clear hF; intro a hF
            refine c_nil ?_
            refine n_then ?_
            refine c_ret (r_block (r_then ?_))
            exact f_ret hF rfl (.tmp rfl (.nil)) (hS.retv (congrArg Value.bool (by rw [right_eq]; simp_all)))
        · have hg5_8p := hg5_8
          try simp only [decide_eq_true_eq, decide_eq_false_iff_not, Bool.not_eq_true', Bool.not_eq_false', Bool.not_eq_eq_eq_not, Bool.not_true, Bool.not_false] at hg5_8p
          refine g_no hF ⟨_, _, (rfl : _[8]? = some _), rfl, rfl⟩ hg5_8 rfl ?_; clear hF; intro a hF
          refine g_no hF ⟨_, _, (rfl : _[8]? = some _), rfl, rfl⟩ hg5_8 rfl ?_; clear hF; intro a hF
          refine g_no hF ⟨_, _, (rfl : _[8]? = some _), rfl, rfl⟩ hg5_8 rfl ?_; clear hF; intro a hF
          refine g_no hF ⟨_, _, (rfl : _[8]? = some _), rfl, rfl⟩ hg5_8 rfl ?_; clear hF; intro a hF
          refine g_no hF ⟨_, _, (rfl : _[8]? = some _), rfl, rfl⟩ hg5_8 rfl ?_; clear hF; intro a hF
          refine g_noU hF ⟨_, _, (rfl : _[13]? = some _), rfl, rfl⟩ rfl ?_; clear hF; intro a hF
          refine g_noU hF ⟨_, _, (rfl : _[13]? = some _), rfl, rfl⟩ rfl ?_; clear hF; intro a hF
          refine g_noU hF ⟨_, _, (rfl : _[13]? = some _), rfl, rfl⟩ rfl ?_; clear hF; intro a hF
          refine g_noU hF ⟨_, _, (rfl : _[13]? = some _), rfl, rfl⟩ rfl ?_; clear hF; intro a hF
          refine g_no hF ⟨_, _, (rfl : _[8]? = some _), rfl, rfl⟩ hg5_8 rfl ?_; clear hF; intro a hF
          refine s_pu hF (pu_pick_f rfl hg5_8 rfl) rfl ?_; clear hF; intro a hF
          refine s_pu hF (pu_assign rfl) rfl ?_; clear hF; intro a hF
          refine c_nil ?_
          refine n_then ?_
          refine c_ret (r_block (r_then ?_))
          exact f_ret hF rfl (.tmp rfl (.nil)) (hS.retv (congrArg Value.bool (by rw [right_eq]; simp_all)))
      · have hg5_3p := hg5_3
        try simp only [decide_eq_true_eq, decide_eq_false_iff_not, Bool.not_eq_true', Bool.not_eq_false', Bool.not_eq_eq_eq_not, Bool.not_true, Bool.not_false] at hg5_3p
        refine g_no hF ⟨_, _, (rfl : _[3]? = some _), rfl, rfl⟩ hg5_3 rfl ?_; clear hF; intro a hF
        refine g_no hF ⟨_, _, (rfl : _[3]? = some _), rfl, rfl⟩ hg5_3 rfl ?_; clear hF; intro a hF
        refine g_no hF ⟨_, _, (rfl : _[3]? = some _), rfl, rfl⟩ hg5_3 rfl ?_; clear hF; intro a hF
        refine s_pu hF (pu_pick_f rfl hg5_3 rfl) rfl ?_; clear hF; intro a hF
        refine s_pu hF (pu_move rfl) rfl ?_; clear hF; intro a hF
        refine g_no hF ⟨_, _, (rfl : _[8]? = some _), rfl, rfl⟩ rfl rfl ?_; clear hF; intro a hF
        refine g_no hF ⟨_, _, (rfl : _[8]? = some _), rfl, rfl⟩ rfl rfl ?_; clear hF; intro a hF
        refine g_no hF ⟨_, _, (rfl : _[8]? = some _), rfl, rfl⟩ rfl rfl ?_; clear hF; intro a hF
        refine g_no hF ⟨_, _, (rfl : _[8]? = some _), rfl, rfl⟩ rfl rfl ?_; clear hF; intro a hF
        refine g_no hF ⟨_, _, (rfl : _[8]? = some _), rfl, rfl⟩ rfl rfl ?_; clear hF; intro a hF
        refine g_noU hF ⟨_, _, (rfl : _[13]? = some _), rfl, rfl⟩ rfl ?_; clear hF; intro a hF
        refine g_noU hF ⟨_, _, (rfl : _[13]? = some _), rfl, rfl⟩ rfl ?_; clear hF; intro a hF
        refine g_noU hF ⟨_, _, (rfl : _[13]? = some _), rfl, rfl⟩ rfl ?_; clear hF; intro a hF
        refine g_noU hF ⟨_, _, (rfl : _[13]? = some _), rfl, rfl⟩ rfl ?_; clear hF; intro a hF
        refine g_no hF ⟨_, _, (rfl : _[8]? = some _), rfl, rfl⟩ rfl rfl ?_; clear hF; intro a hF
        refine s_pu hF (pu_pick_f rfl rfl rfl) rfl ?_; clear hF; intro a hF
        refine s_pu hF (pu_assign rfl) rfl ?_; clear hF; intro a hF
        refine c_nil ?_
        refine n_then ?_
        refine c_ret (r_block (r_then ?_))
        exact f_ret hF rfl (.tmp rfl (.nil)) (hS.retv (congrArg Value.bool (by rw [right_eq]; simp_all)))
    · try simp only [decide_eq_true_eq, decide_eq_false_iff_not, Bool.not_eq_true', Bool.not_eq_false', Bool.not_eq_eq_eq_not, Bool.not_true, Bool.not_false] at hc13
      refine c_seq ?_
      refine c_reg ?_
      refine s_pu hF (pu_ieq rfl rfl) rfl ?_; clear hF; intro a hF
      refine s_pu hF (pu_assign rfl) rfl ?_; clear hF; intro a hF
      refine c_nil ?_
      refine n_then ?_
      refine c_if hF rfl (fun hc35 => ?_) (fun hc35 => ?_)
      · try simp only [decide_eq_true_eq, decide_eq_false_iff_not, Bool.not_eq_true', Bool.not_eq_false', Bool.not_eq_eq_eq_not, Bool.not_true, Bool.not_false] at hc35
        refine c_seq ?_
        refine c_reg ?_
        refine s_pu hF (pu_faddr fld37_1 rfl) rfl ?_; clear hF; intro a hF
        refine s_pu hF (o_loadA (i := 0) (new := valC x.v) hS rfl agg34 rfl (rfl)) rfl ?_; clear hF; intro a hF
        refine s_pu hF (pu_build_st (cs := valC v0) strb34 rfl rfl) rfl ?_; clear hF; intro a hF
        refine s_pu hF (pu_aeq (a := x.v) (b := v0) eqV rfl rfl) rfl ?_; clear hF; intro a hF
        refine s_pu hF (pu_move rfl) rfl ?_; clear hF; intro a hF
        refine w_split hF ⟨_, _, (rfl : _[4]? = some _), rfl, rfl⟩ (fun hg7_4 => ?_) (fun hg7_4 => ?_)
        · have hg7_4p := hg7_4
          try simp only [decide_eq_true_eq, decide_eq_false_iff_not, Bool.not_eq_true', Bool.not_eq_false', Bool.not_eq_eq_eq_not, Bool.not_true, Bool.not_false] at hg7_4p
          refine g_pu hF ⟨_, _, (rfl : _[4]? = some _), rfl, rfl⟩ hg7_4 (pu_faddr fld37_2 rfl) rfl ?_; clear hF; intro a hF
          refine g_pu hF ⟨_, _, (rfl : _[4]? = some _), rfl, rfl⟩ hg7_4 (o_load1 (i := 0) hS rfl one9 rfl rfl) rfl ?_; clear hF; intro a hF
          refine g_calld hF hS ⟨_, _, (rfl : _[4]? = some _), rfl, rfl⟩ hg7_4 ok13 rfl (c_RName x.s (by omega) _ h0 hS.base ) rfl ?_; clear hS hF; intro w a hS hF
          refine s_pu hF (pu_pick_t rfl hg7_4 rfl) rfl ?_; clear hF; intro a hF
          refine s_pu hF (pu_assign rfl) rfl ?_; clear hF; intro a hF
          refine c_nil ?_
          refine n_then ?_
          refine c_ret (r_block (r_then ?_))
          exact f_ret hF rfl (.tmp rfl (.nil)) (hS.retv (congrArg Value.bool (by rw [right_eq]; simp_all)))
        · have hg7_4p := hg7_4
          try simp only [decide_eq_true_eq, decide_eq_false_iff_not, Bool.not_eq_true', Bool.not_eq_false', Bool.not_eq_eq_eq_not, Bool.not_true, Bool.not_false] at hg7_4p
          refine g_no hF ⟨_, _, (rfl : _[4]? = some _), rfl, rfl⟩ hg7_4 rfl ?_; clear hF; intro a hF
          refine g_no hF ⟨_, _, (rfl : _[4]? = some _), rfl, rfl⟩ hg7_4 rfl ?_; clear hF; intro a hF
          refine g_no hF ⟨_, _, (rfl : _[4]? = some _), rfl, rfl⟩ hg7_4 rfl ?_; clear hF; intro a hF
          refine s_pu hF (pu_pick_f rfl hg7_4 rfl) rfl ?_; clear hF; intro a hF
          refine s_pu hF (pu_assign rfl) rfl ?_; clear hF; intro a hF
          refine c_nil ?_
          refine n_then ?_
          refine c_ret (r_block (r_then ?_))
          exact f_ret hF rfl (.tmp rfl (.nil)) (hS.retv (congrArg Value.bool (by rw [right_eq]; simp_all)))
      · try simp only [decide_eq_true_eq, decide_eq_false_iff_not, Bool.not_eq_true', Bool.not_eq_false', Bool.not_eq_eq_eq_not, Bool.not_true, Bool.not_false] at hc35
        refine c_skip ?_
        refine n_block ?_
        refine n_then ?_
        refine c_seq ?_
        refine c_seq ?_
        refine c_reg ?_
        refine s_pu hF (pu_assign rfl) rfl ?_; clear hF; intro a hF
        refine c_nil ?_
        refine n_then ?_
        refine c_block ?_
        refine hS.cut fun O0 F0 hO0 hF0 hS => ?_
        refine hF.cut (.cons (k := 3) rfl <| .nil) (.cons (k := 1) rfl <| .nil) fun L0 hL0 hF => ?_
        refine c_loop (α := Nat) (fun k a w => k ≤ x.l.length ∧ (∀ j, j < k → rightS (x.l.getD j ex0) = true) ∧ Fr a 69 ([(3, .val (.int .i64 (k : Nat)))] ++ L0) ∧ St w0 h0 [] w O0 F0) (fun k => x.l.length - k) 0 (⟨Nat.zero_le _, fun j hj => absurd hj (Nat.not_lt_zero j), hF, hS⟩) ?_
        subst hO0 hF0 hL0
        rintro k a w ⟨hk, hn, hF, hS⟩
        refine c_seq ?_
        refine c_seq ?_
        refine c_reg ?_
        refine s_pu hF (pu_move rfl) rfl ?_; clear hF; intro a hF
        refine s_pu hF (pu_faddr fld37_3 rfl) rfl ?_; clear hF; intro a hF
        refine s_pu hF (o_load1 (i := 0) hS rfl one35 rfl rfl) rfl ?_; clear hF; intro a hF
        refine s_pu hF (pu_len_sl tyL35 rfl rfl) rfl ?_; clear hF; intro a hF
        refine s_pu hF (pu_ilt rfl rfl) rfl ?_; clear hF; intro a hF
        refine c_nil ?_
        refine n_then ?_
        refine c_if hF rfl (fun hc50 => ?_) (fun hc50 => ?_)
        · try simp only [decide_eq_true_eq, decide_eq_false_iff_not, Bool.not_eq_true', Bool.not_eq_false', Bool.not_eq_eq_eq_not, Bool.not_true, Bool.not_false] at hc50
          obtain ⟨g1, o, ad2, cap2, ha, hgx, HX⟩ := hx.gl.at (i := k) (by omega)
          refine c_skip ?_
          refine n_then ?_
          refine c_seq ?_
          refine c_block ?_
          refine c_seq ?_
          refine c_reg ?_
          refine s_pu hF (pu_faddr fld37_3 rfl) rfl ?_; clear hF; intro a hF
          refine s_pu hF (o_load1 (i := 0) hS rfl one35 rfl rfl) rfl ?_; clear hF; intro a hF
          refine s_pu hF (pu_move rfl) rfl ?_; clear hF; intro a hF
          refine s_pu hF (pu_iaddr_sla (j := k) ha slt35 rfl rfl (by omega) (by omega)) rfl ?_; clear hF; intro a hF
          refine s_pu hF (pu_loadA (cs := (exC (x.l.getD k ex0).op (x.l.getD k ex0).v (x.l.getD k ex0).s (.slice ad2 (x.l.getD k ex0).l.length cap2))) agg37 rfl (fun j v hj => by rw [add_mk]; exact HX _ hS.base j v hj)) rfl ?_; clear hF; intro a hF
          refine s_calld hF hS ok38 rfl (ih (x.l.getD k ex0) (getD_mem x.l k ex0 (by omega)) ad2 cap2 _ h0 hS.base hgx) rfl ?_; clear hS hF; intro w a hS hF
          refine s_pu hF (pu_not rfl) rfl ?_; clear hF; intro a hF
          refine c_nil ?_
          refine n_then ?_
          refine c_if hF rfl (fun hc59 => ?_) (fun hc59 => ?_)
          · try simp only [decide_eq_true_eq, decide_eq_false_iff_not, Bool.not_eq_true', Bool.not_eq_false', Bool.not_eq_eq_eq_not, Bool.not_true, Bool.not_false] at hc59
            refine c_seq ?_
            refine c_reg ?_
            refine s_pu hF (pu_assign rfl) rfl ?_; clear hF; intro a hF
            refine c_nil ?_
            refine n_then ?_
            refine c_ret (r_block (r_then (r_then (r_block (r_then ?_)))))
            exact f_ret hF rfl (.tmp rfl (.nil)) (hS.retv (congrArg Value.bool (by rw [right_eq, all_not ex0 (k := k) (by omega) hc59]; simp_all)))
          · try simp only [decide_eq_true_eq, decide_eq_false_iff_not, Bool.not_eq_true', Bool.not_eq_false', Bool.not_eq_eq_eq_not, Bool.not_true, Bool.not_false] at hc59
            refine c_skip ?_
            refine n_block ?_
            refine n_then ?_
            refine c_reg ?_
            refine s_pu hF (pu_move rfl) rfl ?_; clear hF; intro a hF
            refine s_pu hF (pu_add rfl rfl (by first | exact wrap_i64 (by omega) (by omega) | rfl)) rfl ?_; clear hF; intro a hF
            refine s_pu hF (pu_assign rfl) rfl ?_; clear hF; intro a hF
            refine c_nil ?_
            exact ⟨k + 1, ⟨by omega, upto_snoc hn hc59, hF.pick (.cons (k := 3) rfl <| .cons (k := 1) rfl <| .nil), hS⟩, by omega⟩
        · try simp only [decide_eq_true_eq, decide_eq_false_iff_not, Bool.not_eq_true', Bool.not_eq_false', Bool.not_eq_eq_eq_not, Bool.not_true, Bool.not_false] at hc50
          refine c_exit (x_then (x_then (x_here ?_)))
          refine n_then ?_
          refine c_seq ?_
          refine c_reg ?_
          refine s_pu hF (pu_faddr fld37_1 rfl) rfl ?_; clear hF; intro a hF
          refine s_pu hF (o_loadA (i := 0) (new := valC x.v) hS rfl agg34 rfl (rfl)) rfl ?_; clear hF; intro a hF
          refine s_pu hF (pu_build_st (cs := valC v0) strb34 rfl rfl) rfl ?_; clear hF; intro a hF
          refine s_pu hF (pu_aeq (a := x.v) (b := v0) eqV rfl rfl) rfl ?_; clear hF; intro a hF
          refine s_pu hF (pu_move rfl) rfl ?_; clear hF; intro a hF
          refine w_split hF ⟨_, _, (rfl : _[4]? = some _), rfl, rfl⟩ (fun hg13_4 => ?_) (fun hg13_4 => ?_)
          · have hg13_4p := hg13_4
            try simp only [decide_eq_true_eq, decide_eq_false_iff_not, Bool.not_eq_true', Bool.not_eq_false', Bool.not_eq_eq_eq_not, Bool.not_true, Bool.not_false] at hg13_4p
            refine g_pu hF ⟨_, _, (rfl : _[4]? = some _), rfl, rfl⟩ hg13_4 (pu_faddr fld37_2 rfl) rfl ?_; clear hF; intro a hF
            refine g_pu hF ⟨_, _, (rfl : _[4]? = some _), rfl, rfl⟩ hg13_4 (o_load1 (i := 0) hS rfl one9 rfl rfl) rfl ?_; clear hF; intro a hF
            refine g_pu hF ⟨_, _, (rfl : _[4]? = some _), rfl, rfl⟩ hg13_4 (pu_seq rfl rfl) rfl ?_; clear hF; intro a hF
            refine s_pu hF (pu_pick_t rfl hg13_4 rfl) rfl ?_; clear hF; intro a hF
            refine s_pu hF (pu_assign rfl) rfl ?_; clear hF; intro a hF
            refine c_nil ?_
            refine n_then ?_
            refine c_ret ?_
            exact f_ret hF rfl (.tmp rfl (.nil)) (hS.retv (congrArg Value.bool (by rw [right_eq, all_upto ex0 (p := rightS) (fun j hj => hn j (by omega))]; simp_all)))
          · have hg13_4p := hg13_4
            try simp only [decide_eq_true_eq, decide_eq_false_iff_not, Bool.not_eq_true', Bool.not_eq_false', Bool.not_eq_eq_eq_not, Bool.not_true, Bool.not_false] at hg13_4p
            refine g_no hF ⟨_, _, (rfl : _[4]? = some _), rfl, rfl⟩ hg13_4 rfl ?_; clear hF; intro a hF
            refine g_no hF ⟨_, _, (rfl : _[4]? = some _), rfl, rfl⟩ hg13_4 rfl ?_; clear hF; intro a hF
            refine g_no hF ⟨_, _, (rfl : _[4]? = some _), rfl, rfl⟩ hg13_4 rfl ?_; clear hF; intro a hF
            refine s_pu hF (pu_pick_f rfl hg13_4 rfl) rfl ?_; clear hF; intro a hF
            refine s_pu hF (pu_assign rfl) rfl ?_; clear hF; intro a hF
            refine c_nil ?_
            refine n_then ?_
            refine c_ret ?_
            exact f_ret hF rfl (.tmp rfl (.nil)) (hS.retv (congrArg Value.bool (by rw [right_eq, all_upto ex0 (p := rightS) (fun j hj => hn j (by omega))]; simp_all)))
theorem c_RRightX  : ∀ (x : Ex) (ad : Option Addr) (cap : Nat) (w : World) (h0 : View), VLe h0 (Full w) → GX h0 ad cap x → Calls Try.prog 38 #[Value.agg (exC x.op x.v x.s (.slice ad x.l.length cap)).toArray] w (Ret w h0 fun u _ => u = .bool (rightS x))
  | x, ad, cap, w, h0, hv, hx => c_RRightX_  x ad cap (fun y hy ad cap w h0 hv hx => c_RRightX  y ad cap w h0 hv hx) w h0 hv hx
termination_by x => SizeOf.sizeOf x
decreasing_by exact Ex.lt hy

theorem c_Check (x : Ex) (ad : Option Addr) (cap : Nat) (w0 : World) (h0 : View) (hv : VLe h0 (Full w0)) (hx : GX h0 ad cap x) : Calls Try.prog 23 #[Value.agg (exC x.op x.v x.s (.slice ad x.l.length cap)).toArray] w0 (Ret w0 h0 fun u _ => u = .int .i64 (if rightS x then 0 else 2)) := by
  refine f_enter (args := [Value.agg (exC x.op x.v x.s (.slice ad x.l.length cap)).toArray]) Try.func23 rfl Try.ntmps23 rfl fun a hF => ?_
  have hS := St.init w0 h0 hv
  refine c_seq ?_
  refine c_reg ?_
  refine s_box hF hS rfl rfl rfl ?_; clear hS hF; intro b0 w a hS hF
  refine s_pu hF (pu_assign rfl) rfl ?_; clear hF; intro a hF
  refine c_nil ?_
  refine n_then ?_
  refine c_seq ?_
  refine c_seq ?_
  refine c_reg ?_
  refine s_pu hF (o_loadA (i := 0) (new := exC x.op x.v x.s (.slice ad x.l.length cap)) hS rfl agg37 rfl (rfl)) rfl ?_; clear hF; intro a hF
  refine s_calld hF hS ok42 rfl (c_right x ad cap _ h0 hS.base hx) rfl ?_; clear hS hF; intro w a hS hF
  refine s_pu hF (pu_not rfl) rfl ?_; clear hF; intro a hF
  refine c_nil ?_
  refine n_then ?_
  refine c_if hF rfl (fun hc5 => ?_) (fun hc5 => ?_)
  · try simp only [decide_eq_true_eq, decide_eq_false_iff_not, Bool.not_eq_true', Bool.not_eq_false', Bool.not_eq_eq_eq_not, Bool.not_true, Bool.not_false] at hc5
    refine c_seq ?_
    refine c_reg ?_
    refine s_pu hF (pu_assign rfl) rfl ?_; clear hF; intro a hF
    refine c_nil ?_
    refine n_then ?_
    refine c_ret (r_then ?_)
    exact f_ret hF rfl (.tmp rfl (.nil)) (hS.retv (congrArg (Value.int .i64) (by rw [if_neg (by simp [hc5])])))
  · try simp only [decide_eq_true_eq, decide_eq_false_iff_not, Bool.not_eq_true', Bool.not_eq_false', Bool.not_eq_eq_eq_not, Bool.not_true, Bool.not_false] at hc5
    refine c_skip ?_
    refine n_then ?_
    refine c_seq ?_
    refine c_reg ?_
    refine s_pu hF (pu_assign rfl) rfl ?_; clear hF; intro a hF
    refine c_nil ?_
    refine n_then ?_
    refine c_ret ?_
    exact f_ret hF rfl (.tmp rfl (.nil)) (hS.retv (congrArg (Value.int .i64) (by rw [if_pos hc5])))
theorem c_small_ (x : Ex) (ad : Option Addr) (cap : Nat) (d : Nat) (hd : d ≤ 1000) (ih : 0 < d → ∀ (y : Ex) (ad : Option Addr) (cap : Nat) (w : World) (h0 : View), VLe h0 (Full w) → XL h0 ad cap y.l → Calls Try.prog 33 #[Value.agg (exC y.op y.v y.s (.slice ad y.l.length cap)).toArray, .int .i64 (d - 1 : Nat)] w (Ret w h0 fun u _ => u = .bool (smallX (d - 1) y))) (w0 : World) (h0 : View) (hv : VLe h0 (Full w0)) (hx : XL h0 ad cap x.l) : Calls Try.prog 33 #[Value.agg (exC x.op x.v x.s (.slice ad x.l.length cap)).toArray, .int .i64 (d : Nat)] w0 (Ret w0 h0 fun u _ => u = .bool (smallX d x)) := by
  refine f_enter (args := [Value.agg (exC x.op x.v x.s (.slice ad x.l.length cap)).toArray, .int .i64 (d : Nat)]) Try.func33 rfl Try.ntmps33 rfl fun a hF => ?_
  have hS := St.init w0 h0 hv
  have hlm := hx.lm
  refine c_seq ?_
  refine c_reg ?_
  refine s_box hF hS rfl rfl rfl ?_; clear hS hF; intro b0 w a hS hF
  refine s_pu hF (pu_assign rfl) rfl ?_; clear hF; intro a hF
  refine c_nil ?_
  refine n_then ?_
  refine c_seq ?_
  refine c_seq ?_
  refine c_reg ?_
  refine s_pu hF (pu_move rfl) rfl ?_; clear hF; intro a hF
  refine s_pu hF (pu_ieq rfl rfl) rfl ?_; clear hF; intro a hF
  refine s_pu hF (pu_move rfl) rfl ?_; clear hF; intro a hF
  refine w_split hF ⟨_, _, (rfl : _[2]? = some _), rfl, rfl⟩ (fun hg1_2 => ?_) (fun hg1_2 => ?_)
  · have hg1_2p := hg1_2
    try simp only [decide_eq_true_eq, decide_eq_false_iff_not, Bool.not_eq_true', Bool.not_eq_false', Bool.not_eq_eq_eq_not, Bool.not_true, Bool.not_false] at hg1_2p
    refine g_no hF ⟨_, _, (rfl : _[2]? = some _), rfl, rfl⟩ hg1_2 rfl ?_; clear hF; intro a hF
    refine g_no hF ⟨_, _, (rfl : _[2]? = some _), rfl, rfl⟩ hg1_2 rfl ?_; clear hF; intro a hF
    refine g_no hF ⟨_, _, (rfl : _[2]? = some _), rfl, rfl⟩ hg1_2 rfl ?_; clear hF; intro a hF
    refine g_no hF ⟨_, _, (rfl : _[2]? = some _), rfl, rfl⟩ hg1_2 rfl ?_; clear hF; intro a hF
    refine s_pu hF (pu_pick_t rfl hg1_2 rfl) rfl ?_; clear hF; intro a hF
    refine s_pu hF (pu_move rfl) rfl ?_; clear hF; intro a hF
    refine g_no hF ⟨_, _, (rfl : _[8]? = some _), rfl, rfl⟩ rfl rfl ?_; clear hF; intro a hF
    refine g_no hF ⟨_, _, (rfl : _[8]? = some _), rfl, rfl⟩ rfl rfl ?_; clear hF; intro a hF
    refine g_no hF ⟨_, _, (rfl : _[8]? = some _), rfl, rfl⟩ rfl rfl ?_; clear hF; intro a hF
    refine g_no hF ⟨_, _, (rfl : _[8]? = some _), rfl, rfl⟩ rfl rfl ?_; clear hF; intro a hF
    refine g_no hF ⟨_, _, (rfl : _[8]? = some _), rfl, rfl⟩ rfl rfl ?_; clear hF; intro a hF
    refine s_pu hF (pu_pick_t rfl rfl rfl) rfl ?_; clear hF; intro a hF
    refine s_pu hF (pu_move rfl) rfl ?_; clear hF; intro a hF
    refine g_no hF ⟨_, _, (rfl : _[15]? = some _), rfl, rfl⟩ rfl rfl ?_; clear hF; intro a hF
    refine g_no hF ⟨_, _, (rfl : _[15]? = some _), rfl, rfl⟩ rfl rfl ?_; clear hF; intro a hF
    refine g_no hF ⟨_, _, (rfl : _[15]? = some _), rfl, rfl⟩ rfl rfl ?_; clear hF; intro a hF
    refine g_no hF ⟨_, _, (rfl : _[15]? = some _), rfl, rfl⟩ rfl rfl ?_; clear hF; intro a hF
    refine s_pu hF (pu_pick_t rfl rfl rfl) rfl ?_; clear hF; intro a hF
    refine c_nil ?_
    refine n_then ?_
    refine c_ift hF rfl rfl ?_
    refine c_seq ?_
    refine c_reg ?_
    refine s_pu hF (pu_assign rfl) rfl ?_; clear hF; intro a hF
    refine c_nil ?_
    refine n_then ?_
    refine c_ret (r_then ?_)
    exact f_ret hF rfl (.tmp rfl (.nil)) (hS.retv (congrArg Value.bool (small_no d x (by omega)).symm))
  · have hg1_2p := hg1_2
    try simp only [decide_eq_true_eq, decide_eq_false_iff_not, Bool.not_eq_true', Bool.not_eq_false', Bool.not_eq_eq_eq_not, Bool.not_true, Bool.not_false] at hg1_2p
    refine g_pu hF ⟨_, _, (rfl : _[2]? = some _), rfl, rfl⟩ hg1_2 (pu_faddr fld37_2 rfl) rfl ?_; clear hF; intro a hF
    refine g_pu hF ⟨_, _, (rfl : _[2]? = some _), rfl, rfl⟩ hg1_2 (o_load1 (i := 0) hS rfl one9 rfl rfl) rfl ?_; clear hF; intro a hF
    refine g_pu hF ⟨_, _, (rfl : _[2]? = some _), rfl, rfl⟩ hg1_2 (pu_len_s tyS9 rfl rfl) rfl ?_; clear hF; intro a hF
    refine g_pu hF ⟨_, _, (rfl : _[2]? = some _), rfl, rfl⟩ hg1_2 (pu_igt rfl rfl) rfl ?_; clear hF; intro a hF
    refine s_pu hF (pu_pick_f rfl hg1_2 rfl) rfl ?_; clear hF; intro a hF
    refine s_pu hF (pu_move rfl) rfl ?_; clear hF; intro a hF
    refine w_split hF ⟨_, _, (rfl : _[8]? = some _), rfl, rfl⟩ (fun hg1_8 => ?_) (fun hg1_8 => ?_)
    · have hg1_8p := hg1_8
      try simp only [decide_eq_true_eq, decide_eq_false_iff_not, Bool.not_eq_true', Bool.not_eq_false', Bool.not_eq_eq_eq_not, Bool.not_true, Bool.not_false] at hg1_8p
      refine g_no hF ⟨_, _, (rfl : _[8]? = some _), rfl, rfl⟩ hg1_8 rfl ?_; clear hF; intro a hF
      refine g_no hF ⟨_, _, (rfl : _[8]? = some _), rfl, rfl⟩ hg1_8 rfl ?_; clear hF; intro a hF
      refine g_no hF ⟨_, _, (rfl : _[8]? = some _), rfl, rfl⟩ hg1_8 rfl ?_; clear hF; intro a hF
      refine g_no hF ⟨_, _, (rfl : _[8]? = some _), rfl, rfl⟩ hg1_8 rfl ?_; clear hF; intro a hF
      refine g_no hF ⟨_, _, (rfl : _[8]? = some _), rfl, rfl⟩ hg1_8 rfl ?_; clear hF; intro a hF
      refine s_pu hF (pu_pick_t rfl hg1_8 rfl) rfl ?_; clear hF; intro a hF
      refine s_pu hF (pu_move rfl) rfl ?_; clear hF; intro a hF
      refine g_no hF ⟨_, _, (rfl : _[15]? = some _), rfl, rfl⟩ rfl rfl ?_; clear hF; intro a hF
      refine g_no hF ⟨_, _, (rfl : _[15]? = some _), rfl, rfl⟩ rfl rfl ?_; clear hF; intro a hF
      refine g_no hF ⟨_, _, (rfl : _[15]? = some _), rfl, rfl⟩ rfl rfl ?_; clear hF; intro a hF
      refine g_no hF ⟨_, _, (rfl : _[15]? = some _), rfl, rfl⟩ rfl rfl ?_; clear hF; intro a hF
      refine s_pu hF (pu_pick_t rfl rfl rfl) rfl ?_; clear hF; intro a hF
      refine c_nil ?_
      refine n_then ?_
      refine c_ift hF rfl rfl ?_
      refine c_seq ?_
      refine c_reg ?_
      refine s_pu hF (pu_assign rfl) rfl ?_; clear hF; intro a hF
      refine c_nil ?_
      refine n_then ?_
      refine c_ret (r_then ?_)
      exact f_ret hF rfl (.tmp rfl (.nil)) (hS.retv (congrArg Value.bool (small_no d x (by omega)).symm))
    · have hg1_8p := hg1_8
      try simp only [decide_eq_true_eq, decide_eq_false_iff_not, Bool.not_eq_true', Bool.not_eq_false', Bool.not_eq_eq_eq_not, Bool.not_true, Bool.not_false] at hg1_8p
      refine g_pu hF ⟨_, _, (rfl : _[8]? = some _), rfl, rfl⟩ hg1_8 (pu_faddr fld37_1 rfl) rfl ?_; clear hF; intro a hF
      refine g_pu hF ⟨_, _, (rfl : _[8]? = some _), rfl, rfl⟩ hg1_8 (pu_faddr fld34_2 rfl) rfl ?_; clear hF; intro a hF
      refine g_pu hF ⟨_, _, (rfl : _[8]? = some _), rfl, rfl⟩ hg1_8 (o_load1 (i := 0) hS rfl one9 rfl rfl) rfl ?_; clear hF; intro a hF
      refine g_pu hF ⟨_, _, (rfl : _[8]? = some _), rfl, rfl⟩ hg1_8 (pu_len_s tyS9 rfl rfl) rfl ?_; clear hF; intro a hF
      refine g_pu hF ⟨_, _, (rfl : _[8]? = some _), rfl, rfl⟩ hg1_8 (pu_igt rfl rfl) rfl ?_; clear hF; intro a hF
      refine s_pu hF (pu_pick_f rfl hg1_8 rfl) rfl ?_; clear hF; intro a hF
      refine s_pu hF (pu_move rfl) rfl ?_; clear hF; intro a hF
      refine w_split hF ⟨_, _, (rfl : _[15]? = some _), rfl, rfl⟩ (fun hg1_15 => ?_) (fun hg1_15 => ?_)
      · have hg1_15p := hg1_15
        try simp only [decide_eq_true_eq, decide_eq_false_iff_not, Bool.not_eq_true', Bool.not_eq_false', Bool.not_eq_eq_eq_not, Bool.not_true, Bool.not_false] at hg1_15p
        refine g_no hF ⟨_, _, (rfl : _[15]? = some _), rfl, rfl⟩ hg1_15 rfl ?_; clear hF; intro a hF
        refine g_no hF ⟨_, _, (rfl : _[15]? = some _), rfl, rfl⟩ hg1_15 rfl ?_; clear hF; intro a hF
        refine g_no hF ⟨_, _, (rfl : _[15]? = some _), rfl, rfl⟩ hg1_15 rfl ?_; clear hF; intro a hF
        refine g_no hF ⟨_, _, (rfl : _[15]? = some _), rfl, rfl⟩ hg1_15 rfl ?_; clear hF; intro a hF
        refine s_pu hF (pu_pick_t rfl hg1_15 rfl) rfl ?_; clear hF; intro a hF
        refine c_nil ?_
        refine n_then ?_
        refine c_ift hF rfl rfl ?_
        refine c_seq ?_
        refine c_reg ?_
        refine s_pu hF (pu_assign rfl) rfl ?_; clear hF; intro a hF
        refine c_nil ?_
        refine n_then ?_
        refine c_ret (r_then ?_)
        exact f_ret hF rfl (.tmp rfl (.nil)) (hS.retv (congrArg Value.bool (small_no d x (by omega)).symm))
      · have hg1_15p := hg1_15
        try simp only [decide_eq_true_eq, decide_eq_false_iff_not, Bool.not_eq_true', Bool.not_eq_false', Bool.not_eq_eq_eq_not, Bool.not_true, Bool.not_false] at hg1_15p
        refine g_pu hF ⟨_, _, (rfl : _[15]? = some _), rfl, rfl⟩ hg1_15 (pu_faddr fld37_3 rfl) rfl ?_; clear hF; intro a hF
        refine g_pu hF ⟨_, _, (rfl : _[15]? = some _), rfl, rfl⟩ hg1_15 (o_load1 (i := 0) hS rfl one35 rfl rfl) rfl ?_; clear hF; intro a hF
        refine g_pu hF ⟨_, _, (rfl : _[15]? = some _), rfl, rfl⟩ hg1_15 (pu_len_sl tyL35 rfl rfl) rfl ?_; clear hF; intro a hF
        refine g_pu hF ⟨_, _, (rfl : _[15]? = some _), rfl, rfl⟩ hg1_15 (pu_igt rfl rfl) rfl ?_; clear hF; intro a hF
        refine s_pu hF (pu_pick_f rfl hg1_15 rfl) rfl ?_; clear hF; intro a hF
        refine c_nil ?_
        refine n_then ?_
        refine c_if hF rfl (fun hc26 => ?_) (fun hc26 => ?_)
        · try simp only [decide_eq_true_eq, decide_eq_false_iff_not, Bool.not_eq_true', Bool.not_eq_false', Bool.not_eq_eq_eq_not, Bool.not_true, Bool.not_false] at hc26
          refine c_seq ?_
          refine c_reg ?_
          refine s_pu hF (pu_assign rfl) rfl ?_; clear hF; intro a hF
          refine c_nil ?_
          refine n_then ?_
          refine c_ret (r_then ?_)
          exact f_ret hF rfl (.tmp rfl (.nil)) (hS.retv (congrArg Value.bool (small_no d x (by omega)).symm))
        · try simp only [decide_eq_true_eq, decide_eq_false_iff_not, Bool.not_eq_true', Bool.not_eq_false', Bool.not_eq_eq_eq_not, Bool.not_true, Bool.not_false] at hc26
          refine c_skip ?_
          refine n_then ?_
          refine c_seq ?_
          refine c_seq ?_
          refine c_reg ?_
          refine s_pu hF (pu_assign rfl) rfl ?_; clear hF; intro a hF
          refine c_nil ?_
          refine n_then ?_
          refine c_block ?_
          refine hS.cut fun O0 F0 hO0 hF0 hS => ?_
          refine hF.cut (.cons (k := 5) rfl <| .nil) (.cons (k := 1) rfl <| .cons (k := 2) rfl <| .nil) fun L0 hL0 hF => ?_
          refine c_loop (α := Nat) (fun k a w => k ≤ x.l.length ∧ (∀ j, j < k → smallX (d - 1) (x.l.getD j ex0) = true) ∧ Fr a 43 ([(5, .val (.int .i64 (k : Nat)))] ++ L0) ∧ St w0 h0 [] w O0 F0) (fun k => x.l.length - k) 0 (⟨Nat.zero_le _, fun j hj => absurd hj (Nat.not_lt_zero j), hF, hS⟩) ?_
          subst hO0 hF0 hL0
          rintro k a w ⟨hk, hn, hF, hS⟩
          refine c_seq ?_
          refine c_seq ?_
          refine c_reg ?_
          refine s_pu hF (pu_move rfl) rfl ?_; clear hF; intro a hF
          refine s_pu hF (pu_faddr fld37_3 rfl) rfl ?_; clear hF; intro a hF
          refine s_pu hF (o_load1 (i := 0) hS rfl one35 rfl rfl) rfl ?_; clear hF; intro a hF
          refine s_pu hF (pu_len_sl tyL35 rfl rfl) rfl ?_; clear hF; intro a hF
          refine s_pu hF (pu_ilt rfl rfl) rfl ?_; clear hF; intro a hF
          refine c_nil ?_
          refine n_then ?_
          refine c_if hF rfl (fun hc31 => ?_) (fun hc31 => ?_)
          · try simp only [decide_eq_true_eq, decide_eq_false_iff_not, Bool.not_eq_true', Bool.not_eq_false', Bool.not_eq_eq_eq_not, Bool.not_true, Bool.not_false] at hc31
            obtain ⟨g1, o, ad2, cap2, ha, hxl, _, _, HX⟩ := hx.at2 (i := k) (by omega)
            refine c_skip ?_
            refine n_then ?_
            refine c_seq ?_
            refine c_block ?_
            refine c_seq ?_
            refine c_reg ?_
            refine s_pu hF (pu_faddr fld37_3 rfl) rfl ?_; clear hF; intro a hF
            refine s_pu hF (o_load1 (i := 0) hS rfl one35 rfl rfl) rfl ?_; clear hF; intro a hF
            refine s_pu hF (pu_move rfl) rfl ?_; clear hF; intro a hF
            refine s_pu hF (pu_iaddr_sla (j := k) ha slt35 rfl rfl (by omega) (by omega)) rfl ?_; clear hF; intro a hF
            refine s_pu hF (pu_loadA (cs := (exC (x.l.getD k ex0).op (x.l.getD k ex0).v (x.l.getD k ex0).s (.slice ad2 (x.l.getD k ex0).l.length cap2))) agg37 rfl (fun j v hj => by rw [add_mk]; exact HX _ hS.base j v hj)) rfl ?_; clear hF; intro a hF
            refine s_pu hF (pu_move rfl) rfl ?_; clear hF; intro a hF
            refine s_pu hF (pu_sub rfl rfl (r := ((d - 1 : Nat) : Int)) (by rw [wrap_i64 (by omega) (by omega)]; omega)) rfl ?_; clear hF; intro a hF
            refine s_calld hF hS ok33 rfl (ih (by omega) (x.l.getD k ex0) ad2 cap2 _ h0 hS.base hxl) rfl ?_; clear hS hF; intro w a hS hF
            refine s_pu hF (pu_not rfl) rfl ?_; clear hF; intro a hF
            refine c_nil ?_
            refine n_then ?_
            refine c_if hF rfl (fun hc42 => ?_) (fun hc42 => ?_)
            · try simp only [decide_eq_true_eq, decide_eq_false_iff_not, Bool.not_eq_true', Bool.not_eq_false', Bool.not_eq_eq_eq_not, Bool.not_true, Bool.not_false] at hc42
              refine c_seq ?_
              refine c_reg ?_
              refine s_pu hF (pu_assign rfl) rfl ?_; clear hF; intro a hF
              refine c_nil ?_
              refine n_then ?_
              refine c_ret (r_block (r_then (r_then (r_block (r_then ?_)))))
              exact f_ret hF rfl (.tmp rfl (.nil)) (hS.retv (congrArg Value.bool (by rw [small_eq (by omega), all_not ex0 (k := k) (by omega) hc42]; simp)))
            · try simp only [decide_eq_true_eq, decide_eq_false_iff_not, Bool.not_eq_true', Bool.not_eq_false', Bool.not_eq_eq_eq_not, Bool.not_true, Bool.not_false] at hc42
              refine c_skip ?_
              refine n_block ?_
              refine n_then ?_
              refine c_reg ?_
              refine s_pu hF (pu_move rfl) rfl ?_; clear hF; intro a hF
              refine s_pu hF (pu_add rfl rfl (by first | exact wrap_i64 (by omega) (by omega) | rfl)) rfl ?_; clear hF; intro a hF
              refine s_pu hF (pu_assign rfl) rfl ?_; clear hF; intro a hF
              refine c_nil ?_
              exact ⟨k + 1, ⟨by omega, upto_snoc hn hc42, hF.pick (.cons (k := 5) rfl <| .cons (k := 1) rfl <| .cons (k := 2) rfl <| .nil), hS⟩, by omega⟩
          · try simp only [decide_eq_true_eq, decide_eq_false_iff_not, Bool.not_eq_true', Bool.not_eq_false', Bool.not_eq_eq_eq_not, Bool.not_true, Bool.not_false] at hc31
            refine c_exit (x_then (x_then (x_here ?_)))
            refine n_then ?_
            refine c_seq ?_
            refine c_reg ?_
            refine s_pu hF (pu_assign rfl) rfl ?_; clear hF; intro a hF
            refine c_nil ?_
            refine n_then ?_
            refine c_ret ?_
            exact f_ret hF rfl (.tmp rfl (.nil)) (hS.retv (congrArg Value.bool (by rw [small_eq (by omega), all_upto ex0 (p := smallX (d - 1)) (fun j hj => hn j (by omega))]; simp; omega)))
theorem c_small : ∀ (d : Nat), d ≤ 1000 → ∀ (x : Ex) (ad : Option Addr) (cap : Nat) (w : World) (h0 : View), VLe h0 (Full w) → XL h0 ad cap x.l → Calls Try.prog 33 #[Value.agg (exC x.op x.v x.s (.slice ad x.l.length cap)).toArray, .int .i64 (d : Nat)] w (Ret w h0 fun u _ => u = .bool (smallX d x))
  | 0, hd, x, ad, cap, w, h0, hv, hx => c_small_ x ad cap 0 hd (fun h => absurd h (Nat.lt_irrefl 0)) w h0 hv hx
  | d + 1, hd, x, ad, cap, w, h0, hv, hx => c_small_ x ad cap (d + 1) hd (fun _ => c_small d (by omega)) w h0 hv hx

theorem c_Size_ (x : Ex) (ad : Option Addr) (cap : Nat) (ih : ∀ y ∈ x.l, ∀ (ad : Option Addr) (cap : Nat) (w : World) (h0 : View), VLe h0 (Full w) → XL h0 ad cap y.l → Calls Try.prog 34 #[Value.agg (exC y.op y.v y.s (.slice ad y.l.length cap)).toArray] w (Ret w h0 fun u _ => u = .int .i64 (szF y))) (w0 : World) (h0 : View) (hv : VLe h0 (Full w0)) (hx : XL h0 ad cap x.l) : Calls Try.prog 34 #[Value.agg (exC x.op x.v x.s (.slice ad x.l.length cap)).toArray] w0 (Ret w0 h0 fun u _ => u = .int .i64 (szF x)) := by
  refine f_enter (args := [Value.agg (exC x.op x.v x.s (.slice ad x.l.length cap)).toArray]) Try.func34 rfl Try.ntmps34 rfl fun a hF => ?_
  have hS := St.init w0 h0 hv
  have hlm := hx.lm
  refine c_seq ?_
  refine c_reg ?_
  refine s_box hF hS rfl rfl rfl ?_; clear hS hF; intro b0 w a hS hF
  refine s_pu hF (pu_assign rfl) rfl ?_; clear hF; intro a hF
  refine c_nil ?_
  refine n_then ?_
  refine c_seq ?_
  refine c_reg ?_
  refine s_pu hF (pu_assign rfl) rfl ?_; clear hF; intro a hF
  refine c_nil ?_
  refine n_then ?_
  refine c_seq ?_
  refine c_seq ?_
  refine c_reg ?_
  refine s_pu hF (pu_assign rfl) rfl ?_; clear hF; intro a hF
  refine c_nil ?_
  refine n_then ?_
  refine c_block ?_
  refine hS.cut fun O0 F0 hO0 hF0 hS => ?_
  refine hF.cut (.cons (k := 3) rfl <| .cons (k := 4) rfl <| .nil) (.cons (k := 1) rfl <| .nil) fun L0 hL0 hF => ?_
  refine c_loop (α := Nat) (fun k a w => k ≤ x.l.length ∧ Fr a 21 ([(3, .val (.int .i64 (szL 1 (x.l.take k)))), (4, .val (.int .i64 (k : Nat)))] ++ L0) ∧ St w0 h0 [] w O0 F0) (fun k => x.l.length - k) 0 (⟨Nat.zero_le _, hF, hS⟩) ?_
  subst hO0 hF0 hL0
  rintro k a w ⟨hk, hF, hS⟩
  refine c_seq ?_
  refine c_seq ?_
  refine c_reg ?_
  refine s_pu hF (pu_move rfl) rfl ?_; clear hF; intro a hF
  refine s_pu hF (pu_faddr fld37_3 rfl) rfl ?_; clear hF; intro a hF
  refine s_pu hF (o_load1 (i := 0) hS rfl one35 rfl rfl) rfl ?_; clear hF; intro a hF
  refine s_pu hF (pu_len_sl tyL35 rfl rfl) rfl ?_; clear hF; intro a hF
  refine s_pu hF (pu_ilt rfl rfl) rfl ?_; clear hF; intro a hF
  refine c_nil ?_
  refine n_then ?_
  refine c_if hF rfl (fun hc9 => ?_) (fun hc9 => ?_)
  · try simp only [decide_eq_true_eq, decide_eq_false_iff_not, Bool.not_eq_true', Bool.not_eq_false', Bool.not_eq_eq_eq_not, Bool.not_true, Bool.not_false] at hc9
    obtain ⟨g1, o, ad2, cap2, ha, hxl, _, _, HX⟩ := hx.at2 (i := k) (by omega)
    refine c_skip ?_
    refine n_then ?_
    refine c_seq ?_
    refine c_block ?_
    refine c_reg ?_
    refine s_pu hF (pu_move rfl) rfl ?_; clear hF; intro a hF
    refine s_pu hF (pu_faddr fld37_3 rfl) rfl ?_; clear hF; intro a hF
    refine s_pu hF (o_load1 (i := 0) hS rfl one35 rfl rfl) rfl ?_; clear hF; intro a hF
    refine s_pu hF (pu_move rfl) rfl ?_; clear hF; intro a hF
    refine s_pu hF (pu_iaddr_sla (j := k) ha slt35 rfl rfl (by omega) (by omega)) rfl ?_; clear hF; intro a hF
    refine s_pu hF (pu_loadA (cs := (exC (x.l.getD k ex0).op (x.l.getD k ex0).v (x.l.getD k ex0).s (.slice ad2 (x.l.getD k ex0).l.length cap2))) agg37 rfl (fun j v hj => by rw [add_mk]; exact HX _ hS.base j v hj)) rfl ?_; clear hF; intro a hF
    refine s_calld hF hS ok34 rfl (ih (x.l.getD k ex0) (getD_mem x.l k ex0 (by omega)) ad2 cap2 _ h0 hS.base hxl) rfl ?_; clear hS hF; intro w a hS hF
    refine s_pu hF (pu_add rfl rfl rfl) rfl ?_; clear hF; intro a hF
    refine s_pu hF (pu_assign rfl) rfl ?_; clear hF; intro a hF
    refine c_nil ?_
    refine n_block ?_
    refine n_then ?_
    refine c_reg ?_
    refine s_pu hF (pu_move rfl) rfl ?_; clear hF; intro a hF
    refine s_pu hF (pu_add rfl rfl (by first | exact wrap_i64 (by omega) (by omega) | rfl)) rfl ?_; clear hF; intro a hF
    refine s_pu hF (pu_assign rfl) rfl ?_; clear hF; intro a hF
    refine c_nil ?_
    rw [show IntKind.i64.wrap (szL 1 (x.l.take k) + szF (x.l.getD k ex0)) = szL 1 (x.l.take (k + 1)) by rw [take_snocD x.l k ex0 (by omega), szL_snoc]] at hF
    exact ⟨k + 1, ⟨by omega, hF.pick (.cons (k := 3) rfl <| .cons (k := 4) rfl <| .cons (k := 1) rfl <| .nil), hS⟩, by omega⟩
  · try simp only [decide_eq_true_eq, decide_eq_false_iff_not, Bool.not_eq_true', Bool.not_eq_false', Bool.not_eq_eq_eq_not, Bool.not_true, Bool.not_false] at hc9
    refine c_exit (x_then (x_then (x_here ?_)))
    refine n_then ?_
    refine c_seq ?_
    refine c_reg ?_
    refine s_pu hF (pu_move rfl) rfl ?_; clear hF; intro a hF
    refine s_pu hF (pu_assign rfl) rfl ?_; clear hF; intro a hF
    refine c_nil ?_
    refine n_then ?_
    refine c_ret ?_
    exact f_ret hF rfl (.tmp rfl (.nil)) (hS.retv (congrArg (Value.int .i64) (by rw [sz_eq, List.take_of_length_le (by omega)])))
theorem c_Size  : ∀ (x : Ex) (ad : Option Addr) (cap : Nat) (w : World) (h0 : View), VLe h0 (Full w) → XL h0 ad cap x.l → Calls Try.prog 34 #[Value.agg (exC x.op x.v x.s (.slice ad x.l.length cap)).toArray] w (Ret w h0 fun u _ => u = .int .i64 (szF x))
  | x, ad, cap, w, h0, hv, hx => c_Size_  x ad cap (fun y hy ad cap w h0 hv hx => c_Size  y ad cap w h0 hv hx) w h0 hv hx
termination_by x => SizeOf.sizeOf x
decreasing_by exact Ex.lt hy

theorem c_XSmall (x : Ex) (ad : Option Addr) (cap : Nat) (w0 : World) (h0 : View) (hv : VLe h0 (Full w0)) (hx : XL h0 ad cap x.l) : Calls Try.prog 14 #[Value.agg (exC x.op x.v x.s (.slice ad x.l.length cap)).toArray] w0 (Ret w0 h0 fun u _ => u = .bool (XSm x)) := by
  refine f_enter (args := [Value.agg (exC x.op x.v x.s (.slice ad x.l.length cap)).toArray]) Try.func14 rfl Try.ntmps14 rfl fun a hF => ?_
  have hS := St.init w0 h0 hv
  refine c_seq ?_
  refine c_reg ?_
  refine s_box hF hS rfl rfl rfl ?_; clear hS hF; intro b0 w a hS hF
  refine s_pu hF (pu_assign rfl) rfl ?_; clear hF; intro a hF
  refine c_nil ?_
  refine n_then ?_
  refine c_seq ?_
  refine c_reg ?_
  refine s_pu hF (o_loadA (i := 0) (new := exC x.op x.v x.s (.slice ad x.l.length cap)) hS rfl agg39 rfl (rfl)) rfl ?_; clear hF; intro a hF
  refine s_calld hF hS ok33 rfl (c_small 30 (by decide) x ad cap _ h0 hS.base hx) rfl ?_; clear hS hF; intro w a hS hF
  refine s_pu hF (pu_move rfl) rfl ?_; clear hF; intro a hF
  refine w_split hF ⟨_, _, (rfl : _[2]? = some _), rfl, rfl⟩ (fun hg1_2 => ?_) (fun hg1_2 => ?_)
  · have hg1_2p := hg1_2
    try simp only [decide_eq_true_eq, decide_eq_false_iff_not, Bool.not_eq_true', Bool.not_eq_false', Bool.not_eq_eq_eq_not, Bool.not_true, Bool.not_false] at hg1_2p
    refine g_pu hF ⟨_, _, (rfl : _[2]? = some _), rfl, rfl⟩ hg1_2 (o_loadA (i := 0) (new := exC x.op x.v x.s (.slice ad x.l.length cap)) hS rfl agg39 rfl (rfl)) rfl ?_; clear hF; intro a hF
    refine g_calld hF hS ⟨_, _, (rfl : _[2]? = some _), rfl, rfl⟩ hg1_2 ok34 rfl (c_Size x ad cap _ h0 hS.base hx) rfl ?_; clear hS hF; intro w a hS hF
    refine g_pu hF ⟨_, _, (rfl : _[2]? = some _), rfl, rfl⟩ hg1_2 (pu_ile rfl rfl) rfl ?_; clear hF; intro a hF
    refine s_pu hF (pu_pick_t rfl hg1_2 rfl) rfl ?_; clear hF; intro a hF
    refine s_pu hF (pu_assign rfl) rfl ?_; clear hF; intro a hF
    refine c_nil ?_
    refine n_then ?_
    refine c_ret ?_
    exact f_ret hF rfl (.tmp rfl (.nil)) (hS.retv (congrArg Value.bool (by simp_all [XSm])))
  · have hg1_2p := hg1_2
    try simp only [decide_eq_true_eq, decide_eq_false_iff_not, Bool.not_eq_true', Bool.not_eq_false', Bool.not_eq_eq_eq_not, Bool.not_true, Bool.not_false] at hg1_2p
    refine g_no hF ⟨_, _, (rfl : _[2]? = some _), rfl, rfl⟩ hg1_2 rfl ?_; clear hF; intro a hF
    refine g_no hF ⟨_, _, (rfl : _[2]? = some _), rfl, rfl⟩ hg1_2 rfl ?_; clear hF; intro a hF
    refine g_no hF ⟨_, _, (rfl : _[2]? = some _), rfl, rfl⟩ hg1_2 rfl ?_; clear hF; intro a hF
    refine s_pu hF (pu_pick_f rfl hg1_2 rfl) rfl ?_; clear hF; intro a hF
    refine s_pu hF (pu_assign rfl) rfl ?_; clear hF; intro a hF
    refine c_nil ?_
    refine n_then ?_
    refine c_ret ?_
    exact f_ret hF rfl (.tmp rfl (.nil)) (hS.retv (congrArg Value.bool (by simp_all [XSm])))
theorem c_Few (adc : Option Addr) (capc : Nat) (cl : List Col) (w0 : World) (h0 : View) (hv : VLe h0 (Full w0)) (hcl : SlC 0 3 (flatR colC) h0 (.slice adc cl.length capc) cl) : Calls Try.prog 15 #[.slice adc cl.length capc] w0 (Ret w0 h0 fun u _ => u = .bool (fewS cl)) := by
  refine f_enter (args := [.slice adc cl.length capc]) Try.func15 rfl Try.ntmps15 rfl fun a hF => ?_
  have hS := St.init w0 h0 hv
  have hlm := hcl.lm
  refine c_seq ?_
  refine c_reg ?_
  refine s_pu hF (pu_assign rfl) rfl ?_; clear hF; intro a hF
  refine c_nil ?_
  refine n_then ?_
  refine c_seq ?_
  refine c_seq ?_
  refine c_reg ?_
  refine s_pu hF (pu_move rfl) rfl ?_; clear hF; intro a hF
  refine s_pu hF (pu_len_sl tyL40 rfl rfl) rfl ?_; clear hF; intro a hF
  refine s_pu hF (pu_igt rfl rfl) rfl ?_; clear hF; intro a hF
  refine c_nil ?_
  refine n_then ?_
  refine c_if hF rfl (fun hc6 => ?_) (fun hc6 => ?_)
  · try simp only [decide_eq_true_eq, decide_eq_false_iff_not, Bool.not_eq_true', Bool.not_eq_false', Bool.not_eq_eq_eq_not, Bool.not_true, Bool.not_false] at hc6
    refine c_seq ?_
    refine c_reg ?_
    refine s_pu hF (pu_assign rfl) rfl ?_; clear hF; intro a hF
    refine c_nil ?_
    refine n_then ?_
    refine c_ret (r_then ?_)
    exact f_ret hF rfl (.tmp rfl (.nil)) (hS.retv (congrArg Value.bool (by simp [fewS]; omega)))
  · try simp only [decide_eq_true_eq, decide_eq_false_iff_not, Bool.not_eq_true', Bool.not_eq_false', Bool.not_eq_eq_eq_not, Bool.not_true, Bool.not_false] at hc6
    refine c_skip ?_
    refine n_then ?_
    refine c_seq ?_
    refine c_seq ?_
    refine c_reg ?_
    refine s_pu hF (pu_assign rfl) rfl ?_; clear hF; intro a hF
    refine c_nil ?_
    refine n_then ?_
    refine c_block ?_
    refine hS.cut fun O0 F0 hO0 hF0 hS => ?_
    refine hF.cut (.cons (k := 3) rfl <| .nil) (.cons (k := 0) rfl <| .nil) fun L0 hL0 hF => ?_
    refine c_loop (α := Nat) (fun k a w => k ≤ cl.length ∧ (∀ j, j < k → (cl.getD j c0).name.length ≤ 300) ∧ Fr a 20 ([(3, .val (.int .i64 (k : Nat)))] ++ L0) ∧ St w0 h0 [] w O0 F0) (fun k => cl.length - k) 0 (⟨Nat.zero_le _, fun j hj => absurd hj (Nat.not_lt_zero j), hF, hS⟩) ?_
    subst hO0 hF0 hL0
    rintro k a w ⟨hk, hn, hF, hS⟩
    refine c_seq ?_
    refine c_seq ?_
    refine c_reg ?_
    refine s_pu hF (pu_move rfl) rfl ?_; clear hF; intro a hF
    refine s_pu hF (pu_move rfl) rfl ?_; clear hF; intro a hF
    refine s_pu hF (pu_len_sl tyL40 rfl rfl) rfl ?_; clear hF; intro a hF
    refine s_pu hF (pu_ilt rfl rfl) rfl ?_; clear hF; intro a hF
    refine c_nil ?_
    refine n_then ?_
    refine c_if hF rfl (fun hc10 => ?_) (fun hc10 => ?_)
    · try simp only [decide_eq_true_eq, decide_eq_false_iff_not, Bool.not_eq_true', Bool.not_eq_false', Bool.not_eq_eq_eq_not, Bool.not_true, Bool.not_false] at hc10
      obtain ⟨g2, oc, hac, HC⟩ := hcl.at (i := k) (x := cl.getD k c0) (by rw [getD_lt cl k c0 (by omega)]; exact List.getElem?_eq_getElem (by omega))
      refine c_skip ?_
      refine n_then ?_
      refine c_seq ?_
      refine c_block ?_
      refine c_seq ?_
      refine c_reg ?_
      refine s_pu hF (pu_move rfl) rfl ?_; clear hF; intro a hF
      refine s_pu hF (pu_move rfl) rfl ?_; clear hF; intro a hF
      refine s_pu hF (pu_iaddr_sla (j := k) hac slt40 rfl rfl (by omega) (by omega)) rfl ?_; clear hF; intro a hF
      refine s_pu hF (pu_faddr fld58_0 rfl) rfl ?_; clear hF; intro a hF
      refine s_pu hF (pu_load1 one9 rfl (HC _ hS.base 0 _ rfl)) rfl ?_; clear hF; intro a hF
      refine s_pu hF (pu_len_s tyS9 rfl rfl) rfl ?_; clear hF; intro a hF
      refine s_pu hF (pu_igt rfl rfl) rfl ?_; clear hF; intro a hF
      refine c_nil ?_
      refine n_then ?_
      refine c_if hF rfl (fun hc19 => ?_) (fun hc19 => ?_)
      · try simp only [decide_eq_true_eq, decide_eq_false_iff_not, Bool.not_eq_true', Bool.not_eq_false', Bool.not_eq_eq_eq_not, Bool.not_true, Bool.not_false] at hc19
        refine c_seq ?_
        refine c_reg ?_
        refine s_pu hF (pu_assign rfl) rfl ?_; clear hF; intro a hF
        refine c_nil ?_
        refine n_then ?_
        refine c_ret (r_block (r_then (r_then (r_block (r_then ?_)))))
        exact f_ret hF rfl (.tmp rfl (.nil)) (hS.retv (congrArg Value.bool (by rw [fewS, all_not c0 (k := k) (p := fun c => decide (c.name.length ≤ 300)) (by omega) (by simp only [decide_eq_false_iff_not]; omega), Bool.and_false])))
      · try simp only [decide_eq_true_eq, decide_eq_false_iff_not, Bool.not_eq_true', Bool.not_eq_false', Bool.not_eq_eq_eq_not, Bool.not_true, Bool.not_false] at hc19
        refine c_skip ?_
        refine n_block ?_
        refine n_then ?_
        refine c_reg ?_
        refine s_pu hF (pu_move rfl) rfl ?_; clear hF; intro a hF
        refine s_pu hF (pu_add rfl rfl (by first | exact wrap_i64 (by omega) (by omega) | rfl)) rfl ?_; clear hF; intro a hF
        refine s_pu hF (pu_assign rfl) rfl ?_; clear hF; intro a hF
        refine c_nil ?_
        exact ⟨k + 1, ⟨by omega, upto_snoc hn (by omega), hF.pick (.cons (k := 3) rfl <| .cons (k := 0) rfl <| .nil), hS⟩, by omega⟩
    · try simp only [decide_eq_true_eq, decide_eq_false_iff_not, Bool.not_eq_true', Bool.not_eq_false', Bool.not_eq_eq_eq_not, Bool.not_true, Bool.not_false] at hc10
      refine c_exit (x_then (x_then (x_here ?_)))
      refine n_then ?_
      refine c_seq ?_
      refine c_reg ?_
      refine s_pu hF (pu_assign rfl) rfl ?_; clear hF; intro a hF
      refine c_nil ?_
      refine n_then ?_
      refine c_ret ?_
      exact f_ret hF rfl (.tmp rfl (.nil)) (hS.retv (congrArg Value.bool (by rw [fewS, all_upto c0 (p := fun c => decide (c.name.length ≤ 300)) (fun j hj => decide_eq_true (hn j (by omega))), Bool.and_true, decide_eq_true (by omega)])))
end Go.Proofs.Ytjidmighkphmkaa
