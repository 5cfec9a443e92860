/- What the functions of the program compute, each with its conditions. -/
import Derived.Test.YtaogkonanncpiaaChSpec
import Derived.Test.YtaogkonanncpiaaShelf
import Derived.Test.YtaogkonanncpiaaTO
set_option linter.unusedSimpArgs false
set_option linter.unusedVariables false
namespace Go.Proofs.Ytaogkonanncpiaa
open Go Go.Dx Go.RowKit
theorem agg23 : AggT Try.prog 23 4 := AggT.of (by kernel_rfl) (by kernel_rfl)
theorem arrb72 : ArrB Try.prog 72 [(0, 1), (1, 1), (2, 1), (3, 1), (4, 1)] [.int .i64 0, .int .i64 0, .int .i64 0, .int .i64 0, .int .i64 0] := ArrB.of (m := 5) (e := 28) (sz := 1) (by kernel_rfl) (by kernel_rfl) (by kernel_rfl) (by decide)
theorem fld23_0 : FldAt Try.prog 23 0 0 := FldAt.of (n := 0) (by kernel_rfl)
theorem fld23_1 : FldAt Try.prog 23 1 1 := FldAt.of (n := 0) (by kernel_rfl)
theorem fld23_2 : FldAt Try.prog 23 2 2 := FldAt.of (n := 0) (by kernel_rfl)
theorem fld23_3 : FldAt Try.prog 23 3 3 := FldAt.of (n := 0) (by kernel_rfl)
theorem ok10 : CallOk Try.prog 10 := CallOk.of (by kernel_rfl)
theorem ok11 : CallOk Try.prog 11 := CallOk.of (by kernel_rfl)
theorem ok12 : CallOk Try.prog 12 := CallOk.of (by kernel_rfl)
theorem ok13 : CallOk Try.prog 13 := CallOk.of (by kernel_rfl)
theorem ok14 : CallOk Try.prog 14 := CallOk.of (by kernel_rfl)
theorem ok15 : CallOk Try.prog 15 := CallOk.of (by kernel_rfl)
theorem ok16 : CallOk Try.prog 16 := CallOk.of (by kernel_rfl)
theorem ok17 : CallOk Try.prog 17 := CallOk.of (by kernel_rfl)
theorem ok22 : CallOk Try.prog 22 := CallOk.of (by kernel_rfl)
theorem ok23 : CallOk Try.prog 23 := CallOk.of (by kernel_rfl)
theorem ok24 : CallOk Try.prog 24 := CallOk.of (by kernel_rfl)
theorem ok25 : CallOk Try.prog 25 := CallOk.of (by kernel_rfl)
theorem ok26 : CallOk Try.prog 26 := CallOk.of (by kernel_rfl)
theorem ok27 : CallOk Try.prog 27 := CallOk.of (by kernel_rfl)
theorem ok28 : CallOk Try.prog 28 := CallOk.of (by kernel_rfl)
theorem ok29 : CallOk Try.prog 29 := CallOk.of (by kernel_rfl)
theorem ok30 : CallOk Try.prog 30 := CallOk.of (by kernel_rfl)
theorem ok31 : CallOk Try.prog 31 := CallOk.of (by kernel_rfl)
theorem ok32 : CallOk Try.prog 32 := CallOk.of (by kernel_rfl)
theorem ok38 : CallOk Try.prog 38 := CallOk.of (by kernel_rfl)
theorem ok39 : CallOk Try.prog 39 := CallOk.of (by kernel_rfl)
theorem ok42 : CallOk Try.prog 42 := CallOk.of (by kernel_rfl)
theorem ok44 : CallOk Try.prog 44 := CallOk.of (by kernel_rfl)
theorem ok59 : CallOk Try.prog 59 := CallOk.of (by kernel_rfl)
theorem ok9 : CallOk Try.prog 9 := CallOk.of (by kernel_rfl)
theorem strb23 : StrB Try.prog 23 [(0, 1), (1, 1), (2, 1), (3, 1)] [.int .i64 0, .int .i64 0, vs [], vs []] := StrB.of (by kernel_rfl) (by kernel_rfl)
theorem sz23 : SzIs Try.prog 23 4 := SzIs.of (by kernel_rfl)
theorem zero23 : ZeroT Try.prog 23 [.int .i64 0, .int .i64 0, vs [], vs []] := ZeroT.of (by kernel_rfl)
theorem eqM : EqT Try.prog 23 mkC := EqT.of [(0, .i .i64), (1, .i .i64), (2, .s), (3, .s)] (by kernel_rfl) (by kernel_rfl) (by kernel_rfl) (by kernel_rfl)
  (fun a b s hs => by
    simp only [List.mem_cons, List.mem_nil_iff, or_false] at hs
    rcases hs with rfl | rfl | rfl | rfl
    all_goals exact ⟨_, _, rfl, rfl, ⟨_, rfl⟩, ⟨_, rfl⟩⟩)
  (fun a b => by
    obtain ⟨k, n, s, t⟩ := a
    obtain ⟨k', n', s', t'⟩ := b
    simp [mkC, eqC, vs, Bool.and_assoc])
def er5 (e : Int × Int × Int × Int × Int) : List Value := [.int .i64 e.1, .int .i64 e.2.1, .int .i64 e.2.2.1, .int .i64 e.2.2.2.1, .int .i64 e.2.2.2.2]
theorem eqA5 : EqT Try.prog 72 er5 := EqT.ofArr 5 (.i .i64) (by kernel_rfl) (by kernel_rfl) (SzIs.of (by kernel_rfl)) (show Try.prog.underlying 28 = some (.int .i64) by kernel_rfl)
  (fun a b i hi => by
    match i, hi with
    | 0, _ => exact ⟨_, _, rfl, rfl, ⟨_, rfl⟩, ⟨_, rfl⟩⟩
    | 1, _ => exact ⟨_, _, rfl, rfl, ⟨_, rfl⟩, ⟨_, rfl⟩⟩
    | 2, _ => exact ⟨_, _, rfl, rfl, ⟨_, rfl⟩, ⟨_, rfl⟩⟩
    | 3, _ => exact ⟨_, _, rfl, rfl, ⟨_, rfl⟩, ⟨_, rfl⟩⟩
    | 4, _ => exact ⟨_, _, rfl, rfl, ⟨_, rfl⟩, ⟨_, rfl⟩⟩)
  (fun a b => by
    obtain ⟨k, n, s, t, x⟩ := a
    obtain ⟨k', n', s', t', x'⟩ := b
    show (eqC (.int .i64 k) (.int .i64 k') && (eqC (.int .i64 n) (.int .i64 n') && (eqC (.int .i64 s) (.int .i64 s') && (eqC (.int .i64 t) (.int .i64 t') && (eqC (.int .i64 x) (.int .i64 x') && true))))) = _
    simp [eqC, Bool.and_assoc])
theorem z8 : ∃ i, Try.prog.info? 5 = some i ∧ i.zero = some (.int .u8 0) ∧ i.size = 1 ∧ i.bytes = 1 := by
  have h : (Try.prog.info? 5).map (fun i => (i.zero, i.size, i.bytes)) = some (some (.int .u8 0), 1, 1) := by kernel_rfl
  cases hi : Try.prog.info? 5 with
  | none => simp [hi] at h
  | some i => simp [hi] at h; exact ⟨i, rfl, h.1, h.2.1, h.2.2⟩
theorem c_RChainN (x : List UInt8) (hx : x.length ≤ 1000000) (ad : Option Addr) (cap n : Nat) (l : List (List UInt8)) (hn : n = l.length) (hsz : ∀ s ∈ l, s.length ≤ 1000000) (hcnt : l.length ≤ 900000000) (w0 : World) (h0 : View) (hv : VLe h0 (Full w0)) (hb : SlC 9 1 (flatR fun s => [vs s]) h0 (.slice ad n cap) l) : Calls Try.prog 30 #[vs x, .slice ad n cap] w0 (Ret w0 h0 fun u _ => u = vs (chainS x l)) := by
  subst hn; exact c_RChain x hx ad cap l hsz hcnt w0 h0 hv hb
theorem c_Repeat32 (w0 : World) (h0 : View) (hv : VLe h0 (Full w0)) : Calls Try.prog 32 #[.string ⟨#[0]⟩, .int .i64 32] w0 (Ret w0 h0 fun u _ => u = vs Z32) := by
  have := calls_below (h := h0) (Try.strings_Repeat_main ⟨#[0]⟩ 32 w0 (by decide) (by decide) (by decide) (by decide))
  exact this

theorem c_Check (m : Mk) (w0 : World) (h0 : View) (hv : VLe h0 (Full w0))  : Calls Try.prog 27 #[.agg (mkC m).toArray] w0 (Ret w0 h0 fun u _ => u = .int .i64 (chkM m)) := by
  refine f_enter (args := [.agg (mkC m).toArray]) Try.func27 rfl Try.ntmps27 rfl fun a hF => ?_
  have hS := St.init w0 h0 hv
  refine c_seq ?_
  refine c_reg ?_
  refine s_box hF hS rfl rfl rfl ?_; clear hS hF; intro b0 w a hS hF
  refine s_pu hF (pu_assign rfl) rfl ?_; clear hF; intro a hF
  refine c_nil ?_
  refine n_then ?_
  refine c_seq ?_
  refine c_block ?_
  refine c_seq ?_
  refine c_reg ?_
  refine s_pu hF (pu_faddr fld23_0 rfl) rfl ?_; clear hF; intro a hF
  refine s_pu hF (o_load1 (i := 0) hS rfl one3 rfl rfl) rfl ?_; clear hF; intro a hF
  refine s_pu hF (pu_ilt rfl rfl) rfl ?_; clear hF; intro a hF
  refine s_pu hF (pu_move rfl) rfl ?_; clear hF; intro a hF
  refine w_split hF ⟨_, _, (rfl : _[3]? = some _), rfl, rfl⟩ (fun hg1_3 => ?_) (fun hg1_3 => ?_)
  · have hg1_3p := hg1_3
    try simp only [decide_eq_true_eq, decide_eq_false_iff_not, Bool.not_eq_true', Bool.not_eq_false', Bool.not_eq_eq_eq_not, Bool.not_true, Bool.not_false] at hg1_3p
    refine g_no hF ⟨_, _, (rfl : _[3]? = some _), rfl, rfl⟩ hg1_3 rfl ?_; clear hF; intro a hF
    refine g_no hF ⟨_, _, (rfl : _[3]? = some _), rfl, rfl⟩ hg1_3 rfl ?_; clear hF; intro a hF
    refine g_no hF ⟨_, _, (rfl : _[3]? = some _), rfl, rfl⟩ hg1_3 rfl ?_; clear hF; intro a hF
    refine g_no hF ⟨_, _, (rfl : _[3]? = some _), rfl, rfl⟩ hg1_3 rfl ?_; clear hF; intro a hF
    refine g_no hF ⟨_, _, (rfl : _[3]? = some _), rfl, rfl⟩ hg1_3 rfl ?_; clear hF; intro a hF
    refine s_pu hF (pu_pick_t rfl hg1_3 rfl) rfl ?_; clear hF; intro a hF
    refine s_pu hF (pu_move rfl) rfl ?_; clear hF; intro a hF
    refine g_no hF ⟨_, _, (rfl : _[10]? = some _), rfl, rfl⟩ rfl rfl ?_; clear hF; intro a hF
    refine g_no hF ⟨_, _, (rfl : _[10]? = some _), rfl, rfl⟩ rfl rfl ?_; clear hF; intro a hF
    refine g_no hF ⟨_, _, (rfl : _[10]? = some _), rfl, rfl⟩ rfl rfl ?_; clear hF; intro a hF
    refine s_pu hF (pu_pick_t rfl rfl rfl) rfl ?_; clear hF; intro a hF
    refine s_pu hF (pu_assign rfl) rfl ?_; clear hF; intro a hF
    refine c_nil ?_
    refine n_then ?_
    refine c_ift hF rfl rfl ?_
    refine c_seq ?_
    refine c_reg ?_
    refine s_pu hF (pu_assign rfl) rfl ?_; clear hF; intro a hF
    refine c_nil ?_
    refine n_then ?_
    refine c_ret (r_block (r_then ?_))
    exact f_ret hF rfl (.tmp rfl (.nil)) (hS.retv (congrArg (Value.int .i64) (by rw [chkM, if_neg (by unfold RightM; rintro ⟨h1, h2, h3, h4, h5, h6 | h6⟩ <;> first | omega | exact absurd h6 hc30)])))
  · have hg1_3p := hg1_3
    try simp only [decide_eq_true_eq, decide_eq_false_iff_not, Bool.not_eq_true', Bool.not_eq_false', Bool.not_eq_eq_eq_not, Bool.not_true, Bool.not_false] at hg1_3p
    refine g_pu hF ⟨_, _, (rfl : _[3]? = some _), rfl, rfl⟩ hg1_3 (pu_faddr fld23_0 rfl) rfl ?_; clear hF; intro a hF
    refine g_pu hF ⟨_, _, (rfl : _[3]? = some _), rfl, rfl⟩ hg1_3 (o_load1 (i := 0) hS rfl one3 rfl rfl) rfl ?_; clear hF; intro a hF
    refine g_pu hF ⟨_, _, (rfl : _[3]? = some _), rfl, rfl⟩ hg1_3 (pu_faddr fld23_1 rfl) rfl ?_; clear hF; intro a hF
    refine g_pu hF ⟨_, _, (rfl : _[3]? = some _), rfl, rfl⟩ hg1_3 (o_load1 (i := 0) hS rfl one3 rfl rfl) rfl ?_; clear hF; intro a hF
    refine g_pu hF ⟨_, _, (rfl : _[3]? = some _), rfl, rfl⟩ hg1_3 (pu_igt rfl rfl) rfl ?_; clear hF; intro a hF
    refine s_pu hF (pu_pick_f rfl hg1_3 rfl) rfl ?_; clear hF; intro a hF
    refine s_pu hF (pu_move rfl) rfl ?_; clear hF; intro a hF
    refine w_split hF ⟨_, _, (rfl : _[10]? = some _), rfl, rfl⟩ (fun hg1_10 => ?_) (fun hg1_10 => ?_)
    · have hg1_10p := hg1_10
      try simp only [decide_eq_true_eq, decide_eq_false_iff_not, Bool.not_eq_true', Bool.not_eq_false', Bool.not_eq_eq_eq_not, Bool.not_true, Bool.not_false] at hg1_10p
      refine g_no hF ⟨_, _, (rfl : _[10]? = some _), rfl, rfl⟩ hg1_10 rfl ?_; clear hF; intro a hF
      refine g_no hF ⟨_, _, (rfl : _[10]? = some _), rfl, rfl⟩ hg1_10 rfl ?_; clear hF; intro a hF
      refine g_no hF ⟨_, _, (rfl : _[10]? = some _), rfl, rfl⟩ hg1_10 rfl ?_; clear hF; intro a hF
      refine s_pu hF (pu_pick_t rfl hg1_10 rfl) rfl ?_; clear hF; intro a hF
      refine s_pu hF (pu_assign rfl) rfl ?_; clear hF; intro a hF
      refine c_nil ?_
      refine n_then ?_
      refine c_ift hF rfl rfl ?_
      refine c_seq ?_
      refine c_reg ?_
      refine s_pu hF (pu_assign rfl) rfl ?_; clear hF; intro a hF
      refine c_nil ?_
      refine n_then ?_
      refine c_ret (r_block (r_then ?_))
      exact f_ret hF rfl (.tmp rfl (.nil)) (hS.retv (congrArg (Value.int .i64) (by rw [chkM, if_neg (by unfold RightM; rintro ⟨h1, h2, h3, h4, h5, h6 | h6⟩ <;> first | omega | exact absurd h6 hc30)])))
    · have hg1_10p := hg1_10
      try simp only [decide_eq_true_eq, decide_eq_false_iff_not, Bool.not_eq_true', Bool.not_eq_false', Bool.not_eq_eq_eq_not, Bool.not_true, Bool.not_false] at hg1_10p
      refine g_pu hF ⟨_, _, (rfl : _[10]? = some _), rfl, rfl⟩ hg1_10 (pu_faddr fld23_1 rfl) rfl ?_; clear hF; intro a hF
      refine g_pu hF ⟨_, _, (rfl : _[10]? = some _), rfl, rfl⟩ hg1_10 (o_load1 (i := 0) hS rfl one3 rfl rfl) rfl ?_; clear hF; intro a hF
      refine g_pu hF ⟨_, _, (rfl : _[10]? = some _), rfl, rfl⟩ hg1_10 (pu_igt rfl rfl) rfl ?_; clear hF; intro a hF
      refine s_pu hF (pu_pick_f rfl hg1_10 rfl) rfl ?_; clear hF; intro a hF
      refine s_pu hF (pu_assign rfl) rfl ?_; clear hF; intro a hF
      refine c_nil ?_
      refine n_then ?_
      refine c_if hF rfl (fun hc3 => ?_) (fun hc3 => ?_)
      · try simp only [decide_eq_true_eq, decide_eq_false_iff_not, Bool.not_eq_true', Bool.not_eq_false', Bool.not_eq_eq_eq_not, Bool.not_true, Bool.not_false] at hc3
        refine c_seq ?_
        refine c_reg ?_
        refine s_pu hF (pu_assign rfl) rfl ?_; clear hF; intro a hF
        refine c_nil ?_
        refine n_then ?_
        refine c_ret (r_block (r_then ?_))
        exact f_ret hF rfl (.tmp rfl (.nil)) (hS.retv (congrArg (Value.int .i64) (by rw [chkM, if_neg (by unfold RightM; rintro ⟨h1, h2, h3, h4, h5, h6 | h6⟩ <;> first | omega | exact absurd h6 hc30)])))
      · try simp only [decide_eq_true_eq, decide_eq_false_iff_not, Bool.not_eq_true', Bool.not_eq_false', Bool.not_eq_eq_eq_not, Bool.not_true, Bool.not_false] at hc3
        refine c_seq ?_
        refine c_reg ?_
        refine s_pu hF (pu_faddr fld23_2 rfl) rfl ?_; clear hF; intro a hF
        refine s_pu hF (o_load1 (i := 0) hS rfl one9 rfl rfl) rfl ?_; clear hF; intro a hF
        refine s_pu hF (pu_len_s tyS9 rfl rfl) rfl ?_; clear hF; intro a hF
        refine s_pu hF (pu_ine rfl rfl) rfl ?_; clear hF; intro a hF
        refine s_pu hF (pu_move rfl) rfl ?_; clear hF; intro a hF
        refine w_split hF ⟨_, _, (rfl : _[4]? = some _), rfl, rfl⟩ (fun hg3_4 => ?_) (fun hg3_4 => ?_)
        · have hg3_4p := hg3_4
          try simp only [decide_eq_true_eq, decide_eq_false_iff_not, Bool.not_eq_true', Bool.not_eq_false', Bool.not_eq_eq_eq_not, Bool.not_true, Bool.not_false] at hg3_4p
          refine g_no hF ⟨_, _, (rfl : _[4]? = some _), rfl, rfl⟩ hg3_4 rfl ?_; clear hF; intro a hF
          refine g_no hF ⟨_, _, (rfl : _[4]? = some _), rfl, rfl⟩ hg3_4 rfl ?_; clear hF; intro a hF
          refine g_no hF ⟨_, _, (rfl : _[4]? = some _), rfl, rfl⟩ hg3_4 rfl ?_; clear hF; intro a hF
          refine g_no hF ⟨_, _, (rfl : _[4]? = some _), rfl, rfl⟩ hg3_4 rfl ?_; clear hF; intro a hF
          refine s_pu hF (pu_pick_t rfl hg3_4 rfl) rfl ?_; clear hF; intro a hF
          refine s_pu hF (pu_assign rfl) rfl ?_; clear hF; intro a hF
          refine c_nil ?_
          refine n_then ?_
          refine c_ift hF rfl rfl ?_
          refine c_seq ?_
          refine c_reg ?_
          refine s_pu hF (pu_assign rfl) rfl ?_; clear hF; intro a hF
          refine c_nil ?_
          refine n_then ?_
          refine c_ret (r_block (r_then ?_))
          exact f_ret hF rfl (.tmp rfl (.nil)) (hS.retv (congrArg (Value.int .i64) (by rw [chkM, if_neg (by unfold RightM; rintro ⟨h1, h2, h3, h4, h5, h6 | h6⟩ <;> first | omega | exact absurd h6 hc30)])))
        · have hg3_4p := hg3_4
          try simp only [decide_eq_true_eq, decide_eq_false_iff_not, Bool.not_eq_true', Bool.not_eq_false', Bool.not_eq_eq_eq_not, Bool.not_true, Bool.not_false] at hg3_4p
          refine g_pu hF ⟨_, _, (rfl : _[4]? = some _), rfl, rfl⟩ hg3_4 (pu_faddr fld23_3 rfl) rfl ?_; clear hF; intro a hF
          refine g_pu hF ⟨_, _, (rfl : _[4]? = some _), rfl, rfl⟩ hg3_4 (o_load1 (i := 0) hS rfl one9 rfl rfl) rfl ?_; clear hF; intro a hF
          refine g_pu hF ⟨_, _, (rfl : _[4]? = some _), rfl, rfl⟩ hg3_4 (pu_len_s tyS9 rfl rfl) rfl ?_; clear hF; intro a hF
          refine g_pu hF ⟨_, _, (rfl : _[4]? = some _), rfl, rfl⟩ hg3_4 (pu_ine rfl rfl) rfl ?_; clear hF; intro a hF
          refine s_pu hF (pu_pick_f rfl hg3_4 rfl) rfl ?_; clear hF; intro a hF
          refine s_pu hF (pu_assign rfl) rfl ?_; clear hF; intro a hF
          refine c_nil ?_
          refine n_then ?_
          refine c_if hF rfl (fun hc19 => ?_) (fun hc19 => ?_)
          · try simp only [decide_eq_true_eq, decide_eq_false_iff_not, Bool.not_eq_true', Bool.not_eq_false', Bool.not_eq_eq_eq_not, Bool.not_true, Bool.not_false] at hc19
            refine c_seq ?_
            refine c_reg ?_
            refine s_pu hF (pu_assign rfl) rfl ?_; clear hF; intro a hF
            refine c_nil ?_
            refine n_then ?_
            refine c_ret (r_block (r_then ?_))
            exact f_ret hF rfl (.tmp rfl (.nil)) (hS.retv (congrArg (Value.int .i64) (by rw [chkM, if_neg (by unfold RightM; rintro ⟨h1, h2, h3, h4, h5, h6 | h6⟩ <;> first | omega | exact absurd h6 hc30)])))
          · try simp only [decide_eq_true_eq, decide_eq_false_iff_not, Bool.not_eq_true', Bool.not_eq_false', Bool.not_eq_eq_eq_not, Bool.not_true, Bool.not_false] at hc19
            refine c_seq ?_
            refine c_reg ?_
            refine s_pu hF (pu_faddr fld23_0 rfl) rfl ?_; clear hF; intro a hF
            refine s_pu hF (o_load1 (i := 0) hS rfl one3 rfl rfl) rfl ?_; clear hF; intro a hF
            refine s_pu hF (pu_faddr fld23_1 rfl) rfl ?_; clear hF; intro a hF
            refine s_pu hF (o_load1 (i := 0) hS rfl one3 rfl rfl) rfl ?_; clear hF; intro a hF
            refine s_pu hF (pu_ieq rfl rfl) rfl ?_; clear hF; intro a hF
            refine s_pu hF (pu_move rfl) rfl ?_; clear hF; intro a hF
            refine w_split hF ⟨_, _, (rfl : _[5]? = some _), rfl, rfl⟩ (fun hg5_5 => ?_) (fun hg5_5 => ?_)
            · have hg5_5p := hg5_5
              try simp only [decide_eq_true_eq, decide_eq_false_iff_not, Bool.not_eq_true', Bool.not_eq_false', Bool.not_eq_eq_eq_not, Bool.not_true, Bool.not_false] at hg5_5p
              refine g_pu hF ⟨_, _, (rfl : _[5]? = some _), rfl, rfl⟩ hg5_5 (pu_faddr fld23_2 rfl) rfl ?_; clear hF; intro a hF
              refine g_pu hF ⟨_, _, (rfl : _[5]? = some _), rfl, rfl⟩ hg5_5 (o_load1 (i := 0) hS rfl one9 rfl rfl) rfl ?_; clear hF; intro a hF
              refine g_pu hF ⟨_, _, (rfl : _[5]? = some _), rfl, rfl⟩ hg5_5 (pu_faddr fld23_3 rfl) rfl ?_; clear hF; intro a hF
              refine g_pu hF ⟨_, _, (rfl : _[5]? = some _), rfl, rfl⟩ hg5_5 (o_load1 (i := 0) hS rfl one9 rfl rfl) rfl ?_; clear hF; intro a hF
              refine g_pu hF ⟨_, _, (rfl : _[5]? = some _), rfl, rfl⟩ hg5_5 (pu_sne rfl rfl) rfl ?_; clear hF; intro a hF
              refine s_pu hF (pu_pick_t rfl hg5_5 rfl) rfl ?_; clear hF; intro a hF
              refine s_pu hF (pu_assign rfl) rfl ?_; clear hF; intro a hF
              refine c_nil ?_
              refine n_then ?_
              refine c_if hF rfl (fun hc30 => ?_) (fun hc30 => ?_)
              · try simp only [decide_eq_true_eq, decide_eq_false_iff_not, Bool.not_eq_true', Bool.not_eq_false', Bool.not_eq_eq_eq_not, Bool.not_true, Bool.not_false] at hc30
                refine c_seq ?_
                refine c_reg ?_
                refine s_pu hF (pu_assign rfl) rfl ?_; clear hF; intro a hF
                refine c_nil ?_
                refine n_then ?_
                refine c_ret (r_block (r_then ?_))
                exact f_ret hF rfl (.tmp rfl (.nil)) (hS.retv (congrArg (Value.int .i64) (by rw [chkM, if_neg (by unfold RightM; rintro ⟨h1, h2, h3, h4, h5, h6 | h6⟩ <;> first | omega | exact absurd h6 hc30)])))
              · try simp only [decide_eq_true_eq, decide_eq_false_iff_not, Bool.not_eq_true', Bool.not_eq_false', Bool.not_eq_eq_eq_not, Bool.not_true, Bool.not_false] at hc30
                refine c_skip ?_
                refine n_block ?_
                refine n_then ?_
                refine c_seq ?_
                refine c_reg ?_
                refine s_pu hF (pu_assign rfl) rfl ?_; clear hF; intro a hF
                refine c_nil ?_
                refine n_then ?_
                refine c_ret ?_
                exact f_ret hF rfl (.tmp rfl (.nil)) (hS.retv (congrArg (Value.int .i64) (by rw [chkM, if_pos ⟨by omega, by omega, by omega, by omega, by omega, by first | (left; omega) | (right; exact hc30)⟩])))
            · have hg5_5p := hg5_5
              try simp only [decide_eq_true_eq, decide_eq_false_iff_not, Bool.not_eq_true', Bool.not_eq_false', Bool.not_eq_eq_eq_not, Bool.not_true, Bool.not_false] at hg5_5p
              refine g_no hF ⟨_, _, (rfl : _[5]? = some _), rfl, rfl⟩ hg5_5 rfl ?_; clear hF; intro a hF
              refine g_no hF ⟨_, _, (rfl : _[5]? = some _), rfl, rfl⟩ hg5_5 rfl ?_; clear hF; intro a hF
              refine g_no hF ⟨_, _, (rfl : _[5]? = some _), rfl, rfl⟩ hg5_5 rfl ?_; clear hF; intro a hF
              refine g_no hF ⟨_, _, (rfl : _[5]? = some _), rfl, rfl⟩ hg5_5 rfl ?_; clear hF; intro a hF
              refine g_no hF ⟨_, _, (rfl : _[5]? = some _), rfl, rfl⟩ hg5_5 rfl ?_; clear hF; intro a hF
              refine s_pu hF (pu_pick_f rfl hg5_5 rfl) rfl ?_; clear hF; intro a hF
              refine s_pu hF (pu_assign rfl) rfl ?_; clear hF; intro a hF
              refine c_nil ?_
              refine n_then ?_
              refine c_iff hF rfl rfl ?_
              refine c_skip ?_
              refine n_block ?_
              refine n_then ?_
              refine c_seq ?_
              refine c_reg ?_
              refine s_pu hF (pu_assign rfl) rfl ?_; clear hF; intro a hF
              refine c_nil ?_
              refine n_then ?_
              refine c_ret ?_
              exact f_ret hF rfl (.tmp rfl (.nil)) (hS.retv (congrArg (Value.int .i64) (by rw [chkM, if_pos ⟨by omega, by omega, by omega, by omega, by omega, by first | (left; omega) | (right; exact hc30)⟩])))
theorem c_RRight (m : Mk) (w0 : World) (h0 : View) (hv : VLe h0 (Full w0))  : Calls Try.prog 31 #[.agg (mkC m).toArray] w0 (Ret w0 h0 fun u _ => u = .bool (decide (RightM m))) := by
  refine f_enter (args := [.agg (mkC m).toArray]) Try.func31 rfl Try.ntmps31 rfl fun a hF => ?_
  have hS := St.init w0 h0 hv
  refine c_seq ?_
  refine c_reg ?_
  refine s_box hF hS rfl rfl rfl ?_; clear hS hF; intro b0 w a hS hF
  refine s_pu hF (pu_assign rfl) rfl ?_; clear hF; intro a hF
  refine c_nil ?_
  refine n_then ?_
  refine c_seq ?_
  refine c_reg ?_
  refine s_pu hF (pu_faddr fld23_0 rfl) rfl ?_; clear hF; intro a hF
  refine s_pu hF (o_load1 (i := 0) hS rfl one3 rfl rfl) rfl ?_; clear hF; intro a hF
  refine s_pu hF (pu_ige rfl rfl) rfl ?_; clear hF; intro a hF
  refine s_pu hF (pu_move rfl) rfl ?_; clear hF; intro a hF
  refine w_split hF ⟨_, _, (rfl : _[3]? = some _), rfl, rfl⟩ (fun hg1_3 => ?_) (fun hg1_3 => ?_)
  · have hg1_3p := hg1_3
    try simp only [decide_eq_true_eq, decide_eq_false_iff_not, Bool.not_eq_true', Bool.not_eq_false', Bool.not_eq_eq_eq_not, Bool.not_true, Bool.not_false] at hg1_3p
    refine g_pu hF ⟨_, _, (rfl : _[3]? = some _), rfl, rfl⟩ hg1_3 (pu_faddr fld23_0 rfl) rfl ?_; clear hF; intro a hF
    refine g_pu hF ⟨_, _, (rfl : _[3]? = some _), rfl, rfl⟩ hg1_3 (o_load1 (i := 0) hS rfl one3 rfl rfl) rfl ?_; clear hF; intro a hF
    refine g_pu hF ⟨_, _, (rfl : _[3]? = some _), rfl, rfl⟩ hg1_3 (pu_faddr fld23_1 rfl) rfl ?_; clear hF; intro a hF
    refine g_pu hF ⟨_, _, (rfl : _[3]? = some _), rfl, rfl⟩ hg1_3 (o_load1 (i := 0) hS rfl one3 rfl rfl) rfl ?_; clear hF; intro a hF
    refine g_pu hF ⟨_, _, (rfl : _[3]? = some _), rfl, rfl⟩ hg1_3 (pu_ile rfl rfl) rfl ?_; clear hF; intro a hF
    refine s_pu hF (pu_pick_t rfl hg1_3 rfl) rfl ?_; clear hF; intro a hF
    refine s_pu hF (pu_move rfl) rfl ?_; clear hF; intro a hF
    refine w_split hF ⟨_, _, (rfl : _[10]? = some _), rfl, rfl⟩ (fun hg1_10 => ?_) (fun hg1_10 => ?_)
    · have hg1_10p := hg1_10
      try simp only [decide_eq_true_eq, decide_eq_false_iff_not, Bool.not_eq_true', Bool.not_eq_false', Bool.not_eq_eq_eq_not, Bool.not_true, Bool.not_false] at hg1_10p
      refine g_pu hF ⟨_, _, (rfl : _[10]? = some _), rfl, rfl⟩ hg1_10 (pu_faddr fld23_1 rfl) rfl ?_; clear hF; intro a hF
      refine g_pu hF ⟨_, _, (rfl : _[10]? = some _), rfl, rfl⟩ hg1_10 (o_load1 (i := 0) hS rfl one3 rfl rfl) rfl ?_; clear hF; intro a hF
      refine g_pu hF ⟨_, _, (rfl : _[10]? = some _), rfl, rfl⟩ hg1_10 (pu_ile rfl rfl) rfl ?_; clear hF; intro a hF
      refine s_pu hF (pu_pick_t rfl hg1_10 rfl) rfl ?_; clear hF; intro a hF
      refine s_pu hF (pu_move rfl) rfl ?_; clear hF; intro a hF
      refine w_split hF ⟨_, _, (rfl : _[15]? = some _), rfl, rfl⟩ (fun hg1_15 => ?_) (fun hg1_15 => ?_)
      · have hg1_15p := hg1_15
        try simp only [decide_eq_true_eq, decide_eq_false_iff_not, Bool.not_eq_true', Bool.not_eq_false', Bool.not_eq_eq_eq_not, Bool.not_true, Bool.not_false] at hg1_15p
        refine g_pu hF ⟨_, _, (rfl : _[15]? = some _), rfl, rfl⟩ hg1_15 (pu_faddr fld23_2 rfl) rfl ?_; clear hF; intro a hF
        refine g_pu hF ⟨_, _, (rfl : _[15]? = some _), rfl, rfl⟩ hg1_15 (o_load1 (i := 0) hS rfl one9 rfl rfl) rfl ?_; clear hF; intro a hF
        refine g_pu hF ⟨_, _, (rfl : _[15]? = some _), rfl, rfl⟩ hg1_15 (pu_len_s tyS9 rfl rfl) rfl ?_; clear hF; intro a hF
        refine g_pu hF ⟨_, _, (rfl : _[15]? = some _), rfl, rfl⟩ hg1_15 (pu_ieq rfl rfl) rfl ?_; clear hF; intro a hF
        refine s_pu hF (pu_pick_t rfl hg1_15 rfl) rfl ?_; clear hF; intro a hF
        refine s_pu hF (pu_move rfl) rfl ?_; clear hF; intro a hF
        refine w_split hF ⟨_, _, (rfl : _[21]? = some _), rfl, rfl⟩ (fun hg1_21 => ?_) (fun hg1_21 => ?_)
        · have hg1_21p := hg1_21
          try simp only [decide_eq_true_eq, decide_eq_false_iff_not, Bool.not_eq_true', Bool.not_eq_false', Bool.not_eq_eq_eq_not, Bool.not_true, Bool.not_false] at hg1_21p
          refine g_pu hF ⟨_, _, (rfl : _[21]? = some _), rfl, rfl⟩ hg1_21 (pu_faddr fld23_3 rfl) rfl ?_; clear hF; intro a hF
          refine g_pu hF ⟨_, _, (rfl : _[21]? = some _), rfl, rfl⟩ hg1_21 (o_load1 (i := 0) hS rfl one9 rfl rfl) rfl ?_; clear hF; intro a hF
          refine g_pu hF ⟨_, _, (rfl : _[21]? = some _), rfl, rfl⟩ hg1_21 (pu_len_s tyS9 rfl rfl) rfl ?_; clear hF; intro a hF
          refine g_pu hF ⟨_, _, (rfl : _[21]? = some _), rfl, rfl⟩ hg1_21 (pu_ieq rfl rfl) rfl ?_; clear hF; intro a hF
          refine s_pu hF (pu_pick_t rfl hg1_21 rfl) rfl ?_; clear hF; intro a hF
          refine s_pu hF (pu_move rfl) rfl ?_; clear hF; intro a hF
          refine w_split hF ⟨_, _, (rfl : _[27]? = some _), rfl, rfl⟩ (fun hg1_27 => ?_) (fun hg1_27 => ?_)
          · have hg1_27p := hg1_27
            try simp only [decide_eq_true_eq, decide_eq_false_iff_not, Bool.not_eq_true', Bool.not_eq_false', Bool.not_eq_eq_eq_not, Bool.not_true, Bool.not_false] at hg1_27p
            refine g_pu hF ⟨_, _, (rfl : _[27]? = some _), rfl, rfl⟩ hg1_27 (pu_faddr fld23_0 rfl) rfl ?_; clear hF; intro a hF
            refine g_pu hF ⟨_, _, (rfl : _[27]? = some _), rfl, rfl⟩ hg1_27 (o_load1 (i := 0) hS rfl one3 rfl rfl) rfl ?_; clear hF; intro a hF
            refine g_pu hF ⟨_, _, (rfl : _[27]? = some _), rfl, rfl⟩ hg1_27 (pu_faddr fld23_1 rfl) rfl ?_; clear hF; intro a hF
            refine g_pu hF ⟨_, _, (rfl : _[27]? = some _), rfl, rfl⟩ hg1_27 (o_load1 (i := 0) hS rfl one3 rfl rfl) rfl ?_; clear hF; intro a hF
            refine g_pu hF ⟨_, _, (rfl : _[27]? = some _), rfl, rfl⟩ hg1_27 (pu_ilt rfl rfl) rfl ?_; clear hF; intro a hF
            refine g_pu hF ⟨_, _, (rfl : _[27]? = some _), rfl, rfl⟩ hg1_27 (pu_move rfl) rfl ?_; clear hF; intro a hF
            refine w_split hF ⟨_, _, (rfl : _[33]? = some _), rfl, rfl⟩ (fun hg1_33 => ?_) (fun hg1_33 => ?_)
            · have hg1_33p := hg1_33
              try simp only [decide_eq_true_eq, decide_eq_false_iff_not, Bool.not_eq_true', Bool.not_eq_false', Bool.not_eq_eq_eq_not, Bool.not_true, Bool.not_false] at hg1_33p
              refine g_no hF ⟨_, _, (rfl : _[33]? = some _), rfl, rfl⟩ hg1_33 rfl ?_; clear hF; intro a hF
              refine g_no hF ⟨_, _, (rfl : _[33]? = some _), rfl, rfl⟩ hg1_33 rfl ?_; clear hF; intro a hF
              refine g_no hF ⟨_, _, (rfl : _[33]? = some _), rfl, rfl⟩ hg1_33 rfl ?_; clear hF; intro a hF
              refine g_no hF ⟨_, _, (rfl : _[33]? = some _), rfl, rfl⟩ hg1_33 rfl ?_; clear hF; intro a hF
              refine g_no hF ⟨_, _, (rfl : _[33]? = some _), rfl, rfl⟩ hg1_33 rfl ?_; clear hF; intro a hF
              refine g_pu hF ⟨_, _, (rfl : _[27]? = some _), rfl, rfl⟩ hg1_27 (pu_pick_t rfl hg1_33 rfl) rfl ?_; clear hF; intro a hF
              refine s_pu hF (pu_pick_t rfl hg1_27 rfl) rfl ?_; clear hF; intro a hF
              refine s_pu hF (pu_assign rfl) rfl ?_; clear hF; intro a hF
              refine c_nil ?_
              refine n_then ?_
              refine c_ret ?_
              exact f_ret hF rfl (.tmp rfl (.nil)) (hS.retv (congrArg Value.bool (by first | exact (decide_eq_false (fun h => by unfold RightM at h; omega)).symm | exact (decide_eq_true (show RightM m from ⟨by omega, by omega, by omega, by omega, by omega, .inl (by omega)⟩)).symm | exact decide_eq_decide.2 ⟨fun h => ⟨by omega, by omega, by omega, by omega, by omega, .inr h⟩, fun h => h.2.2.2.2.2.resolve_left (by omega)⟩ | exact decide_eq_decide.2 ⟨fun h => absurd h (by omega), fun h => by unfold RightM at h; omega⟩)))
            · have hg1_33p := hg1_33
              try simp only [decide_eq_true_eq, decide_eq_false_iff_not, Bool.not_eq_true', Bool.not_eq_false', Bool.not_eq_eq_eq_not, Bool.not_true, Bool.not_false] at hg1_33p
              refine g_pu hF ⟨_, _, (rfl : _[33]? = some _), rfl, rfl⟩ hg1_33 (pu_faddr fld23_2 rfl) rfl ?_; clear hF; intro a hF
              refine g_pu hF ⟨_, _, (rfl : _[33]? = some _), rfl, rfl⟩ hg1_33 (o_load1 (i := 0) hS rfl one9 rfl rfl) rfl ?_; clear hF; intro a hF
              refine g_pu hF ⟨_, _, (rfl : _[33]? = some _), rfl, rfl⟩ hg1_33 (pu_faddr fld23_3 rfl) rfl ?_; clear hF; intro a hF
              refine g_pu hF ⟨_, _, (rfl : _[33]? = some _), rfl, rfl⟩ hg1_33 (o_load1 (i := 0) hS rfl one9 rfl rfl) rfl ?_; clear hF; intro a hF
              refine g_pu hF ⟨_, _, (rfl : _[33]? = some _), rfl, rfl⟩ hg1_33 (pu_seq rfl rfl) rfl ?_; clear hF; intro a hF
              refine g_pu hF ⟨_, _, (rfl : _[27]? = some _), rfl, rfl⟩ hg1_27 (pu_pick_f rfl hg1_33 rfl) rfl ?_; clear hF; intro a hF
              refine s_pu hF (pu_pick_t rfl hg1_27 rfl) rfl ?_; clear hF; intro a hF
              refine s_pu hF (pu_assign rfl) rfl ?_; clear hF; intro a hF
              refine c_nil ?_
              refine n_then ?_
              refine c_ret ?_
              exact f_ret hF rfl (.tmp rfl (.nil)) (hS.retv (congrArg Value.bool (by first | exact (decide_eq_false (fun h => by unfold RightM at h; omega)).symm | exact (decide_eq_true (show RightM m from ⟨by omega, by omega, by omega, by omega, by omega, .inl (by omega)⟩)).symm | exact decide_eq_decide.2 ⟨fun h => ⟨by omega, by omega, by omega, by omega, by omega, .inr h⟩, fun h => h.2.2.2.2.2.resolve_left (by omega)⟩ | exact decide_eq_decide.2 ⟨fun h => absurd h (by omega), fun h => by unfold RightM at h; omega⟩)))
          · have hg1_27p := hg1_27
            try simp only [decide_eq_true_eq, decide_eq_false_iff_not, Bool.not_eq_true', Bool.not_eq_false', Bool.not_eq_eq_eq_not, Bool.not_true, Bool.not_false] at hg1_27p
            refine g_no hF ⟨_, _, (rfl : _[27]? = some _), rfl, rfl⟩ hg1_27 rfl ?_; clear hF; intro a hF
            refine g_no hF ⟨_, _, (rfl : _[27]? = some _), rfl, rfl⟩ hg1_27 rfl ?_; clear hF; intro a hF
            refine g_no hF ⟨_, _, (rfl : _[27]? = some _), rfl, rfl⟩ hg1_27 rfl ?_; clear hF; intro a hF
            refine g_no hF ⟨_, _, (rfl : _[27]? = some _), rfl, rfl⟩ hg1_27 rfl ?_; clear hF; intro a hF
            refine g_no hF ⟨_, _, (rfl : _[27]? = some _), rfl, rfl⟩ hg1_27 rfl ?_; clear hF; intro a hF
            refine g_no hF ⟨_, _, (rfl : _[27]? = some _), rfl, rfl⟩ hg1_27 rfl ?_; clear hF; intro a hF
            refine g_noU hF ⟨_, _, (rfl : _[33]? = some _), rfl, rfl⟩ rfl ?_; clear hF; intro a hF
            refine g_noU hF ⟨_, _, (rfl : _[33]? = some _), rfl, rfl⟩ rfl ?_; clear hF; intro a hF
            refine g_noU hF ⟨_, _, (rfl : _[33]? = some _), rfl, rfl⟩ rfl ?_; clear hF; intro a hF
            refine g_noU hF ⟨_, _, (rfl : _[33]? = some _), rfl, rfl⟩ rfl ?_; clear hF; intro a hF
            refine g_noU hF ⟨_, _, (rfl : _[33]? = some _), rfl, rfl⟩ rfl ?_; clear hF; intro a hF
            refine g_no hF ⟨_, _, (rfl : _[27]? = some _), rfl, rfl⟩ hg1_27 rfl ?_; clear hF; intro a hF
            refine s_pu hF (pu_pick_f rfl hg1_27 rfl) rfl ?_; clear hF; intro a hF
            refine s_pu hF (pu_assign rfl) rfl ?_; clear hF; intro a hF
            refine c_nil ?_
            refine n_then ?_
            refine c_ret ?_
            exact f_ret hF rfl (.tmp rfl (.nil)) (hS.retv (congrArg Value.bool (by first | exact (decide_eq_false (fun h => by unfold RightM at h; omega)).symm | exact (decide_eq_true (show RightM m from ⟨by omega, by omega, by omega, by omega, by omega, .inl (by omega)⟩)).symm | exact decide_eq_decide.2 ⟨fun h => ⟨by omega, by omega, by omega, by omega, by omega, .inr h⟩, fun h => h.2.2.2.2.2.resolve_left (by omega)⟩ | exact decide_eq_decide.2 ⟨fun h => absurd h (by omega), fun h => by unfold RightM at h; omega⟩)))
        · have hg1_21p := hg1_21
          try simp only [decide_eq_true_eq, decide_eq_false_iff_not, Bool.not_eq_true', Bool.not_eq_false', Bool.not_eq_eq_eq_not, Bool.not_true, Bool.not_false] at hg1_21p
          refine g_no hF ⟨_, _, (rfl : _[21]? = some _), rfl, rfl⟩ hg1_21 rfl ?_; clear hF; intro a hF
          refine g_no hF ⟨_, _, (rfl : _[21]? = some _), rfl, rfl⟩ hg1_21 rfl ?_; clear hF; intro a hF
          refine g_no hF ⟨_, _, (rfl : _[21]? = some _), rfl, rfl⟩ hg1_21 rfl ?_; clear hF; intro a hF
          refine g_no hF ⟨_, _, (rfl : _[21]? = some _), rfl, rfl⟩ hg1_21 rfl ?_; clear hF; intro a hF
          refine s_pu hF (pu_pick_f rfl hg1_21 rfl) rfl ?_; clear hF; intro a hF
          refine s_pu hF (pu_move rfl) rfl ?_; clear hF; intro a hF
          refine g_no hF ⟨_, _, (rfl : _[27]? = some _), rfl, rfl⟩ rfl rfl ?_; clear hF; intro a hF
          refine g_no hF ⟨_, _, (rfl : _[27]? = some _), rfl, rfl⟩ rfl rfl ?_; clear hF; intro a hF
          refine g_no hF ⟨_, _, (rfl : _[27]? = some _), rfl, rfl⟩ rfl rfl ?_; clear hF; intro a hF
          refine g_no hF ⟨_, _, (rfl : _[27]? = some _), rfl, rfl⟩ rfl rfl ?_; clear hF; intro a hF
          refine g_no hF ⟨_, _, (rfl : _[27]? = some _), rfl, rfl⟩ rfl rfl ?_; clear hF; intro a hF
          refine g_no hF ⟨_, _, (rfl : _[27]? = some _), rfl, rfl⟩ rfl rfl ?_; clear hF; intro a hF
          refine g_noU hF ⟨_, _, (rfl : _[33]? = some _), rfl, rfl⟩ rfl ?_; clear hF; intro a hF
          refine g_noU hF ⟨_, _, (rfl : _[33]? = some _), rfl, rfl⟩ rfl ?_; clear hF; intro a hF
          refine g_noU hF ⟨_, _, (rfl : _[33]? = some _), rfl, rfl⟩ rfl ?_; clear hF; intro a hF
          refine g_noU hF ⟨_, _, (rfl : _[33]? = some _), rfl, rfl⟩ rfl ?_; clear hF; intro a hF
          refine g_noU hF ⟨_, _, (rfl : _[33]? = some _), rfl, rfl⟩ rfl ?_; clear hF; intro a hF
          refine g_no hF ⟨_, _, (rfl : _[27]? = some _), rfl, rfl⟩ rfl rfl ?_; clear hF; intro a hF
          refine s_pu hF (pu_pick_f rfl rfl rfl) rfl ?_; clear hF; intro a hF
          refine s_pu hF (pu_assign rfl) rfl ?_; clear hF; intro a hF
          refine c_nil ?_
          refine n_then ?_
          refine c_ret ?_
          exact f_ret hF rfl (.tmp rfl (.nil)) (hS.retv (congrArg Value.bool (by first | exact (decide_eq_false (fun h => by unfold RightM at h; omega)).symm | exact (decide_eq_true (show RightM m from ⟨by omega, by omega, by omega, by omega, by omega, .inl (by omega)⟩)).symm | exact decide_eq_decide.2 ⟨fun h => ⟨by omega, by omega, by omega, by omega, by omega, .inr h⟩, fun h => h.2.2.2.2.2.resolve_left (by omega)⟩ | exact decide_eq_decide.2 ⟨fun h => absurd h (by omega), fun h => by unfold RightM at h; omega⟩)))
      · have hg1_15p := hg1_15
        try simp only [decide_eq_true_eq, decide_eq_false_iff_not, Bool.not_eq_true', Bool.not_eq_false', Bool.not_eq_eq_eq_not, Bool.not_true, Bool.not_false] at hg1_15p
        refine g_no hF ⟨_, _, (rfl : _[15]? = some _), rfl, rfl⟩ hg1_15 rfl ?_; clear hF; intro a hF
        refine g_no hF ⟨_, _, (rfl : _[15]? = some _), rfl, rfl⟩ hg1_15 rfl ?_; clear hF; intro a hF
        refine g_no hF ⟨_, _, (rfl : _[15]? = some _), rfl, rfl⟩ hg1_15 rfl ?_; clear hF; intro a hF
        refine g_no hF ⟨_, _, (rfl : _[15]? = some _), rfl, rfl⟩ hg1_15 rfl ?_; clear hF; intro a hF
        refine s_pu hF (pu_pick_f rfl hg1_15 rfl) rfl ?_; clear hF; intro a hF
        refine s_pu hF (pu_move rfl) rfl ?_; clear hF; intro a hF
        refine g_no hF ⟨_, _, (rfl : _[21]? = some _), rfl, rfl⟩ rfl rfl ?_; clear hF; intro a hF
        refine g_no hF ⟨_, _, (rfl : _[21]? = some _), rfl, rfl⟩ rfl rfl ?_; clear hF; intro a hF
        refine g_no hF ⟨_, _, (rfl : _[21]? = some _), rfl, rfl⟩ rfl rfl ?_; clear hF; intro a hF
        refine g_no hF ⟨_, _, (rfl : _[21]? = some _), rfl, rfl⟩ rfl rfl ?_; clear hF; intro a hF
        refine s_pu hF (pu_pick_f rfl rfl rfl) rfl ?_; clear hF; intro a hF
        refine s_pu hF (pu_move rfl) rfl ?_; clear hF; intro a hF
        refine g_no hF ⟨_, _, (rfl : _[27]? = some _), rfl, rfl⟩ rfl rfl ?_; clear hF; intro a hF
        refine g_no hF ⟨_, _, (rfl : _[27]? = some _), rfl, rfl⟩ rfl rfl ?_; clear hF; intro a hF
        refine g_no hF ⟨_, _, (rfl : _[27]? = some _), rfl, rfl⟩ rfl rfl ?_; clear hF; intro a hF
        refine g_no hF ⟨_, _, (rfl : _[27]? = some _), rfl, rfl⟩ rfl rfl ?_; clear hF; intro a hF
        refine g_no hF ⟨_, _, (rfl : _[27]? = some _), rfl, rfl⟩ rfl rfl ?_; clear hF; intro a hF
        refine g_no hF ⟨_, _, (rfl : _[27]? = some _), rfl, rfl⟩ rfl rfl ?_; clear hF; intro a hF
        refine g_noU hF ⟨_, _, (rfl : _[33]? = some _), rfl, rfl⟩ rfl ?_; clear hF; intro a hF
        refine g_noU hF ⟨_, _, (rfl : _[33]? = some _), rfl, rfl⟩ rfl ?_; clear hF; intro a hF
        refine g_noU hF ⟨_, _, (rfl : _[33]? = some _), rfl, rfl⟩ rfl ?_; clear hF; intro a hF
        refine g_noU hF ⟨_, _, (rfl : _[33]? = some _), rfl, rfl⟩ rfl ?_; clear hF; intro a hF
        refine g_noU hF ⟨_, _, (rfl : _[33]? = some _), rfl, rfl⟩ rfl ?_; clear hF; intro a hF
        refine g_no hF ⟨_, _, (rfl : _[27]? = some _), rfl, rfl⟩ rfl rfl ?_; clear hF; intro a hF
        refine s_pu hF (pu_pick_f rfl rfl rfl) rfl ?_; clear hF; intro a hF
        refine s_pu hF (pu_assign rfl) rfl ?_; clear hF; intro a hF
        refine c_nil ?_
        refine n_then ?_
        refine c_ret ?_
        exact f_ret hF rfl (.tmp rfl (.nil)) (hS.retv (congrArg Value.bool (by first | exact (decide_eq_false (fun h => by unfold RightM at h; omega)).symm | exact (decide_eq_true (show RightM m from ⟨by omega, by omega, by omega, by omega, by omega, .inl (by omega)⟩)).symm | exact decide_eq_decide.2 ⟨fun h => ⟨by omega, by omega, by omega, by omega, by omega, .inr h⟩, fun h => h.2.2.2.2.2.resolve_left (by omega)⟩ | exact decide_eq_decide.2 ⟨fun h => absurd h (by omega), fun h => by unfold RightM at h; omega⟩)))
    · have hg1_10p := hg1_10
      try simp only [decide_eq_true_eq, decide_eq_false_iff_not, Bool.not_eq_true', Bool.not_eq_false', Bool.not_eq_eq_eq_not, Bool.not_true, Bool.not_false] at hg1_10p
      refine g_no hF ⟨_, _, (rfl : _[10]? = some _), rfl, rfl⟩ hg1_10 rfl ?_; clear hF; intro a hF
      refine g_no hF ⟨_, _, (rfl : _[10]? = some _), rfl, rfl⟩ hg1_10 rfl ?_; clear hF; intro a hF
      refine g_no hF ⟨_, _, (rfl : _[10]? = some _), rfl, rfl⟩ hg1_10 rfl ?_; clear hF; intro a hF
      refine s_pu hF (pu_pick_f rfl hg1_10 rfl) rfl ?_; clear hF; intro a hF
      refine s_pu hF (pu_move rfl) rfl ?_; clear hF; intro a hF
      refine g_no hF ⟨_, _, (rfl : _[15]? = some _), rfl, rfl⟩ rfl rfl ?_; clear hF; intro a hF
      refine g_no hF ⟨_, _, (rfl : _[15]? = some _), rfl, rfl⟩ rfl rfl ?_; clear hF; intro a hF
      refine g_no hF ⟨_, _, (rfl : _[15]? = some _), rfl, rfl⟩ rfl rfl ?_; clear hF; intro a hF
      refine g_no hF ⟨_, _, (rfl : _[15]? = some _), rfl, rfl⟩ rfl rfl ?_; clear hF; intro a hF
      refine s_pu hF (pu_pick_f rfl rfl rfl) rfl ?_; clear hF; intro a hF
      refine s_pu hF (pu_move rfl) rfl ?_; clear hF; intro a hF
      refine g_no hF ⟨_, _, (rfl : _[21]? = some _), rfl, rfl⟩ rfl rfl ?_; clear hF; intro a hF
      refine g_no hF ⟨_, _, (rfl : _[21]? = some _), rfl, rfl⟩ rfl rfl ?_; clear hF; intro a hF
      refine g_no hF ⟨_, _, (rfl : _[21]? = some _), rfl, rfl⟩ rfl rfl ?_; clear hF; intro a hF
      refine g_no hF ⟨_, _, (rfl : _[21]? = some _), rfl, rfl⟩ rfl rfl ?_; clear hF; intro a hF
      refine s_pu hF (pu_pick_f rfl rfl rfl) rfl ?_; clear hF; intro a hF
      refine s_pu hF (pu_move rfl) rfl ?_; clear hF; intro a hF
      refine g_no hF ⟨_, _, (rfl : _[27]? = some _), rfl, rfl⟩ rfl rfl ?_; clear hF; intro a hF
      refine g_no hF ⟨_, _, (rfl : _[27]? = some _), rfl, rfl⟩ rfl rfl ?_; clear hF; intro a hF
      refine g_no hF ⟨_, _, (rfl : _[27]? = some _), rfl, rfl⟩ rfl rfl ?_; clear hF; intro a hF
      refine g_no hF ⟨_, _, (rfl : _[27]? = some _), rfl, rfl⟩ rfl rfl ?_; clear hF; intro a hF
      refine g_no hF ⟨_, _, (rfl : _[27]? = some _), rfl, rfl⟩ rfl rfl ?_; clear hF; intro a hF
      refine g_no hF ⟨_, _, (rfl : _[27]? = some _), rfl, rfl⟩ rfl rfl ?_; clear hF; intro a hF
      refine g_noU hF ⟨_, _, (rfl : _[33]? = some _), rfl, rfl⟩ rfl ?_; clear hF; intro a hF
      refine g_noU hF ⟨_, _, (rfl : _[33]? = some _), rfl, rfl⟩ rfl ?_; clear hF; intro a hF
      refine g_noU hF ⟨_, _, (rfl : _[33]? = some _), rfl, rfl⟩ rfl ?_; clear hF; intro a hF
      refine g_noU hF ⟨_, _, (rfl : _[33]? = some _), rfl, rfl⟩ rfl ?_; clear hF; intro a hF
      refine g_noU hF ⟨_, _, (rfl : _[33]? = some _), rfl, rfl⟩ rfl ?_; clear hF; intro a hF
      refine g_no hF ⟨_, _, (rfl : _[27]? = some _), rfl, rfl⟩ rfl rfl ?_; clear hF; intro a hF
      refine s_pu hF (pu_pick_f rfl rfl rfl) rfl ?_; clear hF; intro a hF
      refine s_pu hF (pu_assign rfl) rfl ?_; clear hF; intro a hF
      refine c_nil ?_
      refine n_then ?_
      refine c_ret ?_
      exact f_ret hF rfl (.tmp rfl (.nil)) (hS.retv (congrArg Value.bool (by first | exact (decide_eq_false (fun h => by unfold RightM at h; omega)).symm | exact (decide_eq_true (show RightM m from ⟨by omega, by omega, by omega, by omega, by omega, .inl (by omega)⟩)).symm | exact decide_eq_decide.2 ⟨fun h => ⟨by omega, by omega, by omega, by omega, by omega, .inr h⟩, fun h => h.2.2.2.2.2.resolve_left (by omega)⟩ | exact decide_eq_decide.2 ⟨fun h => absurd h (by omega), fun h => by unfold RightM at h; omega⟩)))
  · have hg1_3p := hg1_3
    try simp only [decide_eq_true_eq, decide_eq_false_iff_not, Bool.not_eq_true', Bool.not_eq_false', Bool.not_eq_eq_eq_not, Bool.not_true, Bool.not_false] at hg1_3p
    refine g_no hF ⟨_, _, (rfl : _[3]? = some _), rfl, rfl⟩ hg1_3 rfl ?_; clear hF; intro a hF
    refine g_no hF ⟨_, _, (rfl : _[3]? = some _), rfl, rfl⟩ hg1_3 rfl ?_; clear hF; intro a hF
    refine g_no hF ⟨_, _, (rfl : _[3]? = some _), rfl, rfl⟩ hg1_3 rfl ?_; clear hF; intro a hF
    refine g_no hF ⟨_, _, (rfl : _[3]? = some _), rfl, rfl⟩ hg1_3 rfl ?_; clear hF; intro a hF
    refine g_no hF ⟨_, _, (rfl : _[3]? = some _), rfl, rfl⟩ hg1_3 rfl ?_; clear hF; intro a hF
    refine s_pu hF (pu_pick_f rfl hg1_3 rfl) rfl ?_; clear hF; intro a hF
    refine s_pu hF (pu_move rfl) rfl ?_; clear hF; intro a hF
    refine g_no hF ⟨_, _, (rfl : _[10]? = some _), rfl, rfl⟩ rfl rfl ?_; clear hF; intro a hF
    refine g_no hF ⟨_, _, (rfl : _[10]? = some _), rfl, rfl⟩ rfl rfl ?_; clear hF; intro a hF
    refine g_no hF ⟨_, _, (rfl : _[10]? = some _), rfl, rfl⟩ rfl rfl ?_; clear hF; intro a hF
    refine s_pu hF (pu_pick_f rfl rfl rfl) rfl ?_; clear hF; intro a hF
    refine s_pu hF (pu_move rfl) rfl ?_; clear hF; intro a hF
    refine g_no hF ⟨_, _, (rfl : _[15]? = some _), rfl, rfl⟩ rfl rfl ?_; clear hF; intro a hF
    refine g_no hF ⟨_, _, (rfl : _[15]? = some _), rfl, rfl⟩ rfl rfl ?_; clear hF; intro a hF
    refine g_no hF ⟨_, _, (rfl : _[15]? = some _), rfl, rfl⟩ rfl rfl ?_; clear hF; intro a hF
    refine g_no hF ⟨_, _, (rfl : _[15]? = some _), rfl, rfl⟩ rfl rfl ?_; clear hF; intro a hF
    refine s_pu hF (pu_pick_f rfl rfl rfl) rfl ?_; clear hF; intro a hF
    refine s_pu hF (pu_move rfl) rfl ?_; clear hF; intro a hF
    refine g_no hF ⟨_, _, (rfl : _[21]? = some _), rfl, rfl⟩ rfl rfl ?_; clear hF; intro a hF
    refine g_no hF ⟨_, _, (rfl : _[21]? = some _), rfl, rfl⟩ rfl rfl ?_; clear hF; intro a hF
    refine g_no hF ⟨_, _, (rfl : _[21]? = some _), rfl, rfl⟩ rfl rfl ?_; clear hF; intro a hF
    refine g_no hF ⟨_, _, (rfl : _[21]? = some _), rfl, rfl⟩ rfl rfl ?_; clear hF; intro a hF
    refine s_pu hF (pu_pick_f rfl rfl rfl) rfl ?_; clear hF; intro a hF
    refine s_pu hF (pu_move rfl) rfl ?_; clear hF; intro a hF
    refine g_no hF ⟨_, _, (rfl : _[27]? = some _), rfl, rfl⟩ rfl rfl ?_; clear hF; intro a hF
    refine g_no hF ⟨_, _, (rfl : _[27]? = some _), rfl, rfl⟩ rfl rfl ?_; clear hF; intro a hF
    refine g_no hF ⟨_, _, (rfl : _[27]? = some _), rfl, rfl⟩ rfl rfl ?_; clear hF; intro a hF
    refine g_no hF ⟨_, _, (rfl : _[27]? = some _), rfl, rfl⟩ rfl rfl ?_; clear hF; intro a hF
    refine g_no hF ⟨_, _, (rfl : _[27]? = some _), rfl, rfl⟩ rfl rfl ?_; clear hF; intro a hF
    refine g_no hF ⟨_, _, (rfl : _[27]? = some _), rfl, rfl⟩ rfl rfl ?_; clear hF; intro a hF
    refine g_noU hF ⟨_, _, (rfl : _[33]? = some _), rfl, rfl⟩ rfl ?_; clear hF; intro a hF
    refine g_noU hF ⟨_, _, (rfl : _[33]? = some _), rfl, rfl⟩ rfl ?_; clear hF; intro a hF
    refine g_noU hF ⟨_, _, (rfl : _[33]? = some _), rfl, rfl⟩ rfl ?_; clear hF; intro a hF
    refine g_noU hF ⟨_, _, (rfl : _[33]? = some _), rfl, rfl⟩ rfl ?_; clear hF; intro a hF
    refine g_noU hF ⟨_, _, (rfl : _[33]? = some _), rfl, rfl⟩ rfl ?_; clear hF; intro a hF
    refine g_no hF ⟨_, _, (rfl : _[27]? = some _), rfl, rfl⟩ rfl rfl ?_; clear hF; intro a hF
    refine s_pu hF (pu_pick_f rfl rfl rfl) rfl ?_; clear hF; intro a hF
    refine s_pu hF (pu_assign rfl) rfl ?_; clear hF; intro a hF
    refine c_nil ?_
    refine n_then ?_
    refine c_ret ?_
    exact f_ret hF rfl (.tmp rfl (.nil)) (hS.retv (congrArg Value.bool (by first | exact (decide_eq_false (fun h => by unfold RightM at h; omega)).symm | exact (decide_eq_true (show RightM m from ⟨by omega, by omega, by omega, by omega, by omega, .inl (by omega)⟩)).symm | exact decide_eq_decide.2 ⟨fun h => ⟨by omega, by omega, by omega, by omega, by omega, .inr h⟩, fun h => h.2.2.2.2.2.resolve_left (by omega)⟩ | exact decide_eq_decide.2 ⟨fun h => absurd h (by omega), fun h => by unfold RightM at h; omega⟩)))
set_option maxHeartbeats 1000000 in
theorem c_Verify (m : Mk) (ad : Option Addr) (cap n : Nat) (l : List (List UInt8)) (hn : n = l.length) (hsz : ∀ s ∈ l, s.length ≤ 1000000) (hcnt : l.length ≤ 900000000) (w0 : World) (h0 : View) (hv : VLe h0 (Full w0)) (hb : SlC 9 1 (flatR fun s => [vs s]) h0 (.slice ad n cap) l) : Calls Try.prog 14 #[.agg (mkC m).toArray, .slice ad n cap] w0 (Ret w0 h0 fun u _ => u = .int .i64 (verM m l)) := by
  refine f_enter (args := [.agg (mkC m).toArray, .slice ad n cap]) Try.func14 rfl Try.ntmps14 rfl fun a hF => ?_
  have hS := St.init w0 h0 hv
  refine c_seq ?_
  refine c_reg ?_
  refine s_box hF hS rfl rfl rfl ?_; clear hS hF; intro b0 w a hS hF
  refine s_pu hF (pu_assign rfl) rfl ?_; clear hF; intro a hF
  refine c_nil ?_
  refine n_then ?_
  refine c_seq ?_
  refine c_seq ?_
  refine c_reg ?_
  refine s_pu hF (o_loadA (i := 0) (new := mkC m) hS rfl agg23 rfl (rfl)) rfl ?_; clear hF; intro a hF
  refine s_callv hF hS ok27 rfl (c_Check m _ _ hS.view) rfl ?_; clear hS hF; intro w a hS hF
  refine s_pu hF (pu_assign rfl) rfl ?_; clear hF; intro a hF
  refine c_nil ?_
  refine n_then ?_
  refine c_seq ?_
  refine c_reg ?_
  refine s_pu hF (pu_move rfl) rfl ?_; clear hF; intro a hF
  refine s_pu hF (pu_ine rfl rfl) rfl ?_; clear hF; intro a hF
  refine c_nil ?_
  refine n_then ?_
  refine c_if hF rfl (fun hc9 => ?_) (fun hc9 => ?_)
  · try simp only [decide_eq_true_eq, decide_eq_false_iff_not, Bool.not_eq_true', Bool.not_eq_false', Bool.not_eq_eq_eq_not, Bool.not_true, Bool.not_false] at hc9
    refine c_seq ?_
    refine c_reg ?_
    refine s_pu hF (pu_move rfl) rfl ?_; clear hF; intro a hF
    refine s_pu hF (pu_assign rfl) rfl ?_; clear hF; intro a hF
    refine c_nil ?_
    refine n_then ?_
    refine c_ret (r_then ?_)
    exact f_ret hF rfl (.tmp rfl (.nil)) (hS.retv (congrArg (Value.int .i64) (by rw [verM, if_neg (chk_not hc9), chkM, if_neg (chk_not hc9)])))
  · try simp only [decide_eq_true_eq, decide_eq_false_iff_not, Bool.not_eq_true', Bool.not_eq_false', Bool.not_eq_eq_eq_not, Bool.not_true, Bool.not_false] at hc9
    have hr := chk_right hc9
    have hr2 := hr
    obtain ⟨h1, h2, h3, h4, h5, _⟩ := hr2
    refine c_skip ?_
    refine n_then ?_
    refine c_seq ?_
    refine c_seq ?_
    refine region_st 17 hF hS (allV_ne rfl) mix (by kernel_rfl) fun Γ hG => ?_
    refine t_pu hG (fun w hC => pu_move rfl) ?_; clear hG; intro Γ hG
    refine t_pu hG (fun w hC => pu_len_sl tyL24 rfl rfl) ?_; clear hG; intro Γ hG
    refine t_pu hG (fun w hC => pu_faddr fld23_1 rfl) ?_; clear hG; intro Γ hG
    refine t_pu hG (fun w hC => o_load1 (i := 0) hC.st rfl one3 rfl rfl) ?_; clear hG; intro Γ hG
    refine t_pu hG (fun w hC => pu_faddr fld23_0 rfl) ?_; clear hG; intro Γ hG
    refine t_pu hG (fun w hC => o_load1 (i := 0) hC.st rfl one3 rfl rfl) ?_; clear hG; intro Γ hG
    refine t_pu hG (fun w hC => pu_sub rfl rfl (by first | exact wrap_i64 (by omega) (by omega) | rfl)) ?_; clear hG; intro Γ hG
    refine t_pu hG (fun w hC => pu_ine rfl rfl) ?_; clear hG; intro Γ hG
    refine t_pu hG (fun w hC => pu_move rfl) ?_; clear hG; intro Γ hG
    refine t_split hG ⟨_, _, (rfl : _[8]? = some _), rfl, rfl⟩ (fun hg4_8 => ?_) (fun hg4_8 => ?_)
    · have hg4_8p := hg4_8
      try simp only [decide_eq_true_eq, decide_eq_false_iff_not, Bool.not_eq_true', Bool.not_eq_false', Bool.not_eq_eq_eq_not, Bool.not_true, Bool.not_false] at hg4_8p
      refine tg_no hG ⟨_, _, (rfl : _[8]? = some _), rfl, rfl⟩ hg4_8 ?_; clear hG; intro Γ hG
      refine tg_no hG ⟨_, _, (rfl : _[8]? = some _), rfl, rfl⟩ hg4_8 ?_; clear hG; intro Γ hG
      refine tg_no hG ⟨_, _, (rfl : _[8]? = some _), rfl, rfl⟩ hg4_8 ?_; clear hG; intro Γ hG
      refine tg_no hG ⟨_, _, (rfl : _[8]? = some _), rfl, rfl⟩ hg4_8 ?_; clear hG; intro Γ hG
      refine tg_no hG ⟨_, _, (rfl : _[8]? = some _), rfl, rfl⟩ hg4_8 ?_; clear hG; intro Γ hG
      refine tg_no hG ⟨_, _, (rfl : _[8]? = some _), rfl, rfl⟩ hg4_8 ?_; clear hG; intro Γ hG
      refine tg_no hG ⟨_, _, (rfl : _[8]? = some _), rfl, rfl⟩ hg4_8 ?_; clear hG; intro Γ hG
      refine t_pu hG (fun w hC => pu_pick_t rfl hg4_8 rfl) ?_; clear hG; intro Γ hG
      refine t_end hG ?_; clear hG hF; intro a w hC hE hF hP; replace hS := hC.st; clear hC
      clear hE
      clear hP
      refine c_nil ?_
      refine n_then ?_
      refine c_ift hF rfl rfl ?_
      refine c_seq ?_
      refine c_reg ?_
      refine s_pu hF (pu_assign rfl) rfl ?_; clear hF; intro a hF
      refine c_nil ?_
      refine n_then ?_
      refine c_ret (r_then ?_)
      exact f_ret hF rfl (.tmp rfl (.nil)) (hS.retv (congrArg (Value.int .i64) (by rw [verM, if_pos hr, if_pos (by first | (left; omega) | (right; exact hc27))])))
    · have hg4_8p := hg4_8
      try simp only [decide_eq_true_eq, decide_eq_false_iff_not, Bool.not_eq_true', Bool.not_eq_false', Bool.not_eq_eq_eq_not, Bool.not_true, Bool.not_false] at hg4_8p
      refine tg_pu hG ⟨_, _, (rfl : _[8]? = some _), rfl, rfl⟩ hg4_8 (fun w hC => pu_faddr fld23_2 rfl) ?_; clear hG; intro Γ hG
      refine tg_pu hG ⟨_, _, (rfl : _[8]? = some _), rfl, rfl⟩ hg4_8 (fun w hC => o_load1 (i := 0) hC.st rfl one9 rfl rfl) ?_; clear hG; intro Γ hG
      refine tg_pu hG ⟨_, _, (rfl : _[8]? = some _), rfl, rfl⟩ hg4_8 (fun w hC => pu_move rfl) ?_; clear hG; intro Γ hG
      refine tg_calld hG ⟨_, _, (rfl : _[8]? = some _), rfl, rfl⟩ hg4_8 ok29 rfl (fun w1 hS1 => ⟨_, c_ChainN m.anchor (by omega) ad cap n l hn hsz hcnt w1 h0 hS1.base hb⟩) ?_; clear hG; intro Γ hG
      refine tg_pu hG ⟨_, _, (rfl : _[8]? = some _), rfl, rfl⟩ hg4_8 (fun w hC => pu_faddr fld23_3 rfl) ?_; clear hG; intro Γ hG
      refine tg_pu hG ⟨_, _, (rfl : _[8]? = some _), rfl, rfl⟩ hg4_8 (fun w hC => o_load1 (i := 0) hC.st rfl one9 rfl rfl) ?_; clear hG; intro Γ hG
      refine tg_pu hG ⟨_, _, (rfl : _[8]? = some _), rfl, rfl⟩ hg4_8 (fun w hC => pu_sne rfl rfl) ?_; clear hG; intro Γ hG
      refine t_pu hG (fun w hC => pu_pick_f rfl hg4_8 rfl) ?_; clear hG; intro Γ hG
      refine t_end hG ?_; clear hG hF; intro a w hC hE hF hP; replace hS := hC.st; clear hC
      clear hE
      clear hP
      refine c_nil ?_
      refine n_then ?_
      refine c_if hF rfl (fun hc27 => ?_) (fun hc27 => ?_)
      · try simp only [decide_eq_true_eq, decide_eq_false_iff_not, Bool.not_eq_true', Bool.not_eq_false', Bool.not_eq_eq_eq_not, Bool.not_true, Bool.not_false] at hc27
        refine c_seq ?_
        refine c_reg ?_
        refine s_pu hF (pu_assign rfl) rfl ?_; clear hF; intro a hF
        refine c_nil ?_
        refine n_then ?_
        refine c_ret (r_then ?_)
        exact f_ret hF rfl (.tmp rfl (.nil)) (hS.retv (congrArg (Value.int .i64) (by rw [verM, if_pos hr, if_pos (by first | (left; omega) | (right; exact hc27))])))
      · try simp only [decide_eq_true_eq, decide_eq_false_iff_not, Bool.not_eq_true', Bool.not_eq_false', Bool.not_eq_eq_eq_not, Bool.not_true, Bool.not_false] at hc27
        refine c_skip ?_
        refine n_then ?_
        refine c_seq ?_
        refine c_reg ?_
        refine s_pu hF (pu_assign rfl) rfl ?_; clear hF; intro a hF
        refine c_nil ?_
        refine n_then ?_
        refine c_ret ?_
        exact f_ret hF rfl (.tmp rfl (.nil)) (hS.retv (congrArg (Value.int .i64) (by rw [verM, if_pos hr, if_neg (by rintro (h | h) <;> first | omega | exact h hc27)])))
set_option maxHeartbeats 1000000 in
theorem c_RVerify (m : Mk) (ad : Option Addr) (cap n : Nat) (l : List (List UInt8)) (hn : n = l.length) (hsz : ∀ s ∈ l, s.length ≤ 1000000) (hcnt : l.length ≤ 900000000) (w0 : World) (h0 : View) (hv : VLe h0 (Full w0)) (hb : SlC 9 1 (flatR fun s => [vs s]) h0 (.slice ad n cap) l) : Calls Try.prog 15 #[.agg (mkC m).toArray, .slice ad n cap] w0 (Ret w0 h0 fun u _ => u = .int .i64 (verM m l)) := by
  refine f_enter (args := [.agg (mkC m).toArray, .slice ad n cap]) Try.func15 rfl Try.ntmps15 rfl fun a hF => ?_
  have hS := St.init w0 h0 hv
  refine c_seq ?_
  refine c_reg ?_
  refine s_box hF hS rfl rfl rfl ?_; clear hS hF; intro b0 w a hS hF
  refine s_pu hF (pu_assign rfl) rfl ?_; clear hF; intro a hF
  refine c_nil ?_
  refine n_then ?_
  refine c_seq ?_
  refine c_block ?_
  refine c_seq ?_
  refine c_reg ?_
  refine s_pu hF (o_loadA (i := 0) (new := mkC m) hS rfl agg23 rfl (rfl)) rfl ?_; clear hF; intro a hF
  refine s_callv hF hS ok31 rfl (c_RRight m _ _ hS.view) rfl ?_; clear hS hF; intro w a hS hF
  refine s_pu hF (pu_not rfl) rfl ?_; clear hF; intro a hF
  refine s_pu hF (pu_assign rfl) rfl ?_; clear hF; intro a hF
  refine c_nil ?_
  refine n_then ?_
  refine c_if hF rfl (fun hc5 => ?_) (fun hc5 => ?_)
  · try simp only [decide_eq_true_eq, decide_eq_false_iff_not, Bool.not_eq_true', Bool.not_eq_false', Bool.not_eq_eq_eq_not, Bool.not_true, Bool.not_false] at hc5
    refine c_seq ?_
    refine c_reg ?_
    refine s_pu hF (pu_assign rfl) rfl ?_; clear hF; intro a hF
    refine c_nil ?_
    refine n_then ?_
    refine c_ret (r_block (r_then ?_))
    exact f_ret hF rfl (.tmp rfl (.nil)) (hS.retv (congrArg (Value.int .i64) (by rw [verM, if_neg hc5])))
  · try simp only [decide_eq_true_eq, decide_eq_false_iff_not, Bool.not_eq_true', Bool.not_eq_false', Bool.not_eq_eq_eq_not, Bool.not_true, Bool.not_false] at hc5
    have hr := hc5
    have hr2 := hr
    obtain ⟨h1, h2, h3, h4, h5, _⟩ := hr2
    refine c_seq ?_
    refine region_st 18 hF hS (allV_ne rfl) mix (by kernel_rfl) fun Γ hG => ?_
    refine t_pu hG (fun w hC => pu_move rfl) ?_; clear hG; intro Γ hG
    refine t_pu hG (fun w hC => pu_len_sl tyL24 rfl rfl) ?_; clear hG; intro Γ hG
    refine t_pu hG (fun w hC => pu_faddr fld23_1 rfl) ?_; clear hG; intro Γ hG
    refine t_pu hG (fun w hC => o_load1 (i := 0) hC.st rfl one3 rfl rfl) ?_; clear hG; intro Γ hG
    refine t_pu hG (fun w hC => pu_faddr fld23_0 rfl) ?_; clear hG; intro Γ hG
    refine t_pu hG (fun w hC => o_load1 (i := 0) hC.st rfl one3 rfl rfl) ?_; clear hG; intro Γ hG
    refine t_pu hG (fun w hC => pu_sub rfl rfl (by first | exact wrap_i64 (by omega) (by omega) | rfl)) ?_; clear hG; intro Γ hG
    refine t_pu hG (fun w hC => pu_ine rfl rfl) ?_; clear hG; intro Γ hG
    refine t_pu hG (fun w hC => pu_move rfl) ?_; clear hG; intro Γ hG
    refine t_split hG ⟨_, _, (rfl : _[8]? = some _), rfl, rfl⟩ (fun hg3_8 => ?_) (fun hg3_8 => ?_)
    · have hg3_8p := hg3_8
      try simp only [decide_eq_true_eq, decide_eq_false_iff_not, Bool.not_eq_true', Bool.not_eq_false', Bool.not_eq_eq_eq_not, Bool.not_true, Bool.not_false] at hg3_8p
      refine tg_no hG ⟨_, _, (rfl : _[8]? = some _), rfl, rfl⟩ hg3_8 ?_; clear hG; intro Γ hG
      refine tg_no hG ⟨_, _, (rfl : _[8]? = some _), rfl, rfl⟩ hg3_8 ?_; clear hG; intro Γ hG
      refine tg_no hG ⟨_, _, (rfl : _[8]? = some _), rfl, rfl⟩ hg3_8 ?_; clear hG; intro Γ hG
      refine tg_no hG ⟨_, _, (rfl : _[8]? = some _), rfl, rfl⟩ hg3_8 ?_; clear hG; intro Γ hG
      refine tg_no hG ⟨_, _, (rfl : _[8]? = some _), rfl, rfl⟩ hg3_8 ?_; clear hG; intro Γ hG
      refine tg_no hG ⟨_, _, (rfl : _[8]? = some _), rfl, rfl⟩ hg3_8 ?_; clear hG; intro Γ hG
      refine tg_no hG ⟨_, _, (rfl : _[8]? = some _), rfl, rfl⟩ hg3_8 ?_; clear hG; intro Γ hG
      refine t_pu hG (fun w hC => pu_pick_t rfl hg3_8 rfl) ?_; clear hG; intro Γ hG
      refine t_pu hG (fun w hC => pu_assign rfl) ?_; clear hG; intro Γ hG
      refine t_end hG ?_; clear hG hF; intro a w hC hE hF hP; replace hS := hC.st; clear hC
      clear hE
      clear hP
      refine c_nil ?_
      refine n_then ?_
      refine c_ift hF rfl rfl ?_
      refine c_seq ?_
      refine c_reg ?_
      refine s_pu hF (pu_assign rfl) rfl ?_; clear hF; intro a hF
      refine c_nil ?_
      refine n_then ?_
      refine c_ret (r_block (r_then ?_))
      exact f_ret hF rfl (.tmp rfl (.nil)) (hS.retv (congrArg (Value.int .i64) (by rw [verM, if_pos hr, if_pos (by first | (left; omega) | (right; exact hc9))])))
    · have hg3_8p := hg3_8
      try simp only [decide_eq_true_eq, decide_eq_false_iff_not, Bool.not_eq_true', Bool.not_eq_false', Bool.not_eq_eq_eq_not, Bool.not_true, Bool.not_false] at hg3_8p
      refine tg_pu hG ⟨_, _, (rfl : _[8]? = some _), rfl, rfl⟩ hg3_8 (fun w hC => pu_faddr fld23_2 rfl) ?_; clear hG; intro Γ hG
      refine tg_pu hG ⟨_, _, (rfl : _[8]? = some _), rfl, rfl⟩ hg3_8 (fun w hC => o_load1 (i := 0) hC.st rfl one9 rfl rfl) ?_; clear hG; intro Γ hG
      refine tg_pu hG ⟨_, _, (rfl : _[8]? = some _), rfl, rfl⟩ hg3_8 (fun w hC => pu_move rfl) ?_; clear hG; intro Γ hG
      refine tg_calld hG ⟨_, _, (rfl : _[8]? = some _), rfl, rfl⟩ hg3_8 ok30 rfl (fun w1 hS1 => ⟨_, c_RChainN m.anchor (by omega) ad cap n l hn hsz hcnt w1 h0 hS1.base hb⟩) ?_; clear hG; intro Γ hG
      refine tg_pu hG ⟨_, _, (rfl : _[8]? = some _), rfl, rfl⟩ hg3_8 (fun w hC => pu_faddr fld23_3 rfl) ?_; clear hG; intro Γ hG
      refine tg_pu hG ⟨_, _, (rfl : _[8]? = some _), rfl, rfl⟩ hg3_8 (fun w hC => o_load1 (i := 0) hC.st rfl one9 rfl rfl) ?_; clear hG; intro Γ hG
      refine tg_pu hG ⟨_, _, (rfl : _[8]? = some _), rfl, rfl⟩ hg3_8 (fun w hC => pu_sne rfl rfl) ?_; clear hG; intro Γ hG
      refine t_pu hG (fun w hC => pu_pick_f rfl hg3_8 rfl) ?_; clear hG; intro Γ hG
      refine t_pu hG (fun w hC => pu_assign rfl) ?_; clear hG; intro Γ hG
      refine t_end hG ?_; clear hG hF; intro a w hC hE hF hP; replace hS := hC.st; clear hC
      clear hE
      clear hP
      refine c_nil ?_
      refine n_then ?_
      refine c_if hF rfl (fun hc9 => ?_) (fun hc9 => ?_)
      · try simp only [decide_eq_true_eq, decide_eq_false_iff_not, Bool.not_eq_true', Bool.not_eq_false', Bool.not_eq_eq_eq_not, Bool.not_true, Bool.not_false] at hc9
        refine c_seq ?_
        refine c_reg ?_
        refine s_pu hF (pu_assign rfl) rfl ?_; clear hF; intro a hF
        refine c_nil ?_
        refine n_then ?_
        refine c_ret (r_block (r_then ?_))
        exact f_ret hF rfl (.tmp rfl (.nil)) (hS.retv (congrArg (Value.int .i64) (by rw [verM, if_pos hr, if_pos (by first | (left; omega) | (right; exact hc9))])))
      · try simp only [decide_eq_true_eq, decide_eq_false_iff_not, Bool.not_eq_true', Bool.not_eq_false', Bool.not_eq_eq_eq_not, Bool.not_true, Bool.not_false] at hc9
        refine c_skip ?_
        refine n_block ?_
        refine n_then ?_
        refine c_seq ?_
        refine c_reg ?_
        refine s_pu hF (pu_assign rfl) rfl ?_; clear hF; intro a hF
        refine c_nil ?_
        refine n_then ?_
        refine c_ret ?_
        exact f_ret hF rfl (.tmp rfl (.nil)) (hS.retv (congrArg (Value.int .i64) (by rw [verM, if_pos hr, if_neg (by rintro (h | h) <;> first | omega | exact h hc9)])))
set_option maxHeartbeats 1000000 in
theorem c_Cut (m : Mk) (ad : Option Addr) (cap n : Nat) (l : List (List UInt8)) (hn : n = l.length) (hsz : ∀ s ∈ l, s.length ≤ 1000000) (hcnt : l.length ≤ 900000000) (k : Int) (w0 : World) (h0 : View) (hv : VLe h0 (Full w0)) (hb : SlC 9 1 (flatR fun s => [vs s]) h0 (.slice ad n cap) l) : Calls Try.prog 12 #[.agg (mkC m).toArray, .slice ad n cap, .int .i64 k] w0 (Ret w0 h0 fun u _ => u = mkV (cutM m l k)) := by
  refine f_enter (args := [.agg (mkC m).toArray, .slice ad n cap, .int .i64 k]) Try.func12 rfl Try.ntmps12 rfl fun a hF => ?_
  have hS := St.init w0 h0 hv
  have hlc : n ≤ cap := by obtain ⟨_, _, e, h1, _⟩ := hb.parts; cases e; exact h1
  refine c_seq ?_
  refine c_reg ?_
  refine s_box hF hS rfl rfl rfl ?_; clear hS hF; intro b0 w a hS hF
  refine s_alloc hF hS zero23 rfl ?_; clear hS hF; intro b1 w a hS hF
  refine s_pu hF (pu_assign rfl) rfl ?_; clear hF; intro a hF
  refine c_nil ?_
  refine n_then ?_
  refine c_seq ?_
  refine c_seq ?_
  refine c_reg ?_
  refine s_pu hF (o_loadA (i := 1) (new := mkC m) hS rfl agg23 rfl (rfl)) rfl ?_; clear hF; intro a hF
  refine s_pu hF (pu_move rfl) rfl ?_; clear hF; intro a hF
  refine s_calld hF hS ok14 rfl (c_Verify m ad cap n l hn hsz hcnt _ h0 hS.base hb) rfl ?_; clear hS hF; intro w a hS hF
  refine s_pu hF (pu_assign rfl) rfl ?_; clear hF; intro a hF
  refine c_nil ?_
  refine n_then ?_
  refine c_seq ?_
  refine c_reg ?_
  refine s_pu hF (pu_move rfl) rfl ?_; clear hF; intro a hF
  refine s_pu hF (pu_ine rfl rfl) rfl ?_; clear hF; intro a hF
  refine c_nil ?_
  refine n_then ?_
  refine c_if hF rfl (fun hc13 => ?_) (fun hc13 => ?_)
  · try simp only [decide_eq_true_eq, decide_eq_false_iff_not, Bool.not_eq_true', Bool.not_eq_false', Bool.not_eq_eq_eq_not, Bool.not_true, Bool.not_false] at hc13
    refine c_seq ?_
    refine c_reg ?_
    refine s_pu hF (pu_build_st (cs := mkC mz) strb23 rfl rfl) rfl ?_; clear hF; intro a hF
    refine s_pu hF (pu_move rfl) rfl ?_; clear hF; intro a hF
    refine s_store (i := 0) (new := mkC mz) hF hS rfl rfl rfl rfl (by exact sz23) rfl (by simp [mkC]) ?_; clear hS hF; intro w a hS hF
    rw [spl_all (by simp [mkC])] at hS
    refine s_pu hF (pu_assign rfl) rfl ?_; clear hF; intro a hF
    refine c_nil ?_
    refine n_then ?_
    refine c_ret (r_then ?_)
    exact f_ret hF rfl (.cell rfl (o_lvA (i := 0) hS rfl agg23) (.tmp rfl (.nil))) (hS.retv (by rw [cutM, if_pos hc13]; rfl))
  · try simp only [decide_eq_true_eq, decide_eq_false_iff_not, Bool.not_eq_true', Bool.not_eq_false', Bool.not_eq_eq_eq_not, Bool.not_true, Bool.not_false] at hc13
    obtain ⟨hr, hlen, hch⟩ := ver_ok hc13
    have hr2 := hr
    obtain ⟨h1, h2, h3, h4, h5, _⟩ := hr2
    refine c_skip ?_
    refine n_then ?_
    refine c_seq ?_
    refine c_seq ?_
    refine c_reg ?_
    refine s_pu hF (pu_move rfl) rfl ?_; clear hF; intro a hF
    refine s_pu hF (pu_faddr fld23_0 rfl) rfl ?_; clear hF; intro a hF
    refine s_pu hF (o_load1 (i := 1) hS rfl one3 rfl rfl) rfl ?_; clear hF; intro a hF
    refine s_pu hF (pu_ilt rfl rfl) rfl ?_; clear hF; intro a hF
    refine s_pu hF (pu_move rfl) rfl ?_; clear hF; intro a hF
    refine w_split hF ⟨_, _, (rfl : _[4]? = some _), rfl, rfl⟩ (fun hg4_4 => ?_) (fun hg4_4 => ?_)
    · have hg4_4p := hg4_4
      try simp only [decide_eq_true_eq, decide_eq_false_iff_not, Bool.not_eq_true', Bool.not_eq_false', Bool.not_eq_eq_eq_not, Bool.not_true, Bool.not_false] at hg4_4p
      refine g_no hF ⟨_, _, (rfl : _[4]? = some _), rfl, rfl⟩ hg4_4 rfl ?_; clear hF; intro a hF
      refine g_no hF ⟨_, _, (rfl : _[4]? = some _), rfl, rfl⟩ hg4_4 rfl ?_; clear hF; intro a hF
      refine g_no hF ⟨_, _, (rfl : _[4]? = some _), rfl, rfl⟩ hg4_4 rfl ?_; clear hF; intro a hF
      refine g_no hF ⟨_, _, (rfl : _[4]? = some _), rfl, rfl⟩ hg4_4 rfl ?_; clear hF; intro a hF
      refine s_pu hF (pu_pick_t rfl hg4_4 rfl) rfl ?_; clear hF; intro a hF
      refine c_nil ?_
      refine n_then ?_
      refine c_ift hF rfl rfl ?_
      refine c_seq ?_
      refine c_reg ?_
      refine s_pu hF (pu_build_st (cs := mkC mz) strb23 rfl rfl) rfl ?_; clear hF; intro a hF
      refine s_store (i := 0) (new := mkC mz) hF hS rfl rfl rfl rfl (by exact sz23) rfl (by simp [mkC]) ?_; clear hS hF; intro w a hS hF
      rw [spl_all (by simp [mkC])] at hS
      refine s_pu hF (pu_assign rfl) rfl ?_; clear hF; intro a hF
      refine c_nil ?_
      refine n_then ?_
      refine c_ret (r_then ?_)
      exact f_ret hF rfl (.cell rfl (o_lvA (i := 0) hS rfl agg23) (.tmp rfl (.nil))) (hS.retv (by rw [cutM, if_neg (by simpa using hc13), if_pos (by omega)]; rfl))
    · have hg4_4p := hg4_4
      try simp only [decide_eq_true_eq, decide_eq_false_iff_not, Bool.not_eq_true', Bool.not_eq_false', Bool.not_eq_eq_eq_not, Bool.not_true, Bool.not_false] at hg4_4p
      refine g_pu hF ⟨_, _, (rfl : _[4]? = some _), rfl, rfl⟩ hg4_4 (pu_move rfl) rfl ?_; clear hF; intro a hF
      refine g_pu hF ⟨_, _, (rfl : _[4]? = some _), rfl, rfl⟩ hg4_4 (pu_faddr fld23_1 rfl) rfl ?_; clear hF; intro a hF
      refine g_pu hF ⟨_, _, (rfl : _[4]? = some _), rfl, rfl⟩ hg4_4 (o_load1 (i := 1) hS rfl one3 rfl rfl) rfl ?_; clear hF; intro a hF
      refine g_pu hF ⟨_, _, (rfl : _[4]? = some _), rfl, rfl⟩ hg4_4 (pu_igt rfl rfl) rfl ?_; clear hF; intro a hF
      refine s_pu hF (pu_pick_f rfl hg4_4 rfl) rfl ?_; clear hF; intro a hF
      refine c_nil ?_
      refine n_then ?_
      refine c_if hF rfl (fun hc25 => ?_) (fun hc25 => ?_)
      · try simp only [decide_eq_true_eq, decide_eq_false_iff_not, Bool.not_eq_true', Bool.not_eq_false', Bool.not_eq_eq_eq_not, Bool.not_true, Bool.not_false] at hc25
        refine c_seq ?_
        refine c_reg ?_
        refine s_pu hF (pu_build_st (cs := mkC mz) strb23 rfl rfl) rfl ?_; clear hF; intro a hF
        refine s_store (i := 0) (new := mkC mz) hF hS rfl rfl rfl rfl (by exact sz23) rfl (by simp [mkC]) ?_; clear hS hF; intro w a hS hF
        rw [spl_all (by simp [mkC])] at hS
        refine s_pu hF (pu_assign rfl) rfl ?_; clear hF; intro a hF
        refine c_nil ?_
        refine n_then ?_
        refine c_ret (r_then ?_)
        exact f_ret hF rfl (.cell rfl (o_lvA (i := 0) hS rfl agg23) (.tmp rfl (.nil))) (hS.retv (by rw [cutM, if_neg (by simpa using hc13), if_pos (by omega)]; rfl))
      · try simp only [decide_eq_true_eq, decide_eq_false_iff_not, Bool.not_eq_true', Bool.not_eq_false', Bool.not_eq_eq_eq_not, Bool.not_true, Bool.not_false] at hc25
        refine c_skip ?_
        refine n_then ?_
        refine c_seq ?_
        refine region_st 10 hF hS (allV_ne rfl) mix (by kernel_rfl) fun Γ hG => ?_
        refine t_pu hG (fun w hC => pu_faddr fld23_2 rfl) ?_; clear hG; intro Γ hG
        refine t_pu hG (fun w hC => o_load1 (i := 1) hC.st rfl one9 rfl rfl) ?_; clear hG; intro Γ hG
        refine t_pu hG (fun w hC => pu_move rfl) ?_; clear hG; intro Γ hG
        refine t_pu hG (fun w hC => pu_move rfl) ?_; clear hG; intro Γ hG
        refine t_pu hG (fun w hC => pu_faddr fld23_0 rfl) ?_; clear hG; intro Γ hG
        refine t_pu hG (fun w hC => o_load1 (i := 1) hC.st rfl one3 rfl rfl) ?_; clear hG; intro Γ hG
        refine t_pu hG (fun w hC => pu_sub rfl rfl (by first | exact wrap_i64 (by omega) (by omega) | rfl)) ?_; clear hG; intro Γ hG
        refine t_pu hG (fun w hC => pu_sl_ton (j := (k - m.base).toNat) slt24 rfl rfl (by omega) (by omega)) ?_; clear hG; intro Γ hG
        refine t_calld hG ok29 rfl (fun w1 hS1 => ⟨_, c_ChainN m.anchor (by omega) ad cap (k - m.base).toNat (l.take (k - m.base).toNat) (by rw [List.length_take]; omega) (fun s hs => hsz s (List.mem_of_mem_take hs)) (by rw [List.length_take]; omega) w1 h0 hS1.base (hb.take (by omega))⟩) ?_; clear hG; intro Γ hG
        refine t_pu hG (fun w hC => pu_faddr fld23_2 rfl) ?_; clear hG; intro Γ hG
        refine t_end hG ?_; clear hG hF; intro a w hC hE hF hP; replace hS := hC.st; clear hC
        clear hE
        clear hP
        refine s_store (i := 1) hF hS rfl rfl rfl rfl sz9 rfl (by first | (simp; done) | exact Nat.le_of_ble_eq_true rfl) ?_; clear hS hF; intro w a hS hF
        rw [show spl (mkC m) (0 + 2) [vs (chainS m.anchor (l.take (k - m.base).toNat))] = mkC ⟨m.base, m.count, chainS m.anchor (l.take (k - m.base).toNat), m.head⟩ from rfl] at hS
        refine c_nil ?_
        refine n_then ?_
        refine c_seq ?_
        refine c_reg ?_
        refine s_pu hF (pu_move rfl) rfl ?_; clear hF; intro a hF
        refine s_pu hF (pu_faddr fld23_0 rfl) rfl ?_; clear hF; intro a hF
        refine s_store (i := 1) hF hS rfl rfl rfl rfl sz3 rfl (by simp [mkC]) ?_; clear hS hF; intro w a hS hF
        rw [show spl (mkC ⟨m.base, m.count, chainS m.anchor (l.take (k - m.base).toNat), m.head⟩) (0 + 0) [.int .i64 k] = mkC ⟨k, m.count, chainS m.anchor (l.take (k - m.base).toNat), m.head⟩ from rfl] at hS
        refine c_nil ?_
        refine n_then ?_
        refine c_seq ?_
        refine c_reg ?_
        refine s_pu hF (o_loadA (i := 1) (new := mkC ⟨k, m.count, chainS m.anchor (l.take (k - m.base).toNat), m.head⟩) hS rfl agg23 rfl (rfl)) rfl ?_; clear hF; intro a hF
        refine s_store (i := 0) (new := mkC ⟨k, m.count, chainS m.anchor (l.take (k - m.base).toNat), m.head⟩) hF hS rfl rfl rfl rfl (by exact sz23) rfl (by simp [mkC]) ?_; clear hS hF; intro w a hS hF
        rw [spl_all (by simp [mkC])] at hS
        refine s_pu hF (pu_assign rfl) rfl ?_; clear hF; intro a hF
        refine c_nil ?_
        refine n_then ?_
        refine c_ret ?_
        exact f_ret hF rfl (.cell rfl (o_lvA (i := 0) hS rfl agg23) (.tmp rfl (.nil))) (hS.retv (by rw [cutM, if_neg (by simpa using hc13), if_neg (by omega)]; rfl))
set_option maxHeartbeats 1000000 in
theorem c_RCut (m : Mk) (ad : Option Addr) (cap n : Nat) (l : List (List UInt8)) (hn : n = l.length) (hsz : ∀ s ∈ l, s.length ≤ 1000000) (hcnt : l.length ≤ 900000000) (k : Int) (w0 : World) (h0 : View) (hv : VLe h0 (Full w0)) (hb : SlC 9 1 (flatR fun s => [vs s]) h0 (.slice ad n cap) l) : Calls Try.prog 13 #[.agg (mkC m).toArray, .slice ad n cap, .int .i64 k] w0 (Ret w0 h0 fun u _ => u = mkV (cutM m l k)) := by
  refine f_enter (args := [.agg (mkC m).toArray, .slice ad n cap, .int .i64 k]) Try.func13 rfl Try.ntmps13 rfl fun a hF => ?_
  have hS := St.init w0 h0 hv
  have hlc : n ≤ cap := by obtain ⟨_, _, e, h1, _⟩ := hb.parts; cases e; exact h1
  refine c_seq ?_
  refine c_reg ?_
  refine s_box hF hS rfl rfl rfl ?_; clear hS hF; intro b0 w a hS hF
  refine s_alloc hF hS zero23 rfl ?_; clear hS hF; intro b1 w a hS hF
  refine s_pu hF (pu_assign rfl) rfl ?_; clear hF; intro a hF
  refine c_nil ?_
  refine n_then ?_
  refine c_seq ?_
  refine c_seq ?_
  refine c_reg ?_
  refine s_pu hF (o_loadA (i := 1) (new := mkC m) hS rfl agg23 rfl (rfl)) rfl ?_; clear hF; intro a hF
  refine s_pu hF (pu_move rfl) rfl ?_; clear hF; intro a hF
  refine s_calld hF hS ok15 rfl (c_RVerify m ad cap n l hn hsz hcnt _ h0 hS.base hb) rfl ?_; clear hS hF; intro w a hS hF
  refine s_pu hF (pu_assign rfl) rfl ?_; clear hF; intro a hF
  refine c_nil ?_
  refine n_then ?_
  refine c_seq ?_
  refine c_reg ?_
  refine s_pu hF (pu_move rfl) rfl ?_; clear hF; intro a hF
  refine s_pu hF (pu_ine rfl rfl) rfl ?_; clear hF; intro a hF
  refine c_nil ?_
  refine n_then ?_
  refine c_if hF rfl (fun hc13 => ?_) (fun hc13 => ?_)
  · try simp only [decide_eq_true_eq, decide_eq_false_iff_not, Bool.not_eq_true', Bool.not_eq_false', Bool.not_eq_eq_eq_not, Bool.not_true, Bool.not_false] at hc13
    refine c_seq ?_
    refine c_reg ?_
    refine s_pu hF (pu_build_st (cs := mkC mz) strb23 rfl rfl) rfl ?_; clear hF; intro a hF
    refine s_pu hF (pu_move rfl) rfl ?_; clear hF; intro a hF
    refine s_store (i := 0) (new := mkC mz) hF hS rfl rfl rfl rfl (by exact sz23) rfl (by simp [mkC]) ?_; clear hS hF; intro w a hS hF
    rw [spl_all (by simp [mkC])] at hS
    refine s_pu hF (pu_assign rfl) rfl ?_; clear hF; intro a hF
    refine c_nil ?_
    refine n_then ?_
    refine c_ret (r_then ?_)
    exact f_ret hF rfl (.cell rfl (o_lvA (i := 0) hS rfl agg23) (.tmp rfl (.nil))) (hS.retv (by rw [cutM, if_pos hc13]; rfl))
  · try simp only [decide_eq_true_eq, decide_eq_false_iff_not, Bool.not_eq_true', Bool.not_eq_false', Bool.not_eq_eq_eq_not, Bool.not_true, Bool.not_false] at hc13
    obtain ⟨hr, hlen, hch⟩ := ver_ok hc13
    have hr2 := hr
    obtain ⟨h1, h2, h3, h4, h5, _⟩ := hr2
    refine c_skip ?_
    refine n_then ?_
    refine c_seq ?_
    refine c_seq ?_
    refine c_reg ?_
    refine s_pu hF (pu_move rfl) rfl ?_; clear hF; intro a hF
    refine s_pu hF (pu_faddr fld23_0 rfl) rfl ?_; clear hF; intro a hF
    refine s_pu hF (o_load1 (i := 1) hS rfl one3 rfl rfl) rfl ?_; clear hF; intro a hF
    refine s_pu hF (pu_ilt rfl rfl) rfl ?_; clear hF; intro a hF
    refine s_pu hF (pu_move rfl) rfl ?_; clear hF; intro a hF
    refine w_split hF ⟨_, _, (rfl : _[4]? = some _), rfl, rfl⟩ (fun hg4_4 => ?_) (fun hg4_4 => ?_)
    · have hg4_4p := hg4_4
      try simp only [decide_eq_true_eq, decide_eq_false_iff_not, Bool.not_eq_true', Bool.not_eq_false', Bool.not_eq_eq_eq_not, Bool.not_true, Bool.not_false] at hg4_4p
      refine g_no hF ⟨_, _, (rfl : _[4]? = some _), rfl, rfl⟩ hg4_4 rfl ?_; clear hF; intro a hF
      refine g_no hF ⟨_, _, (rfl : _[4]? = some _), rfl, rfl⟩ hg4_4 rfl ?_; clear hF; intro a hF
      refine g_no hF ⟨_, _, (rfl : _[4]? = some _), rfl, rfl⟩ hg4_4 rfl ?_; clear hF; intro a hF
      refine g_no hF ⟨_, _, (rfl : _[4]? = some _), rfl, rfl⟩ hg4_4 rfl ?_; clear hF; intro a hF
      refine s_pu hF (pu_pick_t rfl hg4_4 rfl) rfl ?_; clear hF; intro a hF
      refine c_nil ?_
      refine n_then ?_
      refine c_ift hF rfl rfl ?_
      refine c_seq ?_
      refine c_reg ?_
      refine s_pu hF (pu_build_st (cs := mkC mz) strb23 rfl rfl) rfl ?_; clear hF; intro a hF
      refine s_store (i := 0) (new := mkC mz) hF hS rfl rfl rfl rfl (by exact sz23) rfl (by simp [mkC]) ?_; clear hS hF; intro w a hS hF
      rw [spl_all (by simp [mkC])] at hS
      refine s_pu hF (pu_assign rfl) rfl ?_; clear hF; intro a hF
      refine c_nil ?_
      refine n_then ?_
      refine c_ret (r_then ?_)
      exact f_ret hF rfl (.cell rfl (o_lvA (i := 0) hS rfl agg23) (.tmp rfl (.nil))) (hS.retv (by rw [cutM, if_neg (by simpa using hc13), if_pos (by omega)]; rfl))
    · have hg4_4p := hg4_4
      try simp only [decide_eq_true_eq, decide_eq_false_iff_not, Bool.not_eq_true', Bool.not_eq_false', Bool.not_eq_eq_eq_not, Bool.not_true, Bool.not_false] at hg4_4p
      refine g_pu hF ⟨_, _, (rfl : _[4]? = some _), rfl, rfl⟩ hg4_4 (pu_move rfl) rfl ?_; clear hF; intro a hF
      refine g_pu hF ⟨_, _, (rfl : _[4]? = some _), rfl, rfl⟩ hg4_4 (pu_faddr fld23_1 rfl) rfl ?_; clear hF; intro a hF
      refine g_pu hF ⟨_, _, (rfl : _[4]? = some _), rfl, rfl⟩ hg4_4 (o_load1 (i := 1) hS rfl one3 rfl rfl) rfl ?_; clear hF; intro a hF
      refine g_pu hF ⟨_, _, (rfl : _[4]? = some _), rfl, rfl⟩ hg4_4 (pu_igt rfl rfl) rfl ?_; clear hF; intro a hF
      refine s_pu hF (pu_pick_f rfl hg4_4 rfl) rfl ?_; clear hF; intro a hF
      refine c_nil ?_
      refine n_then ?_
      refine c_if hF rfl (fun hc25 => ?_) (fun hc25 => ?_)
      · try simp only [decide_eq_true_eq, decide_eq_false_iff_not, Bool.not_eq_true', Bool.not_eq_false', Bool.not_eq_eq_eq_not, Bool.not_true, Bool.not_false] at hc25
        refine c_seq ?_
        refine c_reg ?_
        refine s_pu hF (pu_build_st (cs := mkC mz) strb23 rfl rfl) rfl ?_; clear hF; intro a hF
        refine s_store (i := 0) (new := mkC mz) hF hS rfl rfl rfl rfl (by exact sz23) rfl (by simp [mkC]) ?_; clear hS hF; intro w a hS hF
        rw [spl_all (by simp [mkC])] at hS
        refine s_pu hF (pu_assign rfl) rfl ?_; clear hF; intro a hF
        refine c_nil ?_
        refine n_then ?_
        refine c_ret (r_then ?_)
        exact f_ret hF rfl (.cell rfl (o_lvA (i := 0) hS rfl agg23) (.tmp rfl (.nil))) (hS.retv (by rw [cutM, if_neg (by simpa using hc13), if_pos (by omega)]; rfl))
      · try simp only [decide_eq_true_eq, decide_eq_false_iff_not, Bool.not_eq_true', Bool.not_eq_false', Bool.not_eq_eq_eq_not, Bool.not_true, Bool.not_false] at hc25
        refine c_skip ?_
        refine n_then ?_
        refine c_seq ?_
        refine region_st 10 hF hS (allV_ne rfl) mix (by kernel_rfl) fun Γ hG => ?_
        refine t_pu hG (fun w hC => pu_faddr fld23_2 rfl) ?_; clear hG; intro Γ hG
        refine t_pu hG (fun w hC => o_load1 (i := 1) hC.st rfl one9 rfl rfl) ?_; clear hG; intro Γ hG
        refine t_pu hG (fun w hC => pu_move rfl) ?_; clear hG; intro Γ hG
        refine t_pu hG (fun w hC => pu_move rfl) ?_; clear hG; intro Γ hG
        refine t_pu hG (fun w hC => pu_faddr fld23_0 rfl) ?_; clear hG; intro Γ hG
        refine t_pu hG (fun w hC => o_load1 (i := 1) hC.st rfl one3 rfl rfl) ?_; clear hG; intro Γ hG
        refine t_pu hG (fun w hC => pu_sub rfl rfl (by first | exact wrap_i64 (by omega) (by omega) | rfl)) ?_; clear hG; intro Γ hG
        refine t_pu hG (fun w hC => pu_sl_ton (j := (k - m.base).toNat) slt24 rfl rfl (by omega) (by omega)) ?_; clear hG; intro Γ hG
        refine t_calld hG ok30 rfl (fun w1 hS1 => ⟨_, c_RChainN m.anchor (by omega) ad cap (k - m.base).toNat (l.take (k - m.base).toNat) (by rw [List.length_take]; omega) (fun s hs => hsz s (List.mem_of_mem_take hs)) (by rw [List.length_take]; omega) w1 h0 hS1.base (hb.take (by omega))⟩) ?_; clear hG; intro Γ hG
        refine t_pu hG (fun w hC => pu_faddr fld23_2 rfl) ?_; clear hG; intro Γ hG
        refine t_end hG ?_; clear hG hF; intro a w hC hE hF hP; replace hS := hC.st; clear hC
        clear hE
        clear hP
        refine s_store (i := 1) hF hS rfl rfl rfl rfl sz9 rfl (by first | (simp; done) | exact Nat.le_of_ble_eq_true rfl) ?_; clear hS hF; intro w a hS hF
        rw [show spl (mkC m) (0 + 2) [vs (chainS m.anchor (l.take (k - m.base).toNat))] = mkC ⟨m.base, m.count, chainS m.anchor (l.take (k - m.base).toNat), m.head⟩ from rfl] at hS
        refine c_nil ?_
        refine n_then ?_
        refine c_seq ?_
        refine c_reg ?_
        refine s_pu hF (pu_move rfl) rfl ?_; clear hF; intro a hF
        refine s_pu hF (pu_faddr fld23_0 rfl) rfl ?_; clear hF; intro a hF
        refine s_store (i := 1) hF hS rfl rfl rfl rfl sz3 rfl (by simp [mkC]) ?_; clear hS hF; intro w a hS hF
        rw [show spl (mkC ⟨m.base, m.count, chainS m.anchor (l.take (k - m.base).toNat), m.head⟩) (0 + 0) [.int .i64 k] = mkC ⟨k, m.count, chainS m.anchor (l.take (k - m.base).toNat), m.head⟩ from rfl] at hS
        refine c_nil ?_
        refine n_then ?_
        refine c_seq ?_
        refine c_reg ?_
        refine s_pu hF (o_loadA (i := 1) (new := mkC ⟨k, m.count, chainS m.anchor (l.take (k - m.base).toNat), m.head⟩) hS rfl agg23 rfl (rfl)) rfl ?_; clear hF; intro a hF
        refine s_store (i := 0) (new := mkC ⟨k, m.count, chainS m.anchor (l.take (k - m.base).toNat), m.head⟩) hF hS rfl rfl rfl rfl (by exact sz23) rfl (by simp [mkC]) ?_; clear hS hF; intro w a hS hF
        rw [spl_all (by simp [mkC])] at hS
        refine s_pu hF (pu_assign rfl) rfl ?_; clear hF; intro a hF
        refine c_nil ?_
        refine n_then ?_
        refine c_ret ?_
        exact f_ret hF rfl (.cell rfl (o_lvA (i := 0) hS rfl agg23) (.tmp rfl (.nil))) (hS.retv (by rw [cutM, if_neg (by simpa using hc13), if_neg (by omega)]; rfl))
theorem c_Push (m : Mk) (s : List UInt8) (hs : s.length ≤ 1000000) (w0 : World) (h0 : View) (hv : VLe h0 (Full w0))  : Calls Try.prog 17 #[.agg (mkC m).toArray, vs s] w0 (Ret w0 h0 fun u _ => u = mkV (pushM m s)) := by
  refine f_enter (args := [.agg (mkC m).toArray, vs s]) Try.func17 rfl Try.ntmps17 rfl fun a hF => ?_
  have hS := St.init w0 h0 hv
  refine c_seq ?_
  refine c_reg ?_
  refine s_box hF hS rfl rfl rfl ?_; clear hS hF; intro b0 w a hS hF
  refine s_alloc hF hS zero23 rfl ?_; clear hS hF; intro b1 w a hS hF
  refine s_pu hF (pu_assign rfl) rfl ?_; clear hF; intro a hF
  refine c_nil ?_
  refine n_then ?_
  refine c_seq ?_
  refine c_seq ?_
  refine c_reg ?_
  refine s_pu hF (o_loadA (i := 1) (new := mkC m) hS rfl agg23 rfl (rfl)) rfl ?_; clear hF; intro a hF
  refine s_callv hF hS ok27 rfl (c_Check m _ _ hS.view) rfl ?_; clear hS hF; intro w a hS hF
  refine s_pu hF (pu_assign rfl) rfl ?_; clear hF; intro a hF
  refine c_nil ?_
  refine n_then ?_
  refine c_seq ?_
  refine c_reg ?_
  refine s_pu hF (pu_move rfl) rfl ?_; clear hF; intro a hF
  refine s_pu hF (pu_ine rfl rfl) rfl ?_; clear hF; intro a hF
  refine c_nil ?_
  refine n_then ?_
  refine c_if hF rfl (fun hc10 => ?_) (fun hc10 => ?_)
  · try simp only [decide_eq_true_eq, decide_eq_false_iff_not, Bool.not_eq_true', Bool.not_eq_false', Bool.not_eq_eq_eq_not, Bool.not_true, Bool.not_false] at hc10
    refine c_seq ?_
    refine c_reg ?_
    refine s_pu hF (pu_build_st (cs := mkC mz) strb23 rfl rfl) rfl ?_; clear hF; intro a hF
    refine s_pu hF (pu_move rfl) rfl ?_; clear hF; intro a hF
    refine s_store (i := 0) (new := mkC mz) hF hS rfl rfl rfl rfl (by exact sz23) rfl (by simp [mkC]) ?_; clear hS hF; intro w a hS hF
    rw [spl_all (by simp [mkC])] at hS
    refine s_pu hF (pu_assign rfl) rfl ?_; clear hF; intro a hF
    refine c_nil ?_
    refine n_then ?_
    refine c_ret (r_then ?_)
    exact f_ret hF rfl (.cell rfl (o_lvA (i := 0) hS rfl agg23) (.tmp rfl (.nil))) (hS.retv (by rw [pushM, if_neg (chk_not hc10), chkM, if_neg (chk_not hc10)]; rfl))
  · try simp only [decide_eq_true_eq, decide_eq_false_iff_not, Bool.not_eq_true', Bool.not_eq_false', Bool.not_eq_eq_eq_not, Bool.not_true, Bool.not_false] at hc10
    have hr := chk_right hc10
    have hr2 := hr
    obtain ⟨h1, h2, h3, h4, h5, _⟩ := hr2
    refine c_skip ?_
    refine n_then ?_
    refine c_seq ?_
    refine c_seq ?_
    refine c_reg ?_
    refine s_pu hF (pu_faddr fld23_1 rfl) rfl ?_; clear hF; intro a hF
    refine s_pu hF (o_load1 (i := 1) hS rfl one3 rfl rfl) rfl ?_; clear hF; intro a hF
    refine s_pu hF (pu_ieq rfl rfl) rfl ?_; clear hF; intro a hF
    refine c_nil ?_
    refine n_then ?_
    refine c_if hF rfl (fun hc15 => ?_) (fun hc15 => ?_)
    · try simp only [decide_eq_true_eq, decide_eq_false_iff_not, Bool.not_eq_true', Bool.not_eq_false', Bool.not_eq_eq_eq_not, Bool.not_true, Bool.not_false] at hc15
      refine c_seq ?_
      refine c_reg ?_
      refine s_pu hF (pu_build_st (cs := mkC mz) strb23 rfl rfl) rfl ?_; clear hF; intro a hF
      refine s_store (i := 0) (new := mkC mz) hF hS rfl rfl rfl rfl (by exact sz23) rfl (by simp [mkC]) ?_; clear hS hF; intro w a hS hF
      rw [spl_all (by simp [mkC])] at hS
      refine s_pu hF (pu_assign rfl) rfl ?_; clear hF; intro a hF
      refine c_nil ?_
      refine n_then ?_
      refine c_ret (r_then ?_)
      exact f_ret hF rfl (.cell rfl (o_lvA (i := 0) hS rfl agg23) (.tmp rfl (.nil))) (hS.retv (by rw [pushM, if_pos hr, if_pos hc15]; rfl))
    · try simp only [decide_eq_true_eq, decide_eq_false_iff_not, Bool.not_eq_true', Bool.not_eq_false', Bool.not_eq_eq_eq_not, Bool.not_true, Bool.not_false] at hc15
      refine c_skip ?_
      refine n_then ?_
      refine c_seq ?_
      refine c_reg ?_
      refine s_pu hF (pu_faddr fld23_1 rfl) rfl ?_; clear hF; intro a hF
      refine s_pu hF (o_load1 (i := 1) hS rfl one3 rfl rfl) rfl ?_; clear hF; intro a hF
      refine s_pu hF (pu_add rfl rfl (by first | exact wrap_i64 (by omega) (by omega) | rfl)) rfl ?_; clear hF; intro a hF
      refine s_pu hF (pu_faddr fld23_1 rfl) rfl ?_; clear hF; intro a hF
      refine s_store (i := 1) hF hS rfl rfl rfl rfl sz3 rfl (by first | (simp; done) | exact Nat.le_of_ble_eq_true rfl) ?_; clear hS hF; intro w a hS hF
      rw [show spl (mkC m) (0 + 1) [.int .i64 (m.count + 1)] = mkC ⟨m.base, m.count + 1, m.anchor, m.head⟩ from rfl] at hS
      refine c_nil ?_
      refine n_then ?_
      refine c_seq ?_
      refine c_reg ?_
      refine s_pu hF (pu_faddr fld23_3 rfl) rfl ?_; clear hF; intro a hF
      refine s_pu hF (o_load1 (i := 1) hS rfl one9 rfl rfl) rfl ?_; clear hF; intro a hF
      refine s_pu hF (pu_move rfl) rfl ?_; clear hF; intro a hF
      refine s_callv hF hS ok33 rfl (c_Link m.head s (by omega) _ _ hS.view) rfl ?_; clear hS hF; intro w a hS hF
      refine s_pu hF (pu_faddr fld23_3 rfl) rfl ?_; clear hF; intro a hF
      refine s_store (i := 1) hF hS rfl rfl rfl rfl sz9 rfl (by simp [mkC]) ?_; clear hS hF; intro w a hS hF
      rw [show spl (mkC ⟨m.base, m.count + 1, m.anchor, m.head⟩) (0 + 3) [vs (linkS m.head s)] = mkC ⟨m.base, m.count + 1, m.anchor, linkS m.head s⟩ from rfl] at hS
      refine c_nil ?_
      refine n_then ?_
      refine c_seq ?_
      refine c_reg ?_
      refine s_pu hF (o_loadA (i := 1) (new := mkC ⟨m.base, m.count + 1, m.anchor, linkS m.head s⟩) hS rfl agg23 rfl (rfl)) rfl ?_; clear hF; intro a hF
      refine s_store (i := 0) (new := mkC ⟨m.base, m.count + 1, m.anchor, linkS m.head s⟩) hF hS rfl rfl rfl rfl (by exact sz23) rfl (by simp [mkC]) ?_; clear hS hF; intro w a hS hF
      rw [spl_all (by simp [mkC])] at hS
      refine s_pu hF (pu_assign rfl) rfl ?_; clear hF; intro a hF
      refine c_nil ?_
      refine n_then ?_
      refine c_ret ?_
      exact f_ret hF rfl (.cell rfl (o_lvA (i := 0) hS rfl agg23) (.tmp rfl (.nil))) (hS.retv (by rw [pushM, if_pos hr, if_neg hc15]; rfl))
theorem c_Begin  (w0 : World) (h0 : View) (hv : VLe h0 (Full w0))  : Calls Try.prog 16 #[] w0 (Ret w0 h0 fun u _ => u = .agg (mkC beginM).toArray) := by
  refine f_enter (args := []) Try.func16 rfl Try.ntmps16 rfl fun a hF => ?_
  have hS := St.init w0 h0 hv
  refine c_seq ?_
  refine c_reg ?_
  refine s_alloc hF hS zero23 rfl ?_; clear hS hF; intro b0 w a hS hF
  refine c_nil ?_
  refine n_then ?_
  refine c_seq ?_
  refine c_reg ?_
  refine s_callv hF hS ok32 rfl (c_Repeat32 _ _ hS.view) rfl ?_; clear hS hF; intro w a hS hF
  refine s_pu hF (pu_assign rfl) rfl ?_; clear hF; intro a hF
  refine c_nil ?_
  refine n_then ?_
  refine c_seq ?_
  refine c_reg ?_
  refine s_pu hF (pu_move rfl) rfl ?_; clear hF; intro a hF
  refine s_pu hF (pu_move rfl) rfl ?_; clear hF; intro a hF
  refine s_pu hF (pu_build_st (cs := mkC beginM) strb23 rfl rfl) rfl ?_; clear hF; intro a hF
  refine s_store (i := 0) (new := mkC beginM) hF hS rfl rfl rfl rfl (by exact sz23) rfl (by simp [mkC]) ?_; clear hS hF; intro w a hS hF
  rw [spl_all (by simp [mkC])] at hS
  refine c_nil ?_
  refine n_then ?_
  refine c_ret ?_
  exact f_ret hF rfl (.cell rfl (o_lvA (i := 0) hS rfl agg23) (.nil)) (hS.retv rfl)
theorem c_light (m : Mk) (w0 : World) (h0 : View) (hv : VLe h0 (Full w0))  : Calls Try.prog 9 #[.agg (mkC m).toArray] w0 (Ret w0 h0 fun u _ => u = .bool (lightS m)) := by
  refine f_enter (args := [.agg (mkC m).toArray]) Try.func9 rfl Try.ntmps9 rfl fun a hF => ?_
  have hS := St.init w0 h0 hv
  refine c_seq ?_
  refine c_reg ?_
  refine s_box hF hS rfl rfl rfl ?_; clear hS hF; intro b0 w a hS hF
  refine s_pu hF (pu_assign rfl) rfl ?_; clear hF; intro a hF
  refine c_nil ?_
  refine n_then ?_
  refine c_seq ?_
  refine c_reg ?_
  refine s_pu hF (pu_faddr fld23_2 rfl) rfl ?_; clear hF; intro a hF
  refine s_pu hF (o_load1 (i := 0) hS rfl one9 rfl rfl) rfl ?_; clear hF; intro a hF
  refine s_pu hF (pu_len_s tyS9 rfl rfl) rfl ?_; clear hF; intro a hF
  refine s_pu hF (pu_ile rfl rfl) rfl ?_; clear hF; intro a hF
  refine s_pu hF (pu_move rfl) rfl ?_; clear hF; intro a hF
  refine w_split hF ⟨_, _, (rfl : _[4]? = some _), rfl, rfl⟩ (fun hg1_4 => ?_) (fun hg1_4 => ?_)
  · have hg1_4p := hg1_4
    try simp only [decide_eq_true_eq, decide_eq_false_iff_not, Bool.not_eq_true', Bool.not_eq_false', Bool.not_eq_eq_eq_not, Bool.not_true, Bool.not_false] at hg1_4p
    refine g_pu hF ⟨_, _, (rfl : _[4]? = some _), rfl, rfl⟩ hg1_4 (pu_faddr fld23_3 rfl) rfl ?_; clear hF; intro a hF
    refine g_pu hF ⟨_, _, (rfl : _[4]? = some _), rfl, rfl⟩ hg1_4 (o_load1 (i := 0) hS rfl one9 rfl rfl) rfl ?_; clear hF; intro a hF
    refine g_pu hF ⟨_, _, (rfl : _[4]? = some _), rfl, rfl⟩ hg1_4 (pu_len_s tyS9 rfl rfl) rfl ?_; clear hF; intro a hF
    refine g_pu hF ⟨_, _, (rfl : _[4]? = some _), rfl, rfl⟩ hg1_4 (pu_ile rfl rfl) rfl ?_; clear hF; intro a hF
    refine s_pu hF (pu_pick_t rfl hg1_4 rfl) rfl ?_; clear hF; intro a hF
    refine s_pu hF (pu_assign rfl) rfl ?_; clear hF; intro a hF
    refine c_nil ?_
    refine n_then ?_
    refine c_ret ?_
    exact f_ret hF rfl (.tmp rfl (.nil)) (hS.retv (congrArg Value.bool (by first | (rw [lightS, decide_eq_true (show m.anchor.length ≤ 300 by omega), Bool.true_and]; exact decide_eq_decide.2 (by omega)) | (rw [lightS, decide_eq_false (show ¬ m.anchor.length ≤ 300 by omega)]; rfl))))
  · have hg1_4p := hg1_4
    try simp only [decide_eq_true_eq, decide_eq_false_iff_not, Bool.not_eq_true', Bool.not_eq_false', Bool.not_eq_eq_eq_not, Bool.not_true, Bool.not_false] at hg1_4p
    refine g_no hF ⟨_, _, (rfl : _[4]? = some _), rfl, rfl⟩ hg1_4 rfl ?_; clear hF; intro a hF
    refine g_no hF ⟨_, _, (rfl : _[4]? = some _), rfl, rfl⟩ hg1_4 rfl ?_; clear hF; intro a hF
    refine g_no hF ⟨_, _, (rfl : _[4]? = some _), rfl, rfl⟩ hg1_4 rfl ?_; clear hF; intro a hF
    refine g_no hF ⟨_, _, (rfl : _[4]? = some _), rfl, rfl⟩ hg1_4 rfl ?_; clear hF; intro a hF
    refine s_pu hF (pu_pick_f rfl hg1_4 rfl) rfl ?_; clear hF; intro a hF
    refine s_pu hF (pu_assign rfl) rfl ?_; clear hF; intro a hF
    refine c_nil ?_
    refine n_then ?_
    refine c_ret ?_
    exact f_ret hF rfl (.tmp rfl (.nil)) (hS.retv (congrArg Value.bool (by first | (rw [lightS, decide_eq_true (show m.anchor.length ≤ 300 by omega), Bool.true_and]; exact decide_eq_decide.2 (by omega)) | (rw [lightS, decide_eq_false (show ¬ m.anchor.length ≤ 300 by omega)]; rfl))))
theorem c_long (ad : Option Addr) (cap : Nat) (l : List (List UInt8)) (w0 : World) (h0 : View) (hv : VLe h0 (Full w0)) (hb : SlC 9 1 (flatR fun s => [vs s]) h0 (.slice ad l.length cap) l) : Calls Try.prog 10 #[.slice ad l.length cap] w0 (Ret w0 h0 fun u _ => u = .bool (longS l)) := by
  refine f_enter (args := [.slice ad l.length cap]) Try.func10 rfl Try.ntmps10 rfl fun a hF => ?_
  have hS := St.init w0 h0 hv
  obtain ⟨_, _, _, hlc, hlm⟩ := hb.parts
  simp only [maxLen] at hlm
  refine c_seq ?_
  refine c_reg ?_
  refine s_pu hF (pu_assign rfl) rfl ?_; clear hF; intro a hF
  refine c_nil ?_
  refine n_then ?_
  refine c_seq ?_
  refine c_reg ?_
  refine s_pu hF (pu_assign rfl) rfl ?_; clear hF; intro a hF
  refine c_nil ?_
  refine n_then ?_
  refine c_seq ?_
  refine c_seq ?_
  refine c_reg ?_
  refine s_pu hF (pu_assign rfl) rfl ?_; clear hF; intro a hF
  refine c_nil ?_
  refine n_then ?_
  refine c_block ?_
  refine hS.cut fun O0 F0 hO0 hF0 hS => ?_
  refine hF.cut (.cons (k := 3) rfl <| .cons (k := 4) rfl <| .nil) (.cons (k := 0) rfl <| .nil) fun L0 hL0 hF => ?_
  refine c_loop (α := Nat) (fun k a w => k ≤ l.length ∧ k ≤ 12 ∧ (l.take k).flatten.length ≤ 1500 ∧ Fr a 30 ([(3, .val (.int .i64 ((l.take k).flatten.length : Nat))), (4, .val (.int .i64 k))] ++ L0) ∧ St w0 h0 [] w O0 F0) (fun k => l.length - k) 0 (⟨by omega, by omega, by simp, hF, hS⟩) ?_
  subst hO0 hF0 hL0
  rintro k a w ⟨hk, hk2, hfl, hF, hS⟩
  refine c_seq ?_
  refine c_seq ?_
  refine c_reg ?_
  refine s_pu hF (pu_move rfl) rfl ?_; clear hF; intro a hF
  refine s_pu hF (pu_move rfl) rfl ?_; clear hF; intro a hF
  refine s_pu hF (pu_len_sl tyL24 rfl rfl) rfl ?_; clear hF; intro a hF
  refine s_pu hF (pu_ilt rfl rfl) rfl ?_; clear hF; intro a hF
  refine c_nil ?_
  refine n_then ?_
  refine c_if hF rfl (fun hc8 => ?_) (fun hc8 => ?_)
  · try simp only [decide_eq_true_eq, decide_eq_false_iff_not, Bool.not_eq_true', Bool.not_eq_false', Bool.not_eq_eq_eq_not, Bool.not_true, Bool.not_false] at hc8
    obtain ⟨g, o, ha, hH⟩ := hb.atD [] (i := k) (by omega)
    have hfs : (l.take (k + 1)).flatten.length = (l.take k).flatten.length + (l.getD k []).length := by rw [flat_step l k (by omega), List.length_append]
    have hfl2 := flat_le l (k + 1)
    refine c_skip ?_
    refine n_then ?_
    refine c_seq ?_
    refine c_block ?_
    refine c_seq ?_
    refine c_seq ?_
    refine c_reg ?_
    refine s_pu hF (pu_move rfl) rfl ?_; clear hF; intro a hF
    refine s_pu hF (pu_ige rfl rfl) rfl ?_; clear hF; intro a hF
    refine s_pu hF (pu_move rfl) rfl ?_; clear hF; intro a hF
    refine w_split hF ⟨_, _, (rfl : _[2]? = some _), rfl, rfl⟩ (fun hg5_2 => ?_) (fun hg5_2 => ?_)
    · have hg5_2p := hg5_2
      try simp only [decide_eq_true_eq, decide_eq_false_iff_not, Bool.not_eq_true', Bool.not_eq_false', Bool.not_eq_eq_eq_not, Bool.not_true, Bool.not_false] at hg5_2p
      refine g_no hF ⟨_, _, (rfl : _[2]? = some _), rfl, rfl⟩ hg5_2 rfl ?_; clear hF; intro a hF
      refine g_no hF ⟨_, _, (rfl : _[2]? = some _), rfl, rfl⟩ hg5_2 rfl ?_; clear hF; intro a hF
      refine g_no hF ⟨_, _, (rfl : _[2]? = some _), rfl, rfl⟩ hg5_2 rfl ?_; clear hF; intro a hF
      refine g_no hF ⟨_, _, (rfl : _[2]? = some _), rfl, rfl⟩ hg5_2 rfl ?_; clear hF; intro a hF
      refine g_no hF ⟨_, _, (rfl : _[2]? = some _), rfl, rfl⟩ hg5_2 rfl ?_; clear hF; intro a hF
      refine g_no hF ⟨_, _, (rfl : _[2]? = some _), rfl, rfl⟩ hg5_2 rfl ?_; clear hF; intro a hF
      refine g_no hF ⟨_, _, (rfl : _[2]? = some _), rfl, rfl⟩ hg5_2 rfl ?_; clear hF; intro a hF
      refine g_no hF ⟨_, _, (rfl : _[2]? = some _), rfl, rfl⟩ hg5_2 rfl ?_; clear hF; intro a hF
      refine s_pu hF (pu_pick_t rfl hg5_2 rfl) rfl ?_; clear hF; intro a hF
      refine c_nil ?_
      refine n_then ?_
      refine c_ift hF rfl rfl ?_
      refine c_seq ?_
      refine c_reg ?_
      refine s_pu hF (pu_assign rfl) rfl ?_; clear hF; intro a hF
      refine c_nil ?_
      refine n_then ?_
      refine c_ret (r_then (r_block (r_then (r_then (r_block (r_then ?_))))))
      exact f_ret hF rfl (.tmp rfl (.nil)) (hS.retv (congrArg Value.bool (by first | (rw [longS, decide_eq_true (show 12 < l.length by omega)]; simp; done) | (rw [longS, decide_eq_true (show 1500 < l.flatten.length by omega)]; simp; done))))
    · have hg5_2p := hg5_2
      try simp only [decide_eq_true_eq, decide_eq_false_iff_not, Bool.not_eq_true', Bool.not_eq_false', Bool.not_eq_eq_eq_not, Bool.not_true, Bool.not_false] at hg5_2p
      refine g_pu hF ⟨_, _, (rfl : _[2]? = some _), rfl, rfl⟩ hg5_2 (pu_move rfl) rfl ?_; clear hF; intro a hF
      refine g_pu hF ⟨_, _, (rfl : _[2]? = some _), rfl, rfl⟩ hg5_2 (pu_move rfl) rfl ?_; clear hF; intro a hF
      refine g_pu hF ⟨_, _, (rfl : _[2]? = some _), rfl, rfl⟩ hg5_2 (pu_iaddr_sla (j := k) ha slt24 rfl rfl (by omega) (by omega)) rfl ?_; clear hF; intro a hF
      refine g_pu hF ⟨_, _, (rfl : _[2]? = some _), rfl, rfl⟩ hg5_2 (pu_load1 one9 rfl (hH _ hS.base)) rfl ?_; clear hF; intro a hF
      refine g_pu hF ⟨_, _, (rfl : _[2]? = some _), rfl, rfl⟩ hg5_2 (pu_len_s tyS9 rfl rfl) rfl ?_; clear hF; intro a hF
      refine g_pu hF ⟨_, _, (rfl : _[2]? = some _), rfl, rfl⟩ hg5_2 (pu_move rfl) rfl ?_; clear hF; intro a hF
      refine g_pu hF ⟨_, _, (rfl : _[2]? = some _), rfl, rfl⟩ hg5_2 (pu_sub rfl rfl (by first | exact wrap_i64 (by omega) (by omega) | rfl)) rfl ?_; clear hF; intro a hF
      refine g_pu hF ⟨_, _, (rfl : _[2]? = some _), rfl, rfl⟩ hg5_2 (pu_igt rfl rfl) rfl ?_; clear hF; intro a hF
      refine s_pu hF (pu_pick_f rfl hg5_2 rfl) rfl ?_; clear hF; intro a hF
      refine c_nil ?_
      refine n_then ?_
      refine c_if hF rfl (fun hc22 => ?_) (fun hc22 => ?_)
      · try simp only [decide_eq_true_eq, decide_eq_false_iff_not, Bool.not_eq_true', Bool.not_eq_false', Bool.not_eq_eq_eq_not, Bool.not_true, Bool.not_false] at hc22
        refine c_seq ?_
        refine c_reg ?_
        refine s_pu hF (pu_assign rfl) rfl ?_; clear hF; intro a hF
        refine c_nil ?_
        refine n_then ?_
        refine c_ret (r_then (r_block (r_then (r_then (r_block (r_then ?_))))))
        exact f_ret hF rfl (.tmp rfl (.nil)) (hS.retv (congrArg Value.bool (by first | (rw [longS, decide_eq_true (show 12 < l.length by omega)]; simp; done) | (rw [longS, decide_eq_true (show 1500 < l.flatten.length by omega)]; simp; done))))
      · try simp only [decide_eq_true_eq, decide_eq_false_iff_not, Bool.not_eq_true', Bool.not_eq_false', Bool.not_eq_eq_eq_not, Bool.not_true, Bool.not_false] at hc22
        refine c_skip ?_
        refine n_then ?_
        refine c_reg ?_
        refine s_pu hF (pu_move rfl) rfl ?_; clear hF; intro a hF
        refine s_pu hF (pu_move rfl) rfl ?_; clear hF; intro a hF
        refine s_pu hF (pu_move rfl) rfl ?_; clear hF; intro a hF
        refine s_pu hF (pu_iaddr_sla (j := k) ha slt24 rfl rfl (by omega) (by omega)) rfl ?_; clear hF; intro a hF
        refine s_pu hF (pu_load1 one9 rfl (hH _ hS.base)) rfl ?_; clear hF; intro a hF
        refine s_pu hF (pu_len_s tyS9 rfl rfl) rfl ?_; clear hF; intro a hF
        refine s_pu hF (pu_add rfl rfl (by first | exact wrap_i64 (by omega) (by omega) | rfl)) rfl ?_; clear hF; intro a hF
        refine s_pu hF (pu_assign rfl) rfl ?_; clear hF; intro a hF
        refine c_nil ?_
        refine n_block ?_
        refine n_then ?_
        refine c_reg ?_
        refine s_pu hF (pu_move rfl) rfl ?_; clear hF; intro a hF
        refine s_pu hF (pu_add rfl rfl (by first | exact wrap_i64 (by omega) (by omega) | rfl)) rfl ?_; clear hF; intro a hF
        refine s_pu hF (pu_assign rfl) rfl ?_; clear hF; intro a hF
        refine c_nil ?_
        have e : (((l.take k).flatten.length : Nat) : Int) + ((l.getD k []).length : Nat) = (((l.take (k + 1)).flatten.length : Nat) : Int) := by rw [hfs]; omega
        rw [e] at hF
        exact ⟨k + 1, ⟨by omega, by omega, by omega, hF.pick (.cons (k := 3) rfl <| .cons (k := 4) rfl <| .cons (k := 0) rfl <| .nil), hS⟩, by omega⟩
  · try simp only [decide_eq_true_eq, decide_eq_false_iff_not, Bool.not_eq_true', Bool.not_eq_false', Bool.not_eq_eq_eq_not, Bool.not_true, Bool.not_false] at hc8
    obtain rfl : k = l.length := by omega
    rw [List.take_length] at hfl
    refine c_exit (x_then (x_then (x_here ?_)))
    refine n_then ?_
    refine c_seq ?_
    refine c_reg ?_
    refine s_pu hF (pu_assign rfl) rfl ?_; clear hF; intro a hF
    refine c_nil ?_
    refine n_then ?_
    refine c_ret ?_
    exact f_ret hF rfl (.tmp rfl (.nil)) (hS.retv (congrArg Value.bool (by rw [longS, decide_eq_false (by omega), decide_eq_false (by omega)]; rfl)))
set_option maxHeartbeats 1000000 in
theorem c_lives  (w0 : World) (h0 : View) (hv : VLe h0 (Full w0))  : Calls Try.prog 11 #[] w0 (Ret w0 h0 fun u _ => u = .bool true) := by
  refine f_enter (args := []) Try.func11 rfl Try.ntmps11 rfl fun a hF => ?_
  have hS := St.init w0 h0 hv
  refine c_seq ?_
  refine c_reg ?_
  refine s_pu hF (pu_assign rfl) rfl ?_; clear hF; intro a hF
  refine c_nil ?_
  refine n_then ?_
  refine c_seq ?_
  refine c_reg ?_
  refine s_make8 (m := 32) hF hS tyL56 z8 rfl rfl (by decide) (by decide) rfl ?_; clear hS hF; intro zb w a hS hF
  refine s_pu hF (pu_tostr tyL56 tyI5 tyS9 rfl rfl (buf_str (i := 0) hS rfl)) rfl ?_; clear hF; intro a hF
  refine s_pu hF (pu_assign rfl) rfl ?_; clear hF; intro a hF
  refine c_nil ?_
  refine n_then ?_
  refine c_seq ?_
  refine c_reg ?_
  refine s_callv hF hS ok16 rfl (c_Begin _ _ hS.view) rfl ?_; clear hS hF; intro w a hS hF
  refine s_calld hF hS ok17 rfl (c_Push beginM [120] (by decide) _ (Full w) (VLe.refl _)) rfl ?_; clear hS hF; intro w a hS hF
  rw [push_begin] at hF
  refine s_pu hF (pu_move rfl) rfl ?_; clear hF; intro a hF
  refine s_pu hF (pu_extract rfl rfl) rfl ?_; clear hF; intro a hF
  refine s_pu hF (pu_extract rfl rfl) rfl ?_; clear hF; intro a hF
  refine s_alloc hF hS zero23 rfl ?_; clear hS hF; intro b0 w a hS hF
  refine s_store (i := 0) (new := mkC ⟨0, 1, Z32, linkS Z32 [120]⟩) hF hS rfl rfl rfl rfl (by exact sz23) rfl (by simp [mkC]) ?_; clear hS hF; intro w a hS hF
  rw [spl_all (by simp [mkC])] at hS
  refine s_pu hF (pu_assign rfl) rfl ?_; clear hF; intro a hF
  refine c_nil ?_
  refine n_then ?_
  refine c_seq ?_
  refine region_st 33 hF hS (allV_ne rfl) mix (by kernel_rfl) fun Γ hG => ?_
  refine t_pu hG (fun w hC => pu_faddr fld23_0 rfl) ?_; clear hG; intro Γ hG
  refine t_pu hG (fun w hC => o_load1 (i := 0) hC.st rfl one3 rfl rfl) ?_; clear hG; intro Γ hG
  refine t_pu hG (fun w hC => pu_ieq rfl rfl) ?_; clear hG; intro Γ hG
  refine t_pu hG (fun w hC => pu_move rfl) ?_; clear hG; intro Γ hG
  refine tg_pu hG ⟨_, _, (rfl : _[3]? = some _), rfl, rfl⟩ rfl (fun w hC => pu_faddr fld23_1 rfl) ?_; clear hG; intro Γ hG
  refine tg_pu hG ⟨_, _, (rfl : _[3]? = some _), rfl, rfl⟩ rfl (fun w hC => o_load1 (i := 0) hC.st rfl one3 rfl rfl) ?_; clear hG; intro Γ hG
  refine tg_pu hG ⟨_, _, (rfl : _[3]? = some _), rfl, rfl⟩ rfl (fun w hC => pu_ieq rfl rfl) ?_; clear hG; intro Γ hG
  refine t_pu hG (fun w hC => pu_pick_t rfl rfl rfl) ?_; clear hG; intro Γ hG
  refine t_pu hG (fun w hC => pu_move rfl) ?_; clear hG; intro Γ hG
  refine tg_pu hG ⟨_, _, (rfl : _[8]? = some _), rfl, rfl⟩ rfl (fun w hC => pu_faddr fld23_2 rfl) ?_; clear hG; intro Γ hG
  refine tg_pu hG ⟨_, _, (rfl : _[8]? = some _), rfl, rfl⟩ rfl (fun w hC => o_load1 (i := 0) hC.st rfl one9 rfl rfl) ?_; clear hG; intro Γ hG
  refine tg_pu hG ⟨_, _, (rfl : _[8]? = some _), rfl, rfl⟩ rfl (fun w hC => pu_move rfl) ?_; clear hG; intro Γ hG
  refine tg_pu hG ⟨_, _, (rfl : _[8]? = some _), rfl, rfl⟩ rfl (fun w hC => pu_seq rfl rfl) ?_; clear hG; intro Γ hG
  refine t_pu hG (fun w hC => pu_pick_t rfl rfl rfl) ?_; clear hG; intro Γ hG
  refine t_pu hG (fun w hC => pu_move rfl) ?_; clear hG; intro Γ hG
  refine tg_pu hG ⟨_, _, (rfl : _[14]? = some _), rfl, rfl⟩ (decide_eq_true rfl) (fun w hC => pu_faddr fld23_3 rfl) ?_; clear hG; intro Γ hG
  refine tg_pu hG ⟨_, _, (rfl : _[14]? = some _), rfl, rfl⟩ (decide_eq_true rfl) (fun w hC => o_load1 (i := 0) hC.st rfl one9 rfl rfl) ?_; clear hG; intro Γ hG
  refine tg_pu hG ⟨_, _, (rfl : _[14]? = some _), rfl, rfl⟩ (decide_eq_true rfl) (fun w hC => pu_move rfl) ?_; clear hG; intro Γ hG
  refine tg_pu hG ⟨_, _, (rfl : _[14]? = some _), rfl, rfl⟩ (decide_eq_true rfl) (fun w hC => pu_cat rfl rfl (by simp)) ?_; clear hG; intro Γ hG
  refine tg_callv hG ⟨_, _, (rfl : _[14]? = some _), rfl, rfl⟩ (decide_eq_true rfl) ok21 rfl (fun w hS => (c_RSum (Z32 ++ [120]) (by decide) _ _ hS.view)) ?_; clear hG; intro Γ hG
  refine tg_pu hG ⟨_, _, (rfl : _[14]? = some _), rfl, rfl⟩ (decide_eq_true rfl) (fun w hC => pu_seq rfl rfl) ?_; clear hG; intro Γ hG
  refine t_pu hG (fun w hC => pu_pick_t rfl (decide_eq_true rfl) rfl) ?_; clear hG; intro Γ hG
  refine t_pu hG (fun w hC => pu_move rfl) ?_; clear hG; intro Γ hG
  refine tg_pu hG ⟨_, _, (rfl : _[22]? = some _), rfl, rfl⟩ (decide_eq_true rfl) (fun w hC => pu_move rfl) ?_; clear hG; intro Γ hG
  refine tg_pu hG ⟨_, _, (rfl : _[22]? = some _), rfl, rfl⟩ (decide_eq_true rfl) (fun w hC => pu_ieq rfl rfl) ?_; clear hG; intro Γ hG
  refine t_pu hG (fun w hC => pu_pick_t rfl (decide_eq_true rfl) rfl) ?_; clear hG; intro Γ hG
  refine t_pu hG (fun w hC => pu_move rfl) ?_; clear hG; intro Γ hG
  refine tg_pu hG ⟨_, _, (rfl : _[26]? = some _), rfl, rfl⟩ rfl (fun w hC => o_loadA (i := 0) (new := mkC ⟨0, 1, Z32, linkS Z32 [120]⟩) hC.st rfl agg23 rfl (rfl)) ?_; clear hG; intro Γ hG
  refine tg_build (xs := [.const (.string ⟨#[120]⟩)]) hG ⟨_, _, (rfl : _[26]? = some _), rfl, rfl⟩ rfl slt_b24 rfl rfl (by simp [Value.cells]) (by decide) ?_; clear hG; intro Γ hG
  refine tg_callP (k := 39) (v := .int .i64 (verM ⟨0, 1, Z32, linkS Z32 [120]⟩ [[120]])) hG ⟨_, _, (rfl : _[26]? = some _), rfl, rfl⟩ rfl ok14 rfl (by simp) (fun u => rfl) (fun w1 u hS1 hu => ⟨Full w1, by obtain ⟨br, rfl, hrow⟩ := hu; exact c_Verify ⟨0, 1, Z32, linkS Z32 [120]⟩ _ 1 1 [[120]] rfl (by simp) (by simp) w1 (Full w1) (VLe.refl _) (SlC.ofRow (by simp) (h := Full w1) hrow.2 rfl (by decide) (by decide) rfl)⟩) ?_; clear hG; intro Γ hG
  refine tg_pu hG ⟨_, _, (rfl : _[26]? = some _), rfl, rfl⟩ rfl (fun w hC => pu_ieq rfl rfl) ?_; clear hG; intro Γ hG
  refine t_pu hG (fun w hC => pu_pick_t rfl rfl rfl) ?_; clear hG; intro Γ hG
  refine t_pu hG (fun w hC => pu_assign rfl) ?_; clear hG; intro Γ hG
  refine t_end hG ?_; clear hG hF; intro a w hC hE hF hP; replace hS := hC.st; clear hC
  clear hE
  obtain ⟨br39, hvr, hrow39⟩ := hP 39 _ rfl; replace hF := hF.openP hvr; clear hvr
  clear hP
  refine c_nil ?_
  refine n_then ?_
  refine c_ret ?_
  exact f_ret hF rfl (.tmp rfl (.nil)) (hS.retv (by rw [ver_one]; rfl))
theorem c_Bytes (m : Mk) (w0 : World) (h0 : View) (hv : VLe h0 (Full w0))  : Calls Try.prog 22 #[.agg (mkC m).toArray] w0 (Ret w0 h0 fun u _ => u = tsV (bytesM m)) := by
  refine f_enter (args := [.agg (mkC m).toArray]) Try.func22 rfl Try.ntmps22 rfl fun a hF => ?_
  have hS := St.init w0 h0 hv
  refine c_seq ?_
  refine c_reg ?_
  refine s_box hF hS rfl rfl rfl ?_; clear hS hF; intro b0 w a hS hF
  refine s_pu hF (pu_assign rfl) rfl ?_; clear hF; intro a hF
  refine s_pu hF (pu_assign rfl) rfl ?_; clear hF; intro a hF
  refine c_nil ?_
  refine n_then ?_
  refine c_seq ?_
  refine c_seq ?_
  refine c_reg ?_
  refine s_pu hF (o_loadA (i := 0) (new := mkC m) hS rfl agg23 rfl (rfl)) rfl ?_; clear hF; intro a hF
  refine s_callv hF hS ok27 rfl (c_Check m _ _ hS.view) rfl ?_; clear hS hF; intro w a hS hF
  refine s_pu hF (pu_assign rfl) rfl ?_; clear hF; intro a hF
  refine c_nil ?_
  refine n_then ?_
  refine c_seq ?_
  refine c_reg ?_
  refine s_pu hF (pu_move rfl) rfl ?_; clear hF; intro a hF
  refine s_pu hF (pu_ine rfl rfl) rfl ?_; clear hF; intro a hF
  refine c_nil ?_
  refine n_then ?_
  refine c_if hF rfl (fun hc8 => ?_) (fun hc8 => ?_)
  · try simp only [decide_eq_true_eq, decide_eq_false_iff_not, Bool.not_eq_true', Bool.not_eq_false', Bool.not_eq_eq_eq_not, Bool.not_true, Bool.not_false] at hc8
    refine c_seq ?_
    refine c_reg ?_
    refine s_pu hF (pu_move rfl) rfl ?_; clear hF; intro a hF
    refine s_pu hF (pu_assign rfl) rfl ?_; clear hF; intro a hF
    refine s_pu hF (pu_assign rfl) rfl ?_; clear hF; intro a hF
    refine c_nil ?_
    refine n_then ?_
    refine c_ret (r_then ?_)
    exact f_ret hF rfl (.tmp rfl (.tmp rfl (.nil))) (hS.retv (by rw [bytesM, if_neg (chk_not hc8), chkM, if_neg (chk_not hc8)]; rfl))
  · try simp only [decide_eq_true_eq, decide_eq_false_iff_not, Bool.not_eq_true', Bool.not_eq_false', Bool.not_eq_eq_eq_not, Bool.not_true, Bool.not_false] at hc8
    have hr := chk_right hc8
    have hr2 := hr
    obtain ⟨h1, h2, h3, h4, h5, _⟩ := hr2
    have l1 := numS_len (n := m.base) ⟨by omega, by omega⟩
    have l2 := numS_len (n := m.count) ⟨by omega, by omega⟩
    have l3 := textS_len (s := m.anchor) (by omega)
    have l4 := textS_len (s := m.head) (by omega)
    refine c_skip ?_
    refine n_then ?_
    refine c_seq ?_
    refine region_st 17 hF hS (allV_ne rfl) mix (by kernel_rfl) fun Γ hG => ?_
    refine t_pu hG (fun w hC => pu_faddr fld23_0 rfl) ?_; clear hG; intro Γ hG
    refine t_pu hG (fun w hC => o_load1 (i := 0) hC.st rfl one3 rfl rfl) ?_; clear hG; intro Γ hG
    refine t_callv hG ok37 rfl (fun w hS => (c_Num m.base ⟨by omega, by omega⟩ _ _ hS.view)) ?_; clear hG; intro Γ hG
    refine t_pu hG (fun w hC => pu_faddr fld23_1 rfl) ?_; clear hG; intro Γ hG
    refine t_pu hG (fun w hC => o_load1 (i := 0) hC.st rfl one3 rfl rfl) ?_; clear hG; intro Γ hG
    refine t_callv hG ok37 rfl (fun w hS => (c_Num m.count ⟨by omega, by omega⟩ _ _ hS.view)) ?_; clear hG; intro Γ hG
    refine t_pu hG (fun w hC => pu_cat rfl rfl (by first | omega | (simp only [List.length_append]; omega))) ?_; clear hG; intro Γ hG
    refine t_pu hG (fun w hC => pu_faddr fld23_2 rfl) ?_; clear hG; intro Γ hG
    refine t_pu hG (fun w hC => o_load1 (i := 0) hC.st rfl one9 rfl rfl) ?_; clear hG; intro Γ hG
    refine t_callv hG ok38 rfl (fun w hS => (c_Text m.anchor (by omega) _ _ hS.view)) ?_; clear hG; intro Γ hG
    refine t_pu hG (fun w hC => pu_cat rfl rfl (by first | omega | (simp only [List.length_append]; omega))) ?_; clear hG; intro Γ hG
    refine t_pu hG (fun w hC => pu_faddr fld23_3 rfl) ?_; clear hG; intro Γ hG
    refine t_pu hG (fun w hC => o_load1 (i := 0) hC.st rfl one9 rfl rfl) ?_; clear hG; intro Γ hG
    refine t_callv hG ok38 rfl (fun w hS => (c_Text m.head (by omega) _ _ hS.view)) ?_; clear hG; intro Γ hG
    refine t_pu hG (fun w hC => pu_cat rfl rfl (by first | omega | (simp only [List.length_append]; omega))) ?_; clear hG; intro Γ hG
    refine t_pu hG (fun w hC => pu_assign rfl) ?_; clear hG; intro Γ hG
    refine t_pu hG (fun w hC => pu_assign rfl) ?_; clear hG; intro Γ hG
    refine t_end hG ?_; clear hG hF; intro a w hC hE hF hP; replace hS := hC.st; clear hC
    clear hE
    clear hP
    refine c_nil ?_
    refine n_then ?_
    refine c_ret ?_
    exact f_ret hF rfl (.tmp rfl (.tmp rfl (.nil))) (hS.retv (by rw [bytesM, if_pos hr]; rfl))
theorem c_Rtext (m : Mk) (hr : RightM m) (w0 : World) (h0 : View) (hv : VLe h0 (Full w0))  : Calls Try.prog 39 #[.agg (mkC m).toArray] w0 (Ret w0 h0 fun u _ => u = vs (textM m)) := by
  refine f_enter (args := [.agg (mkC m).toArray]) Try.func39 rfl Try.ntmps39 rfl fun a hF => ?_
  have hS := St.init w0 h0 hv
  have hr2 := hr
  obtain ⟨h1, h2, h3, h4, h5, _⟩ := hr2
  have l1 := numS_len (n := m.base) ⟨by omega, by omega⟩
  have l2 := numS_len (n := m.count) ⟨by omega, by omega⟩
  have l3 := textS_len (s := m.anchor) (by omega)
  have l4 := textS_len (s := m.head) (by omega)
  refine c_seq ?_
  refine c_reg ?_
  refine s_box hF hS rfl rfl rfl ?_; clear hS hF; intro b0 w a hS hF
  refine s_pu hF (pu_assign rfl) rfl ?_; clear hF; intro a hF
  refine c_nil ?_
  refine n_then ?_
  refine c_seq ?_
  refine region_st 16 hF hS (allV_ne rfl) mix (by kernel_rfl) fun Γ hG => ?_
  refine t_pu hG (fun w hC => pu_faddr fld23_0 rfl) ?_; clear hG; intro Γ hG
  refine t_pu hG (fun w hC => o_load1 (i := 0) hC.st rfl one3 rfl rfl) ?_; clear hG; intro Γ hG
  refine t_callv hG ok58 rfl (fun w hS => (c_RNum m.base ⟨by omega, by omega⟩ _ _ hS.view)) ?_; clear hG; intro Γ hG
  refine t_pu hG (fun w hC => pu_faddr fld23_1 rfl) ?_; clear hG; intro Γ hG
  refine t_pu hG (fun w hC => o_load1 (i := 0) hC.st rfl one3 rfl rfl) ?_; clear hG; intro Γ hG
  refine t_callv hG ok58 rfl (fun w hS => (c_RNum m.count ⟨by omega, by omega⟩ _ _ hS.view)) ?_; clear hG; intro Γ hG
  refine t_pu hG (fun w hC => pu_cat rfl rfl (by first | omega | (simp only [List.length_append]; omega))) ?_; clear hG; intro Γ hG
  refine t_pu hG (fun w hC => pu_faddr fld23_2 rfl) ?_; clear hG; intro Γ hG
  refine t_pu hG (fun w hC => o_load1 (i := 0) hC.st rfl one9 rfl rfl) ?_; clear hG; intro Γ hG
  refine t_callv hG ok59 rfl (fun w hS => (c_RText m.anchor (by omega) _ _ hS.view)) ?_; clear hG; intro Γ hG
  refine t_pu hG (fun w hC => pu_cat rfl rfl (by first | omega | (simp only [List.length_append]; omega))) ?_; clear hG; intro Γ hG
  refine t_pu hG (fun w hC => pu_faddr fld23_3 rfl) ?_; clear hG; intro Γ hG
  refine t_pu hG (fun w hC => o_load1 (i := 0) hC.st rfl one9 rfl rfl) ?_; clear hG; intro Γ hG
  refine t_callv hG ok59 rfl (fun w hS => (c_RText m.head (by omega) _ _ hS.view)) ?_; clear hG; intro Γ hG
  refine t_pu hG (fun w hC => pu_cat rfl rfl (by first | omega | (simp only [List.length_append]; omega))) ?_; clear hG; intro Γ hG
  refine t_pu hG (fun w hC => pu_assign rfl) ?_; clear hG; intro Γ hG
  refine t_end hG ?_; clear hG hF; intro a w hC hE hF hP; replace hS := hC.st; clear hC
  clear hE
  clear hP
  refine c_nil ?_
  refine n_then ?_
  refine c_ret ?_
  exact f_ret hF rfl (.tmp rfl (.nil)) (hS.retv rfl)
theorem c_RBytes (m : Mk) (w0 : World) (h0 : View) (hv : VLe h0 (Full w0))  : Calls Try.prog 23 #[.agg (mkC m).toArray] w0 (Ret w0 h0 fun u _ => u = tsV (bytesM m)) := by
  refine f_enter (args := [.agg (mkC m).toArray]) Try.func23 rfl Try.ntmps23 rfl fun a hF => ?_
  have hS := St.init w0 h0 hv
  refine c_seq ?_
  refine c_reg ?_
  refine s_box hF hS rfl rfl rfl ?_; clear hS hF; intro b0 w a hS hF
  refine s_pu hF (pu_assign rfl) rfl ?_; clear hF; intro a hF
  refine s_pu hF (pu_assign rfl) rfl ?_; clear hF; intro a hF
  refine c_nil ?_
  refine n_then ?_
  refine c_seq ?_
  refine c_seq ?_
  refine c_reg ?_
  refine s_pu hF (o_loadA (i := 0) (new := mkC m) hS rfl agg23 rfl (rfl)) rfl ?_; clear hF; intro a hF
  refine s_callv hF hS ok31 rfl (c_RRight m _ _ hS.view) rfl ?_; clear hS hF; intro w a hS hF
  refine s_pu hF (pu_not rfl) rfl ?_; clear hF; intro a hF
  refine c_nil ?_
  refine n_then ?_
  refine c_if hF rfl (fun hc6 => ?_) (fun hc6 => ?_)
  · try simp only [decide_eq_true_eq, decide_eq_false_iff_not, Bool.not_eq_true', Bool.not_eq_false', Bool.not_eq_eq_eq_not, Bool.not_true, Bool.not_false] at hc6
    refine c_seq ?_
    refine c_reg ?_
    refine s_pu hF (pu_assign rfl) rfl ?_; clear hF; intro a hF
    refine s_pu hF (pu_assign rfl) rfl ?_; clear hF; intro a hF
    refine c_nil ?_
    refine n_then ?_
    refine c_ret (r_then ?_)
    exact f_ret hF rfl (.tmp rfl (.tmp rfl (.nil))) (hS.retv (by rw [bytesM, if_neg hc6]; rfl))
  · try simp only [decide_eq_true_eq, decide_eq_false_iff_not, Bool.not_eq_true', Bool.not_eq_false', Bool.not_eq_eq_eq_not, Bool.not_true, Bool.not_false] at hc6
    refine c_skip ?_
    refine n_then ?_
    refine c_seq ?_
    refine c_reg ?_
    refine s_pu hF (o_loadA (i := 0) (new := mkC m) hS rfl agg23 rfl (rfl)) rfl ?_; clear hF; intro a hF
    refine s_callv hF hS ok39 rfl (c_Rtext m hc6 _ _ hS.view) rfl ?_; clear hS hF; intro w a hS hF
    refine s_pu hF (pu_assign rfl) rfl ?_; clear hF; intro a hF
    refine s_pu hF (pu_assign rfl) rfl ?_; clear hF; intro a hF
    refine c_nil ?_
    refine n_then ?_
    refine c_ret ?_
    exact f_ret hF rfl (.tmp rfl (.tmp rfl (.nil))) (hS.retv (by rw [bytesM, if_pos hc6]; rfl))
theorem c_RPush (m : Mk) (s : List UInt8) (hs : s.length ≤ 1000000) (w0 : World) (h0 : View) (hv : VLe h0 (Full w0))  : Calls Try.prog 24 #[.agg (mkC m).toArray, vs s] w0 (Ret w0 h0 fun u _ => u = mkV (pushM m s)) := by
  refine f_enter (args := [.agg (mkC m).toArray, vs s]) Try.func24 rfl Try.ntmps24 rfl fun a hF => ?_
  have hS := St.init w0 h0 hv
  refine c_seq ?_
  refine c_reg ?_
  refine s_box hF hS rfl rfl rfl ?_; clear hS hF; intro b0 w a hS hF
  refine s_alloc hF hS zero23 rfl ?_; clear hS hF; intro b1 w a hS hF
  refine s_pu hF (pu_assign rfl) rfl ?_; clear hF; intro a hF
  refine c_nil ?_
  refine n_then ?_
  refine c_seq ?_
  refine c_block ?_
  refine c_seq ?_
  refine c_reg ?_
  refine s_pu hF (o_loadA (i := 1) (new := mkC m) hS rfl agg23 rfl (rfl)) rfl ?_; clear hF; intro a hF
  refine s_callv hF hS ok31 rfl (c_RRight m _ _ hS.view) rfl ?_; clear hS hF; intro w a hS hF
  refine s_pu hF (pu_not rfl) rfl ?_; clear hF; intro a hF
  refine s_pu hF (pu_assign rfl) rfl ?_; clear hF; intro a hF
  refine c_nil ?_
  refine n_then ?_
  refine c_if hF rfl (fun hc6 => ?_) (fun hc6 => ?_)
  · try simp only [decide_eq_true_eq, decide_eq_false_iff_not, Bool.not_eq_true', Bool.not_eq_false', Bool.not_eq_eq_eq_not, Bool.not_true, Bool.not_false] at hc6
    refine c_seq ?_
    refine c_reg ?_
    refine s_pu hF (pu_build_st (cs := mkC mz) strb23 rfl rfl) rfl ?_; clear hF; intro a hF
    refine s_store (i := 0) (new := mkC mz) hF hS rfl rfl rfl rfl (by exact sz23) rfl (by simp [mkC]) ?_; clear hS hF; intro w a hS hF
    rw [spl_all (by simp [mkC])] at hS
    refine s_pu hF (pu_assign rfl) rfl ?_; clear hF; intro a hF
    refine c_nil ?_
    refine n_then ?_
    refine c_ret (r_block (r_then ?_))
    exact f_ret hF rfl (.cell rfl (o_lvA (i := 0) hS rfl agg23) (.tmp rfl (.nil))) (hS.retv (by rw [pushM, if_neg hc6]; rfl))
  · try simp only [decide_eq_true_eq, decide_eq_false_iff_not, Bool.not_eq_true', Bool.not_eq_false', Bool.not_eq_eq_eq_not, Bool.not_true, Bool.not_false] at hc6
    have hr := hc6
    have hr2 := hr
    obtain ⟨h1, h2, h3, h4, h5, _⟩ := hr2
    refine c_seq ?_
    refine c_reg ?_
    refine s_pu hF (pu_faddr fld23_1 rfl) rfl ?_; clear hF; intro a hF
    refine s_pu hF (o_load1 (i := 1) hS rfl one3 rfl rfl) rfl ?_; clear hF; intro a hF
    refine s_pu hF (pu_ieq rfl rfl) rfl ?_; clear hF; intro a hF
    refine s_pu hF (pu_assign rfl) rfl ?_; clear hF; intro a hF
    refine c_nil ?_
    refine n_then ?_
    refine c_if hF rfl (fun hc11 => ?_) (fun hc11 => ?_)
    · try simp only [decide_eq_true_eq, decide_eq_false_iff_not, Bool.not_eq_true', Bool.not_eq_false', Bool.not_eq_eq_eq_not, Bool.not_true, Bool.not_false] at hc11
      refine c_seq ?_
      refine c_reg ?_
      refine s_pu hF (pu_build_st (cs := mkC mz) strb23 rfl rfl) rfl ?_; clear hF; intro a hF
      refine s_store (i := 0) (new := mkC mz) hF hS rfl rfl rfl rfl (by exact sz23) rfl (by simp [mkC]) ?_; clear hS hF; intro w a hS hF
      rw [spl_all (by simp [mkC])] at hS
      refine s_pu hF (pu_assign rfl) rfl ?_; clear hF; intro a hF
      refine c_nil ?_
      refine n_then ?_
      refine c_ret (r_block (r_then ?_))
      exact f_ret hF rfl (.cell rfl (o_lvA (i := 0) hS rfl agg23) (.tmp rfl (.nil))) (hS.retv (by rw [pushM, if_pos hr, if_pos hc11]; rfl))
    · try simp only [decide_eq_true_eq, decide_eq_false_iff_not, Bool.not_eq_true', Bool.not_eq_false', Bool.not_eq_eq_eq_not, Bool.not_true, Bool.not_false] at hc11
      refine c_skip ?_
      refine n_block ?_
      refine n_then ?_
      refine c_seq ?_
      refine c_reg ?_
      refine s_pu hF (pu_faddr fld23_1 rfl) rfl ?_; clear hF; intro a hF
      refine s_pu hF (o_load1 (i := 1) hS rfl one3 rfl rfl) rfl ?_; clear hF; intro a hF
      refine s_pu hF (pu_add rfl rfl (by first | exact wrap_i64 (by omega) (by omega) | rfl)) rfl ?_; clear hF; intro a hF
      refine s_pu hF (pu_faddr fld23_1 rfl) rfl ?_; clear hF; intro a hF
      refine s_store (i := 1) hF hS rfl rfl rfl rfl sz3 rfl (by first | (simp; done) | exact Nat.le_of_ble_eq_true rfl) ?_; clear hS hF; intro w a hS hF
      rw [show spl (mkC m) (0 + 1) [.int .i64 (m.count + 1)] = mkC ⟨m.base, m.count + 1, m.anchor, m.head⟩ from rfl] at hS
      refine c_nil ?_
      refine n_then ?_
      refine c_seq ?_
      refine c_reg ?_
      refine s_pu hF (pu_faddr fld23_3 rfl) rfl ?_; clear hF; intro a hF
      refine s_pu hF (o_load1 (i := 1) hS rfl one9 rfl rfl) rfl ?_; clear hF; intro a hF
      refine s_pu hF (pu_move rfl) rfl ?_; clear hF; intro a hF
      refine s_callv hF hS ok40 rfl (c_RLink m.head s (by omega) _ _ hS.view) rfl ?_; clear hS hF; intro w a hS hF
      refine s_pu hF (pu_faddr fld23_3 rfl) rfl ?_; clear hF; intro a hF
      refine s_store (i := 1) hF hS rfl rfl rfl rfl sz9 rfl (by simp [mkC]) ?_; clear hS hF; intro w a hS hF
      rw [show spl (mkC ⟨m.base, m.count + 1, m.anchor, m.head⟩) (0 + 3) [vs (linkS m.head s)] = mkC ⟨m.base, m.count + 1, m.anchor, linkS m.head s⟩ from rfl] at hS
      refine c_nil ?_
      refine n_then ?_
      refine c_seq ?_
      refine c_reg ?_
      refine s_pu hF (o_loadA (i := 1) (new := mkC ⟨m.base, m.count + 1, m.anchor, linkS m.head s⟩) hS rfl agg23 rfl (rfl)) rfl ?_; clear hF; intro a hF
      refine s_store (i := 0) (new := mkC ⟨m.base, m.count + 1, m.anchor, linkS m.head s⟩) hF hS rfl rfl rfl rfl (by exact sz23) rfl (by simp [mkC]) ?_; clear hS hF; intro w a hS hF
      rw [spl_all (by simp [mkC])] at hS
      refine s_pu hF (pu_assign rfl) rfl ?_; clear hF; intro a hF
      refine c_nil ?_
      refine n_then ?_
      refine c_ret ?_
      exact f_ret hF rfl (.cell rfl (o_lvA (i := 0) hS rfl agg23) (.tmp rfl (.nil))) (hS.retv (by rw [pushM, if_pos hr, if_neg hc11]; rfl))
theorem c_RBegin  (w0 : World) (h0 : View) (hv : VLe h0 (Full w0))  : Calls Try.prog 28 #[] w0 (Ret w0 h0 fun u _ => u = .agg (mkC beginM).toArray) := by
  refine f_enter (args := []) Try.func28 rfl Try.ntmps28 rfl fun a hF => ?_
  have hS := St.init w0 h0 hv
  refine c_seq ?_
  refine c_reg ?_
  refine s_alloc hF hS zero23 rfl ?_; clear hS hF; intro b0 w a hS hF
  refine c_nil ?_
  refine n_then ?_
  refine c_seq ?_
  refine c_reg ?_
  refine s_make8 (m := 32) hF hS tyL56 z8 rfl rfl (by decide) (by decide) rfl ?_; clear hS hF; intro zb w a hS hF
  refine s_pu hF (pu_tostr tyL56 tyI5 tyS9 rfl rfl (buf_str (i := 0) hS rfl)) rfl ?_; clear hF; intro a hF
  refine s_pu hF (pu_assign rfl) rfl ?_; clear hF; intro a hF
  refine c_nil ?_
  refine n_then ?_
  refine c_seq ?_
  refine c_reg ?_
  refine s_pu hF (pu_move rfl) rfl ?_; clear hF; intro a hF
  refine s_pu hF (pu_move rfl) rfl ?_; clear hF; intro a hF
  refine s_pu hF (pu_build_st (cs := mkC beginM) strb23 rfl rfl) rfl ?_; clear hF; intro a hF
  refine s_store (i := 1) (new := mkC beginM) hF hS rfl rfl rfl rfl (by exact sz23) rfl (by simp [mkC]) ?_; clear hS hF; intro w a hS hF
  rw [spl_all (by simp [mkC])] at hS
  refine c_nil ?_
  refine n_then ?_
  refine c_ret ?_
  exact f_ret hF rfl (.cell rfl (o_lvA (i := 1) hS rfl agg23) (.nil)) (hS.retv rfl)
set_option maxHeartbeats 1000000 in
theorem c_Parse (s : List UInt8) (w0 : World) (h0 : View) (hv : VLe h0 (Full w0))  : Calls Try.prog 25 #[vs s] w0 (Ret w0 h0 fun u _ => u = mkV (parseM s)) := by
  refine f_enter (args := [vs s]) Try.func25 rfl Try.ntmps25 rfl fun a hF => ?_
  have hS := St.init w0 h0 hv
  refine c_seq ?_
  refine c_reg ?_
  refine s_alloc hF hS zero23 rfl ?_; clear hS hF; intro b0 w a hS hF
  refine s_pu hF (pu_assign rfl) rfl ?_; clear hF; intro a hF
  refine c_nil ?_
  refine n_then ?_
  refine c_seq ?_
  refine c_reg ?_
  refine s_alloc hF hS zero23 rfl ?_; clear hS hF; intro b1 w a hS hF
  refine c_nil ?_
  refine n_then ?_
  refine c_seq ?_
  refine c_reg ?_
  refine s_pu hF (pu_assign rfl) rfl ?_; clear hF; intro a hF
  refine s_pu hF (pu_assign rfl) rfl ?_; clear hF; intro a hF
  refine s_pu hF (pu_assign rfl) rfl ?_; clear hF; intro a hF
  refine s_pu hF (pu_assign rfl) rfl ?_; clear hF; intro a hF
  refine c_nil ?_
  refine n_then ?_
  refine c_seq ?_
  refine c_reg ?_
  refine s_pu hF (pu_move rfl) rfl ?_; clear hF; intro a hF
  refine s_pu hF (pu_assign rfl) rfl ?_; clear hF; intro a hF
  refine c_nil ?_
  refine n_then ?_
  refine c_seq ?_
  refine c_reg ?_
  refine s_pu hF (pu_move rfl) rfl ?_; clear hF; intro a hF
  refine s_callv hF hS ok41 rfl (c_TakeNum s _ _ hS.view) rfl ?_; clear hS hF; intro w a hS hF
  refine s_pu hF (pu_move rfl) rfl ?_; clear hF; intro a hF
  refine s_pu hF (pu_extract rfl rfl) rfl ?_; clear hF; intro a hF
  refine s_pu hF (pu_extract rfl rfl) rfl ?_; clear hF; intro a hF
  refine s_pu hF (pu_extract rfl rfl) rfl ?_; clear hF; intro a hF
  refine s_pu hF (pu_faddr fld23_0 rfl) rfl ?_; clear hF; intro a hF
  refine s_store (i := 0) hF hS rfl rfl rfl rfl sz3 rfl (by first | (simp; done) | exact Nat.le_of_ble_eq_true rfl) ?_; clear hS hF; intro w a hS hF
  refine s_pu hF (pu_assign rfl) rfl ?_; clear hF; intro a hF
  refine s_pu hF (pu_assign rfl) rfl ?_; clear hF; intro a hF
  refine c_nil ?_
  refine n_then ?_
  refine c_seq ?_
  refine c_reg ?_
  refine s_pu hF (pu_move rfl) rfl ?_; clear hF; intro a hF
  refine s_callv hF hS ok41 rfl (c_TakeNum _ _ _ hS.view) rfl ?_; clear hS hF; intro w a hS hF
  refine s_pu hF (pu_move rfl) rfl ?_; clear hF; intro a hF
  refine s_pu hF (pu_extract rfl rfl) rfl ?_; clear hF; intro a hF
  refine s_pu hF (pu_extract rfl rfl) rfl ?_; clear hF; intro a hF
  refine s_pu hF (pu_extract rfl rfl) rfl ?_; clear hF; intro a hF
  refine s_pu hF (pu_faddr fld23_1 rfl) rfl ?_; clear hF; intro a hF
  refine s_store (i := 0) hF hS rfl rfl rfl rfl sz3 rfl (by first | (simp; done) | exact Nat.le_of_ble_eq_true rfl) ?_; clear hS hF; intro w a hS hF
  refine s_pu hF (pu_assign rfl) rfl ?_; clear hF; intro a hF
  refine s_pu hF (pu_assign rfl) rfl ?_; clear hF; intro a hF
  refine c_nil ?_
  refine n_then ?_
  refine c_seq ?_
  refine c_reg ?_
  refine s_pu hF (pu_move rfl) rfl ?_; clear hF; intro a hF
  refine s_callv hF hS ok42 rfl (c_TakeText _ 32 _ _ hS.view) rfl ?_; clear hS hF; intro w a hS hF
  refine s_pu hF (pu_move rfl) rfl ?_; clear hF; intro a hF
  refine s_pu hF (pu_extract rfl rfl) rfl ?_; clear hF; intro a hF
  refine s_pu hF (pu_extract rfl rfl) rfl ?_; clear hF; intro a hF
  refine s_pu hF (pu_extract rfl rfl) rfl ?_; clear hF; intro a hF
  refine s_pu hF (pu_faddr fld23_2 rfl) rfl ?_; clear hF; intro a hF
  refine s_store (i := 0) hF hS rfl rfl rfl rfl sz9 rfl (by first | (simp; done) | exact Nat.le_of_ble_eq_true rfl) ?_; clear hS hF; intro w a hS hF
  refine s_pu hF (pu_assign rfl) rfl ?_; clear hF; intro a hF
  refine s_pu hF (pu_assign rfl) rfl ?_; clear hF; intro a hF
  refine c_nil ?_
  refine n_then ?_
  refine c_seq ?_
  refine c_reg ?_
  refine s_pu hF (pu_move rfl) rfl ?_; clear hF; intro a hF
  refine s_callv hF hS ok42 rfl (c_TakeText _ 32 _ _ hS.view) rfl ?_; clear hS hF; intro w a hS hF
  refine s_pu hF (pu_move rfl) rfl ?_; clear hF; intro a hF
  refine s_pu hF (pu_extract rfl rfl) rfl ?_; clear hF; intro a hF
  refine s_pu hF (pu_extract rfl rfl) rfl ?_; clear hF; intro a hF
  refine s_pu hF (pu_extract rfl rfl) rfl ?_; clear hF; intro a hF
  refine s_pu hF (pu_faddr fld23_3 rfl) rfl ?_; clear hF; intro a hF
  refine s_store (i := 0) hF hS rfl rfl rfl rfl sz9 rfl (by first | (simp; done) | exact Nat.le_of_ble_eq_true rfl) ?_; clear hS hF; intro w a hS hF
  refine s_pu hF (pu_assign rfl) rfl ?_; clear hF; intro a hF
  refine c_nil ?_
  refine n_then ?_
  refine c_seq ?_
  refine c_reg ?_
  refine s_pu hF (o_loadA (i := 0) (new := mkC (parseT s)) hS rfl agg23 rfl (rfl)) rfl ?_; clear hF; intro a hF
  refine s_callv hF hS ok22 rfl (c_Bytes (parseT s) _ _ hS.view) rfl ?_; clear hS hF; intro w a hS hF
  refine s_pu hF (pu_move rfl) rfl ?_; clear hF; intro a hF
  refine s_pu hF (pu_extract rfl rfl) rfl ?_; clear hF; intro a hF
  refine s_pu hF (pu_extract rfl rfl) rfl ?_; clear hF; intro a hF
  refine s_pu hF (pu_assign rfl) rfl ?_; clear hF; intro a hF
  refine s_pu hF (pu_assign rfl) rfl ?_; clear hF; intro a hF
  refine c_nil ?_
  refine n_then ?_
  refine c_seq ?_
  refine c_seq ?_
  refine c_reg ?_
  refine s_pu hF (pu_move rfl) rfl ?_; clear hF; intro a hF
  refine s_pu hF (pu_move rfl) rfl ?_; clear hF; intro a hF
  refine s_pu hF (pu_move rfl) rfl ?_; clear hF; intro a hF
  refine s_pu hF (pu_move rfl) rfl ?_; clear hF; intro a hF
  refine s_pu hF (pu_move rfl) rfl ?_; clear hF; intro a hF
  refine s_pu hF (pu_build_ar (cs := er5 ((takeN s).2.2, (takeN (takeN s).2.1).2.2, (takeT (takeN (takeN s).2.1).2.1 32).2.2, (takeT (takeT (takeN (takeN s).2.1).2.1 32).2.1 32).2.2, (bytesM (parseT s)).2)) arrb72 rfl rfl) rfl ?_; clear hF; intro a hF
  refine s_pu hF (pu_build_ar (cs := er5 (0, 0, 0, 0, 0)) arrb72 rfl rfl) rfl ?_; clear hF; intro a hF
  refine s_pu hF (pu_ane (a := ((takeN s).2.2, (takeN (takeN s).2.1).2.2, (takeT (takeN (takeN s).2.1).2.1 32).2.2, (takeT (takeT (takeN (takeN s).2.1).2.1 32).2.1 32).2.2, (bytesM (parseT s)).2)) (b := ((0, 0, 0, 0, 0) : Int × Int × Int × Int × Int)) eqA5 rfl rfl) rfl ?_; clear hF; intro a hF
  refine s_pu hF (pu_move rfl) rfl ?_; clear hF; intro a hF
  refine w_split hF ⟨_, _, (rfl : _[8]? = some _), rfl, rfl⟩ (fun hg9_8 => ?_) (fun hg9_8 => ?_)
  · have hg9_8p := hg9_8
    try simp only [decide_eq_true_eq, decide_eq_false_iff_not, Bool.not_eq_true', Bool.not_eq_false', Bool.not_eq_eq_eq_not, Bool.not_true, Bool.not_false] at hg9_8p
    refine g_no hF ⟨_, _, (rfl : _[8]? = some _), rfl, rfl⟩ hg9_8 rfl ?_; clear hF; intro a hF
    refine g_no hF ⟨_, _, (rfl : _[8]? = some _), rfl, rfl⟩ hg9_8 rfl ?_; clear hF; intro a hF
    refine g_no hF ⟨_, _, (rfl : _[8]? = some _), rfl, rfl⟩ hg9_8 rfl ?_; clear hF; intro a hF
    refine s_pu hF (pu_pick_t rfl hg9_8 rfl) rfl ?_; clear hF; intro a hF
    refine c_nil ?_
    refine n_then ?_
    refine c_ift hF rfl rfl ?_
    refine c_seq ?_
    refine c_reg ?_
    refine s_pu hF (pu_build_st (cs := mkC mz) strb23 rfl rfl) rfl ?_; clear hF; intro a hF
    refine s_store (i := 1) (new := mkC mz) hF hS rfl rfl rfl rfl (by exact sz23) rfl (by simp [mkC]) ?_; clear hS hF; intro w a hS hF
    
    refine s_pu hF (pu_assign rfl) rfl ?_; clear hF; intro a hF
    refine c_nil ?_
    refine n_then ?_
    refine c_ret (r_then ?_)
    refine f_ret hF rfl (.cell rfl (o_lvA (i := 1) hS rfl agg23) (.tmp rfl (.nil))) ?_
    refine hS.retv ?_
    rw [parse_not]
    · rfl
    · rintro ⟨⟨p1, p2, p3, p4⟩, p5, p6⟩
      have hb : bytesM (parseT s) = (textM (parseT s), 0) := by rw [bytesM, if_pos p5]
      rw [hb, p1, p2, p3, p4] at hg9_8p
      first | exact hg9_8p rfl | exact hc58 (by rw [hb]; exact p6)
  · have hg9_8p := hg9_8
    try simp only [decide_eq_true_eq, decide_eq_false_iff_not, Bool.not_eq_true', Bool.not_eq_false', Bool.not_eq_eq_eq_not, Bool.not_true, Bool.not_false] at hg9_8p
    refine g_pu hF ⟨_, _, (rfl : _[8]? = some _), rfl, rfl⟩ hg9_8 (pu_move rfl) rfl ?_; clear hF; intro a hF
    refine g_pu hF ⟨_, _, (rfl : _[8]? = some _), rfl, rfl⟩ hg9_8 (pu_move rfl) rfl ?_; clear hF; intro a hF
    refine g_pu hF ⟨_, _, (rfl : _[8]? = some _), rfl, rfl⟩ hg9_8 (pu_sne rfl rfl) rfl ?_; clear hF; intro a hF
    refine s_pu hF (pu_pick_f rfl hg9_8 rfl) rfl ?_; clear hF; intro a hF
    refine c_nil ?_
    refine n_then ?_
    refine c_if hF rfl (fun hc58 => ?_) (fun hc58 => ?_)
    · try simp only [decide_eq_true_eq, decide_eq_false_iff_not, Bool.not_eq_true', Bool.not_eq_false', Bool.not_eq_eq_eq_not, Bool.not_true, Bool.not_false] at hc58
      refine c_seq ?_
      refine c_reg ?_
      refine s_pu hF (pu_build_st (cs := mkC mz) strb23 rfl rfl) rfl ?_; clear hF; intro a hF
      refine s_store (i := 1) (new := mkC mz) hF hS rfl rfl rfl rfl (by exact sz23) rfl (by simp [mkC]) ?_; clear hS hF; intro w a hS hF
      
      refine s_pu hF (pu_assign rfl) rfl ?_; clear hF; intro a hF
      refine c_nil ?_
      refine n_then ?_
      refine c_ret (r_then ?_)
      refine f_ret hF rfl (.cell rfl (o_lvA (i := 1) hS rfl agg23) (.tmp rfl (.nil))) ?_
      refine hS.retv ?_
      rw [parse_not]
      · rfl
      · rintro ⟨⟨p1, p2, p3, p4⟩, p5, p6⟩
        have hb : bytesM (parseT s) = (textM (parseT s), 0) := by rw [bytesM, if_pos p5]
        rw [hb, p1, p2, p3, p4] at hg9_8p
        first | exact hg9_8p rfl | exact hc58 (by rw [hb]; exact p6)
    · try simp only [decide_eq_true_eq, decide_eq_false_iff_not, Bool.not_eq_true', Bool.not_eq_false', Bool.not_eq_eq_eq_not, Bool.not_true, Bool.not_false] at hc58
      refine c_skip ?_
      refine n_then ?_
      refine c_seq ?_
      refine c_reg ?_
      refine s_pu hF (o_loadA (i := 0) (new := mkC (parseT s)) hS rfl agg23 rfl (rfl)) rfl ?_; clear hF; intro a hF
      refine s_store (i := 1) (new := mkC (parseT s)) hF hS rfl rfl rfl rfl (by exact sz23) rfl (by simp [mkC]) ?_; clear hS hF; intro w a hS hF
      
      refine s_pu hF (pu_assign rfl) rfl ?_; clear hF; intro a hF
      refine c_nil ?_
      refine n_then ?_
      refine c_ret ?_
      refine f_ret hF rfl (.cell rfl (o_lvA (i := 1) hS rfl agg23) (.tmp rfl (.nil))) ?_
      refine hS.retv ?_
      simp only [Prod.mk.injEq] at hg9_8p
      obtain ⟨p1, p2, p3, p4, p5⟩ := hg9_8p
      have hr : RightM (parseT s) := Decidable.not_not.1 fun h => by rw [bytesM, if_neg h] at p5; cases p5
      rw [bytesM, if_pos hr] at hc58
      rw [parse_ok ⟨p1, p2, p3, p4⟩ hr hc58]
      rfl
set_option maxHeartbeats 1000000 in
theorem c_RParse (s : List UInt8) (hs : s.length ≤ 9223372036854775807) (w0 : World) (h0 : View) (hv : VLe h0 (Full w0))  : Calls Try.prog 26 #[vs s] w0 (Ret w0 h0 fun u _ => u = mkV (parseM s)) := by
  refine f_enter (args := [vs s]) Try.func26 rfl Try.ntmps26 rfl fun a hF => ?_
  have hS := St.init w0 h0 hv
  refine c_seq ?_
  refine c_reg ?_
  refine s_alloc hF hS zero23 rfl ?_; clear hS hF; intro b0 w a hS hF
  refine s_pu hF (pu_assign rfl) rfl ?_; clear hF; intro a hF
  refine c_nil ?_
  refine n_then ?_
  refine c_seq ?_
  refine c_reg ?_
  refine s_pu hF (pu_move rfl) rfl ?_; clear hF; intro a hF
  refine s_callv hF hS ok43 rfl (c_RTakeNum s hs _ _ hS.view) rfl ?_; clear hS hF; intro w a hS hF
  refine s_pu hF (pu_move rfl) rfl ?_; clear hF; intro a hF
  refine s_pu hF (pu_extract rfl rfl) rfl ?_; clear hF; intro a hF
  refine s_pu hF (pu_extract rfl rfl) rfl ?_; clear hF; intro a hF
  refine s_pu hF (pu_extract rfl rfl) rfl ?_; clear hF; intro a hF
  refine s_pu hF (pu_assign rfl) rfl ?_; clear hF; intro a hF
  refine s_pu hF (pu_assign rfl) rfl ?_; clear hF; intro a hF
  refine s_pu hF (pu_assign rfl) rfl ?_; clear hF; intro a hF
  refine c_nil ?_
  refine n_then ?_
  refine c_seq ?_
  refine c_reg ?_
  refine s_pu hF (pu_move rfl) rfl ?_; clear hF; intro a hF
  refine s_callv hF hS ok43 rfl (c_RTakeNum _ (by have := takeN_len s; omega) _ _ hS.view) rfl ?_; clear hS hF; intro w a hS hF
  refine s_pu hF (pu_move rfl) rfl ?_; clear hF; intro a hF
  refine s_pu hF (pu_extract rfl rfl) rfl ?_; clear hF; intro a hF
  refine s_pu hF (pu_extract rfl rfl) rfl ?_; clear hF; intro a hF
  refine s_pu hF (pu_extract rfl rfl) rfl ?_; clear hF; intro a hF
  refine s_pu hF (pu_assign rfl) rfl ?_; clear hF; intro a hF
  refine s_pu hF (pu_assign rfl) rfl ?_; clear hF; intro a hF
  refine s_pu hF (pu_assign rfl) rfl ?_; clear hF; intro a hF
  refine c_nil ?_
  refine n_then ?_
  refine c_seq ?_
  refine c_reg ?_
  refine s_pu hF (pu_move rfl) rfl ?_; clear hF; intro a hF
  refine s_callv hF hS ok44 rfl (c_RTakeText _ 32 (by have := takeN_len s; have := takeN_len (takeN s).2.1; omega) _ _ hS.view) rfl ?_; clear hS hF; intro w a hS hF
  refine s_pu hF (pu_move rfl) rfl ?_; clear hF; intro a hF
  refine s_pu hF (pu_extract rfl rfl) rfl ?_; clear hF; intro a hF
  refine s_pu hF (pu_extract rfl rfl) rfl ?_; clear hF; intro a hF
  refine s_pu hF (pu_extract rfl rfl) rfl ?_; clear hF; intro a hF
  refine s_pu hF (pu_assign rfl) rfl ?_; clear hF; intro a hF
  refine s_pu hF (pu_assign rfl) rfl ?_; clear hF; intro a hF
  refine s_pu hF (pu_assign rfl) rfl ?_; clear hF; intro a hF
  refine c_nil ?_
  refine n_then ?_
  refine c_seq ?_
  refine c_reg ?_
  refine s_pu hF (pu_move rfl) rfl ?_; clear hF; intro a hF
  refine s_callv hF hS ok44 rfl (c_RTakeText _ 32 (by have := takeN_len s; have := takeN_len (takeN s).2.1; have := (takeT_len (takeN (takeN s).2.1).2.1 32).2; omega) _ _ hS.view) rfl ?_; clear hS hF; intro w a hS hF
  refine s_pu hF (pu_move rfl) rfl ?_; clear hF; intro a hF
  refine s_pu hF (pu_extract rfl rfl) rfl ?_; clear hF; intro a hF
  refine s_pu hF (pu_extract rfl rfl) rfl ?_; clear hF; intro a hF
  refine s_pu hF (pu_extract rfl rfl) rfl ?_; clear hF; intro a hF
  refine s_pu hF (pu_assign rfl) rfl ?_; clear hF; intro a hF
  refine s_pu hF (pu_assign rfl) rfl ?_; clear hF; intro a hF
  refine s_pu hF (pu_assign rfl) rfl ?_; clear hF; intro a hF
  refine c_nil ?_
  refine n_then ?_
  refine c_seq ?_
  refine c_reg ?_
  refine s_pu hF (pu_move rfl) rfl ?_; clear hF; intro a hF
  refine s_pu hF (pu_move rfl) rfl ?_; clear hF; intro a hF
  refine s_pu hF (pu_move rfl) rfl ?_; clear hF; intro a hF
  refine s_pu hF (pu_move rfl) rfl ?_; clear hF; intro a hF
  refine s_pu hF (pu_build_st (cs := mkC (parseT s)) strb23 rfl rfl) rfl ?_; clear hF; intro a hF
  refine s_alloc hF hS zero23 rfl ?_; clear hS hF; intro b1 w a hS hF
  refine s_store (i := 0) (new := mkC (parseT s)) hF hS rfl rfl rfl rfl (by exact sz23) rfl (by simp [mkC]) ?_; clear hS hF; intro w a hS hF
  rw [spl_all (by simp [mkC])] at hS
  refine c_nil ?_
  refine n_then ?_
  refine c_seq ?_
  refine c_seq ?_
  refine c_reg ?_
  refine s_pu hF (pu_move rfl) rfl ?_; clear hF; intro a hF
  refine s_pu hF (pu_ine rfl rfl) rfl ?_; clear hF; intro a hF
  refine s_pu hF (pu_move rfl) rfl ?_; clear hF; intro a hF
  refine w_split hF ⟨_, _, (rfl : _[2]? = some _), rfl, rfl⟩ (fun hg6_2 => ?_) (fun hg6_2 => ?_)
  · have hg6_2p := hg6_2
    try simp only [decide_eq_true_eq, decide_eq_false_iff_not, Bool.not_eq_true', Bool.not_eq_false', Bool.not_eq_eq_eq_not, Bool.not_true, Bool.not_false] at hg6_2p
    refine g_no hF ⟨_, _, (rfl : _[2]? = some _), rfl, rfl⟩ hg6_2 rfl ?_; clear hF; intro a hF
    refine g_no hF ⟨_, _, (rfl : _[2]? = some _), rfl, rfl⟩ hg6_2 rfl ?_; clear hF; intro a hF
    refine s_pu hF (pu_pick_t rfl hg6_2 rfl) rfl ?_; clear hF; intro a hF
    refine s_pu hF (pu_move rfl) rfl ?_; clear hF; intro a hF
    refine g_no hF ⟨_, _, (rfl : _[6]? = some _), rfl, rfl⟩ rfl rfl ?_; clear hF; intro a hF
    refine g_no hF ⟨_, _, (rfl : _[6]? = some _), rfl, rfl⟩ rfl rfl ?_; clear hF; intro a hF
    refine s_pu hF (pu_pick_t rfl rfl rfl) rfl ?_; clear hF; intro a hF
    refine s_pu hF (pu_move rfl) rfl ?_; clear hF; intro a hF
    refine g_no hF ⟨_, _, (rfl : _[10]? = some _), rfl, rfl⟩ rfl rfl ?_; clear hF; intro a hF
    refine g_no hF ⟨_, _, (rfl : _[10]? = some _), rfl, rfl⟩ rfl rfl ?_; clear hF; intro a hF
    refine s_pu hF (pu_pick_t rfl rfl rfl) rfl ?_; clear hF; intro a hF
    refine s_pu hF (pu_move rfl) rfl ?_; clear hF; intro a hF
    refine g_no hF ⟨_, _, (rfl : _[14]? = some _), rfl, rfl⟩ rfl rfl ?_; clear hF; intro a hF
    refine g_no hF ⟨_, _, (rfl : _[14]? = some _), rfl, rfl⟩ rfl rfl ?_; clear hF; intro a hF
    refine s_pu hF (pu_pick_t rfl rfl rfl) rfl ?_; clear hF; intro a hF
    refine s_pu hF (pu_move rfl) rfl ?_; clear hF; intro a hF
    refine g_no hF ⟨_, _, (rfl : _[18]? = some _), rfl, rfl⟩ rfl rfl ?_; clear hF; intro a hF
    refine g_no hF ⟨_, _, (rfl : _[18]? = some _), rfl, rfl⟩ rfl rfl ?_; clear hF; intro a hF
    refine g_no hF ⟨_, _, (rfl : _[18]? = some _), rfl, rfl⟩ rfl rfl ?_; clear hF; intro a hF
    refine s_pu hF (pu_pick_t rfl rfl rfl) rfl ?_; clear hF; intro a hF
    refine c_nil ?_
    refine n_then ?_
    refine c_ift hF rfl rfl ?_
    refine c_seq ?_
    refine c_reg ?_
    refine s_pu hF (pu_build_st (cs := mkC mz) strb23 rfl rfl) rfl ?_; clear hF; intro a hF
    refine s_store (i := 1) (new := mkC mz) hF hS rfl rfl rfl rfl (by exact sz23) rfl (by simp [mkC]) ?_; clear hS hF; intro w a hS hF
    rw [spl_all (by simp [mkC])] at hS
    refine s_pu hF (pu_assign rfl) rfl ?_; clear hF; intro a hF
    refine c_nil ?_
    refine n_then ?_
    refine c_ret (r_then ?_)
    refine f_ret hF rfl (.cell rfl (o_lvA (i := 1) hS rfl agg23) (.tmp rfl (.nil))) ?_
    refine hS.retv ?_
    rw [parseM, if_neg]
    · rfl
    · rintro ⟨⟨p1, p2, p3, p4⟩, p5, p6⟩
      first | exact hg6_2p p1 | exact hg6_6p p2 | exact hg6_10p p3 | exact hg6_14p p4 | exact hg6_18p p6 | exact hc65 p5
  · have hg6_2p := hg6_2
    try simp only [decide_eq_true_eq, decide_eq_false_iff_not, Bool.not_eq_true', Bool.not_eq_false', Bool.not_eq_eq_eq_not, Bool.not_true, Bool.not_false] at hg6_2p
    refine g_pu hF ⟨_, _, (rfl : _[2]? = some _), rfl, rfl⟩ hg6_2 (pu_move rfl) rfl ?_; clear hF; intro a hF
    refine g_pu hF ⟨_, _, (rfl : _[2]? = some _), rfl, rfl⟩ hg6_2 (pu_ine rfl rfl) rfl ?_; clear hF; intro a hF
    refine s_pu hF (pu_pick_f rfl hg6_2 rfl) rfl ?_; clear hF; intro a hF
    refine s_pu hF (pu_move rfl) rfl ?_; clear hF; intro a hF
    refine w_split hF ⟨_, _, (rfl : _[6]? = some _), rfl, rfl⟩ (fun hg6_6 => ?_) (fun hg6_6 => ?_)
    · have hg6_6p := hg6_6
      try simp only [decide_eq_true_eq, decide_eq_false_iff_not, Bool.not_eq_true', Bool.not_eq_false', Bool.not_eq_eq_eq_not, Bool.not_true, Bool.not_false] at hg6_6p
      refine g_no hF ⟨_, _, (rfl : _[6]? = some _), rfl, rfl⟩ hg6_6 rfl ?_; clear hF; intro a hF
      refine g_no hF ⟨_, _, (rfl : _[6]? = some _), rfl, rfl⟩ hg6_6 rfl ?_; clear hF; intro a hF
      refine s_pu hF (pu_pick_t rfl hg6_6 rfl) rfl ?_; clear hF; intro a hF
      refine s_pu hF (pu_move rfl) rfl ?_; clear hF; intro a hF
      refine g_no hF ⟨_, _, (rfl : _[10]? = some _), rfl, rfl⟩ rfl rfl ?_; clear hF; intro a hF
      refine g_no hF ⟨_, _, (rfl : _[10]? = some _), rfl, rfl⟩ rfl rfl ?_; clear hF; intro a hF
      refine s_pu hF (pu_pick_t rfl rfl rfl) rfl ?_; clear hF; intro a hF
      refine s_pu hF (pu_move rfl) rfl ?_; clear hF; intro a hF
      refine g_no hF ⟨_, _, (rfl : _[14]? = some _), rfl, rfl⟩ rfl rfl ?_; clear hF; intro a hF
      refine g_no hF ⟨_, _, (rfl : _[14]? = some _), rfl, rfl⟩ rfl rfl ?_; clear hF; intro a hF
      refine s_pu hF (pu_pick_t rfl rfl rfl) rfl ?_; clear hF; intro a hF
      refine s_pu hF (pu_move rfl) rfl ?_; clear hF; intro a hF
      refine g_no hF ⟨_, _, (rfl : _[18]? = some _), rfl, rfl⟩ rfl rfl ?_; clear hF; intro a hF
      refine g_no hF ⟨_, _, (rfl : _[18]? = some _), rfl, rfl⟩ rfl rfl ?_; clear hF; intro a hF
      refine g_no hF ⟨_, _, (rfl : _[18]? = some _), rfl, rfl⟩ rfl rfl ?_; clear hF; intro a hF
      refine s_pu hF (pu_pick_t rfl rfl rfl) rfl ?_; clear hF; intro a hF
      refine c_nil ?_
      refine n_then ?_
      refine c_ift hF rfl rfl ?_
      refine c_seq ?_
      refine c_reg ?_
      refine s_pu hF (pu_build_st (cs := mkC mz) strb23 rfl rfl) rfl ?_; clear hF; intro a hF
      refine s_store (i := 1) (new := mkC mz) hF hS rfl rfl rfl rfl (by exact sz23) rfl (by simp [mkC]) ?_; clear hS hF; intro w a hS hF
      rw [spl_all (by simp [mkC])] at hS
      refine s_pu hF (pu_assign rfl) rfl ?_; clear hF; intro a hF
      refine c_nil ?_
      refine n_then ?_
      refine c_ret (r_then ?_)
      refine f_ret hF rfl (.cell rfl (o_lvA (i := 1) hS rfl agg23) (.tmp rfl (.nil))) ?_
      refine hS.retv ?_
      rw [parseM, if_neg]
      · rfl
      · rintro ⟨⟨p1, p2, p3, p4⟩, p5, p6⟩
        first | exact hg6_2p p1 | exact hg6_6p p2 | exact hg6_10p p3 | exact hg6_14p p4 | exact hg6_18p p6 | exact hc65 p5
    · have hg6_6p := hg6_6
      try simp only [decide_eq_true_eq, decide_eq_false_iff_not, Bool.not_eq_true', Bool.not_eq_false', Bool.not_eq_eq_eq_not, Bool.not_true, Bool.not_false] at hg6_6p
      refine g_pu hF ⟨_, _, (rfl : _[6]? = some _), rfl, rfl⟩ hg6_6 (pu_move rfl) rfl ?_; clear hF; intro a hF
      refine g_pu hF ⟨_, _, (rfl : _[6]? = some _), rfl, rfl⟩ hg6_6 (pu_ine rfl rfl) rfl ?_; clear hF; intro a hF
      refine s_pu hF (pu_pick_f rfl hg6_6 rfl) rfl ?_; clear hF; intro a hF
      refine s_pu hF (pu_move rfl) rfl ?_; clear hF; intro a hF
      refine w_split hF ⟨_, _, (rfl : _[10]? = some _), rfl, rfl⟩ (fun hg6_10 => ?_) (fun hg6_10 => ?_)
      · have hg6_10p := hg6_10
        try simp only [decide_eq_true_eq, decide_eq_false_iff_not, Bool.not_eq_true', Bool.not_eq_false', Bool.not_eq_eq_eq_not, Bool.not_true, Bool.not_false] at hg6_10p
        refine g_no hF ⟨_, _, (rfl : _[10]? = some _), rfl, rfl⟩ hg6_10 rfl ?_; clear hF; intro a hF
        refine g_no hF ⟨_, _, (rfl : _[10]? = some _), rfl, rfl⟩ hg6_10 rfl ?_; clear hF; intro a hF
        refine s_pu hF (pu_pick_t rfl hg6_10 rfl) rfl ?_; clear hF; intro a hF
        refine s_pu hF (pu_move rfl) rfl ?_; clear hF; intro a hF
        refine g_no hF ⟨_, _, (rfl : _[14]? = some _), rfl, rfl⟩ rfl rfl ?_; clear hF; intro a hF
        refine g_no hF ⟨_, _, (rfl : _[14]? = some _), rfl, rfl⟩ rfl rfl ?_; clear hF; intro a hF
        refine s_pu hF (pu_pick_t rfl rfl rfl) rfl ?_; clear hF; intro a hF
        refine s_pu hF (pu_move rfl) rfl ?_; clear hF; intro a hF
        refine g_no hF ⟨_, _, (rfl : _[18]? = some _), rfl, rfl⟩ rfl rfl ?_; clear hF; intro a hF
        refine g_no hF ⟨_, _, (rfl : _[18]? = some _), rfl, rfl⟩ rfl rfl ?_; clear hF; intro a hF
        refine g_no hF ⟨_, _, (rfl : _[18]? = some _), rfl, rfl⟩ rfl rfl ?_; clear hF; intro a hF
        refine s_pu hF (pu_pick_t rfl rfl rfl) rfl ?_; clear hF; intro a hF
        refine c_nil ?_
        refine n_then ?_
        refine c_ift hF rfl rfl ?_
        refine c_seq ?_
        refine c_reg ?_
        refine s_pu hF (pu_build_st (cs := mkC mz) strb23 rfl rfl) rfl ?_; clear hF; intro a hF
        refine s_store (i := 1) (new := mkC mz) hF hS rfl rfl rfl rfl (by exact sz23) rfl (by simp [mkC]) ?_; clear hS hF; intro w a hS hF
        rw [spl_all (by simp [mkC])] at hS
        refine s_pu hF (pu_assign rfl) rfl ?_; clear hF; intro a hF
        refine c_nil ?_
        refine n_then ?_
        refine c_ret (r_then ?_)
        refine f_ret hF rfl (.cell rfl (o_lvA (i := 1) hS rfl agg23) (.tmp rfl (.nil))) ?_
        refine hS.retv ?_
        rw [parseM, if_neg]
        · rfl
        · rintro ⟨⟨p1, p2, p3, p4⟩, p5, p6⟩
          first | exact hg6_2p p1 | exact hg6_6p p2 | exact hg6_10p p3 | exact hg6_14p p4 | exact hg6_18p p6 | exact hc65 p5
      · have hg6_10p := hg6_10
        try simp only [decide_eq_true_eq, decide_eq_false_iff_not, Bool.not_eq_true', Bool.not_eq_false', Bool.not_eq_eq_eq_not, Bool.not_true, Bool.not_false] at hg6_10p
        refine g_pu hF ⟨_, _, (rfl : _[10]? = some _), rfl, rfl⟩ hg6_10 (pu_move rfl) rfl ?_; clear hF; intro a hF
        refine g_pu hF ⟨_, _, (rfl : _[10]? = some _), rfl, rfl⟩ hg6_10 (pu_ine rfl rfl) rfl ?_; clear hF; intro a hF
        refine s_pu hF (pu_pick_f rfl hg6_10 rfl) rfl ?_; clear hF; intro a hF
        refine s_pu hF (pu_move rfl) rfl ?_; clear hF; intro a hF
        refine w_split hF ⟨_, _, (rfl : _[14]? = some _), rfl, rfl⟩ (fun hg6_14 => ?_) (fun hg6_14 => ?_)
        · have hg6_14p := hg6_14
          try simp only [decide_eq_true_eq, decide_eq_false_iff_not, Bool.not_eq_true', Bool.not_eq_false', Bool.not_eq_eq_eq_not, Bool.not_true, Bool.not_false] at hg6_14p
          refine g_no hF ⟨_, _, (rfl : _[14]? = some _), rfl, rfl⟩ hg6_14 rfl ?_; clear hF; intro a hF
          refine g_no hF ⟨_, _, (rfl : _[14]? = some _), rfl, rfl⟩ hg6_14 rfl ?_; clear hF; intro a hF
          refine s_pu hF (pu_pick_t rfl hg6_14 rfl) rfl ?_; clear hF; intro a hF
          refine s_pu hF (pu_move rfl) rfl ?_; clear hF; intro a hF
          refine g_no hF ⟨_, _, (rfl : _[18]? = some _), rfl, rfl⟩ rfl rfl ?_; clear hF; intro a hF
          refine g_no hF ⟨_, _, (rfl : _[18]? = some _), rfl, rfl⟩ rfl rfl ?_; clear hF; intro a hF
          refine g_no hF ⟨_, _, (rfl : _[18]? = some _), rfl, rfl⟩ rfl rfl ?_; clear hF; intro a hF
          refine s_pu hF (pu_pick_t rfl rfl rfl) rfl ?_; clear hF; intro a hF
          refine c_nil ?_
          refine n_then ?_
          refine c_ift hF rfl rfl ?_
          refine c_seq ?_
          refine c_reg ?_
          refine s_pu hF (pu_build_st (cs := mkC mz) strb23 rfl rfl) rfl ?_; clear hF; intro a hF
          refine s_store (i := 1) (new := mkC mz) hF hS rfl rfl rfl rfl (by exact sz23) rfl (by simp [mkC]) ?_; clear hS hF; intro w a hS hF
          rw [spl_all (by simp [mkC])] at hS
          refine s_pu hF (pu_assign rfl) rfl ?_; clear hF; intro a hF
          refine c_nil ?_
          refine n_then ?_
          refine c_ret (r_then ?_)
          refine f_ret hF rfl (.cell rfl (o_lvA (i := 1) hS rfl agg23) (.tmp rfl (.nil))) ?_
          refine hS.retv ?_
          rw [parseM, if_neg]
          · rfl
          · rintro ⟨⟨p1, p2, p3, p4⟩, p5, p6⟩
            first | exact hg6_2p p1 | exact hg6_6p p2 | exact hg6_10p p3 | exact hg6_14p p4 | exact hg6_18p p6 | exact hc65 p5
        · have hg6_14p := hg6_14
          try simp only [decide_eq_true_eq, decide_eq_false_iff_not, Bool.not_eq_true', Bool.not_eq_false', Bool.not_eq_eq_eq_not, Bool.not_true, Bool.not_false] at hg6_14p
          refine g_pu hF ⟨_, _, (rfl : _[14]? = some _), rfl, rfl⟩ hg6_14 (pu_move rfl) rfl ?_; clear hF; intro a hF
          refine g_pu hF ⟨_, _, (rfl : _[14]? = some _), rfl, rfl⟩ hg6_14 (pu_sne rfl rfl) rfl ?_; clear hF; intro a hF
          refine s_pu hF (pu_pick_f rfl hg6_14 rfl) rfl ?_; clear hF; intro a hF
          refine s_pu hF (pu_move rfl) rfl ?_; clear hF; intro a hF
          refine w_split hF ⟨_, _, (rfl : _[18]? = some _), rfl, rfl⟩ (fun hg6_18 => ?_) (fun hg6_18 => ?_)
          · have hg6_18p := hg6_18
            try simp only [decide_eq_true_eq, decide_eq_false_iff_not, Bool.not_eq_true', Bool.not_eq_false', Bool.not_eq_eq_eq_not, Bool.not_true, Bool.not_false] at hg6_18p
            refine g_no hF ⟨_, _, (rfl : _[18]? = some _), rfl, rfl⟩ hg6_18 rfl ?_; clear hF; intro a hF
            refine g_no hF ⟨_, _, (rfl : _[18]? = some _), rfl, rfl⟩ hg6_18 rfl ?_; clear hF; intro a hF
            refine g_no hF ⟨_, _, (rfl : _[18]? = some _), rfl, rfl⟩ hg6_18 rfl ?_; clear hF; intro a hF
            refine s_pu hF (pu_pick_t rfl hg6_18 rfl) rfl ?_; clear hF; intro a hF
            refine c_nil ?_
            refine n_then ?_
            refine c_ift hF rfl rfl ?_
            refine c_seq ?_
            refine c_reg ?_
            refine s_pu hF (pu_build_st (cs := mkC mz) strb23 rfl rfl) rfl ?_; clear hF; intro a hF
            refine s_store (i := 1) (new := mkC mz) hF hS rfl rfl rfl rfl (by exact sz23) rfl (by simp [mkC]) ?_; clear hS hF; intro w a hS hF
            rw [spl_all (by simp [mkC])] at hS
            refine s_pu hF (pu_assign rfl) rfl ?_; clear hF; intro a hF
            refine c_nil ?_
            refine n_then ?_
            refine c_ret (r_then ?_)
            refine f_ret hF rfl (.cell rfl (o_lvA (i := 1) hS rfl agg23) (.tmp rfl (.nil))) ?_
            refine hS.retv ?_
            rw [parseM, if_neg]
            · rfl
            · rintro ⟨⟨p1, p2, p3, p4⟩, p5, p6⟩
              first | exact hg6_2p p1 | exact hg6_6p p2 | exact hg6_10p p3 | exact hg6_14p p4 | exact hg6_18p p6 | exact hc65 p5
          · have hg6_18p := hg6_18
            try simp only [decide_eq_true_eq, decide_eq_false_iff_not, Bool.not_eq_true', Bool.not_eq_false', Bool.not_eq_eq_eq_not, Bool.not_true, Bool.not_false] at hg6_18p
            refine g_pu hF ⟨_, _, (rfl : _[18]? = some _), rfl, rfl⟩ hg6_18 (o_loadA (i := 0) (new := mkC (parseT s)) hS rfl agg23 rfl (rfl)) rfl ?_; clear hF; intro a hF
            refine g_callv hF hS ⟨_, _, (rfl : _[18]? = some _), rfl, rfl⟩ hg6_18 ok31 rfl (c_RRight (parseT s) _ _ hS.view) rfl ?_; clear hS hF; intro w a hS hF
            refine g_pu hF ⟨_, _, (rfl : _[18]? = some _), rfl, rfl⟩ hg6_18 (pu_not rfl) rfl ?_; clear hF; intro a hF
            refine s_pu hF (pu_pick_f rfl hg6_18 rfl) rfl ?_; clear hF; intro a hF
            refine c_nil ?_
            refine n_then ?_
            refine c_if hF rfl (fun hc65 => ?_) (fun hc65 => ?_)
            · try simp only [decide_eq_true_eq, decide_eq_false_iff_not, Bool.not_eq_true', Bool.not_eq_false', Bool.not_eq_eq_eq_not, Bool.not_true, Bool.not_false] at hc65
              refine c_seq ?_
              refine c_reg ?_
              refine s_pu hF (pu_build_st (cs := mkC mz) strb23 rfl rfl) rfl ?_; clear hF; intro a hF
              refine s_store (i := 1) (new := mkC mz) hF hS rfl rfl rfl rfl (by exact sz23) rfl (by simp [mkC]) ?_; clear hS hF; intro w a hS hF
              rw [spl_all (by simp [mkC])] at hS
              refine s_pu hF (pu_assign rfl) rfl ?_; clear hF; intro a hF
              refine c_nil ?_
              refine n_then ?_
              refine c_ret (r_then ?_)
              refine f_ret hF rfl (.cell rfl (o_lvA (i := 1) hS rfl agg23) (.tmp rfl (.nil))) ?_
              refine hS.retv ?_
              rw [parseM, if_neg]
              · rfl
              · rintro ⟨⟨p1, p2, p3, p4⟩, p5, p6⟩
                first | exact hg6_2p p1 | exact hg6_6p p2 | exact hg6_10p p3 | exact hg6_14p p4 | exact hg6_18p p6 | exact hc65 p5
            · try simp only [decide_eq_true_eq, decide_eq_false_iff_not, Bool.not_eq_true', Bool.not_eq_false', Bool.not_eq_eq_eq_not, Bool.not_true, Bool.not_false] at hc65
              refine c_skip ?_
              refine n_then ?_
              refine c_seq ?_
              refine c_reg ?_
              refine s_pu hF (o_loadA (i := 0) (new := mkC (parseT s)) hS rfl agg23 rfl (rfl)) rfl ?_; clear hF; intro a hF
              refine s_store (i := 1) (new := mkC (parseT s)) hF hS rfl rfl rfl rfl (by exact sz23) rfl (by simp [mkC]) ?_; clear hS hF; intro w a hS hF
              rw [spl_all (by simp [mkC])] at hS
              refine s_pu hF (pu_assign rfl) rfl ?_; clear hF; intro a hF
              refine c_nil ?_
              refine n_then ?_
              refine c_ret ?_
              exact f_ret hF rfl (.cell rfl (o_lvA (i := 1) hS rfl agg23) (.tmp rfl (.nil))) (hS.retv (by rw [parseM, if_pos ⟨⟨hg6_2p, hg6_6p, hg6_10p, hg6_14p⟩, hc65, hg6_18p⟩]; rfl))
set_option maxHeartbeats 1000000 in
theorem c_ChainCuts (m : Mk) (ad : Option Addr) (cap : Nat) (l : List (List UInt8)) (k : Int) (w0 : World) (h0 : View) (hv : VLe h0 (Full w0)) (hmb : mkB m) (hk64 : i64 k) (hb : SlC 9 1 (flatR fun s => [vs s]) h0 (.slice ad l.length cap) l) : Calls Try.prog 3 #[.agg (mkC m).toArray, .slice ad l.length cap, .int .i64 k] w0 (Ret w0 h0 fun u _ => u = .bool true) := by
  refine f_enter (args := [.agg (mkC m).toArray, .slice ad l.length cap, .int .i64 k]) Try.func3 rfl Try.ntmps3 rfl fun a hF => ?_
  have hS := St.init w0 h0 hv
  refine c_seq ?_
  refine c_reg ?_
  refine s_box hF hS rfl rfl rfl ?_; clear hS hF; intro b0 w a hS hF
  refine s_pu hF (pu_assign rfl) rfl ?_; clear hF; intro a hF
  refine c_nil ?_
  refine n_then ?_
  refine c_seq ?_
  refine c_seq ?_
  refine c_reg ?_
  refine s_pu hF (o_loadA (i := 0) (new := mkC m) hS rfl agg23 rfl (rfl)) rfl ?_; clear hF; intro a hF
  refine s_callv hF hS ok9 rfl (c_light m _ _ hS.view) rfl ?_; clear hS hF; intro w a hS hF
  refine s_pu hF (pu_not rfl) rfl ?_; clear hF; intro a hF
  refine s_pu hF (pu_move rfl) rfl ?_; clear hF; intro a hF
  refine w_split hF ⟨_, _, (rfl : _[3]? = some _), rfl, rfl⟩ (fun hg1_3 => ?_) (fun hg1_3 => ?_)
  · have hg1_3p := hg1_3
    try simp only [decide_eq_true_eq, decide_eq_false_iff_not, Bool.not_eq_true', Bool.not_eq_false', Bool.not_eq_eq_eq_not, Bool.not_true, Bool.not_false] at hg1_3p
    refine g_no hF ⟨_, _, (rfl : _[3]? = some _), rfl, rfl⟩ hg1_3 rfl ?_; clear hF; intro a hF
    refine g_no hF ⟨_, _, (rfl : _[3]? = some _), rfl, rfl⟩ hg1_3 rfl ?_; clear hF; intro a hF
    refine s_pu hF (pu_pick_t rfl hg1_3 rfl) rfl ?_; clear hF; intro a hF
    refine c_nil ?_
    refine n_then ?_
    refine c_ift hF rfl rfl ?_
    refine c_seq ?_
    refine c_reg ?_
    refine s_callv hF hS ok11 rfl (c_lives _ _ hS.view) rfl ?_; clear hS hF; intro w a hS hF
    refine s_pu hF (pu_assign rfl) rfl ?_; clear hF; intro a hF
    refine c_nil ?_
    refine n_then ?_
    refine c_ret (r_then ?_)
    exact f_ret hF rfl (.tmp rfl (.nil)) (hS.retv rfl)
  · have hg1_3p := hg1_3
    try simp only [decide_eq_true_eq, decide_eq_false_iff_not, Bool.not_eq_true', Bool.not_eq_false', Bool.not_eq_eq_eq_not, Bool.not_true, Bool.not_false] at hg1_3p
    refine g_pu hF ⟨_, _, (rfl : _[3]? = some _), rfl, rfl⟩ hg1_3 (pu_move rfl) rfl ?_; clear hF; intro a hF
    refine g_calld hF hS ⟨_, _, (rfl : _[3]? = some _), rfl, rfl⟩ hg1_3 ok10 rfl (c_long ad cap l _ h0 hS.base hb) rfl ?_; clear hS hF; intro w a hS hF
    refine s_pu hF (pu_pick_f rfl hg1_3 rfl) rfl ?_; clear hF; intro a hF
    refine c_nil ?_
    refine n_then ?_
    refine c_if hF rfl (fun hc17 => ?_) (fun hc17 => ?_)
    · try simp only [decide_eq_true_eq, decide_eq_false_iff_not, Bool.not_eq_true', Bool.not_eq_false', Bool.not_eq_eq_eq_not, Bool.not_true, Bool.not_false] at hc17
      refine c_seq ?_
      refine c_reg ?_
      refine s_callv hF hS ok11 rfl (c_lives _ _ hS.view) rfl ?_; clear hS hF; intro w a hS hF
      refine s_pu hF (pu_assign rfl) rfl ?_; clear hF; intro a hF
      refine c_nil ?_
      refine n_then ?_
      refine c_ret (r_then ?_)
      exact f_ret hF rfl (.tmp rfl (.nil)) (hS.retv rfl)
    · try simp only [decide_eq_true_eq, decide_eq_false_iff_not, Bool.not_eq_true', Bool.not_eq_false', Bool.not_eq_eq_eq_not, Bool.not_true, Bool.not_false] at hc17
      obtain ⟨hl12, hl15, hs15⟩ := long_not hc17
      have hsz : ∀ s ∈ l, s.length ≤ 1000000 := fun s hs => by have := hs15 s hs; omega
      refine c_skip ?_
      refine n_then ?_
      refine c_seq ?_
      refine c_reg ?_
      refine s_pu hF (o_loadA (i := 0) (new := mkC m) hS rfl agg23 rfl (rfl)) rfl ?_; clear hF; intro a hF
      refine s_pu hF (pu_move rfl) rfl ?_; clear hF; intro a hF
      refine s_pu hF (pu_move rfl) rfl ?_; clear hF; intro a hF
      refine s_calld hF hS ok12 rfl (c_Cut m ad cap l.length l rfl hsz (by omega) k _ h0 hS.base hb) rfl ?_; clear hS hF; intro w a hS hF
      refine s_pu hF (pu_move rfl) rfl ?_; clear hF; intro a hF
      refine s_pu hF (pu_extract rfl rfl) rfl ?_; clear hF; intro a hF
      refine s_pu hF (pu_extract rfl rfl) rfl ?_; clear hF; intro a hF
      refine s_alloc hF hS zero23 rfl ?_; clear hS hF; intro b1 w a hS hF
      refine s_store (i := 0) (new := mkC (cutM m l k).1) hF hS rfl rfl rfl rfl (by exact sz23) rfl (by simp [mkC]) ?_; clear hS hF; intro w a hS hF
      rw [spl_all (by simp [mkC])] at hS
      refine s_pu hF (pu_assign rfl) rfl ?_; clear hF; intro a hF
      refine c_nil ?_
      refine n_then ?_
      refine c_seq ?_
      refine c_reg ?_
      refine s_pu hF (o_loadA (i := 1) (new := mkC m) hS rfl agg23 rfl (rfl)) rfl ?_; clear hF; intro a hF
      refine s_pu hF (pu_move rfl) rfl ?_; clear hF; intro a hF
      refine s_pu hF (pu_move rfl) rfl ?_; clear hF; intro a hF
      refine s_calld hF hS ok13 rfl (c_RCut m ad cap l.length l rfl hsz (by omega) k _ h0 hS.base hb) rfl ?_; clear hS hF; intro w a hS hF
      refine s_pu hF (pu_move rfl) rfl ?_; clear hF; intro a hF
      refine s_pu hF (pu_extract rfl rfl) rfl ?_; clear hF; intro a hF
      refine s_pu hF (pu_extract rfl rfl) rfl ?_; clear hF; intro a hF
      refine s_alloc hF hS zero23 rfl ?_; clear hS hF; intro b2 w a hS hF
      refine s_store (i := 0) (new := mkC (cutM m l k).1) hF hS rfl rfl rfl rfl (by exact sz23) rfl (by simp [mkC]) ?_; clear hS hF; intro w a hS hF
      rw [spl_all (by simp [mkC])] at hS
      refine s_pu hF (pu_assign rfl) rfl ?_; clear hF; intro a hF
      refine c_nil ?_
      refine n_then ?_
      refine c_seq ?_
      refine region_st 21 hF hS (allV_ne rfl) mix (by kernel_rfl) fun Γ hG => ?_
      refine t_pu hG (fun w hC => o_loadA (i := 2) (new := mkC m) hC.st rfl agg23 rfl (rfl)) ?_; clear hG; intro Γ hG
      refine t_pu hG (fun w hC => pu_move rfl) ?_; clear hG; intro Γ hG
      refine t_calld hG ok14 rfl (fun w1 hS1 => ⟨_, c_Verify m ad cap l.length l rfl hsz (by omega) w1 h0 hS1.base hb⟩) ?_; clear hG; intro Γ hG
      refine t_pu hG (fun w hC => o_loadA (i := 2) (new := mkC m) hC.st rfl agg23 rfl (rfl)) ?_; clear hG; intro Γ hG
      refine t_pu hG (fun w hC => pu_move rfl) ?_; clear hG; intro Γ hG
      refine t_calld hG ok15 rfl (fun w1 hS1 => ⟨_, c_RVerify m ad cap l.length l rfl hsz (by omega) w1 h0 hS1.base hb⟩) ?_; clear hG; intro Γ hG
      refine t_pu hG (fun w hC => pu_ieq rfl rfl) ?_; clear hG; intro Γ hG
      refine t_pu hG (fun w hC => pu_move rfl) ?_; clear hG; intro Γ hG
      refine tg_pu hG ⟨_, _, (rfl : _[7]? = some _), rfl, rfl⟩ (decide_eq_true rfl) (fun w hC => o_loadA (i := 1) (new := mkC (cutM m l k).1) hC.st rfl agg23 rfl (rfl)) ?_; clear hG; intro Γ hG
      refine tg_pu hG ⟨_, _, (rfl : _[7]? = some _), rfl, rfl⟩ (decide_eq_true rfl) (fun w hC => o_loadA (i := 0) (new := mkC (cutM m l k).1) hC.st rfl agg23 rfl (rfl)) ?_; clear hG; intro Γ hG
      refine tg_pu hG ⟨_, _, (rfl : _[7]? = some _), rfl, rfl⟩ (decide_eq_true rfl) (fun w hC => pu_aeq (a := (cutM m l k).1) (b := (cutM m l k).1) eqM rfl rfl) ?_; clear hG; intro Γ hG
      refine t_pu hG (fun w hC => pu_pick_t rfl (decide_eq_true rfl) rfl) ?_; clear hG; intro Γ hG
      refine t_pu hG (fun w hC => pu_move rfl) ?_; clear hG; intro Γ hG
      refine tg_pu hG ⟨_, _, (rfl : _[12]? = some _), rfl, rfl⟩ (decide_eq_true rfl) (fun w hC => pu_move rfl) ?_; clear hG; intro Γ hG
      refine tg_pu hG ⟨_, _, (rfl : _[12]? = some _), rfl, rfl⟩ (decide_eq_true rfl) (fun w hC => pu_move rfl) ?_; clear hG; intro Γ hG
      refine tg_pu hG ⟨_, _, (rfl : _[12]? = some _), rfl, rfl⟩ (decide_eq_true rfl) (fun w hC => pu_ieq rfl rfl) ?_; clear hG; intro Γ hG
      refine t_pu hG (fun w hC => pu_pick_t rfl (decide_eq_true rfl) rfl) ?_; clear hG; intro Γ hG
      refine t_pu hG (fun w hC => pu_move rfl) ?_; clear hG; intro Γ hG
      refine tg_callv hG ⟨_, _, (rfl : _[17]? = some _), rfl, rfl⟩ (decide_eq_true rfl) ok11 rfl (fun w hS => (c_lives _ _ hS.view)) ?_; clear hG; intro Γ hG
      refine t_pu hG (fun w hC => pu_pick_t rfl (decide_eq_true rfl) rfl) ?_; clear hG; intro Γ hG
      refine t_pu hG (fun w hC => pu_assign rfl) ?_; clear hG; intro Γ hG
      refine t_end hG ?_; clear hG hF; intro a w hC hE hF hP; replace hS := hC.st; clear hC
      clear hE
      clear hP
      refine c_nil ?_
      refine n_then ?_
      refine c_ret ?_
      exact f_ret hF rfl (.tmp rfl (.nil)) (hS.retv rfl)
set_option maxHeartbeats 2000000 in
theorem c_ChainMarks (m : Mk) (s t : List UInt8) (w0 : World) (h0 : View) (hv : VLe h0 (Full w0))  : Calls Try.prog 7 #[.agg (mkC m).toArray, vs s, vs t] w0 (Ret w0 h0 fun u _ => u = .bool true) := by
  refine f_enter (args := [.agg (mkC m).toArray, vs s, vs t]) Try.func7 rfl Try.ntmps7 rfl fun a hF => ?_
  have hS := St.init w0 h0 hv
  refine c_seq ?_
  refine c_reg ?_
  refine s_box hF hS rfl rfl rfl ?_; clear hS hF; intro b0 w a hS hF
  refine s_pu hF (pu_assign rfl) rfl ?_; clear hF; intro a hF
  refine c_nil ?_
  refine n_then ?_
  refine c_seq ?_
  refine c_seq ?_
  refine c_reg ?_
  refine s_pu hF (o_loadA (i := 0) (new := mkC m) hS rfl agg23 rfl (rfl)) rfl ?_; clear hF; intro a hF
  refine s_callv hF hS ok9 rfl (c_light m _ _ hS.view) rfl ?_; clear hS hF; intro w a hS hF
  refine s_pu hF (pu_not rfl) rfl ?_; clear hF; intro a hF
  refine s_pu hF (pu_move rfl) rfl ?_; clear hF; intro a hF
  refine w_split hF ⟨_, _, (rfl : _[3]? = some _), rfl, rfl⟩ (fun hg1_3 => ?_) (fun hg1_3 => ?_)
  · have hg1_3p := hg1_3
    try simp only [decide_eq_true_eq, decide_eq_false_iff_not, Bool.not_eq_true', Bool.not_eq_false', Bool.not_eq_eq_eq_not, Bool.not_true, Bool.not_false] at hg1_3p
    refine g_no hF ⟨_, _, (rfl : _[3]? = some _), rfl, rfl⟩ hg1_3 rfl ?_; clear hF; intro a hF
    refine g_no hF ⟨_, _, (rfl : _[3]? = some _), rfl, rfl⟩ hg1_3 rfl ?_; clear hF; intro a hF
    refine g_no hF ⟨_, _, (rfl : _[3]? = some _), rfl, rfl⟩ hg1_3 rfl ?_; clear hF; intro a hF
    refine s_pu hF (pu_pick_t rfl hg1_3 rfl) rfl ?_; clear hF; intro a hF
    refine s_pu hF (pu_move rfl) rfl ?_; clear hF; intro a hF
    refine g_no hF ⟨_, _, (rfl : _[8]? = some _), rfl, rfl⟩ rfl rfl ?_; clear hF; intro a hF
    refine g_no hF ⟨_, _, (rfl : _[8]? = some _), rfl, rfl⟩ rfl rfl ?_; clear hF; intro a hF
    refine g_no hF ⟨_, _, (rfl : _[8]? = some _), rfl, rfl⟩ rfl rfl ?_; clear hF; intro a hF
    refine s_pu hF (pu_pick_t rfl rfl rfl) rfl ?_; clear hF; intro a hF
    refine c_nil ?_
    refine n_then ?_
    refine c_ift hF rfl rfl ?_
    refine c_seq ?_
    refine c_reg ?_
    refine s_callv hF hS ok11 rfl (c_lives _ _ hS.view) rfl ?_; clear hS hF; intro w a hS hF
    refine s_pu hF (pu_assign rfl) rfl ?_; clear hF; intro a hF
    refine c_nil ?_
    refine n_then ?_
    refine c_ret (r_then ?_)
    exact f_ret hF rfl (.tmp rfl (.nil)) (hS.retv rfl)
  · have hg1_3p := hg1_3
    try simp only [decide_eq_true_eq, decide_eq_false_iff_not, Bool.not_eq_true', Bool.not_eq_false', Bool.not_eq_eq_eq_not, Bool.not_true, Bool.not_false] at hg1_3p
    refine g_pu hF ⟨_, _, (rfl : _[3]? = some _), rfl, rfl⟩ hg1_3 (pu_move rfl) rfl ?_; clear hF; intro a hF
    refine g_pu hF ⟨_, _, (rfl : _[3]? = some _), rfl, rfl⟩ hg1_3 (pu_len_s tyS9 rfl rfl) rfl ?_; clear hF; intro a hF
    refine g_pu hF ⟨_, _, (rfl : _[3]? = some _), rfl, rfl⟩ hg1_3 (pu_igt rfl rfl) rfl ?_; clear hF; intro a hF
    refine s_pu hF (pu_pick_f rfl hg1_3 rfl) rfl ?_; clear hF; intro a hF
    refine s_pu hF (pu_move rfl) rfl ?_; clear hF; intro a hF
    refine w_split hF ⟨_, _, (rfl : _[8]? = some _), rfl, rfl⟩ (fun hg1_8 => ?_) (fun hg1_8 => ?_)
    · have hg1_8p := hg1_8
      try simp only [decide_eq_true_eq, decide_eq_false_iff_not, Bool.not_eq_true', Bool.not_eq_false', Bool.not_eq_eq_eq_not, Bool.not_true, Bool.not_false] at hg1_8p
      refine g_no hF ⟨_, _, (rfl : _[8]? = some _), rfl, rfl⟩ hg1_8 rfl ?_; clear hF; intro a hF
      refine g_no hF ⟨_, _, (rfl : _[8]? = some _), rfl, rfl⟩ hg1_8 rfl ?_; clear hF; intro a hF
      refine g_no hF ⟨_, _, (rfl : _[8]? = some _), rfl, rfl⟩ hg1_8 rfl ?_; clear hF; intro a hF
      refine s_pu hF (pu_pick_t rfl hg1_8 rfl) rfl ?_; clear hF; intro a hF
      refine c_nil ?_
      refine n_then ?_
      refine c_ift hF rfl rfl ?_
      refine c_seq ?_
      refine c_reg ?_
      refine s_callv hF hS ok11 rfl (c_lives _ _ hS.view) rfl ?_; clear hS hF; intro w a hS hF
      refine s_pu hF (pu_assign rfl) rfl ?_; clear hF; intro a hF
      refine c_nil ?_
      refine n_then ?_
      refine c_ret (r_then ?_)
      exact f_ret hF rfl (.tmp rfl (.nil)) (hS.retv rfl)
    · have hg1_8p := hg1_8
      try simp only [decide_eq_true_eq, decide_eq_false_iff_not, Bool.not_eq_true', Bool.not_eq_false', Bool.not_eq_eq_eq_not, Bool.not_true, Bool.not_false] at hg1_8p
      refine g_pu hF ⟨_, _, (rfl : _[8]? = some _), rfl, rfl⟩ hg1_8 (pu_move rfl) rfl ?_; clear hF; intro a hF
      refine g_pu hF ⟨_, _, (rfl : _[8]? = some _), rfl, rfl⟩ hg1_8 (pu_len_s tyS9 rfl rfl) rfl ?_; clear hF; intro a hF
      refine g_pu hF ⟨_, _, (rfl : _[8]? = some _), rfl, rfl⟩ hg1_8 (pu_igt rfl rfl) rfl ?_; clear hF; intro a hF
      refine s_pu hF (pu_pick_f rfl hg1_8 rfl) rfl ?_; clear hF; intro a hF
      refine c_nil ?_
      refine n_then ?_
      refine c_if hF rfl (fun hc31 => ?_) (fun hc31 => ?_)
      · try simp only [decide_eq_true_eq, decide_eq_false_iff_not, Bool.not_eq_true', Bool.not_eq_false', Bool.not_eq_eq_eq_not, Bool.not_true, Bool.not_false] at hc31
        refine c_seq ?_
        refine c_reg ?_
        refine s_callv hF hS ok11 rfl (c_lives _ _ hS.view) rfl ?_; clear hS hF; intro w a hS hF
        refine s_pu hF (pu_assign rfl) rfl ?_; clear hF; intro a hF
        refine c_nil ?_
        refine n_then ?_
        refine c_ret (r_then ?_)
        exact f_ret hF rfl (.tmp rfl (.nil)) (hS.retv rfl)
      · try simp only [decide_eq_true_eq, decide_eq_false_iff_not, Bool.not_eq_true', Bool.not_eq_false', Bool.not_eq_eq_eq_not, Bool.not_true, Bool.not_false] at hc31
        refine c_skip ?_
        refine n_then ?_
        refine c_seq ?_
        refine c_reg ?_
        refine s_pu hF (o_loadA (i := 0) (new := mkC m) hS rfl agg23 rfl (rfl)) rfl ?_; clear hF; intro a hF
        refine s_callv hF hS ok22 rfl (c_Bytes m _ _ hS.view) rfl ?_; clear hS hF; intro w a hS hF
        refine s_pu hF (pu_move rfl) rfl ?_; clear hF; intro a hF
        refine s_pu hF (pu_extract rfl rfl) rfl ?_; clear hF; intro a hF
        refine s_pu hF (pu_extract rfl rfl) rfl ?_; clear hF; intro a hF
        refine s_pu hF (pu_assign rfl) rfl ?_; clear hF; intro a hF
        refine s_pu hF (pu_assign rfl) rfl ?_; clear hF; intro a hF
        refine c_nil ?_
        refine n_then ?_
        refine c_seq ?_
        refine c_reg ?_
        refine s_pu hF (o_loadA (i := 0) (new := mkC m) hS rfl agg23 rfl (rfl)) rfl ?_; clear hF; intro a hF
        refine s_callv hF hS ok23 rfl (c_RBytes m _ _ hS.view) rfl ?_; clear hS hF; intro w a hS hF
        refine s_pu hF (pu_move rfl) rfl ?_; clear hF; intro a hF
        refine s_pu hF (pu_extract rfl rfl) rfl ?_; clear hF; intro a hF
        refine s_pu hF (pu_extract rfl rfl) rfl ?_; clear hF; intro a hF
        refine s_pu hF (pu_assign rfl) rfl ?_; clear hF; intro a hF
        refine s_pu hF (pu_assign rfl) rfl ?_; clear hF; intro a hF
        refine c_nil ?_
        refine n_then ?_
        refine c_seq ?_
        refine c_reg ?_
        refine s_pu hF (o_loadA (i := 0) (new := mkC m) hS rfl agg23 rfl (rfl)) rfl ?_; clear hF; intro a hF
        refine s_pu hF (pu_move rfl) rfl ?_; clear hF; intro a hF
        refine s_callv hF hS ok17 rfl (c_Push m t (by omega) _ _ hS.view) rfl ?_; clear hS hF; intro w a hS hF
        refine s_pu hF (pu_move rfl) rfl ?_; clear hF; intro a hF
        refine s_pu hF (pu_extract rfl rfl) rfl ?_; clear hF; intro a hF
        refine s_pu hF (pu_extract rfl rfl) rfl ?_; clear hF; intro a hF
        refine s_alloc hF hS zero23 rfl ?_; clear hS hF; intro b1 w a hS hF
        refine s_store (i := 0) (new := mkC (pushM m t).1) hF hS rfl rfl rfl rfl (by exact sz23) rfl (by simp [mkC]) ?_; clear hS hF; intro w a hS hF
        rw [spl_all (by simp [mkC])] at hS
        refine s_pu hF (pu_assign rfl) rfl ?_; clear hF; intro a hF
        refine c_nil ?_
        refine n_then ?_
        refine c_seq ?_
        refine c_reg ?_
        refine s_pu hF (o_loadA (i := 1) (new := mkC m) hS rfl agg23 rfl (rfl)) rfl ?_; clear hF; intro a hF
        refine s_pu hF (pu_move rfl) rfl ?_; clear hF; intro a hF
        refine s_callv hF hS ok24 rfl (c_RPush m t (by omega) _ _ hS.view) rfl ?_; clear hS hF; intro w a hS hF
        refine s_pu hF (pu_move rfl) rfl ?_; clear hF; intro a hF
        refine s_pu hF (pu_extract rfl rfl) rfl ?_; clear hF; intro a hF
        refine s_pu hF (pu_extract rfl rfl) rfl ?_; clear hF; intro a hF
        refine s_alloc hF hS zero23 rfl ?_; clear hS hF; intro b2 w a hS hF
        refine s_store (i := 0) (new := mkC (pushM m t).1) hF hS rfl rfl rfl rfl (by exact sz23) rfl (by simp [mkC]) ?_; clear hS hF; intro w a hS hF
        rw [spl_all (by simp [mkC])] at hS
        refine s_pu hF (pu_assign rfl) rfl ?_; clear hF; intro a hF
        refine c_nil ?_
        refine n_then ?_
        refine c_seq ?_
        refine c_reg ?_
        refine s_pu hF (pu_move rfl) rfl ?_; clear hF; intro a hF
        refine s_callv hF hS ok25 rfl (c_Parse s _ _ hS.view) rfl ?_; clear hS hF; intro w a hS hF
        refine s_pu hF (pu_move rfl) rfl ?_; clear hF; intro a hF
        refine s_pu hF (pu_extract rfl rfl) rfl ?_; clear hF; intro a hF
        refine s_pu hF (pu_extract rfl rfl) rfl ?_; clear hF; intro a hF
        refine s_alloc hF hS zero23 rfl ?_; clear hS hF; intro b3 w a hS hF
        refine s_store (i := 0) (new := mkC (parseM s).1) hF hS rfl rfl rfl rfl (by exact sz23) rfl (by simp [mkC]) ?_; clear hS hF; intro w a hS hF
        rw [spl_all (by simp [mkC])] at hS
        refine s_pu hF (pu_assign rfl) rfl ?_; clear hF; intro a hF
        refine c_nil ?_
        refine n_then ?_
        refine c_seq ?_
        refine c_reg ?_
        refine s_pu hF (pu_move rfl) rfl ?_; clear hF; intro a hF
        refine s_callv hF hS ok26 rfl (c_RParse s (by omega) _ _ hS.view) rfl ?_; clear hS hF; intro w a hS hF
        refine s_pu hF (pu_move rfl) rfl ?_; clear hF; intro a hF
        refine s_pu hF (pu_extract rfl rfl) rfl ?_; clear hF; intro a hF
        refine s_pu hF (pu_extract rfl rfl) rfl ?_; clear hF; intro a hF
        refine s_alloc hF hS zero23 rfl ?_; clear hS hF; intro b4 w a hS hF
        refine s_store (i := 0) (new := mkC (parseM s).1) hF hS rfl rfl rfl rfl (by exact sz23) rfl (by simp [mkC]) ?_; clear hS hF; intro w a hS hF
        rw [spl_all (by simp [mkC])] at hS
        refine s_pu hF (pu_assign rfl) rfl ?_; clear hF; intro a hF
        refine c_nil ?_
        refine n_then ?_
        refine c_seq ?_
        refine c_reg ?_
        refine s_pu hF (pu_move rfl) rfl ?_; clear hF; intro a hF
        refine s_pu hF (pu_move rfl) rfl ?_; clear hF; intro a hF
        refine s_pu hF (pu_seq rfl rfl) rfl ?_; clear hF; intro a hF
        refine s_pu hF (pu_move rfl) rfl ?_; clear hF; intro a hF
        refine g_pu hF ⟨_, _, (rfl : _[3]? = some _), rfl, rfl⟩ (decide_eq_true rfl) (pu_move rfl) rfl ?_; clear hF; intro a hF
        refine g_pu hF ⟨_, _, (rfl : _[3]? = some _), rfl, rfl⟩ (decide_eq_true rfl) (pu_move rfl) rfl ?_; clear hF; intro a hF
        refine g_pu hF ⟨_, _, (rfl : _[3]? = some _), rfl, rfl⟩ (decide_eq_true rfl) (pu_ieq rfl rfl) rfl ?_; clear hF; intro a hF
        refine s_pu hF (pu_pick_t rfl (decide_eq_true rfl) rfl) rfl ?_; clear hF; intro a hF
        refine s_pu hF (pu_move rfl) rfl ?_; clear hF; intro a hF
        refine g_pu hF ⟨_, _, (rfl : _[8]? = some _), rfl, rfl⟩ (decide_eq_true rfl) (o_loadA (i := 4) (new := mkC m) hS rfl agg23 rfl (rfl)) rfl ?_; clear hF; intro a hF
        refine g_callv hF hS ⟨_, _, (rfl : _[8]? = some _), rfl, rfl⟩ (decide_eq_true rfl) ok27 rfl (c_Check m _ _ hS.view) rfl ?_; clear hS hF; intro w a hS hF
        refine g_pu hF ⟨_, _, (rfl : _[8]? = some _), rfl, rfl⟩ (decide_eq_true rfl) (pu_move rfl) rfl ?_; clear hF; intro a hF
        refine g_pu hF ⟨_, _, (rfl : _[8]? = some _), rfl, rfl⟩ (decide_eq_true rfl) (pu_ieq rfl rfl) rfl ?_; clear hF; intro a hF
        refine s_pu hF (pu_pick_t rfl (decide_eq_true rfl) rfl) rfl ?_; clear hF; intro a hF
        refine s_pu hF (pu_move rfl) rfl ?_; clear hF; intro a hF
        refine g_pu hF ⟨_, _, (rfl : _[14]? = some _), rfl, rfl⟩ (decide_eq_true (chk_bytes m)) (o_loadA (i := 3) (new := mkC (pushM m t).1) hS rfl agg23 rfl (rfl)) rfl ?_; clear hF; intro a hF
        refine g_pu hF ⟨_, _, (rfl : _[14]? = some _), rfl, rfl⟩ (decide_eq_true (chk_bytes m)) (o_loadA (i := 2) (new := mkC (pushM m t).1) hS rfl agg23 rfl (rfl)) rfl ?_; clear hF; intro a hF
        refine g_pu hF ⟨_, _, (rfl : _[14]? = some _), rfl, rfl⟩ (decide_eq_true (chk_bytes m)) (pu_aeq (a := (pushM m t).1) (b := (pushM m t).1) eqM rfl rfl) rfl ?_; clear hF; intro a hF
        refine s_pu hF (pu_pick_t rfl (decide_eq_true (chk_bytes m)) rfl) rfl ?_; clear hF; intro a hF
        refine s_pu hF (pu_move rfl) rfl ?_; clear hF; intro a hF
        refine g_pu hF ⟨_, _, (rfl : _[19]? = some _), rfl, rfl⟩ (decide_eq_true rfl) (pu_move rfl) rfl ?_; clear hF; intro a hF
        refine g_pu hF ⟨_, _, (rfl : _[19]? = some _), rfl, rfl⟩ (decide_eq_true rfl) (pu_move rfl) rfl ?_; clear hF; intro a hF
        refine g_pu hF ⟨_, _, (rfl : _[19]? = some _), rfl, rfl⟩ (decide_eq_true rfl) (pu_ieq rfl rfl) rfl ?_; clear hF; intro a hF
        refine s_pu hF (pu_pick_t rfl (decide_eq_true rfl) rfl) rfl ?_; clear hF; intro a hF
        refine s_pu hF (pu_move rfl) rfl ?_; clear hF; intro a hF
        refine g_pu hF ⟨_, _, (rfl : _[24]? = some _), rfl, rfl⟩ (decide_eq_true rfl) (o_loadA (i := 1) (new := mkC (parseM s).1) hS rfl agg23 rfl (rfl)) rfl ?_; clear hF; intro a hF
        refine g_pu hF ⟨_, _, (rfl : _[24]? = some _), rfl, rfl⟩ (decide_eq_true rfl) (o_loadA (i := 0) (new := mkC (parseM s).1) hS rfl agg23 rfl (rfl)) rfl ?_; clear hF; intro a hF
        refine g_pu hF ⟨_, _, (rfl : _[24]? = some _), rfl, rfl⟩ (decide_eq_true rfl) (pu_aeq (a := (parseM s).1) (b := (parseM s).1) eqM rfl rfl) rfl ?_; clear hF; intro a hF
        refine s_pu hF (pu_pick_t rfl (decide_eq_true rfl) rfl) rfl ?_; clear hF; intro a hF
        refine s_pu hF (pu_move rfl) rfl ?_; clear hF; intro a hF
        refine g_pu hF ⟨_, _, (rfl : _[29]? = some _), rfl, rfl⟩ (decide_eq_true rfl) (pu_move rfl) rfl ?_; clear hF; intro a hF
        refine g_pu hF ⟨_, _, (rfl : _[29]? = some _), rfl, rfl⟩ (decide_eq_true rfl) (pu_move rfl) rfl ?_; clear hF; intro a hF
        refine g_pu hF ⟨_, _, (rfl : _[29]? = some _), rfl, rfl⟩ (decide_eq_true rfl) (pu_ieq rfl rfl) rfl ?_; clear hF; intro a hF
        refine s_pu hF (pu_pick_t rfl (decide_eq_true rfl) rfl) rfl ?_; clear hF; intro a hF
        refine s_pu hF (pu_move rfl) rfl ?_; clear hF; intro a hF
        refine g_callv hF hS ⟨_, _, (rfl : _[34]? = some _), rfl, rfl⟩ (decide_eq_true rfl) ok16 rfl (c_Begin _ _ hS.view) rfl ?_; clear hS hF; intro w a hS hF
        refine g_callv hF hS ⟨_, _, (rfl : _[34]? = some _), rfl, rfl⟩ (decide_eq_true rfl) ok28 rfl (c_RBegin _ _ hS.view) rfl ?_; clear hS hF; intro w a hS hF
        refine g_pu hF ⟨_, _, (rfl : _[34]? = some _), rfl, rfl⟩ (decide_eq_true rfl) (pu_aeq (a := beginM) (b := beginM) eqM rfl rfl) rfl ?_; clear hF; intro a hF
        refine s_pu hF (pu_pick_t rfl (decide_eq_true rfl) rfl) rfl ?_; clear hF; intro a hF
        refine s_pu hF (pu_move rfl) rfl ?_; clear hF; intro a hF
        refine g_callv hF hS ⟨_, _, (rfl : _[39]? = some _), rfl, rfl⟩ (decide_eq_true rfl) ok11 rfl (c_lives _ _ hS.view) rfl ?_; clear hS hF; intro w a hS hF
        refine s_pu hF (pu_pick_t rfl (decide_eq_true rfl) rfl) rfl ?_; clear hF; intro a hF
        refine s_pu hF (pu_assign rfl) rfl ?_; clear hF; intro a hF
        refine c_nil ?_
        refine n_then ?_
        refine c_ret ?_
        exact f_ret hF rfl (.tmp rfl (.nil)) (hS.retv rfl)
end Go.Proofs.Ytaogkonanncpiaa
