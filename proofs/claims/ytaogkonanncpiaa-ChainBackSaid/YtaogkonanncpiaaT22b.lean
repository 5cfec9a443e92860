/- What the functions of the program compute, each with its conditions. -/
import Derived.Test.YtaogkonanncpiaaT22
set_option linter.unusedSimpArgs false
set_option linter.unusedVariables false
namespace Go.Proofs.Ytaogkonanncpiaa
open Go Go.Dx Go.RowKit
set_option maxHeartbeats 2000000 in
theorem c_ChainBack (m : Mk) (s : List UInt8) (w0 : World) (h0 : View) (hv : VLe h0 (Full w0))  : Calls Try.prog 8 #[.agg (mkC m).toArray, vs s] w0 (Ret w0 h0 fun u _ => u = .bool true) := by
  refine f_enter (args := [.agg (mkC m).toArray, vs s]) Try.func8 rfl Try.ntmps8 rfl fun a hF => ?_
  have hS := St.init w0 h0 hv
  refine c_seq ?_
  refine c_reg ?_
  refine s_box hF hS rfl rfl rfl ?_; clear hS hF; intro b0 w a hS hF
  refine s_pu hF (pu_assign rfl) rfl ?_; clear hF; intro a hF
  refine c_nil ?_
  refine n_then ?_
  refine c_seq ?_
  refine c_seq ?_
  refine c_reg ?_
  refine s_pu hF (o_loadA (i := 0) (new := mkC m) hS rfl agg23 rfl (rfl)) rfl ?_; clear hF; intro a hF
  refine s_callv hF hS ok9 rfl (c_light m _ _ hS.view) rfl ?_; clear hS hF; intro w a hS hF
  refine s_pu hF (pu_not rfl) rfl ?_; clear hF; intro a hF
  refine s_pu hF (pu_move rfl) rfl ?_; clear hF; intro a hF
  refine w_split hF ⟨_, _, (rfl : _[3]? = some _), rfl, rfl⟩ (fun hg1_3 => ?_) (fun hg1_3 => ?_)
  · have hg1_3p := hg1_3
    try simp only [decide_eq_true_eq, decide_eq_false_iff_not, Bool.not_eq_true', Bool.not_eq_false', Bool.not_eq_eq_eq_not, Bool.not_true, Bool.not_false] at hg1_3p
    refine g_no hF ⟨_, _, (rfl : _[3]? = some _), rfl, rfl⟩ hg1_3 rfl ?_; clear hF; intro a hF
    refine g_no hF ⟨_, _, (rfl : _[3]? = some _), rfl, rfl⟩ hg1_3 rfl ?_; clear hF; intro a hF
    refine g_no hF ⟨_, _, (rfl : _[3]? = some _), rfl, rfl⟩ hg1_3 rfl ?_; clear hF; intro a hF
    refine s_pu hF (pu_pick_t rfl hg1_3 rfl) rfl ?_; clear hF; intro a hF
    refine c_nil ?_
    refine n_then ?_
    refine c_ift hF rfl rfl ?_
    refine c_seq ?_
    refine c_reg ?_
    refine s_callv hF hS ok11 rfl (c_lives _ _ hS.view) rfl ?_; clear hS hF; intro w a hS hF
    refine s_pu hF (pu_assign rfl) rfl ?_; clear hF; intro a hF
    refine c_nil ?_
    refine n_then ?_
    refine c_ret (r_then ?_)
    exact f_ret hF rfl (.tmp rfl (.nil)) (hS.retv rfl)
  · have hg1_3p := hg1_3
    try simp only [decide_eq_true_eq, decide_eq_false_iff_not, Bool.not_eq_true', Bool.not_eq_false', Bool.not_eq_eq_eq_not, Bool.not_true, Bool.not_false] at hg1_3p
    refine g_pu hF ⟨_, _, (rfl : _[3]? = some _), rfl, rfl⟩ hg1_3 (pu_move rfl) rfl ?_; clear hF; intro a hF
    refine g_pu hF ⟨_, _, (rfl : _[3]? = some _), rfl, rfl⟩ hg1_3 (pu_len_s tyS9 rfl rfl) rfl ?_; clear hF; intro a hF
    refine g_pu hF ⟨_, _, (rfl : _[3]? = some _), rfl, rfl⟩ hg1_3 (pu_igt rfl rfl) rfl ?_; clear hF; intro a hF
    refine s_pu hF (pu_pick_f rfl hg1_3 rfl) rfl ?_; clear hF; intro a hF
    refine c_nil ?_
    refine n_then ?_
    refine c_if hF rfl (fun hc20 => ?_) (fun hc20 => ?_)
    · try simp only [decide_eq_true_eq, decide_eq_false_iff_not, Bool.not_eq_true', Bool.not_eq_false', Bool.not_eq_eq_eq_not, Bool.not_true, Bool.not_false] at hc20
      refine c_seq ?_
      refine c_reg ?_
      refine s_callv hF hS ok11 rfl (c_lives _ _ hS.view) rfl ?_; clear hS hF; intro w a hS hF
      refine s_pu hF (pu_assign rfl) rfl ?_; clear hF; intro a hF
      refine c_nil ?_
      refine n_then ?_
      refine c_ret (r_then ?_)
      exact f_ret hF rfl (.tmp rfl (.nil)) (hS.retv rfl)
    · try simp only [decide_eq_true_eq, decide_eq_false_iff_not, Bool.not_eq_true', Bool.not_eq_false', Bool.not_eq_eq_eq_not, Bool.not_true, Bool.not_false] at hc20
      refine c_skip ?_
      refine n_then ?_
      refine c_seq ?_
      refine c_seq ?_
      refine c_reg ?_
      refine s_pu hF (o_loadA (i := 0) (new := mkC m) hS rfl agg23 rfl (rfl)) rfl ?_; clear hF; intro a hF
      refine s_callv hF hS ok22 rfl (c_Bytes m _ _ hS.view) rfl ?_; clear hS hF; intro w a hS hF
      refine s_pu hF (pu_move rfl) rfl ?_; clear hF; intro a hF
      refine s_pu hF (pu_extract rfl rfl) rfl ?_; clear hF; intro a hF
      refine s_pu hF (pu_extract rfl rfl) rfl ?_; clear hF; intro a hF
      refine s_pu hF (pu_assign rfl) rfl ?_; clear hF; intro a hF
      refine s_pu hF (pu_assign rfl) rfl ?_; clear hF; intro a hF
      refine c_nil ?_
      refine n_then ?_
      refine c_seq ?_
      refine c_reg ?_
      refine s_pu hF (pu_move rfl) rfl ?_; clear hF; intro a hF
      refine s_pu hF (pu_ieq rfl rfl) rfl ?_; clear hF; intro a hF
      refine c_nil ?_
      refine n_then ?_
      refine c_if hF rfl (fun hc28 => ?_) (fun hc28 => ?_)
      · try simp only [decide_eq_true_eq, decide_eq_false_iff_not, Bool.not_eq_true', Bool.not_eq_false', Bool.not_eq_eq_eq_not, Bool.not_true, Bool.not_false] at hc28
        have hr : RightM m := by
          apply Decidable.not_not.1; intro h; rw [bytesM, if_neg h] at hc28; cases hc28
        have hpb : parseM (bytesM m).1 = (m, 0) := by rw [bytesM, if_pos hr]; exact parse_bytes hr
        refine c_seq ?_
        refine c_reg ?_
        refine s_pu hF (pu_move rfl) rfl ?_; clear hF; intro a hF
        refine s_calld (v := mkV (m, 0)) hF hS ok25 rfl (by rw [← hpb]; exact c_Parse (bytesM m).1 _ h0 hS.base) rfl ?_; clear hS hF; intro w a hS hF
        refine s_pu hF (pu_move rfl) rfl ?_; clear hF; intro a hF
        refine s_pu hF (pu_extract rfl rfl) rfl ?_; clear hF; intro a hF
        refine s_pu hF (pu_extract rfl rfl) rfl ?_; clear hF; intro a hF
        refine s_alloc hF hS zero23 rfl ?_; clear hS hF; intro b1 w a hS hF
        refine s_store (i := 0) (new := mkC m) hF hS rfl rfl rfl rfl (by exact sz23) rfl (by simp [mkC]) ?_; clear hS hF; intro w a hS hF
        rw [spl_all (by simp [mkC])] at hS
        refine s_pu hF (pu_assign rfl) rfl ?_; clear hF; intro a hF
        refine c_nil ?_
        refine n_then ?_
        refine c_seq ?_
        refine c_reg ?_
        refine s_pu hF (o_loadA (i := 0) (new := mkC m) hS rfl agg23 rfl (rfl)) rfl ?_; clear hF; intro a hF
        refine s_pu hF (o_loadA (i := 1) (new := mkC m) hS rfl agg23 rfl (rfl)) rfl ?_; clear hF; intro a hF
        refine s_pu hF (pu_ane (a := m) (b := m) eqM rfl rfl) rfl ?_; clear hF; intro a hF
        refine s_pu hF (pu_move rfl) rfl ?_; clear hF; intro a hF
        refine g_pu hF ⟨_, _, (rfl : _[3]? = some _), rfl, rfl⟩ (by simp) (pu_move rfl) rfl ?_; clear hF; intro a hF
        refine g_pu hF ⟨_, _, (rfl : _[3]? = some _), rfl, rfl⟩ (by simp) (pu_ine rfl rfl) rfl ?_; clear hF; intro a hF
        refine s_pu hF (pu_pick_f rfl (by simp) rfl) rfl ?_; clear hF; intro a hF
        refine s_pu hF (pu_move rfl) rfl ?_; clear hF; intro a hF
        refine g_pu hF ⟨_, _, (rfl : _[7]? = some _), rfl, rfl⟩ (by simp) (o_loadA (i := 1) (new := mkC m) hS rfl agg23 rfl (rfl)) rfl ?_; clear hF; intro a hF
        refine g_callv hF hS ⟨_, _, (rfl : _[7]? = some _), rfl, rfl⟩ (by simp) ok27 rfl (c_Check m _ _ hS.view) rfl ?_; clear hS hF; intro w a hS hF
        refine g_pu hF ⟨_, _, (rfl : _[7]? = some _), rfl, rfl⟩ (by simp) (pu_ine rfl rfl) rfl ?_; clear hF; intro a hF
        refine s_pu hF (pu_pick_f rfl (by simp) rfl) rfl ?_; clear hF; intro a hF
        refine c_nil ?_
        refine n_then ?_
        refine c_iff hF rfl (by rw [chkM, if_pos hr]; rfl) ?_
        refine c_skip ?_
        refine n_then ?_
        refine c_seq ?_
        refine c_reg ?_
        refine s_pu hF (pu_move rfl) rfl ?_; clear hF; intro a hF
        refine s_callv hF hS ok25 rfl (c_Parse s _ _ hS.view) rfl ?_; clear hS hF; intro w a hS hF
        refine s_pu hF (pu_move rfl) rfl ?_; clear hF; intro a hF
        refine s_pu hF (pu_extract rfl rfl) rfl ?_; clear hF; intro a hF
        refine s_pu hF (pu_extract rfl rfl) rfl ?_; clear hF; intro a hF
        refine s_alloc hF hS zero23 rfl ?_; clear hS hF; intro b2 w a hS hF
        refine s_store (i := 0) (new := mkC (parseM s).1) hF hS rfl rfl rfl rfl (by exact sz23) rfl (by simp [mkC]) ?_; clear hS hF; intro w a hS hF
        rw [spl_all (by simp [mkC])] at hS
        refine s_pu hF (pu_assign rfl) rfl ?_; clear hF; intro a hF
        refine c_nil ?_
        refine n_then ?_
        refine c_seq ?_
        refine c_seq ?_
        refine c_reg ?_
        refine s_pu hF (pu_move rfl) rfl ?_; clear hF; intro a hF
        refine s_pu hF (pu_ine rfl rfl) rfl ?_; clear hF; intro a hF
        refine c_nil ?_
        refine n_then ?_
        refine c_if hF rfl (fun hc52 => ?_) (fun hc52 => ?_)
        · try simp only [decide_eq_true_eq, decide_eq_false_iff_not, Bool.not_eq_true', Bool.not_eq_false', Bool.not_eq_eq_eq_not, Bool.not_true, Bool.not_false] at hc52
          have hz : parseM s = (mz, 4) := (parse_or s).resolve_left hc52
          refine c_seq ?_
          refine c_reg ?_
          refine s_pu hF (o_loadA (i := 0) (new := mkC (parseM s).1) hS rfl agg23 rfl (rfl)) rfl ?_; clear hF; intro a hF
          refine s_pu hF (pu_build_st (cs := mkC mz) strb23 rfl rfl) rfl ?_; clear hF; intro a hF
          refine s_pu hF (pu_aeq (a := (parseM s).1) (b := mz) eqM rfl rfl) rfl ?_; clear hF; intro a hF
          refine s_pu hF (pu_move rfl) rfl ?_; clear hF; intro a hF
          refine g_callv hF hS ⟨_, _, (rfl : _[3]? = some _), rfl, rfl⟩ (decide_eq_true (by rw [hz])) ok11 rfl (c_lives _ _ hS.view) rfl ?_; clear hS hF; intro w a hS hF
          refine s_pu hF (pu_pick_t rfl (decide_eq_true (by rw [hz])) rfl) rfl ?_; clear hF; intro a hF
          refine s_pu hF (pu_assign rfl) rfl ?_; clear hF; intro a hF
          refine c_nil ?_
          refine n_then ?_
          refine c_ret (r_then ?_)
          exact f_ret hF rfl (.tmp rfl (.nil)) (hS.retv rfl)
        · try simp only [decide_eq_true_eq, decide_eq_false_iff_not, Bool.not_eq_true', Bool.not_eq_false', Bool.not_eq_eq_eq_not, Bool.not_true, Bool.not_false] at hc52
          have hbz : bytesM (parseM s).1 = (s, 0) := by
            obtain ⟨q1, q2⟩ := parse_back hc52
            rw [bytesM, if_pos q1, q2]
          refine c_skip ?_
          refine n_then ?_
          refine c_seq ?_
          refine c_reg ?_
          refine s_pu hF (o_loadA (i := 0) (new := mkC (parseM s).1) hS rfl agg23 rfl (rfl)) rfl ?_; clear hF; intro a hF
          refine s_calld (v := tsV (s, 0)) hF hS ok22 rfl (by rw [← hbz]; exact c_Bytes (parseM s).1 _ h0 hS.base) rfl ?_; clear hS hF; intro w a hS hF
          refine s_pu hF (pu_move rfl) rfl ?_; clear hF; intro a hF
          refine s_pu hF (pu_extract rfl rfl) rfl ?_; clear hF; intro a hF
          refine s_pu hF (pu_extract rfl rfl) rfl ?_; clear hF; intro a hF
          refine s_pu hF (pu_assign rfl) rfl ?_; clear hF; intro a hF
          refine s_pu hF (pu_assign rfl) rfl ?_; clear hF; intro a hF
          refine c_nil ?_
          refine n_then ?_
          refine c_seq ?_
          refine c_reg ?_
          refine s_pu hF (pu_move rfl) rfl ?_; clear hF; intro a hF
          refine s_pu hF (pu_move rfl) rfl ?_; clear hF; intro a hF
          refine s_pu hF (pu_seq rfl rfl) rfl ?_; clear hF; intro a hF
          refine s_pu hF (pu_move rfl) rfl ?_; clear hF; intro a hF
          refine g_pu hF ⟨_, _, (rfl : _[3]? = some _), rfl, rfl⟩ (decide_eq_true rfl) (pu_move rfl) rfl ?_; clear hF; intro a hF
          refine g_pu hF ⟨_, _, (rfl : _[3]? = some _), rfl, rfl⟩ (decide_eq_true rfl) (pu_ieq rfl rfl) rfl ?_; clear hF; intro a hF
          refine s_pu hF (pu_pick_t rfl (decide_eq_true rfl) rfl) rfl ?_; clear hF; intro a hF
          refine s_pu hF (pu_move rfl) rfl ?_; clear hF; intro a hF
          refine g_callv hF hS ⟨_, _, (rfl : _[7]? = some _), rfl, rfl⟩ (decide_eq_true rfl) ok11 rfl (c_lives _ _ hS.view) rfl ?_; clear hS hF; intro w a hS hF
          refine s_pu hF (pu_pick_t rfl (decide_eq_true rfl) rfl) rfl ?_; clear hF; intro a hF
          refine s_pu hF (pu_assign rfl) rfl ?_; clear hF; intro a hF
          refine c_nil ?_
          refine n_then ?_
          refine c_ret ?_
          exact f_ret hF rfl (.tmp rfl (.nil)) (hS.retv rfl)
      · try simp only [decide_eq_true_eq, decide_eq_false_iff_not, Bool.not_eq_true', Bool.not_eq_false', Bool.not_eq_eq_eq_not, Bool.not_true, Bool.not_false] at hc28
        refine c_skip ?_
        refine n_then ?_
        refine c_seq ?_
        refine c_reg ?_
        refine s_pu hF (pu_move rfl) rfl ?_; clear hF; intro a hF
        refine s_callv hF hS ok25 rfl (c_Parse s _ _ hS.view) rfl ?_; clear hS hF; intro w a hS hF
        refine s_pu hF (pu_move rfl) rfl ?_; clear hF; intro a hF
        refine s_pu hF (pu_extract rfl rfl) rfl ?_; clear hF; intro a hF
        refine s_pu hF (pu_extract rfl rfl) rfl ?_; clear hF; intro a hF
        refine s_alloc hF hS zero23 rfl ?_; clear hS hF; intro b1 w a hS hF
        refine s_store (i := 0) (new := mkC (parseM s).1) hF hS rfl rfl rfl rfl (by exact sz23) rfl (by simp [mkC]) ?_; clear hS hF; intro w a hS hF
        rw [spl_all (by simp [mkC])] at hS
        refine s_pu hF (pu_assign rfl) rfl ?_; clear hF; intro a hF
        refine c_nil ?_
        refine n_then ?_
        refine c_seq ?_
        refine c_seq ?_
        refine c_reg ?_
        refine s_pu hF (pu_move rfl) rfl ?_; clear hF; intro a hF
        refine s_pu hF (pu_ine rfl rfl) rfl ?_; clear hF; intro a hF
        refine c_nil ?_
        refine n_then ?_
        refine c_if hF rfl (fun hc52 => ?_) (fun hc52 => ?_)
        · try simp only [decide_eq_true_eq, decide_eq_false_iff_not, Bool.not_eq_true', Bool.not_eq_false', Bool.not_eq_eq_eq_not, Bool.not_true, Bool.not_false] at hc52
          have hz : parseM s = (mz, 4) := (parse_or s).resolve_left hc52
          refine c_seq ?_
          refine c_reg ?_
          refine s_pu hF (o_loadA (i := 0) (new := mkC (parseM s).1) hS rfl agg23 rfl (rfl)) rfl ?_; clear hF; intro a hF
          refine s_pu hF (pu_build_st (cs := mkC mz) strb23 rfl rfl) rfl ?_; clear hF; intro a hF
          refine s_pu hF (pu_aeq (a := (parseM s).1) (b := mz) eqM rfl rfl) rfl ?_; clear hF; intro a hF
          refine s_pu hF (pu_move rfl) rfl ?_; clear hF; intro a hF
          refine g_callv hF hS ⟨_, _, (rfl : _[3]? = some _), rfl, rfl⟩ (decide_eq_true (by rw [hz])) ok11 rfl (c_lives _ _ hS.view) rfl ?_; clear hS hF; intro w a hS hF
          refine s_pu hF (pu_pick_t rfl (decide_eq_true (by rw [hz])) rfl) rfl ?_; clear hF; intro a hF
          refine s_pu hF (pu_assign rfl) rfl ?_; clear hF; intro a hF
          refine c_nil ?_
          refine n_then ?_
          refine c_ret (r_then ?_)
          exact f_ret hF rfl (.tmp rfl (.nil)) (hS.retv rfl)
        · try simp only [decide_eq_true_eq, decide_eq_false_iff_not, Bool.not_eq_true', Bool.not_eq_false', Bool.not_eq_eq_eq_not, Bool.not_true, Bool.not_false] at hc52
          have hbz : bytesM (parseM s).1 = (s, 0) := by
            obtain ⟨q1, q2⟩ := parse_back hc52
            rw [bytesM, if_pos q1, q2]
          refine c_skip ?_
          refine n_then ?_
          refine c_seq ?_
          refine c_reg ?_
          refine s_pu hF (o_loadA (i := 0) (new := mkC (parseM s).1) hS rfl agg23 rfl (rfl)) rfl ?_; clear hF; intro a hF
          refine s_calld (v := tsV (s, 0)) hF hS ok22 rfl (by rw [← hbz]; exact c_Bytes (parseM s).1 _ h0 hS.base) rfl ?_; clear hS hF; intro w a hS hF
          refine s_pu hF (pu_move rfl) rfl ?_; clear hF; intro a hF
          refine s_pu hF (pu_extract rfl rfl) rfl ?_; clear hF; intro a hF
          refine s_pu hF (pu_extract rfl rfl) rfl ?_; clear hF; intro a hF
          refine s_pu hF (pu_assign rfl) rfl ?_; clear hF; intro a hF
          refine s_pu hF (pu_assign rfl) rfl ?_; clear hF; intro a hF
          refine c_nil ?_
          refine n_then ?_
          refine c_seq ?_
          refine c_reg ?_
          refine s_pu hF (pu_move rfl) rfl ?_; clear hF; intro a hF
          refine s_pu hF (pu_move rfl) rfl ?_; clear hF; intro a hF
          refine s_pu hF (pu_seq rfl rfl) rfl ?_; clear hF; intro a hF
          refine s_pu hF (pu_move rfl) rfl ?_; clear hF; intro a hF
          refine g_pu hF ⟨_, _, (rfl : _[3]? = some _), rfl, rfl⟩ (decide_eq_true rfl) (pu_move rfl) rfl ?_; clear hF; intro a hF
          refine g_pu hF ⟨_, _, (rfl : _[3]? = some _), rfl, rfl⟩ (decide_eq_true rfl) (pu_ieq rfl rfl) rfl ?_; clear hF; intro a hF
          refine s_pu hF (pu_pick_t rfl (decide_eq_true rfl) rfl) rfl ?_; clear hF; intro a hF
          refine s_pu hF (pu_move rfl) rfl ?_; clear hF; intro a hF
          refine g_callv hF hS ⟨_, _, (rfl : _[7]? = some _), rfl, rfl⟩ (decide_eq_true rfl) ok11 rfl (c_lives _ _ hS.view) rfl ?_; clear hS hF; intro w a hS hF
          refine s_pu hF (pu_pick_t rfl (decide_eq_true rfl) rfl) rfl ?_; clear hF; intro a hF
          refine s_pu hF (pu_assign rfl) rfl ?_; clear hF; intro a hF
          refine c_nil ?_
          refine n_then ?_
          refine c_ret ?_
          exact f_ret hF rfl (.tmp rfl (.nil)) (hS.retv rfl)
set_option maxHeartbeats 2000000 in
theorem c_ChainPushes (ad : Option Addr) (cap : Nat) (l : List (List UInt8)) (z : Int) (w0 : World) (h0 : View) (hv : VLe h0 (Full w0)) (hz64 : i64 z) (hb : SlC 9 1 (flatR fun s => [vs s]) h0 (.slice ad l.length cap) l) : Calls Try.prog 4 #[.slice ad l.length cap, .int .i64 z] w0 (Ret w0 h0 fun u _ => u = .bool true) := by
  refine f_enter (args := [.slice ad l.length cap, .int .i64 z]) Try.func4 rfl Try.ntmps4 rfl fun a hF => ?_
  have hS := St.init w0 h0 hv
  have hlc : l.length ≤ cap := by obtain ⟨_, _, e, h1, _⟩ := hb.parts; cases e; exact h1
  have hlm : cap ≤ 9223372036854775807 := by obtain ⟨_, _, e, _, h1⟩ := hb.parts; cases e; simpa [maxLen] using h1
  refine c_seq ?_
  refine c_reg ?_
  refine s_pu hF (pu_assign rfl) rfl ?_; clear hF; intro a hF
  refine c_nil ?_
  refine n_then ?_
  refine c_seq ?_
  refine c_seq ?_
  refine c_reg ?_
  refine s_pu hF (pu_move rfl) rfl ?_; clear hF; intro a hF
  refine s_calld hF hS ok10 rfl (c_long ad cap l _ h0 hS.base hb) rfl ?_; clear hS hF; intro w a hS hF
  refine c_nil ?_
  refine n_then ?_
  refine c_if hF rfl (fun hc15 => ?_) (fun hc15 => ?_)
  · try simp only [decide_eq_true_eq, decide_eq_false_iff_not, Bool.not_eq_true', Bool.not_eq_false', Bool.not_eq_eq_eq_not, Bool.not_true, Bool.not_false] at hc15
    refine c_seq ?_
    refine c_reg ?_
    refine s_callv hF hS ok11 rfl (c_lives _ _ hS.view) rfl ?_; clear hS hF; intro w a hS hF
    refine s_pu hF (pu_assign rfl) rfl ?_; clear hF; intro a hF
    refine c_nil ?_
    refine n_then ?_
    refine c_ret (r_then ?_)
    exact f_ret hF rfl (.tmp rfl (.nil)) (hS.retv rfl)
  · try simp only [decide_eq_true_eq, decide_eq_false_iff_not, Bool.not_eq_true', Bool.not_eq_false', Bool.not_eq_eq_eq_not, Bool.not_true, Bool.not_false] at hc15
    obtain ⟨hl12, hl15, hs15⟩ := long_not hc15
    have hsz : ∀ s ∈ l, s.length ≤ 1000000 := fun s hs => by have := hs15 s hs; omega
    refine c_skip ?_
    refine n_then ?_
    refine c_seq ?_
    refine c_reg ?_
    refine s_callv hF hS ok16 rfl (c_Begin _ _ hS.view) rfl ?_; clear hS hF; intro w a hS hF
    refine s_alloc hF hS zero23 rfl ?_; clear hS hF; intro b0 w a hS hF
    refine s_store (i := 0) (new := mkC (stM l 0)) hF hS rfl rfl rfl rfl (by exact sz23) rfl (by simp [mkC]) ?_; clear hS hF; intro w a hS hF
    rw [spl_all (by simp [mkC])] at hS
    refine c_nil ?_
    refine n_then ?_
    refine c_seq ?_
    refine c_seq ?_
    refine c_reg ?_
    refine s_pu hF (pu_assign rfl) rfl ?_; clear hF; intro a hF
    refine c_nil ?_
    refine n_then ?_
    refine c_block ?_
    refine hS.cut fun O0 F0 hO0 hF0 hS => ?_
    subst hO0
    refine hF.cut (.cons (k := 6) rfl <| .nil) (.cons (k := 0) rfl <| .cons (k := 1) rfl <| .cons (k := 5) rfl <| .nil) fun L0 hL0 hF => ?_
    refine c_loop (α := Nat) (fun k a w => k ≤ l.length ∧ Fr a 126 ([(6, .val (.int .i64 (k : Nat)))] ++ L0) ∧ St w0 h0 [] w [(some b0, CellsC 23 (mkC (stM l k)))] F0) (fun k => l.length - k) 0 (⟨Nat.zero_le _, hF, hS⟩) ?_
    subst hF0 hL0
    rintro k a w ⟨hk, hF, hS⟩
    refine c_seq ?_
    refine c_seq ?_
    refine c_reg ?_
    refine s_pu hF (pu_move rfl) rfl ?_; clear hF; intro a hF
    refine s_pu hF (pu_move rfl) rfl ?_; clear hF; intro a hF
    refine s_pu hF (pu_len_sl tyL24 rfl rfl) rfl ?_; clear hF; intro a hF
    refine s_pu hF (pu_ilt rfl rfl) rfl ?_; clear hF; intro a hF
    refine c_nil ?_
    refine n_then ?_
    refine c_if hF rfl (fun hc21 => ?_) (fun hc21 => ?_)
    · try simp only [decide_eq_true_eq, decide_eq_false_iff_not, Bool.not_eq_true', Bool.not_eq_false', Bool.not_eq_eq_eq_not, Bool.not_true, Bool.not_false] at hc21
      obtain ⟨g1, o, ha, hH⟩ := hb.atD [] (i := k) (by omega)
      refine c_skip ?_
      refine n_then ?_
      refine c_seq ?_
      refine c_block ?_
      refine c_seq ?_
      refine region_al 23 [.int .i64 0, .int .i64 0, vs [], vs []] (mkC (stM l (k + 1))) 11 hF hS (allV_ne rfl) mix (by kernel_rfl) fun Γ hG => ?_
      refine t_pu hG (fun w hC => o_loadA (i := 0) (new := mkC (stM l k)) hC.st rfl agg23 rfl (rfl)) ?_; clear hG; intro Γ hG
      refine t_pu hG (fun w hC => pu_move rfl) ?_; clear hG; intro Γ hG
      refine t_pu hG (fun w hC => pu_move rfl) ?_; clear hG; intro Γ hG
      refine t_pu hG (fun w hC => pu_iaddr_sla (j := k) ha slt24 rfl rfl (by omega) (by omega)) ?_; clear hG; intro Γ hG
      refine t_pu hG (fun w hC => pu_load1 one9 rfl (hH _ hC.st.base)) ?_; clear hG; intro Γ hG
      refine t_calld (v := mkV (stM l (k + 1), 0)) hG ok17 rfl (fun w1 hS1 => ⟨h0, by rw [← push_st l k (by omega) hl12]; exact c_Push (stM l k) (l.getD k []) (hsz _ (getD_mem l k [] (by omega))) w1 h0 hS1.base⟩) ?_; clear hG; intro Γ hG
      refine t_pu hG (fun w hC => pu_move rfl) ?_; clear hG; intro Γ hG
      refine t_pu hG (fun w hC => pu_extract rfl rfl) ?_; clear hG; intro Γ hG
      refine t_pu hG (fun w hC => pu_extract rfl rfl) ?_; clear hG; intro Γ hG
      refine t_alloc hG zero23 ?_; clear hG; intro Γ hG
      refine t_storeN (k := 7) hS hG rfl rfl rfl (by exact sz23) rfl rfl (by kernel_rfl) ?_; clear hG; intro Γ hG
      refine t_end hG ?_; clear hG hF; intro a w hC hE hF hP; obtain ⟨b1, hvA, hSA⟩ := al_end (k := 7) hS hC (hP 7 _ rfl) hE.1; replace hF := hF.openP hvA; replace hS := hSA; clear hC hvA hSA
      clear hE
      clear hP
      refine s_pu hF (pu_assign rfl) rfl ?_; clear hF; intro a hF
      refine c_nil ?_
      refine n_then ?_
      refine c_seq ?_
      refine c_seq ?_
      refine c_reg ?_
      refine s_pu hF (pu_move rfl) rfl ?_; clear hF; intro a hF
      refine s_pu hF (pu_ine rfl rfl) rfl ?_; clear hF; intro a hF
      refine s_pu hF (pu_move rfl) rfl ?_; clear hF; intro a hF
      refine g_pu hF ⟨_, _, (rfl : _[2]? = some _), rfl, rfl⟩ (by simp) (pu_faddr fld23_1 rfl) rfl ?_; clear hF; intro a hF
      refine g_pu hF ⟨_, _, (rfl : _[2]? = some _), rfl, rfl⟩ (by simp) (o_load1 (i := 0) hS rfl one3 rfl rfl) rfl ?_; clear hF; intro a hF
      refine g_pu hF ⟨_, _, (rfl : _[2]? = some _), rfl, rfl⟩ (by simp) (pu_move rfl) rfl ?_; clear hF; intro a hF
      refine g_pu hF ⟨_, _, (rfl : _[2]? = some _), rfl, rfl⟩ (by simp) (pu_add rfl rfl (by first | exact wrap_i64 (by omega) (by omega) | rfl)) rfl ?_; clear hF; intro a hF
      refine g_pu hF ⟨_, _, (rfl : _[2]? = some _), rfl, rfl⟩ (by simp) (pu_ine rfl rfl) rfl ?_; clear hF; intro a hF
      refine s_pu hF (pu_pick_f rfl (by simp) rfl) rfl ?_; clear hF; intro a hF
      refine c_nil ?_
      refine n_then ?_
      refine c_iff hF rfl (by show (!decide ((((k + 1 : Nat) : Int)) = (k : Int) + 1)) = false; simp) ?_
      refine c_skip ?_
      refine n_then ?_
      refine c_reg ?_
      refine s_pu hF (o_loadA (i := 0) (new := mkC (stM l (k + 1))) hS rfl agg23 rfl (rfl)) rfl ?_; clear hF; intro a hF
      refine s_store (i := 1) (new := mkC (stM l (k + 1))) hF hS rfl rfl rfl rfl (by exact sz23) rfl (by simp [mkC]) ?_; clear hS hF; intro w a hS hF
      rw [spl_all (by simp [mkC])] at hS
      refine c_nil ?_
      refine n_block ?_
      refine n_then ?_
      refine c_reg ?_
      refine s_pu hF (pu_move rfl) rfl ?_; clear hF; intro a hF
      refine s_pu hF (pu_add rfl rfl (by first | exact wrap_i64 (by omega) (by omega) | rfl)) rfl ?_; clear hF; intro a hF
      refine s_pu hF (pu_assign rfl) rfl ?_; clear hF; intro a hF
      refine c_nil ?_
      replace hS := hS.forget 0
      rw [show ((k : Int) + 1) = ((k + 1 : Nat) : Int) by omega] at hF
      exact ⟨k + 1, ⟨by omega, hF.pick (.cons (k := 6) rfl <| .cons (k := 0) rfl <| .cons (k := 1) rfl <| .cons (k := 5) rfl <| .nil), hS⟩, by omega⟩
    · try simp only [decide_eq_true_eq, decide_eq_false_iff_not, Bool.not_eq_true', Bool.not_eq_false', Bool.not_eq_eq_eq_not, Bool.not_true, Bool.not_false] at hc21
      obtain rfl : k = l.length := by omega
      refine c_exit (x_then (x_then (x_here ?_)))
      refine n_then ?_
      refine c_seq ?_
      refine c_seq ?_
      refine c_reg ?_
      refine s_pu hF (o_loadA (i := 0) (new := mkC (stM l l.length)) hS rfl agg23 rfl (rfl)) rfl ?_; clear hF; intro a hF
      refine s_pu hF (pu_move rfl) rfl ?_; clear hF; intro a hF
      refine s_calld (v := .int .i64 0) hF hS ok14 rfl (by rw [← ver_st l hl12]; exact c_Verify (stM l l.length) ad cap l.length l rfl hsz (by omega) _ h0 hS.base hb) rfl ?_; clear hS hF; intro w a hS hF
      refine s_pu hF (pu_ine rfl rfl) rfl ?_; clear hF; intro a hF
      obtain ⟨q, hq⟩ := u64_nat z
      obtain ⟨k, hcd, hkl⟩ : ∃ c, c = q % (l.length + 1) ∧ c ≤ l.length := ⟨_, rfl, by have := Nat.mod_lt q (by omega : 0 < l.length + 1); omega⟩
      refine c_nil ?_
      refine n_then ?_
      refine c_iff hF rfl (by simp) ?_
      refine c_skip ?_
      refine n_then ?_
      refine c_seq ?_
      refine c_reg ?_
      refine s_pu hF (pu_move rfl) rfl ?_; clear hF; intro a hF
      refine s_pu hF (pu_conv tyI38 ⟨_, tyI3⟩ rfl hq) rfl ?_; clear hF; intro a hF
      refine s_pu hF (pu_move rfl) rfl ?_; clear hF; intro a hF
      refine s_pu hF (pu_len_sl tyL24 rfl rfl) rfl ?_; clear hF; intro a hF
      refine s_pu hF (pu_add rfl rfl (by first | exact wrap_i64 (by omega) (by omega) | rfl)) rfl ?_; clear hF; intro a hF
      refine s_pu hF (pu_conv tyI38 ⟨_, tyI3⟩ rfl (by first | exact wrap_u64 (by omega) (by omega) | rfl)) rfl ?_; clear hF; intro a hF
      refine s_pu hF (pu_rem rfl rfl (by omega) (r := (k : Int)) (by rw [Int.tmod_eq_emod_of_nonneg (by omega), hcd]; exact (Int.natCast_emod q (l.length + 1)).symm)) rfl ?_; clear hF; intro a hF
      refine s_pu hF (pu_conv tyI3 ⟨_, tyI38⟩ rfl (by first | exact wrap_i64 (by omega) (by omega) | rfl)) rfl ?_; clear hF; intro a hF
      refine s_pu hF (pu_assign rfl) rfl ?_; clear hF; intro a hF
      refine c_nil ?_
      refine n_then ?_
      refine c_seq ?_
      refine c_reg ?_
      refine s_pu hF (o_loadA (i := 0) (new := mkC (stM l l.length)) hS rfl agg23 rfl (rfl)) rfl ?_; clear hF; intro a hF
      refine s_pu hF (pu_move rfl) rfl ?_; clear hF; intro a hF
      refine s_pu hF (pu_move rfl) rfl ?_; clear hF; intro a hF
      refine s_calld (v := mkV (cN l k, 0)) hF hS ok12 rfl (by rw [← cut_st l k hkl hl12]; exact c_Cut (stM l l.length) ad cap l.length l rfl hsz (by omega) (k : Int) _ h0 hS.base hb) rfl ?_; clear hS hF; intro w a hS hF
      refine s_pu hF (pu_move rfl) rfl ?_; clear hF; intro a hF
      refine s_pu hF (pu_extract rfl rfl) rfl ?_; clear hF; intro a hF
      refine s_pu hF (pu_extract rfl rfl) rfl ?_; clear hF; intro a hF
      refine s_alloc hF hS zero23 rfl ?_; clear hS hF; intro b1 w a hS hF
      refine s_store (i := 0) (new := mkC (cN l k)) hF hS rfl rfl rfl rfl (by exact sz23) rfl (by simp [mkC]) ?_; clear hS hF; intro w a hS hF
      rw [spl_all (by simp [mkC])] at hS
      refine s_pu hF (pu_assign rfl) rfl ?_; clear hF; intro a hF
      refine c_nil ?_
      refine n_then ?_
      refine c_seq ?_
      refine c_seq ?_
      refine region_st 30 hF hS (allV_ne rfl) mix (by kernel_rfl) fun Γ hG => ?_
      refine t_pu hG (fun w hC => pu_move rfl) ?_; clear hG; intro Γ hG
      refine t_pu hG (fun w hC => pu_ine rfl rfl) ?_; clear hG; intro Γ hG
      refine t_pu hG (fun w hC => pu_move rfl) ?_; clear hG; intro Γ hG
      refine tg_pu hG ⟨_, _, (rfl : _[2]? = some _), rfl, rfl⟩ (by simp) (fun w hC => pu_faddr fld23_0 rfl) ?_; clear hG; intro Γ hG
      refine tg_pu hG ⟨_, _, (rfl : _[2]? = some _), rfl, rfl⟩ (by simp) (fun w hC => o_load1 (i := 0) hC.st rfl one3 rfl rfl) ?_; clear hG; intro Γ hG
      refine tg_pu hG ⟨_, _, (rfl : _[2]? = some _), rfl, rfl⟩ (by simp) (fun w hC => pu_move rfl) ?_; clear hG; intro Γ hG
      refine tg_pu hG ⟨_, _, (rfl : _[2]? = some _), rfl, rfl⟩ (by simp) (fun w hC => pu_ine rfl rfl) ?_; clear hG; intro Γ hG
      refine t_pu hG (fun w hC => pu_pick_f rfl (by simp) rfl) ?_; clear hG; intro Γ hG
      refine t_pu hG (fun w hC => pu_move rfl) ?_; clear hG; intro Γ hG
      refine tg_pu hG ⟨_, _, (rfl : _[8]? = some _), rfl, rfl⟩ (by show (!decide ((k : Int) = (k : Int))) = false; simp) (fun w hC => pu_faddr fld23_1 rfl) ?_; clear hG; intro Γ hG
      refine tg_pu hG ⟨_, _, (rfl : _[8]? = some _), rfl, rfl⟩ (by show (!decide ((k : Int) = (k : Int))) = false; simp) (fun w hC => o_load1 (i := 0) hC.st rfl one3 rfl rfl) ?_; clear hG; intro Γ hG
      refine tg_pu hG ⟨_, _, (rfl : _[8]? = some _), rfl, rfl⟩ (by show (!decide ((k : Int) = (k : Int))) = false; simp) (fun w hC => pu_move rfl) ?_; clear hG; intro Γ hG
      refine tg_pu hG ⟨_, _, (rfl : _[8]? = some _), rfl, rfl⟩ (by show (!decide ((k : Int) = (k : Int))) = false; simp) (fun w hC => pu_len_sl tyL24 rfl rfl) ?_; clear hG; intro Γ hG
      refine tg_pu hG ⟨_, _, (rfl : _[8]? = some _), rfl, rfl⟩ (by show (!decide ((k : Int) = (k : Int))) = false; simp) (fun w hC => pu_ine rfl rfl) ?_; clear hG; intro Γ hG
      refine t_pu hG (fun w hC => pu_pick_f rfl (by show (!decide ((k : Int) = (k : Int))) = false; simp) rfl) ?_; clear hG; intro Γ hG
      refine t_pu hG (fun w hC => pu_move rfl) ?_; clear hG; intro Γ hG
      refine tg_pu hG ⟨_, _, (rfl : _[15]? = some _), rfl, rfl⟩ (by show (!decide ((l.length : Int) = (l.length : Int))) = false; simp) (fun w hC => pu_faddr fld23_3 rfl) ?_; clear hG; intro Γ hG
      refine tg_pu hG ⟨_, _, (rfl : _[15]? = some _), rfl, rfl⟩ (by show (!decide ((l.length : Int) = (l.length : Int))) = false; simp) (fun w hC => o_load1 (i := 0) hC.st rfl one9 rfl rfl) ?_; clear hG; intro Γ hG
      refine tg_pu hG ⟨_, _, (rfl : _[15]? = some _), rfl, rfl⟩ (by show (!decide ((l.length : Int) = (l.length : Int))) = false; simp) (fun w hC => pu_faddr fld23_3 rfl) ?_; clear hG; intro Γ hG
      refine tg_pu hG ⟨_, _, (rfl : _[15]? = some _), rfl, rfl⟩ (by show (!decide ((l.length : Int) = (l.length : Int))) = false; simp) (fun w hC => o_load1 (i := 1) hC.st rfl one9 rfl rfl) ?_; clear hG; intro Γ hG
      refine tg_pu hG ⟨_, _, (rfl : _[15]? = some _), rfl, rfl⟩ (by show (!decide ((l.length : Int) = (l.length : Int))) = false; simp) (fun w hC => pu_sne rfl rfl) ?_; clear hG; intro Γ hG
      refine t_pu hG (fun w hC => pu_pick_f rfl (by show (!decide ((l.length : Int) = (l.length : Int))) = false; simp) rfl) ?_; clear hG; intro Γ hG
      refine t_pu hG (fun w hC => pu_move rfl) ?_; clear hG; intro Γ hG
      refine tg_pu hG ⟨_, _, (rfl : _[22]? = some _), rfl, rfl⟩ (by rw [decide_eq_true (show (cN l k).head = (stM l l.length).head by show chainS Z32 l = chainS Z32 (l.take l.length); rw [List.take_length])]; rfl) (fun w hC => o_loadA (i := 0) (new := mkC (cN l k)) hC.st rfl agg23 rfl (rfl)) ?_; clear hG; intro Γ hG
      refine tg_pu hG ⟨_, _, (rfl : _[22]? = some _), rfl, rfl⟩ (by rw [decide_eq_true (show (cN l k).head = (stM l l.length).head by show chainS Z32 l = chainS Z32 (l.take l.length); rw [List.take_length])]; rfl) (fun w hC => pu_move rfl) ?_; clear hG; intro Γ hG
      refine tg_pu hG ⟨_, _, (rfl : _[22]? = some _), rfl, rfl⟩ (by rw [decide_eq_true (show (cN l k).head = (stM l l.length).head by show chainS Z32 l = chainS Z32 (l.take l.length); rw [List.take_length])]; rfl) (fun w hC => pu_move rfl) ?_; clear hG; intro Γ hG
      refine tg_pu hG ⟨_, _, (rfl : _[22]? = some _), rfl, rfl⟩ (by rw [decide_eq_true (show (cN l k).head = (stM l l.length).head by show chainS Z32 l = chainS Z32 (l.take l.length); rw [List.take_length])]; rfl) (fun w hC => pu_sl_fromn (j := k) slt24 rfl rfl rfl (by omega) (by omega)) ?_; clear hG; intro Γ hG
      refine tg_calld (v := .int .i64 0) hG ⟨_, _, (rfl : _[22]? = some _), rfl, rfl⟩ (by rw [decide_eq_true (show (cN l k).head = (stM l l.length).head by show chainS Z32 l = chainS Z32 (l.take l.length); rw [List.take_length])]; rfl) ok14 rfl (fun w1 hS1 => ⟨h0, by rw [← ver_cN l k hkl hl12]; exact c_Verify (cN l k) (if cap = k then ad else ad.map (·.add (k * 1))) (cap - k) (l.length - k) (l.drop k) (by rw [List.length_drop]) (fun s hs => hsz s (List.mem_of_mem_drop hs)) (by rw [List.length_drop]; omega) w1 h0 hS1.base (hb.drop hkl)⟩) ?_; clear hG; intro Γ hG
      refine tg_pu hG ⟨_, _, (rfl : _[22]? = some _), rfl, rfl⟩ (by rw [decide_eq_true (show (cN l k).head = (stM l l.length).head by show chainS Z32 l = chainS Z32 (l.take l.length); rw [List.take_length])]; rfl) (fun w hC => pu_ine rfl rfl) ?_; clear hG; intro Γ hG
      refine t_pu hG (fun w hC => pu_pick_f rfl (by rw [decide_eq_true (show (cN l k).head = (stM l l.length).head by show chainS Z32 l = chainS Z32 (l.take l.length); rw [List.take_length])]; rfl) rfl) ?_; clear hG; intro Γ hG
      refine t_end hG ?_; clear hG hF; intro a w hC hE hF hP; replace hS := hC.st; clear hC
      clear hE
      clear hP
      refine c_nil ?_
      refine n_then ?_
      refine c_iff hF rfl (by simp) ?_
      refine c_skip ?_
      refine n_then ?_
      refine c_seq ?_
      refine region_al 23 [.int .i64 0, .int .i64 0, vs [], vs []] (mkC (oN l)) 12 hF hS (allV_ne rfl) mix (by kernel_rfl) fun Γ hG => ?_
      refine t_pu hG (fun w hC => o_loadA (i := 0) (new := mkC (cN l k)) hC.st rfl agg23 rfl (rfl)) ?_; clear hG; intro Γ hG
      refine t_pu hG (fun w hC => pu_move rfl) ?_; clear hG; intro Γ hG
      refine t_pu hG (fun w hC => pu_move rfl) ?_; clear hG; intro Γ hG
      refine t_pu hG (fun w hC => pu_sl_fromn (j := k) slt24 rfl rfl rfl (by omega) (by omega)) ?_; clear hG; intro Γ hG
      refine t_pu hG (fun w hC => pu_move rfl) ?_; clear hG; intro Γ hG
      refine t_pu hG (fun w hC => pu_len_sl tyL24 rfl rfl) ?_; clear hG; intro Γ hG
      refine t_calld (v := mkV (oN l, 0)) hG ok12 rfl (fun w1 hS1 => ⟨h0, by rw [← cut_cN l k hkl hl12]; exact c_Cut (cN l k) (if cap = k then ad else ad.map (·.add (k * 1))) (cap - k) (l.length - k) (l.drop k) (by rw [List.length_drop]) (fun s hs => hsz s (List.mem_of_mem_drop hs)) (by rw [List.length_drop]; omega) (l.length : Int) w1 h0 hS1.base (hb.drop hkl)⟩) ?_; clear hG; intro Γ hG
      refine t_pu hG (fun w hC => pu_move rfl) ?_; clear hG; intro Γ hG
      refine t_pu hG (fun w hC => pu_extract rfl rfl) ?_; clear hG; intro Γ hG
      refine t_pu hG (fun w hC => pu_extract rfl rfl) ?_; clear hG; intro Γ hG
      refine t_alloc hG zero23 ?_; clear hG; intro Γ hG
      refine t_storeN (k := 12) hS hG rfl rfl rfl (by exact sz23) rfl rfl (by kernel_rfl) ?_; clear hG; intro Γ hG
      refine t_end hG ?_; clear hG hF; intro a w hC hE hF hP; obtain ⟨b2, hvA, hSA⟩ := al_end (k := 12) hS hC (hP 12 _ rfl) hE.1; replace hF := hF.openP hvA; replace hS := hSA; clear hC hvA hSA
      clear hE
      clear hP
      refine s_pu hF (pu_assign rfl) rfl ?_; clear hF; intro a hF
      refine c_nil ?_
      refine n_then ?_
      refine c_seq ?_
      refine c_reg ?_
      refine s_pu hF (pu_move rfl) rfl ?_; clear hF; intro a hF
      refine s_pu hF (pu_ieq rfl rfl) rfl ?_; clear hF; intro a hF
      refine s_pu hF (pu_move rfl) rfl ?_; clear hF; intro a hF
      refine g_pu hF ⟨_, _, (rfl : _[2]? = some _), rfl, rfl⟩ (by simp) (pu_faddr fld23_2 rfl) rfl ?_; clear hF; intro a hF
      refine g_pu hF ⟨_, _, (rfl : _[2]? = some _), rfl, rfl⟩ (by simp) (o_load1 (i := 0) hS rfl one9 rfl rfl) rfl ?_; clear hF; intro a hF
      refine g_pu hF ⟨_, _, (rfl : _[2]? = some _), rfl, rfl⟩ (by simp) (pu_faddr fld23_3 rfl) rfl ?_; clear hF; intro a hF
      refine g_pu hF ⟨_, _, (rfl : _[2]? = some _), rfl, rfl⟩ (by simp) (o_load1 (i := 2) hS rfl one9 rfl rfl) rfl ?_; clear hF; intro a hF
      refine g_pu hF ⟨_, _, (rfl : _[2]? = some _), rfl, rfl⟩ (by simp) (pu_seq rfl rfl) rfl ?_; clear hF; intro a hF
      refine s_pu hF (pu_pick_t rfl (by simp) rfl) rfl ?_; clear hF; intro a hF
      refine s_pu hF (pu_move rfl) rfl ?_; clear hF; intro a hF
      refine g_pu hF ⟨_, _, (rfl : _[9]? = some _), rfl, rfl⟩ (decide_eq_true (show (oN l).anchor = (stM l l.length).head by show chainS Z32 l = chainS Z32 (l.take l.length); rw [List.take_length])) (pu_faddr fld23_0 rfl) rfl ?_; clear hF; intro a hF
      refine g_pu hF ⟨_, _, (rfl : _[9]? = some _), rfl, rfl⟩ (decide_eq_true (show (oN l).anchor = (stM l l.length).head by show chainS Z32 l = chainS Z32 (l.take l.length); rw [List.take_length])) (o_load1 (i := 0) hS rfl one3 rfl rfl) rfl ?_; clear hF; intro a hF
      refine g_pu hF ⟨_, _, (rfl : _[9]? = some _), rfl, rfl⟩ (decide_eq_true (show (oN l).anchor = (stM l l.length).head by show chainS Z32 l = chainS Z32 (l.take l.length); rw [List.take_length])) (pu_faddr fld23_1 rfl) rfl ?_; clear hF; intro a hF
      refine g_pu hF ⟨_, _, (rfl : _[9]? = some _), rfl, rfl⟩ (decide_eq_true (show (oN l).anchor = (stM l l.length).head by show chainS Z32 l = chainS Z32 (l.take l.length); rw [List.take_length])) (o_load1 (i := 0) hS rfl one3 rfl rfl) rfl ?_; clear hF; intro a hF
      refine g_pu hF ⟨_, _, (rfl : _[9]? = some _), rfl, rfl⟩ (decide_eq_true (show (oN l).anchor = (stM l l.length).head by show chainS Z32 l = chainS Z32 (l.take l.length); rw [List.take_length])) (pu_ieq rfl rfl) rfl ?_; clear hF; intro a hF
      refine s_pu hF (pu_pick_t rfl (decide_eq_true (show (oN l).anchor = (stM l l.length).head by show chainS Z32 l = chainS Z32 (l.take l.length); rw [List.take_length])) rfl) rfl ?_; clear hF; intro a hF
      refine s_pu hF (pu_move rfl) rfl ?_; clear hF; intro a hF
      refine g_pu hF ⟨_, _, (rfl : _[16]? = some _), rfl, rfl⟩ (by show decide ((l.length : Int) = (l.length : Int)) = true; simp) (o_loadA (i := 0) (new := mkC (oN l)) hS rfl agg23 rfl (rfl)) rfl ?_; clear hF; intro a hF
      refine g_calld (v := .int .i64 0) hF hS ⟨_, _, (rfl : _[16]? = some _), rfl, rfl⟩ (by show decide ((l.length : Int) = (l.length : Int)) = true; simp) ok14 rfl (by rw [← ver_oN l hl12]; exact c_Verify (oN l) none 0 0 [] rfl (by simp) (by simp) _ h0 hS.base (SlC.nil (by simp [maxLen]))) rfl ?_; clear hS hF; intro w a hS hF
      refine g_pu hF ⟨_, _, (rfl : _[16]? = some _), rfl, rfl⟩ (by show decide ((l.length : Int) = (l.length : Int)) = true; simp) (pu_ieq rfl rfl) rfl ?_; clear hF; intro a hF
      refine s_pu hF (pu_pick_t rfl (by show decide ((l.length : Int) = (l.length : Int)) = true; simp) rfl) rfl ?_; clear hF; intro a hF
      refine s_pu hF (pu_move rfl) rfl ?_; clear hF; intro a hF
      refine g_callv hF hS ⟨_, _, (rfl : _[21]? = some _), rfl, rfl⟩ (by simp) ok11 rfl (c_lives _ _ hS.view) rfl ?_; clear hS hF; intro w a hS hF
      refine s_pu hF (pu_pick_t rfl (by simp) rfl) rfl ?_; clear hF; intro a hF
      refine s_pu hF (pu_assign rfl) rfl ?_; clear hF; intro a hF
      refine c_nil ?_
      refine n_then ?_
      refine c_ret ?_
      exact f_ret hF rfl (.tmp rfl (.nil)) (hS.retv rfl)
end Go.Proofs.Ytaogkonanncpiaa
