/- What the functions of the program compute, each with its conditions. -/
import Derived.Test.YtjidmighkphmkaaT13
set_option linter.unusedSimpArgs false
set_option linter.unusedVariables false
namespace Go.Proofs.Ytjidmighkphmkaa
open Go Go.Dx Go.RowKit
theorem c_Rreserved (s : List UInt8) (w0 : World) (h0 : View) (hv : VLe h0 (Full w0))  : Calls Try.prog 32 #[vs s] w0 (Ret w0 h0 fun u _ => u = .bool (resS s)) := by
  refine f_enter (args := [vs s]) Try.func32 rfl Try.ntmps32 rfl fun a hF => ?_
  have hS := St.init w0 h0 hv
  refine c_seq ?_
  refine c_reg ?_
  refine s_pu hF (pu_assign rfl) rfl ?_; clear hF; intro a hF
  refine c_nil ?_
  refine n_then ?_
  refine c_seq ?_
  refine c_reg ?_
  refine s_build (xs := [.const (.string ⟨#[97, 110, 100]⟩), .const (.string ⟨#[111, 114]⟩), .const (.string ⟨#[110, 111, 116]⟩), .const (.string ⟨#[105, 102]⟩), .const (.string ⟨#[116, 104, 101, 110]⟩), .const (.string ⟨#[101, 108, 115, 101]⟩), .const (.string ⟨#[116, 114, 117, 101]⟩), .const (.string ⟨#[102, 97, 108, 115, 101]⟩), .const (.string ⟨#[110, 117, 108, 108]⟩)]) hF hS slt_b54 rfl rfl (by simp [Value.cells]) (by decide) rfl ?_; clear hS hF; intro b0 w a hS hF
  refine s_pu hF (pu_assign rfl) rfl ?_; clear hF; intro a hF
  refine c_nil ?_
  refine n_then ?_
  refine c_seq ?_
  refine c_seq ?_
  refine c_reg ?_
  refine s_pu hF (pu_assign rfl) rfl ?_; clear hF; intro a hF
  refine c_nil ?_
  refine n_then ?_
  refine c_block ?_
  refine hS.cut fun O0 F0 hO0 hF0 hS => ?_
  subst hO0
  refine hF.cut (.cons (k := 4) rfl <| .nil) (.cons (k := 0) rfl <| .cons (k := 3) rfl <| .nil) fun L0 hL0 hF => ?_
  refine c_loop (α := Nat) (fun k a w => k ≤ 9 ∧ s ∉ resvL.take k ∧ Fr a 18 ([(4, .val (.int .i64 (k : Nat)))] ++ L0) ∧ St w0 h0 [] w [(some b0, CellsC 9 (cellsL (resvL.map vs)))] F0) (fun k => 9 - k) 0 (⟨Nat.zero_le _, by simp, hF, hS⟩) ?_
  subst hF0 hL0
  rintro k a w ⟨hk, hni, hF, hS⟩
  refine c_seq ?_
  refine c_seq ?_
  refine c_reg ?_
  refine s_pu hF (pu_move rfl) rfl ?_; clear hF; intro a hF
  refine s_pu hF (pu_move rfl) rfl ?_; clear hF; intro a hF
  refine s_pu hF (pu_len_sl tyL54 rfl rfl) rfl ?_; clear hF; intro a hF
  refine s_pu hF (pu_ilt rfl rfl) rfl ?_; clear hF; intro a hF
  refine c_nil ?_
  refine n_then ?_
  refine c_if hF rfl (fun hc9 => ?_) (fun hc9 => ?_)
  · try simp only [decide_eq_true_eq, decide_eq_false_iff_not, Bool.not_eq_true', Bool.not_eq_false', Bool.not_eq_eq_eq_not, Bool.not_true, Bool.not_false] at hc9
    refine c_skip ?_
    refine n_then ?_
    refine c_seq ?_
    refine c_block ?_
    refine c_seq ?_
    refine c_reg ?_
    refine s_pu hF (pu_move rfl) rfl ?_; clear hF; intro a hF
    refine s_pu hF (pu_move rfl) rfl ?_; clear hF; intro a hF
    refine s_pu hF (pu_iaddr_sla (j := k) rfl slt54 rfl rfl (by omega) (by omega)) rfl ?_; clear hF; intro a hF
    refine s_pu hF (o_load1 (i := 0) hS rfl one9 rfl (resv_get k (by omega))) rfl ?_; clear hF; intro a hF
    refine s_pu hF (pu_move rfl) rfl ?_; clear hF; intro a hF
    refine s_pu hF (pu_seq rfl rfl) rfl ?_; clear hF; intro a hF
    refine c_nil ?_
    refine n_then ?_
    refine c_if hF rfl (fun hc17 => ?_) (fun hc17 => ?_)
    · try simp only [decide_eq_true_eq, decide_eq_false_iff_not, Bool.not_eq_true', Bool.not_eq_false', Bool.not_eq_eq_eq_not, Bool.not_true, Bool.not_false] at hc17
      refine c_seq ?_
      refine c_reg ?_
      refine s_pu hF (pu_assign rfl) rfl ?_; clear hF; intro a hF
      refine c_nil ?_
      refine n_then ?_
      refine c_ret (r_block (r_then (r_then (r_block (r_then ?_)))))
      exact f_ret hF rfl (.tmp rfl (.nil)) (hS.retv (by rw [resv_yes s k (by omega) hc17]; rfl))
    · try simp only [decide_eq_true_eq, decide_eq_false_iff_not, Bool.not_eq_true', Bool.not_eq_false', Bool.not_eq_eq_eq_not, Bool.not_true, Bool.not_false] at hc17
      refine c_skip ?_
      refine n_block ?_
      refine n_then ?_
      refine c_reg ?_
      refine s_pu hF (pu_move rfl) rfl ?_; clear hF; intro a hF
      refine s_pu hF (pu_add rfl rfl (by first | exact wrap_i64 (by omega) (by omega) | rfl)) rfl ?_; clear hF; intro a hF
      refine s_pu hF (pu_assign rfl) rfl ?_; clear hF; intro a hF
      refine c_nil ?_
      exact ⟨k + 1, ⟨by omega, resv_snoc s k (by omega) hni hc17, hF.pick (.cons (k := 4) rfl <| .cons (k := 0) rfl <| .cons (k := 3) rfl <| .nil), hS⟩, by omega⟩
  · try simp only [decide_eq_true_eq, decide_eq_false_iff_not, Bool.not_eq_true', Bool.not_eq_false', Bool.not_eq_eq_eq_not, Bool.not_true, Bool.not_false] at hc9
    obtain rfl : k = 9 := by omega
    refine c_exit (x_then (x_then (x_here ?_)))
    refine n_then ?_
    refine c_seq ?_
    refine c_reg ?_
    refine s_pu hF (pu_assign rfl) rfl ?_; clear hF; intro a hF
    refine c_nil ?_
    refine n_then ?_
    refine c_ret ?_
    exact f_ret hF rfl (.tmp rfl (.nil)) (hS.retv (by rw [resv_no s hni]; rfl))
theorem c_RName (s : List UInt8) (hs : s.length ≤ 1000000) (w0 : World) (h0 : View) (hv : VLe h0 (Full w0))  : Calls Try.prog 13 #[vs s] w0 (Ret w0 h0 fun u _ => u = .bool (nameOk s)) := by
  refine f_enter (args := [vs s]) Try.func13 rfl Try.ntmps13 rfl fun a hF => ?_
  have hS := St.init w0 h0 hv
  refine c_seq ?_
  refine c_reg ?_
  refine s_pu hF (pu_assign rfl) rfl ?_; clear hF; intro a hF
  refine c_nil ?_
  refine n_then ?_
  refine c_seq ?_
  refine c_reg ?_
  refine s_pu hF (pu_move rfl) rfl ?_; clear hF; intro a hF
  refine s_pu hF (pu_sne rfl rfl) rfl ?_; clear hF; intro a hF
  refine s_pu hF (pu_move rfl) rfl ?_; clear hF; intro a hF
  refine w_split hF ⟨_, _, (rfl : _[2]? = some _), rfl, rfl⟩ (fun hg1_2 => ?_) (fun hg1_2 => ?_)
  · have hg1_2p := hg1_2
    try simp only [decide_eq_true_eq, decide_eq_false_iff_not, Bool.not_eq_true', Bool.not_eq_false', Bool.not_eq_eq_eq_not, Bool.not_true, Bool.not_false] at hg1_2p
    refine g_pu hF ⟨_, _, (rfl : _[2]? = some _), rfl, rfl⟩ hg1_2 (pu_move rfl) rfl ?_; clear hF; intro a hF
    refine g_callv hF hS ⟨_, _, (rfl : _[2]? = some _), rfl, rfl⟩ hg1_2 ok31 rfl (c_Rword s hs _ _ hS.view) rfl ?_; clear hS hF; intro w a hS hF
    refine g_pu hF ⟨_, _, (rfl : _[2]? = some _), rfl, rfl⟩ hg1_2 (pu_move rfl) rfl ?_; clear hF; intro a hF
    refine g_pu hF ⟨_, _, (rfl : _[2]? = some _), rfl, rfl⟩ hg1_2 (pu_len_s tyS9 rfl rfl) rfl ?_; clear hF; intro a hF
    refine g_pu hF ⟨_, _, (rfl : _[2]? = some _), rfl, rfl⟩ hg1_2 (pu_ieq rfl rfl) rfl ?_; clear hF; intro a hF
    refine s_pu hF (pu_pick_t rfl hg1_2 rfl) rfl ?_; clear hF; intro a hF
    refine s_pu hF (pu_move rfl) rfl ?_; clear hF; intro a hF
    refine w_split hF ⟨_, _, (rfl : _[9]? = some _), rfl, rfl⟩ (fun hg1_9 => ?_) (fun hg1_9 => ?_)
    · have hg1_9p := hg1_9
      try simp only [decide_eq_true_eq, decide_eq_false_iff_not, Bool.not_eq_true', Bool.not_eq_false', Bool.not_eq_eq_eq_not, Bool.not_true, Bool.not_false] at hg1_9p
      refine g_pu hF ⟨_, _, (rfl : _[9]? = some _), rfl, rfl⟩ hg1_9 (pu_move rfl) rfl ?_; clear hF; intro a hF
      refine g_pu hF ⟨_, _, (rfl : _[9]? = some _), rfl, rfl⟩ hg1_9 (pu_len_s tyS9 rfl rfl) rfl ?_; clear hF; intro a hF
      refine g_pu hF ⟨_, _, (rfl : _[9]? = some _), rfl, rfl⟩ hg1_9 (pu_ile rfl rfl) rfl ?_; clear hF; intro a hF
      refine s_pu hF (pu_pick_t rfl hg1_9 rfl) rfl ?_; clear hF; intro a hF
      refine s_pu hF (pu_move rfl) rfl ?_; clear hF; intro a hF
      refine w_split hF ⟨_, _, (rfl : _[14]? = some _), rfl, rfl⟩ (fun hg1_14 => ?_) (fun hg1_14 => ?_)
      · have hg1_14p := hg1_14
        try simp only [decide_eq_true_eq, decide_eq_false_iff_not, Bool.not_eq_true', Bool.not_eq_false', Bool.not_eq_eq_eq_not, Bool.not_true, Bool.not_false] at hg1_14p
        refine g_pu hF ⟨_, _, (rfl : _[14]? = some _), rfl, rfl⟩ hg1_14 (pu_move rfl) rfl ?_; clear hF; intro a hF
        refine g_callv hF hS ⟨_, _, (rfl : _[14]? = some _), rfl, rfl⟩ hg1_14 ok32 rfl (c_Rreserved s _ _ hS.view) rfl ?_; clear hS hF; intro w a hS hF
        refine g_pu hF ⟨_, _, (rfl : _[14]? = some _), rfl, rfl⟩ hg1_14 (pu_not rfl) rfl ?_; clear hF; intro a hF
        refine s_pu hF (pu_pick_t rfl hg1_14 rfl) rfl ?_; clear hF; intro a hF
        refine s_pu hF (pu_assign rfl) rfl ?_; clear hF; intro a hF
        refine c_nil ?_
        refine n_then ?_
        refine c_ret ?_
        exact f_ret hF rfl (.tmp rfl (.nil)) (hS.retv (congrArg Value.bool (by simp_all [nameOk] <;> (intros; omega))))
      · have hg1_14p := hg1_14
        try simp only [decide_eq_true_eq, decide_eq_false_iff_not, Bool.not_eq_true', Bool.not_eq_false', Bool.not_eq_eq_eq_not, Bool.not_true, Bool.not_false] at hg1_14p
        refine g_no hF ⟨_, _, (rfl : _[14]? = some _), rfl, rfl⟩ hg1_14 rfl ?_; clear hF; intro a hF
        refine g_no hF ⟨_, _, (rfl : _[14]? = some _), rfl, rfl⟩ hg1_14 rfl ?_; clear hF; intro a hF
        refine g_no hF ⟨_, _, (rfl : _[14]? = some _), rfl, rfl⟩ hg1_14 rfl ?_; clear hF; intro a hF
        refine s_pu hF (pu_pick_f rfl hg1_14 rfl) rfl ?_; clear hF; intro a hF
        refine s_pu hF (pu_assign rfl) rfl ?_; clear hF; intro a hF
        refine c_nil ?_
        refine n_then ?_
        refine c_ret ?_
        exact f_ret hF rfl (.tmp rfl (.nil)) (hS.retv (congrArg Value.bool (by simp_all [nameOk] <;> (intros; omega))))
    · have hg1_9p := hg1_9
      try simp only [decide_eq_true_eq, decide_eq_false_iff_not, Bool.not_eq_true', Bool.not_eq_false', Bool.not_eq_eq_eq_not, Bool.not_true, Bool.not_false] at hg1_9p
      refine g_no hF ⟨_, _, (rfl : _[9]? = some _), rfl, rfl⟩ hg1_9 rfl ?_; clear hF; intro a hF
      refine g_no hF ⟨_, _, (rfl : _[9]? = some _), rfl, rfl⟩ hg1_9 rfl ?_; clear hF; intro a hF
      refine g_no hF ⟨_, _, (rfl : _[9]? = some _), rfl, rfl⟩ hg1_9 rfl ?_; clear hF; intro a hF
      refine s_pu hF (pu_pick_f rfl hg1_9 rfl) rfl ?_; clear hF; intro a hF
      refine s_pu hF (pu_move rfl) rfl ?_; clear hF; intro a hF
      refine g_no hF ⟨_, _, (rfl : _[14]? = some _), rfl, rfl⟩ rfl rfl ?_; clear hF; intro a hF
      refine g_no hF ⟨_, _, (rfl : _[14]? = some _), rfl, rfl⟩ rfl rfl ?_; clear hF; intro a hF
      refine g_no hF ⟨_, _, (rfl : _[14]? = some _), rfl, rfl⟩ rfl rfl ?_; clear hF; intro a hF
      refine s_pu hF (pu_pick_f rfl rfl rfl) rfl ?_; clear hF; intro a hF
      refine s_pu hF (pu_assign rfl) rfl ?_; clear hF; intro a hF
      refine c_nil ?_
      refine n_then ?_
      refine c_ret ?_
      exact f_ret hF rfl (.tmp rfl (.nil)) (hS.retv (congrArg Value.bool (by simp_all [nameOk] <;> (intros; omega))))
  · have hg1_2p := hg1_2
    try simp only [decide_eq_true_eq, decide_eq_false_iff_not, Bool.not_eq_true', Bool.not_eq_false', Bool.not_eq_eq_eq_not, Bool.not_true, Bool.not_false] at hg1_2p
    refine g_no hF ⟨_, _, (rfl : _[2]? = some _), rfl, rfl⟩ hg1_2 rfl ?_; clear hF; intro a hF
    refine g_no hF ⟨_, _, (rfl : _[2]? = some _), rfl, rfl⟩ hg1_2 rfl ?_; clear hF; intro a hF
    refine g_no hF ⟨_, _, (rfl : _[2]? = some _), rfl, rfl⟩ hg1_2 rfl ?_; clear hF; intro a hF
    refine g_no hF ⟨_, _, (rfl : _[2]? = some _), rfl, rfl⟩ hg1_2 rfl ?_; clear hF; intro a hF
    refine g_no hF ⟨_, _, (rfl : _[2]? = some _), rfl, rfl⟩ hg1_2 rfl ?_; clear hF; intro a hF
    refine s_pu hF (pu_pick_f rfl hg1_2 rfl) rfl ?_; clear hF; intro a hF
    refine s_pu hF (pu_move rfl) rfl ?_; clear hF; intro a hF
    refine g_no hF ⟨_, _, (rfl : _[9]? = some _), rfl, rfl⟩ rfl rfl ?_; clear hF; intro a hF
    refine g_no hF ⟨_, _, (rfl : _[9]? = some _), rfl, rfl⟩ rfl rfl ?_; clear hF; intro a hF
    refine g_no hF ⟨_, _, (rfl : _[9]? = some _), rfl, rfl⟩ rfl rfl ?_; clear hF; intro a hF
    refine s_pu hF (pu_pick_f rfl rfl rfl) rfl ?_; clear hF; intro a hF
    refine s_pu hF (pu_move rfl) rfl ?_; clear hF; intro a hF
    refine g_no hF ⟨_, _, (rfl : _[14]? = some _), rfl, rfl⟩ rfl rfl ?_; clear hF; intro a hF
    refine g_no hF ⟨_, _, (rfl : _[14]? = some _), rfl, rfl⟩ rfl rfl ?_; clear hF; intro a hF
    refine g_no hF ⟨_, _, (rfl : _[14]? = some _), rfl, rfl⟩ rfl rfl ?_; clear hF; intro a hF
    refine s_pu hF (pu_pick_f rfl rfl rfl) rfl ?_; clear hF; intro a hF
    refine s_pu hF (pu_assign rfl) rfl ?_; clear hF; intro a hF
    refine c_nil ?_
    refine n_then ?_
    refine c_ret ?_
    exact f_ret hF rfl (.tmp rfl (.nil)) (hS.retv (congrArg Value.bool (by simp_all [nameOk] <;> (intros; omega))))
theorem c_Rname (s : List UInt8) (hs : s.length ≤ 1000000) (w0 : World) (h0 : View) (hv : VLe h0 (Full w0))  : Calls Try.prog 52 #[vs s] w0 (Ret w0 h0 fun u _ => u = resB (nameS s)) := by
  refine f_enter (args := [vs s]) Try.func52 rfl Try.ntmps52 rfl fun a hF => ?_
  have hS := St.init w0 h0 hv
  have hwl := wordN_le s
  refine c_seq ?_
  refine c_reg ?_
  refine s_alloc hF hS zero62 rfl ?_; clear hS hF; intro b0 w a hS hF
  refine s_pu hF (pu_assign rfl) rfl ?_; clear hF; intro a hF
  refine s_pu hF (pu_assign rfl) rfl ?_; clear hF; intro a hF
  refine c_nil ?_
  refine n_then ?_
  refine c_seq ?_
  refine c_reg ?_
  refine s_pu hF (pu_move rfl) rfl ?_; clear hF; intro a hF
  refine s_callv hF hS ok31 rfl (c_Rword s hs _ _ hS.view) rfl ?_; clear hS hF; intro w a hS hF
  refine s_pu hF (pu_assign rfl) rfl ?_; clear hF; intro a hF
  refine c_nil ?_
  refine n_then ?_
  refine c_seq ?_
  refine c_seq ?_
  refine c_reg ?_
  refine s_pu hF (pu_move rfl) rfl ?_; clear hF; intro a hF
  refine s_pu hF (pu_igt rfl rfl) rfl ?_; clear hF; intro a hF
  refine c_nil ?_
  refine n_then ?_
  refine c_if hF rfl (fun hc9 => ?_) (fun hc9 => ?_)
  · try simp only [decide_eq_true_eq, decide_eq_false_iff_not, Bool.not_eq_true', Bool.not_eq_false', Bool.not_eq_eq_eq_not, Bool.not_true, Bool.not_false] at hc9
    refine c_seq ?_
    refine c_reg ?_
    refine s_pu hF (pu_build_st (cs := tokC t0) strb62 rfl rfl) rfl ?_; clear hF; intro a hF
    refine s_store (i := 0) (new := tokC t0) hF hS rfl rfl rfl rfl sz62 rfl (by simp [tokC]) ?_; clear hS hF; intro w a hS hF
    rw [spl_all (by simp [tokC])] at hS
    refine s_pu hF (pu_assign rfl) rfl ?_; clear hF; intro a hF
    refine s_pu hF (pu_assign rfl) rfl ?_; clear hF; intro a hF
    refine c_nil ?_
    refine n_then ?_
    refine c_ret (r_then ?_)
    exact f_ret hF rfl (.cell rfl (o_lvA (i := 0) hS rfl agg62) (.tmp rfl (.tmp rfl (.nil)))) (hS.retv (by rw [nameS, if_pos (by omega)]; rfl))
  · try simp only [decide_eq_true_eq, decide_eq_false_iff_not, Bool.not_eq_true', Bool.not_eq_false', Bool.not_eq_eq_eq_not, Bool.not_true, Bool.not_false] at hc9
    refine c_skip ?_
    refine n_then ?_
    refine c_seq ?_
    refine c_reg ?_
    refine s_pu hF (pu_move rfl) rfl ?_; clear hF; intro a hF
    refine s_pu hF (pu_move rfl) rfl ?_; clear hF; intro a hF
    refine s_pu hF (pu_to tyS9 rfl rfl (by omega) (by omega)) rfl ?_; clear hF; intro a hF
    refine s_pu hF (pu_build_st (cs := tokC ⟨1, s.take (wordN s), 0, 0⟩) strb62 rfl rfl) rfl ?_; clear hF; intro a hF
    refine s_pu hF (pu_move rfl) rfl ?_; clear hF; intro a hF
    refine s_store (i := 0) (new := tokC ⟨1, s.take (wordN s), 0, 0⟩) hF hS rfl rfl rfl rfl sz62 rfl (by simp [tokC]) ?_; clear hS hF; intro w a hS hF
    rw [spl_all (by simp [tokC])] at hS
    refine s_pu hF (pu_assign rfl) rfl ?_; clear hF; intro a hF
    refine s_pu hF (pu_assign rfl) rfl ?_; clear hF; intro a hF
    refine c_nil ?_
    refine n_then ?_
    refine c_ret ?_
    exact f_ret hF rfl (.cell rfl (o_lvA (i := 0) hS rfl agg62) (.tmp rfl (.tmp rfl (.nil)))) (hS.retv (by rw [nameS, if_neg (by omega)]; rfl))
theorem c_Rnumber (s : List UInt8) (hs0 : 0 < s.length) (hs : s.length ≤ 1000000) (w0 : World) (h0 : View) (hv : VLe h0 (Full w0))  : Calls Try.prog 54 #[vs s] w0 (Ret w0 h0 fun u _ => u = resB (numS s)) := by
  refine f_enter (args := [vs s]) Try.func54 rfl Try.ntmps54 rfl fun a hF => ?_
  have hS := St.init w0 h0 hv
  refine c_seq ?_
  refine c_reg ?_
  refine s_alloc hF hS zero62 rfl ?_; clear hS hF; intro b0 w a hS hF
  refine s_pu hF (pu_assign rfl) rfl ?_; clear hF; intro a hF
  refine s_pu hF (pu_assign rfl) rfl ?_; clear hF; intro a hF
  refine c_nil ?_
  refine n_then ?_
  refine c_seq ?_
  refine c_reg ?_
  refine s_pu hF (pu_assign rfl) rfl ?_; clear hF; intro a hF
  refine s_pu hF (pu_assign rfl) rfl ?_; clear hF; intro a hF
  refine s_pu hF (pu_assign rfl) rfl ?_; clear hF; intro a hF
  refine c_nil ?_
  refine n_then ?_
  refine c_seq ?_
  refine c_block ?_
  refine hS.cut fun O0 F0 hO0 hF0 hS => ?_
  refine hF.cut (.cons (k := 5) rfl <| .cons (k := 6) rfl <| .cons (k := 7) rfl <| .nil) (.cons (k := 0) rfl <| .cons (k := 2) rfl <| .nil) fun L0 hL0 hF => ?_
  refine c_loop (α := Nat) (fun k a w => ∃ (v : Nat) (ov : Bool), k ≤ s.length ∧ (s.take k).all isDig = true ∧ (ov = true → numF (s.take k) = none) ∧ (ov = false → numF (s.take k) = some v) ∧ v ≤ 9223372036854775807 ∧ Fr a 55 ([(5, .val (.int .i64 (k : Nat))), (6, .val (.int .i64 (v : Nat))), (7, .val (.bool ov))] ++ L0) ∧ St w0 h0 [] w O0 F0) (fun k => s.length - k) 0 (⟨0, false, Nat.zero_le _, rfl, fun h => absurd h (by decide), fun _ => rfl, Nat.zero_le _, hF, hS⟩) ?_
  subst hO0 hF0 hL0
  rintro k a w ⟨v, ov, hk, ha, ho1, ho2, hv63, hF, hS⟩
  refine c_seq ?_
  refine c_seq ?_
  refine c_reg ?_
  refine s_pu hF (pu_move rfl) rfl ?_; clear hF; intro a hF
  refine s_pu hF (pu_move rfl) rfl ?_; clear hF; intro a hF
  refine s_pu hF (pu_len_s tyS9 rfl rfl) rfl ?_; clear hF; intro a hF
  refine s_pu hF (pu_ilt rfl rfl) rfl ?_; clear hF; intro a hF
  refine s_pu hF (pu_move rfl) rfl ?_; clear hF; intro a hF
  refine w_split hF ⟨_, _, (rfl : _[4]? = some _), rfl, rfl⟩ (fun hg2_4 => ?_) (fun hg2_4 => ?_)
  · have hg2_4p := hg2_4
    try simp only [decide_eq_true_eq, decide_eq_false_iff_not, Bool.not_eq_true', Bool.not_eq_false', Bool.not_eq_eq_eq_not, Bool.not_true, Bool.not_false] at hg2_4p
    refine g_pu hF ⟨_, _, (rfl : _[4]? = some _), rfl, rfl⟩ hg2_4 (pu_move rfl) rfl ?_; clear hF; intro a hF
    refine g_pu hF ⟨_, _, (rfl : _[4]? = some _), rfl, rfl⟩ hg2_4 (pu_move rfl) rfl ?_; clear hF; intro a hF
    refine g_pu hF ⟨_, _, (rfl : _[4]? = some _), rfl, rfl⟩ hg2_4 (pu_idxn tyS9 rfl rfl rfl (by omega)) rfl ?_; clear hF; intro a hF
    refine g_callv hF hS ⟨_, _, (rfl : _[4]? = some _), rfl, rfl⟩ hg2_4 ok53 rfl (c_Rdigit _ _ _ hS.view) rfl ?_; clear hS hF; intro w a hS hF
    refine s_pu hF (pu_pick_t rfl hg2_4 rfl) rfl ?_; clear hF; intro a hF
    refine c_nil ?_
    refine n_then ?_
    refine c_if hF rfl (fun hc18 => ?_) (fun hc18 => ?_)
    · try simp only [decide_eq_true_eq, decide_eq_false_iff_not, Bool.not_eq_true', Bool.not_eq_false', Bool.not_eq_eq_eq_not, Bool.not_true, Bool.not_false] at hc18
      have hd48 := dig_b hc18
      refine c_skip ?_
      refine n_then ?_
      refine c_block ?_
      refine c_seq ?_
      refine c_reg ?_
      refine s_pu hF (pu_move rfl) rfl ?_; clear hF; intro a hF
      refine s_pu hF (pu_move rfl) rfl ?_; clear hF; intro a hF
      refine s_pu hF (pu_idxn tyS9 rfl rfl rfl (by omega)) rfl ?_; clear hF; intro a hF
      refine s_pu hF (pu_sub rfl rfl (r := (((s.getD k 0).toNat - 48 : Nat) : Int)) (by rw [wrap_u8 (by omega) (by omega)]; omega)) rfl ?_; clear hF; intro a hF
      refine s_pu hF (pu_conv tyI3 ⟨_, tyI5⟩ rfl (wrap_i64 (by omega) (by omega))) rfl ?_; clear hF; intro a hF
      refine s_pu hF (pu_assign rfl) rfl ?_; clear hF; intro a hF
      refine c_nil ?_
      refine n_then ?_
      refine c_seq ?_
      refine c_reg ?_
      refine s_pu hF (pu_move rfl) rfl ?_; clear hF; intro a hF
      refine s_pu hF (pu_move rfl) rfl ?_; clear hF; intro a hF
      refine w_split hF ⟨_, _, (rfl : _[1]? = some _), rfl, rfl⟩ (fun hg4_1 => ?_) (fun hg4_1 => ?_)
      · have hg4_1p := hg4_1
        try simp only [decide_eq_true_eq, decide_eq_false_iff_not, Bool.not_eq_true', Bool.not_eq_false', Bool.not_eq_eq_eq_not, Bool.not_true, Bool.not_false] at hg4_1p
        refine g_no hF ⟨_, _, (rfl : _[1]? = some _), rfl, rfl⟩ hg4_1 rfl ?_; clear hF; intro a hF
        refine g_no hF ⟨_, _, (rfl : _[1]? = some _), rfl, rfl⟩ hg4_1 rfl ?_; clear hF; intro a hF
        refine g_no hF ⟨_, _, (rfl : _[1]? = some _), rfl, rfl⟩ hg4_1 rfl ?_; clear hF; intro a hF
        refine g_no hF ⟨_, _, (rfl : _[1]? = some _), rfl, rfl⟩ hg4_1 rfl ?_; clear hF; intro a hF
        refine g_no hF ⟨_, _, (rfl : _[1]? = some _), rfl, rfl⟩ hg4_1 rfl ?_; clear hF; intro a hF
        refine s_pu hF (pu_pick_t rfl hg4_1 rfl) rfl ?_; clear hF; intro a hF
        refine s_pu hF (pu_assign rfl) rfl ?_; clear hF; intro a hF
        refine c_nil ?_
        refine n_then ?_
        refine c_seq ?_
        refine c_seq ?_
        refine c_reg ?_
        refine s_pu hF (pu_move rfl) rfl ?_; clear hF; intro a hF
        refine s_pu hF (pu_not rfl) rfl ?_; clear hF; intro a hF
        refine c_nil ?_
        refine n_then ?_
        refine c_iff hF rfl rfl ?_
        refine c_skip ?_
        refine n_then ?_
        refine c_reg ?_
        refine s_pu hF (pu_move rfl) rfl ?_; clear hF; intro a hF
        refine s_pu hF (pu_add rfl rfl (by first | exact wrap_i64 (by omega) (by omega) | rfl)) rfl ?_; clear hF; intro a hF
        refine s_pu hF (pu_assign rfl) rfl ?_; clear hF; intro a hF
        refine c_nil ?_
        refine n_block ?_
        have han := all_snoc isDig s k (by omega) ha hc18
        first | exact ⟨k + 1, ⟨v, true, by omega, han, fun _ => numS_none (by omega) (ho1 hg4_1), fun h => absurd h (by decide), hv63, hF.pick (.cons (k := 5) rfl <| .cons (k := 6) rfl <| .cons (k := 7) rfl <| .cons (k := 0) rfl <| .cons (k := 2) rfl <| .nil), hS⟩, by omega⟩ | exact ⟨k + 1, ⟨v, true, by omega, han, fun _ => numS_over (by omega) (ho2 hg4_1) (by omega), fun h => absurd h (by decide), hv63, hF.pick (.cons (k := 5) rfl <| .cons (k := 6) rfl <| .cons (k := 7) rfl <| .cons (k := 0) rfl <| .cons (k := 2) rfl <| .nil), hS⟩, by omega⟩ | (rw [show (10 * (v : Int) + (((s.getD k 0).toNat - 48 : Nat) : Int)) = ((10 * v + ((s.getD k 0).toNat - 48 : Nat) : Nat) : Int) by omega] at hF; exact ⟨k + 1, ⟨10 * v + ((s.getD k 0).toNat - 48 : Nat), false, by omega, han, fun h => absurd h (by decide), fun _ => numS_step (by omega) (ho2 hg4_1) (by omega), by omega, hF.pick (.cons (k := 5) rfl <| .cons (k := 6) rfl <| .cons (k := 7) rfl <| .cons (k := 0) rfl <| .cons (k := 2) rfl <| .nil), hS⟩, by omega⟩)
      · have hg4_1p := hg4_1
        try simp only [decide_eq_true_eq, decide_eq_false_iff_not, Bool.not_eq_true', Bool.not_eq_false', Bool.not_eq_eq_eq_not, Bool.not_true, Bool.not_false] at hg4_1p
        refine g_pu hF ⟨_, _, (rfl : _[1]? = some _), rfl, rfl⟩ hg4_1 (pu_move rfl) rfl ?_; clear hF; intro a hF
        refine g_pu hF ⟨_, _, (rfl : _[1]? = some _), rfl, rfl⟩ hg4_1 (pu_move rfl) rfl ?_; clear hF; intro a hF
        refine g_pu hF ⟨_, _, (rfl : _[1]? = some _), rfl, rfl⟩ hg4_1 (pu_sub rfl rfl (by first | exact wrap_i64 (by omega) (by omega) | rfl)) rfl ?_; clear hF; intro a hF
        refine g_pu hF ⟨_, _, (rfl : _[1]? = some _), rfl, rfl⟩ hg4_1 (pu_quo rfl rfl (by omega) (r := (((9223372036854775807 - ((s.getD k 0).toNat - 48 : Nat)) / 10 : Nat) : Int)) (by rw [Int.tdiv_eq_ediv_of_nonneg (by omega), wrap_i64 (by omega) (by omega)]; omega)) rfl ?_; clear hF; intro a hF
        refine g_pu hF ⟨_, _, (rfl : _[1]? = some _), rfl, rfl⟩ hg4_1 (pu_igt rfl rfl) rfl ?_; clear hF; intro a hF
        refine s_pu hF (pu_pick_f rfl hg4_1 rfl) rfl ?_; clear hF; intro a hF
        refine s_pu hF (pu_assign rfl) rfl ?_; clear hF; intro a hF
        refine c_nil ?_
        refine n_then ?_
        refine c_seq ?_
        refine c_seq ?_
        refine c_reg ?_
        refine s_pu hF (pu_move rfl) rfl ?_; clear hF; intro a hF
        refine s_pu hF (pu_not rfl) rfl ?_; clear hF; intro a hF
        refine c_nil ?_
        refine n_then ?_
        refine c_if hF rfl (fun hc33 => ?_) (fun hc33 => ?_)
        · try simp only [decide_eq_true_eq, decide_eq_false_iff_not, Bool.not_eq_true', Bool.not_eq_false', Bool.not_eq_eq_eq_not, Bool.not_true, Bool.not_false] at hc33
          rw [decide_eq_false hc33] at hF
          refine c_reg ?_
          refine s_pu hF (pu_move rfl) rfl ?_; clear hF; intro a hF
          refine s_pu hF (pu_mul rfl rfl (by first | exact wrap_i64 (by omega) (by omega) | rfl)) rfl ?_; clear hF; intro a hF
          refine s_pu hF (pu_move rfl) rfl ?_; clear hF; intro a hF
          refine s_pu hF (pu_add rfl rfl (by first | exact wrap_i64 (by omega) (by omega) | rfl)) rfl ?_; clear hF; intro a hF
          refine s_pu hF (pu_assign rfl) rfl ?_; clear hF; intro a hF
          refine c_nil ?_
          refine n_then ?_
          refine c_reg ?_
          refine s_pu hF (pu_move rfl) rfl ?_; clear hF; intro a hF
          refine s_pu hF (pu_add rfl rfl (by first | exact wrap_i64 (by omega) (by omega) | rfl)) rfl ?_; clear hF; intro a hF
          refine s_pu hF (pu_assign rfl) rfl ?_; clear hF; intro a hF
          refine c_nil ?_
          refine n_block ?_
          have han := all_snoc isDig s k (by omega) ha hc18
          first | exact ⟨k + 1, ⟨v, true, by omega, han, fun _ => numS_none (by omega) (ho1 hg4_1), fun h => absurd h (by decide), hv63, hF.pick (.cons (k := 5) rfl <| .cons (k := 6) rfl <| .cons (k := 7) rfl <| .cons (k := 0) rfl <| .cons (k := 2) rfl <| .nil), hS⟩, by omega⟩ | exact ⟨k + 1, ⟨v, true, by omega, han, fun _ => numS_over (by omega) (ho2 hg4_1) (by omega), fun h => absurd h (by decide), hv63, hF.pick (.cons (k := 5) rfl <| .cons (k := 6) rfl <| .cons (k := 7) rfl <| .cons (k := 0) rfl <| .cons (k := 2) rfl <| .nil), hS⟩, by omega⟩ | (rw [show (10 * (v : Int) + (((s.getD k 0).toNat - 48 : Nat) : Int)) = ((10 * v + ((s.getD k 0).toNat - 48 : Nat) : Nat) : Int) by omega] at hF; exact ⟨k + 1, ⟨10 * v + ((s.getD k 0).toNat - 48 : Nat), false, by omega, han, fun h => absurd h (by decide), fun _ => numS_step (by omega) (ho2 hg4_1) (by omega), by omega, hF.pick (.cons (k := 5) rfl <| .cons (k := 6) rfl <| .cons (k := 7) rfl <| .cons (k := 0) rfl <| .cons (k := 2) rfl <| .nil), hS⟩, by omega⟩)
        · try simp only [decide_eq_true_eq, decide_eq_false_iff_not, Bool.not_eq_true', Bool.not_eq_false', Bool.not_eq_eq_eq_not, Bool.not_true, Bool.not_false] at hc33
          rw [decide_eq_true hc33] at hF
          refine c_skip ?_
          refine n_then ?_
          refine c_reg ?_
          refine s_pu hF (pu_move rfl) rfl ?_; clear hF; intro a hF
          refine s_pu hF (pu_add rfl rfl (by first | exact wrap_i64 (by omega) (by omega) | rfl)) rfl ?_; clear hF; intro a hF
          refine s_pu hF (pu_assign rfl) rfl ?_; clear hF; intro a hF
          refine c_nil ?_
          refine n_block ?_
          have han := all_snoc isDig s k (by omega) ha hc18
          first | exact ⟨k + 1, ⟨v, true, by omega, han, fun _ => numS_none (by omega) (ho1 hg4_1), fun h => absurd h (by decide), hv63, hF.pick (.cons (k := 5) rfl <| .cons (k := 6) rfl <| .cons (k := 7) rfl <| .cons (k := 0) rfl <| .cons (k := 2) rfl <| .nil), hS⟩, by omega⟩ | exact ⟨k + 1, ⟨v, true, by omega, han, fun _ => numS_over (by omega) (ho2 hg4_1) (by omega), fun h => absurd h (by decide), hv63, hF.pick (.cons (k := 5) rfl <| .cons (k := 6) rfl <| .cons (k := 7) rfl <| .cons (k := 0) rfl <| .cons (k := 2) rfl <| .nil), hS⟩, by omega⟩ | (rw [show (10 * (v : Int) + (((s.getD k 0).toNat - 48 : Nat) : Int)) = ((10 * v + ((s.getD k 0).toNat - 48 : Nat) : Nat) : Int) by omega] at hF; exact ⟨k + 1, ⟨10 * v + ((s.getD k 0).toNat - 48 : Nat), false, by omega, han, fun h => absurd h (by decide), fun _ => numS_step (by omega) (ho2 hg4_1) (by omega), by omega, hF.pick (.cons (k := 5) rfl <| .cons (k := 6) rfl <| .cons (k := 7) rfl <| .cons (k := 0) rfl <| .cons (k := 2) rfl <| .nil), hS⟩, by omega⟩)
    · try simp only [decide_eq_true_eq, decide_eq_false_iff_not, Bool.not_eq_true', Bool.not_eq_false', Bool.not_eq_eq_eq_not, Bool.not_true, Bool.not_false] at hc18
      refine c_exit (x_then (x_then (x_here ?_)))
      refine n_then ?_
      refine c_seq ?_
      refine c_block ?_
      refine c_seq ?_
      refine c_reg ?_
      refine s_pu hF (pu_move rfl) rfl ?_; clear hF; intro a hF
      refine s_pu hF (pu_igt rfl rfl) rfl ?_; clear hF; intro a hF
      refine s_pu hF (pu_move rfl) rfl ?_; clear hF; intro a hF
      refine w_split hF ⟨_, _, (rfl : _[2]? = some _), rfl, rfl⟩ (fun hg8_2 => ?_) (fun hg8_2 => ?_)
      · have hg8_2p := hg8_2
        try simp only [decide_eq_true_eq, decide_eq_false_iff_not, Bool.not_eq_true', Bool.not_eq_false', Bool.not_eq_eq_eq_not, Bool.not_true, Bool.not_false] at hg8_2p
        refine g_pu hF ⟨_, _, (rfl : _[2]? = some _), rfl, rfl⟩ hg8_2 (pu_move rfl) rfl ?_; clear hF; intro a hF
        refine g_pu hF ⟨_, _, (rfl : _[2]? = some _), rfl, rfl⟩ hg8_2 (pu_idxn (j := 0) tyS9 rfl rfl rfl (by omega)) rfl ?_; clear hF; intro a hF
        refine g_pu hF ⟨_, _, (rfl : _[2]? = some _), rfl, rfl⟩ hg8_2 (pu_ieq rfl rfl) rfl ?_; clear hF; intro a hF
        refine s_pu hF (pu_pick_t rfl hg8_2 rfl) rfl ?_; clear hF; intro a hF
        refine s_pu hF (pu_assign rfl) rfl ?_; clear hF; intro a hF
        have hdn : digN s = k := tw_len isDig s k ha hk (by first | (left; omega) | (right; exact hc18))
        refine c_nil ?_
        refine n_then ?_
        refine c_if hF rfl (fun hc40 => ?_) (fun hc40 => ?_)
        · try simp only [decide_eq_true_eq, decide_eq_false_iff_not, Bool.not_eq_true', Bool.not_eq_false', Bool.not_eq_eq_eq_not, Bool.not_true, Bool.not_false] at hc40
          refine c_seq ?_
          refine c_reg ?_
          refine s_pu hF (pu_build_st (cs := tokC t0) strb62 rfl rfl) rfl ?_; clear hF; intro a hF
          refine s_store (i := 0) (new := tokC t0) hF hS rfl rfl rfl rfl sz62 rfl (by simp [tokC]) ?_; clear hS hF; intro w a hS hF
          rw [spl_all (by simp [tokC])] at hS
          refine s_pu hF (pu_assign rfl) rfl ?_; clear hF; intro a hF
          refine s_pu hF (pu_assign rfl) rfl ?_; clear hF; intro a hF
          refine c_nil ?_
          refine n_then ?_
          refine c_ret (r_block (r_then ?_))
          exact f_ret hF rfl (.cell rfl (o_lvA (i := 0) hS rfl agg62) (.tmp rfl (.tmp rfl (.nil)))) (hS.retv (by rw [numS, if_pos ⟨by omega, hc40⟩]; rfl))
        · try simp only [decide_eq_true_eq, decide_eq_false_iff_not, Bool.not_eq_true', Bool.not_eq_false', Bool.not_eq_eq_eq_not, Bool.not_true, Bool.not_false] at hc40
          refine c_seq ?_
          refine c_reg ?_
          refine s_pu hF (pu_move rfl) rfl ?_; clear hF; intro a hF
          refine s_pu hF (pu_assign rfl) rfl ?_; clear hF; intro a hF
          refine c_nil ?_
          refine n_then ?_
          refine c_if hF rfl (fun hc49 => ?_) (fun hc49 => ?_)
          · try simp only [decide_eq_true_eq, decide_eq_false_iff_not, Bool.not_eq_true', Bool.not_eq_false', Bool.not_eq_eq_eq_not, Bool.not_true, Bool.not_false] at hc49
            refine c_seq ?_
            refine c_reg ?_
            refine s_pu hF (pu_build_st (cs := tokC t0) strb62 rfl rfl) rfl ?_; clear hF; intro a hF
            refine s_store (i := 0) (new := tokC t0) hF hS rfl rfl rfl rfl sz62 rfl (by simp [tokC]) ?_; clear hS hF; intro w a hS hF
            rw [spl_all (by simp [tokC])] at hS
            refine s_pu hF (pu_assign rfl) rfl ?_; clear hF; intro a hF
            refine s_pu hF (pu_assign rfl) rfl ?_; clear hF; intro a hF
            refine c_nil ?_
            refine n_then ?_
            refine c_ret (r_block (r_then ?_))
            exact f_ret hF rfl (.cell rfl (o_lvA (i := 0) hS rfl agg62) (.tmp rfl (.tmp rfl (.nil)))) (hS.retv (by rw [numS, if_neg (by first | (rintro ⟨h1, h2⟩; omega) | (rintro ⟨h1, h2⟩; exact hc40 h2)), hdn, ho1 hc49]; rfl))
          · try simp only [decide_eq_true_eq, decide_eq_false_iff_not, Bool.not_eq_true', Bool.not_eq_false', Bool.not_eq_eq_eq_not, Bool.not_true, Bool.not_false] at hc49
            refine c_skip ?_
            refine n_block ?_
            refine n_then ?_
            refine c_seq ?_
            refine c_reg ?_
            refine s_pu hF (pu_move rfl) rfl ?_; clear hF; intro a hF
            refine s_pu hF (pu_build_st (cs := tokC ⟨2, [], (v : Int), 0⟩) strb62 rfl rfl) rfl ?_; clear hF; intro a hF
            refine s_pu hF (pu_move rfl) rfl ?_; clear hF; intro a hF
            refine s_store (i := 0) (new := tokC ⟨2, [], (v : Int), 0⟩) hF hS rfl rfl rfl rfl sz62 rfl (by simp [tokC]) ?_; clear hS hF; intro w a hS hF
            rw [spl_all (by simp [tokC])] at hS
            refine s_pu hF (pu_assign rfl) rfl ?_; clear hF; intro a hF
            refine s_pu hF (pu_assign rfl) rfl ?_; clear hF; intro a hF
            refine c_nil ?_
            refine n_then ?_
            refine c_ret ?_
            exact f_ret hF rfl (.cell rfl (o_lvA (i := 0) hS rfl agg62) (.tmp rfl (.tmp rfl (.nil)))) (hS.retv (by rw [numS, if_neg (by first | (rintro ⟨h1, h2⟩; omega) | (rintro ⟨h1, h2⟩; exact hc40 h2)), hdn, ho2 hc49]; rfl))
      · have hg8_2p := hg8_2
        try simp only [decide_eq_true_eq, decide_eq_false_iff_not, Bool.not_eq_true', Bool.not_eq_false', Bool.not_eq_eq_eq_not, Bool.not_true, Bool.not_false] at hg8_2p
        refine g_no hF ⟨_, _, (rfl : _[2]? = some _), rfl, rfl⟩ hg8_2 rfl ?_; clear hF; intro a hF
        refine g_no hF ⟨_, _, (rfl : _[2]? = some _), rfl, rfl⟩ hg8_2 rfl ?_; clear hF; intro a hF
        refine g_no hF ⟨_, _, (rfl : _[2]? = some _), rfl, rfl⟩ hg8_2 rfl ?_; clear hF; intro a hF
        refine s_pu hF (pu_pick_f rfl hg8_2 rfl) rfl ?_; clear hF; intro a hF
        refine s_pu hF (pu_assign rfl) rfl ?_; clear hF; intro a hF
        have hdn : digN s = k := tw_len isDig s k ha hk (by first | (left; omega) | (right; exact hc18))
        refine c_nil ?_
        refine n_then ?_
        refine c_iff hF rfl rfl ?_
        refine c_seq ?_
        refine c_reg ?_
        refine s_pu hF (pu_move rfl) rfl ?_; clear hF; intro a hF
        refine s_pu hF (pu_assign rfl) rfl ?_; clear hF; intro a hF
        refine c_nil ?_
        refine n_then ?_
        refine c_if hF rfl (fun hc49 => ?_) (fun hc49 => ?_)
        · try simp only [decide_eq_true_eq, decide_eq_false_iff_not, Bool.not_eq_true', Bool.not_eq_false', Bool.not_eq_eq_eq_not, Bool.not_true, Bool.not_false] at hc49
          refine c_seq ?_
          refine c_reg ?_
          refine s_pu hF (pu_build_st (cs := tokC t0) strb62 rfl rfl) rfl ?_; clear hF; intro a hF
          refine s_store (i := 0) (new := tokC t0) hF hS rfl rfl rfl rfl sz62 rfl (by simp [tokC]) ?_; clear hS hF; intro w a hS hF
          rw [spl_all (by simp [tokC])] at hS
          refine s_pu hF (pu_assign rfl) rfl ?_; clear hF; intro a hF
          refine s_pu hF (pu_assign rfl) rfl ?_; clear hF; intro a hF
          refine c_nil ?_
          refine n_then ?_
          refine c_ret (r_block (r_then ?_))
          exact f_ret hF rfl (.cell rfl (o_lvA (i := 0) hS rfl agg62) (.tmp rfl (.tmp rfl (.nil)))) (hS.retv (by rw [numS, if_neg (by first | (rintro ⟨h1, h2⟩; omega) | (rintro ⟨h1, h2⟩; exact hc40 h2)), hdn, ho1 hc49]; rfl))
        · try simp only [decide_eq_true_eq, decide_eq_false_iff_not, Bool.not_eq_true', Bool.not_eq_false', Bool.not_eq_eq_eq_not, Bool.not_true, Bool.not_false] at hc49
          refine c_skip ?_
          refine n_block ?_
          refine n_then ?_
          refine c_seq ?_
          refine c_reg ?_
          refine s_pu hF (pu_move rfl) rfl ?_; clear hF; intro a hF
          refine s_pu hF (pu_build_st (cs := tokC ⟨2, [], (v : Int), 0⟩) strb62 rfl rfl) rfl ?_; clear hF; intro a hF
          refine s_pu hF (pu_move rfl) rfl ?_; clear hF; intro a hF
          refine s_store (i := 0) (new := tokC ⟨2, [], (v : Int), 0⟩) hF hS rfl rfl rfl rfl sz62 rfl (by simp [tokC]) ?_; clear hS hF; intro w a hS hF
          rw [spl_all (by simp [tokC])] at hS
          refine s_pu hF (pu_assign rfl) rfl ?_; clear hF; intro a hF
          refine s_pu hF (pu_assign rfl) rfl ?_; clear hF; intro a hF
          refine c_nil ?_
          refine n_then ?_
          refine c_ret ?_
          exact f_ret hF rfl (.cell rfl (o_lvA (i := 0) hS rfl agg62) (.tmp rfl (.tmp rfl (.nil)))) (hS.retv (by rw [numS, if_neg (by first | (rintro ⟨h1, h2⟩; omega) | (rintro ⟨h1, h2⟩; exact hc40 h2)), hdn, ho2 hc49]; rfl))
  · have hg2_4p := hg2_4
    try simp only [decide_eq_true_eq, decide_eq_false_iff_not, Bool.not_eq_true', Bool.not_eq_false', Bool.not_eq_eq_eq_not, Bool.not_true, Bool.not_false] at hg2_4p
    refine g_no hF ⟨_, _, (rfl : _[4]? = some _), rfl, rfl⟩ hg2_4 rfl ?_; clear hF; intro a hF
    refine g_no hF ⟨_, _, (rfl : _[4]? = some _), rfl, rfl⟩ hg2_4 rfl ?_; clear hF; intro a hF
    refine g_no hF ⟨_, _, (rfl : _[4]? = some _), rfl, rfl⟩ hg2_4 rfl ?_; clear hF; intro a hF
    refine g_no hF ⟨_, _, (rfl : _[4]? = some _), rfl, rfl⟩ hg2_4 rfl ?_; clear hF; intro a hF
    refine s_pu hF (pu_pick_f rfl hg2_4 rfl) rfl ?_; clear hF; intro a hF
    refine c_nil ?_
    refine n_then ?_
    refine c_iff hF rfl rfl ?_
    refine c_exit (x_then (x_then (x_here ?_)))
    refine n_then ?_
    refine c_seq ?_
    refine c_block ?_
    refine c_seq ?_
    refine c_reg ?_
    refine s_pu hF (pu_move rfl) rfl ?_; clear hF; intro a hF
    refine s_pu hF (pu_igt rfl rfl) rfl ?_; clear hF; intro a hF
    refine s_pu hF (pu_move rfl) rfl ?_; clear hF; intro a hF
    refine w_split hF ⟨_, _, (rfl : _[2]? = some _), rfl, rfl⟩ (fun hg8_2 => ?_) (fun hg8_2 => ?_)
    · have hg8_2p := hg8_2
      try simp only [decide_eq_true_eq, decide_eq_false_iff_not, Bool.not_eq_true', Bool.not_eq_false', Bool.not_eq_eq_eq_not, Bool.not_true, Bool.not_false] at hg8_2p
      refine g_pu hF ⟨_, _, (rfl : _[2]? = some _), rfl, rfl⟩ hg8_2 (pu_move rfl) rfl ?_; clear hF; intro a hF
      refine g_pu hF ⟨_, _, (rfl : _[2]? = some _), rfl, rfl⟩ hg8_2 (pu_idxn (j := 0) tyS9 rfl rfl rfl (by omega)) rfl ?_; clear hF; intro a hF
      refine g_pu hF ⟨_, _, (rfl : _[2]? = some _), rfl, rfl⟩ hg8_2 (pu_ieq rfl rfl) rfl ?_; clear hF; intro a hF
      refine s_pu hF (pu_pick_t rfl hg8_2 rfl) rfl ?_; clear hF; intro a hF
      refine s_pu hF (pu_assign rfl) rfl ?_; clear hF; intro a hF
      have hdn : digN s = k := tw_len isDig s k ha hk (by first | (left; omega) | (right; exact hc18))
      refine c_nil ?_
      refine n_then ?_
      refine c_if hF rfl (fun hc40 => ?_) (fun hc40 => ?_)
      · try simp only [decide_eq_true_eq, decide_eq_false_iff_not, Bool.not_eq_true', Bool.not_eq_false', Bool.not_eq_eq_eq_not, Bool.not_true, Bool.not_false] at hc40
        refine c_seq ?_
        refine c_reg ?_
        refine s_pu hF (pu_build_st (cs := tokC t0) strb62 rfl rfl) rfl ?_; clear hF; intro a hF
        refine s_store (i := 0) (new := tokC t0) hF hS rfl rfl rfl rfl sz62 rfl (by simp [tokC]) ?_; clear hS hF; intro w a hS hF
        rw [spl_all (by simp [tokC])] at hS
        refine s_pu hF (pu_assign rfl) rfl ?_; clear hF; intro a hF
        refine s_pu hF (pu_assign rfl) rfl ?_; clear hF; intro a hF
        refine c_nil ?_
        refine n_then ?_
        refine c_ret (r_block (r_then ?_))
        exact f_ret hF rfl (.cell rfl (o_lvA (i := 0) hS rfl agg62) (.tmp rfl (.tmp rfl (.nil)))) (hS.retv (by rw [numS, if_pos ⟨by omega, hc40⟩]; rfl))
      · try simp only [decide_eq_true_eq, decide_eq_false_iff_not, Bool.not_eq_true', Bool.not_eq_false', Bool.not_eq_eq_eq_not, Bool.not_true, Bool.not_false] at hc40
        refine c_seq ?_
        refine c_reg ?_
        refine s_pu hF (pu_move rfl) rfl ?_; clear hF; intro a hF
        refine s_pu hF (pu_assign rfl) rfl ?_; clear hF; intro a hF
        refine c_nil ?_
        refine n_then ?_
        refine c_if hF rfl (fun hc49 => ?_) (fun hc49 => ?_)
        · try simp only [decide_eq_true_eq, decide_eq_false_iff_not, Bool.not_eq_true', Bool.not_eq_false', Bool.not_eq_eq_eq_not, Bool.not_true, Bool.not_false] at hc49
          refine c_seq ?_
          refine c_reg ?_
          refine s_pu hF (pu_build_st (cs := tokC t0) strb62 rfl rfl) rfl ?_; clear hF; intro a hF
          refine s_store (i := 0) (new := tokC t0) hF hS rfl rfl rfl rfl sz62 rfl (by simp [tokC]) ?_; clear hS hF; intro w a hS hF
          rw [spl_all (by simp [tokC])] at hS
          refine s_pu hF (pu_assign rfl) rfl ?_; clear hF; intro a hF
          refine s_pu hF (pu_assign rfl) rfl ?_; clear hF; intro a hF
          refine c_nil ?_
          refine n_then ?_
          refine c_ret (r_block (r_then ?_))
          exact f_ret hF rfl (.cell rfl (o_lvA (i := 0) hS rfl agg62) (.tmp rfl (.tmp rfl (.nil)))) (hS.retv (by rw [numS, if_neg (by first | (rintro ⟨h1, h2⟩; omega) | (rintro ⟨h1, h2⟩; exact hc40 h2)), hdn, ho1 hc49]; rfl))
        · try simp only [decide_eq_true_eq, decide_eq_false_iff_not, Bool.not_eq_true', Bool.not_eq_false', Bool.not_eq_eq_eq_not, Bool.not_true, Bool.not_false] at hc49
          refine c_skip ?_
          refine n_block ?_
          refine n_then ?_
          refine c_seq ?_
          refine c_reg ?_
          refine s_pu hF (pu_move rfl) rfl ?_; clear hF; intro a hF
          refine s_pu hF (pu_build_st (cs := tokC ⟨2, [], (v : Int), 0⟩) strb62 rfl rfl) rfl ?_; clear hF; intro a hF
          refine s_pu hF (pu_move rfl) rfl ?_; clear hF; intro a hF
          refine s_store (i := 0) (new := tokC ⟨2, [], (v : Int), 0⟩) hF hS rfl rfl rfl rfl sz62 rfl (by simp [tokC]) ?_; clear hS hF; intro w a hS hF
          rw [spl_all (by simp [tokC])] at hS
          refine s_pu hF (pu_assign rfl) rfl ?_; clear hF; intro a hF
          refine s_pu hF (pu_assign rfl) rfl ?_; clear hF; intro a hF
          refine c_nil ?_
          refine n_then ?_
          refine c_ret ?_
          exact f_ret hF rfl (.cell rfl (o_lvA (i := 0) hS rfl agg62) (.tmp rfl (.tmp rfl (.nil)))) (hS.retv (by rw [numS, if_neg (by first | (rintro ⟨h1, h2⟩; omega) | (rintro ⟨h1, h2⟩; exact hc40 h2)), hdn, ho2 hc49]; rfl))
    · have hg8_2p := hg8_2
      try simp only [decide_eq_true_eq, decide_eq_false_iff_not, Bool.not_eq_true', Bool.not_eq_false', Bool.not_eq_eq_eq_not, Bool.not_true, Bool.not_false] at hg8_2p
      refine g_no hF ⟨_, _, (rfl : _[2]? = some _), rfl, rfl⟩ hg8_2 rfl ?_; clear hF; intro a hF
      refine g_no hF ⟨_, _, (rfl : _[2]? = some _), rfl, rfl⟩ hg8_2 rfl ?_; clear hF; intro a hF
      refine g_no hF ⟨_, _, (rfl : _[2]? = some _), rfl, rfl⟩ hg8_2 rfl ?_; clear hF; intro a hF
      refine s_pu hF (pu_pick_f rfl hg8_2 rfl) rfl ?_; clear hF; intro a hF
      refine s_pu hF (pu_assign rfl) rfl ?_; clear hF; intro a hF
      have hdn : digN s = k := tw_len isDig s k ha hk (by first | (left; omega) | (right; exact hc18))
      refine c_nil ?_
      refine n_then ?_
      refine c_iff hF rfl rfl ?_
      refine c_seq ?_
      refine c_reg ?_
      refine s_pu hF (pu_move rfl) rfl ?_; clear hF; intro a hF
      refine s_pu hF (pu_assign rfl) rfl ?_; clear hF; intro a hF
      refine c_nil ?_
      refine n_then ?_
      refine c_if hF rfl (fun hc49 => ?_) (fun hc49 => ?_)
      · try simp only [decide_eq_true_eq, decide_eq_false_iff_not, Bool.not_eq_true', Bool.not_eq_false', Bool.not_eq_eq_eq_not, Bool.not_true, Bool.not_false] at hc49
        refine c_seq ?_
        refine c_reg ?_
        refine s_pu hF (pu_build_st (cs := tokC t0) strb62 rfl rfl) rfl ?_; clear hF; intro a hF
        refine s_store (i := 0) (new := tokC t0) hF hS rfl rfl rfl rfl sz62 rfl (by simp [tokC]) ?_; clear hS hF; intro w a hS hF
        rw [spl_all (by simp [tokC])] at hS
        refine s_pu hF (pu_assign rfl) rfl ?_; clear hF; intro a hF
        refine s_pu hF (pu_assign rfl) rfl ?_; clear hF; intro a hF
        refine c_nil ?_
        refine n_then ?_
        refine c_ret (r_block (r_then ?_))
        exact f_ret hF rfl (.cell rfl (o_lvA (i := 0) hS rfl agg62) (.tmp rfl (.tmp rfl (.nil)))) (hS.retv (by rw [numS, if_neg (by first | (rintro ⟨h1, h2⟩; omega) | (rintro ⟨h1, h2⟩; exact hc40 h2)), hdn, ho1 hc49]; rfl))
      · try simp only [decide_eq_true_eq, decide_eq_false_iff_not, Bool.not_eq_true', Bool.not_eq_false', Bool.not_eq_eq_eq_not, Bool.not_true, Bool.not_false] at hc49
        refine c_skip ?_
        refine n_block ?_
        refine n_then ?_
        refine c_seq ?_
        refine c_reg ?_
        refine s_pu hF (pu_move rfl) rfl ?_; clear hF; intro a hF
        refine s_pu hF (pu_build_st (cs := tokC ⟨2, [], (v : Int), 0⟩) strb62 rfl rfl) rfl ?_; clear hF; intro a hF
        refine s_pu hF (pu_move rfl) rfl ?_; clear hF; intro a hF
        refine s_store (i := 0) (new := tokC ⟨2, [], (v : Int), 0⟩) hF hS rfl rfl rfl rfl sz62 rfl (by simp [tokC]) ?_; clear hS hF; intro w a hS hF
        rw [spl_all (by simp [tokC])] at hS
        refine s_pu hF (pu_assign rfl) rfl ?_; clear hF; intro a hF
        refine s_pu hF (pu_assign rfl) rfl ?_; clear hF; intro a hF
        refine c_nil ?_
        refine n_then ?_
        refine c_ret ?_
        exact f_ret hF rfl (.cell rfl (o_lvA (i := 0) hS rfl agg62) (.tmp rfl (.tmp rfl (.nil)))) (hS.retv (by rw [numS, if_neg (by first | (rintro ⟨h1, h2⟩; omega) | (rintro ⟨h1, h2⟩; exact hc40 h2)), hdn, ho2 hc49]; rfl))
set_option maxHeartbeats 1000000 in
theorem c_Rtext (s : List UInt8) (hs0 : 0 < s.length) (hs : s.length ≤ 1000000) (w0 : World) (h0 : View) (hv : VLe h0 (Full w0))  : Calls Try.prog 55 #[vs s] w0 (Ret w0 h0 fun u _ => u = resB (textS s)) := by
  refine f_enter (args := [vs s]) Try.func55 rfl Try.ntmps55 rfl fun a hF => ?_
  have hS := St.init w0 h0 hv
  refine c_seq ?_
  refine c_reg ?_
  refine s_alloc hF hS zero62 rfl ?_; clear hS hF; intro b0 w a hS hF
  refine s_pu hF (pu_assign rfl) rfl ?_; clear hF; intro a hF
  refine s_pu hF (pu_assign rfl) rfl ?_; clear hF; intro a hF
  refine c_nil ?_
  refine n_then ?_
  refine c_seq ?_
  refine c_reg ?_
  refine s_pu hF (pu_assign rfl) rfl ?_; clear hF; intro a hF
  refine c_nil ?_
  refine n_then ?_
  refine c_seq ?_
  refine c_seq ?_
  refine c_reg ?_
  refine s_pu hF (pu_assign rfl) rfl ?_; clear hF; intro a hF
  refine c_nil ?_
  refine n_then ?_
  refine c_block ?_
  refine hS.cut fun O0 F0 hO0 hF0 hS => ?_
  subst hO0
  refine hF.cut (.cons (k := 5) rfl <| .cons (k := 6) rfl <| .nil) (.cons (k := 0) rfl <| .cons (k := 2) rfl <| .nil) fun L0 hL0 hF => ?_
  refine c_loop (α := Nat × List UInt8) (fun x a w => textG s x.1 x.2 = textS s ∧ 1 ≤ x.1 ∧ x.1 ≤ s.length ∧ x.2.length ≤ x.1 ∧ Fr a 67 ([(5, .val (vs x.2)), (6, .val (.int .i64 (x.1 : Nat)))] ++ L0) ∧ St w0 h0 [] w [(some b0, CellsC 62 (tokC t0))] F0) (fun x => s.length - x.1) (1, []) (⟨rfl, Nat.le_refl 1, hs0, Nat.zero_le _, hF, hS⟩) ?_
  subst hF0 hL0
  rintro ⟨i, b⟩ a w ⟨htx, h1i, his, hbl, hF, hS⟩
  dsimp only at htx h1i his hbl hF hS
  refine c_seq ?_
  refine c_seq ?_
  refine c_reg ?_
  refine s_pu hF (pu_move rfl) rfl ?_; clear hF; intro a hF
  refine s_pu hF (pu_move rfl) rfl ?_; clear hF; intro a hF
  refine s_pu hF (pu_len_s tyS9 rfl rfl) rfl ?_; clear hF; intro a hF
  refine s_pu hF (pu_ilt rfl rfl) rfl ?_; clear hF; intro a hF
  refine c_nil ?_
  refine n_then ?_
  refine c_if hF rfl (fun hc11 => ?_) (fun hc11 => ?_)
  · try simp only [decide_eq_true_eq, decide_eq_false_iff_not, Bool.not_eq_true', Bool.not_eq_false', Bool.not_eq_eq_eq_not, Bool.not_true, Bool.not_false] at hc11
    refine c_skip ?_
    refine n_then ?_
    refine c_seq ?_
    refine c_block ?_
    refine c_seq ?_
    refine c_reg ?_
    refine s_pu hF (pu_move rfl) rfl ?_; clear hF; intro a hF
    refine s_pu hF (pu_move rfl) rfl ?_; clear hF; intro a hF
    refine s_pu hF (pu_idxn tyS9 rfl rfl rfl (by omega)) rfl ?_; clear hF; intro a hF
    refine s_pu hF (pu_assign rfl) rfl ?_; clear hF; intro a hF
    refine c_nil ?_
    refine n_then ?_
    refine c_seq ?_
    refine c_seq ?_
    refine c_reg ?_
    refine s_pu hF (pu_move rfl) rfl ?_; clear hF; intro a hF
    refine s_pu hF (pu_ieq rfl rfl) rfl ?_; clear hF; intro a hF
    refine c_nil ?_
    refine n_then ?_
    refine c_if hF rfl (fun hc18 => ?_) (fun hc18 => ?_)
    · try simp only [decide_eq_true_eq, decide_eq_false_iff_not, Bool.not_eq_true', Bool.not_eq_false', Bool.not_eq_eq_eq_not, Bool.not_true, Bool.not_false] at hc18
      refine c_seq ?_
      refine c_seq ?_
      refine c_reg ?_
      refine s_pu hF (pu_move rfl) rfl ?_; clear hF; intro a hF
      refine s_pu hF (pu_len_s tyS9 rfl rfl) rfl ?_; clear hF; intro a hF
      refine s_pu hF (pu_igt rfl rfl) rfl ?_; clear hF; intro a hF
      refine c_nil ?_
      refine n_then ?_
      refine c_if hF rfl (fun hc21 => ?_) (fun hc21 => ?_)
      · try simp only [decide_eq_true_eq, decide_eq_false_iff_not, Bool.not_eq_true', Bool.not_eq_false', Bool.not_eq_eq_eq_not, Bool.not_true, Bool.not_false] at hc21
        refine c_seq ?_
        refine c_reg ?_
        refine s_pu hF (pu_build_st (cs := tokC t0) strb62 rfl rfl) rfl ?_; clear hF; intro a hF
        refine s_store (i := 0) (new := tokC t0) hF hS rfl rfl rfl rfl sz62 rfl (by simp [tokC]) ?_; clear hS hF; intro w a hS hF
        rw [spl_all (by simp [tokC])] at hS
        refine s_pu hF (pu_assign rfl) rfl ?_; clear hF; intro a hF
        refine s_pu hF (pu_assign rfl) rfl ?_; clear hF; intro a hF
        refine c_nil ?_
        refine n_then ?_
        refine c_ret (r_then (r_then (r_block (r_then (r_then (r_block (r_then ?_)))))))
        exact f_ret hF rfl (.cell rfl (o_lvA (i := 0) hS rfl agg62) (.tmp rfl (.tmp rfl (.nil)))) (hS.retv (by rw [← htx, tx_big (by omega) hc18 (by omega)]; rfl))
      · try simp only [decide_eq_true_eq, decide_eq_false_iff_not, Bool.not_eq_true', Bool.not_eq_false', Bool.not_eq_eq_eq_not, Bool.not_true, Bool.not_false] at hc21
        refine c_skip ?_
        refine n_then ?_
        refine c_seq ?_
        refine c_reg ?_
        refine s_pu hF (pu_move rfl) rfl ?_; clear hF; intro a hF
        refine s_pu hF (pu_build_st (cs := tokC ⟨3, b, 0, 0⟩) strb62 rfl rfl) rfl ?_; clear hF; intro a hF
        refine s_pu hF (pu_move rfl) rfl ?_; clear hF; intro a hF
        refine s_pu hF (pu_add rfl rfl (by first | exact wrap_i64 (by omega) (by omega) | rfl)) rfl ?_; clear hF; intro a hF
        refine s_store (i := 0) (new := tokC ⟨3, b, 0, 0⟩) hF hS rfl rfl rfl rfl sz62 rfl (by simp [tokC]) ?_; clear hS hF; intro w a hS hF
        rw [spl_all (by simp [tokC])] at hS
        refine s_pu hF (pu_assign rfl) rfl ?_; clear hF; intro a hF
        refine s_pu hF (pu_assign rfl) rfl ?_; clear hF; intro a hF
        refine c_nil ?_
        refine n_then ?_
        refine c_ret (r_then (r_block (r_then (r_then (r_block (r_then ?_))))))
        exact f_ret hF rfl (.cell rfl (o_lvA (i := 0) hS rfl agg62) (.tmp rfl (.tmp rfl (.nil)))) (hS.retv (by rw [← htx, tx_end (by omega) hc18 (by omega)]; rfl))
    · try simp only [decide_eq_true_eq, decide_eq_false_iff_not, Bool.not_eq_true', Bool.not_eq_false', Bool.not_eq_eq_eq_not, Bool.not_true, Bool.not_false] at hc18
      refine c_skip ?_
      refine n_then ?_
      refine c_seq ?_
      refine c_seq ?_
      refine c_reg ?_
      refine s_pu hF (pu_move rfl) rfl ?_; clear hF; intro a hF
      refine s_pu hF (pu_ieq rfl rfl) rfl ?_; clear hF; intro a hF
      refine c_nil ?_
      refine n_then ?_
      refine c_if hF rfl (fun hc28 => ?_) (fun hc28 => ?_)
      · try simp only [decide_eq_true_eq, decide_eq_false_iff_not, Bool.not_eq_true', Bool.not_eq_false', Bool.not_eq_eq_eq_not, Bool.not_true, Bool.not_false] at hc28
        refine c_seq ?_
        refine c_reg ?_
        refine s_pu hF (pu_move rfl) rfl ?_; clear hF; intro a hF
        refine s_pu hF (pu_add rfl rfl (by first | exact wrap_i64 (by omega) (by omega) | rfl)) rfl ?_; clear hF; intro a hF
        refine s_pu hF (pu_assign rfl) rfl ?_; clear hF; intro a hF
        rw [show ((i : Int) + 1) = ((i + 1 : Nat) : Int) by omega] at hF
        refine c_nil ?_
        refine n_then ?_
        refine c_seq ?_
        refine c_reg ?_
        refine s_pu hF (pu_move rfl) rfl ?_; clear hF; intro a hF
        refine s_pu hF (pu_move rfl) rfl ?_; clear hF; intro a hF
        refine s_pu hF (pu_len_s tyS9 rfl rfl) rfl ?_; clear hF; intro a hF
        refine s_pu hF (pu_ieq rfl rfl) rfl ?_; clear hF; intro a hF
        refine s_pu hF (pu_move rfl) rfl ?_; clear hF; intro a hF
        refine w_split hF ⟨_, _, (rfl : _[4]? = some _), rfl, rfl⟩ (fun hg12_4 => ?_) (fun hg12_4 => ?_)
        · have hg12_4p := hg12_4
          try simp only [decide_eq_true_eq, decide_eq_false_iff_not, Bool.not_eq_true', Bool.not_eq_false', Bool.not_eq_eq_eq_not, Bool.not_true, Bool.not_false] at hg12_4p
          refine g_no hF ⟨_, _, (rfl : _[4]? = some _), rfl, rfl⟩ hg12_4 rfl ?_; clear hF; intro a hF
          refine g_no hF ⟨_, _, (rfl : _[4]? = some _), rfl, rfl⟩ hg12_4 rfl ?_; clear hF; intro a hF
          refine g_no hF ⟨_, _, (rfl : _[4]? = some _), rfl, rfl⟩ hg12_4 rfl ?_; clear hF; intro a hF
          refine g_no hF ⟨_, _, (rfl : _[4]? = some _), rfl, rfl⟩ hg12_4 rfl ?_; clear hF; intro a hF
          refine g_no hF ⟨_, _, (rfl : _[4]? = some _), rfl, rfl⟩ hg12_4 rfl ?_; clear hF; intro a hF
          refine g_noU hF ⟨_, _, (rfl : _[9]? = some _), rfl, rfl⟩ rfl ?_; clear hF; intro a hF
          refine g_noU hF ⟨_, _, (rfl : _[9]? = some _), rfl, rfl⟩ rfl ?_; clear hF; intro a hF
          refine g_noU hF ⟨_, _, (rfl : _[9]? = some _), rfl, rfl⟩ rfl ?_; clear hF; intro a hF
          refine g_noU hF ⟨_, _, (rfl : _[9]? = some _), rfl, rfl⟩ rfl ?_; clear hF; intro a hF
          refine g_no hF ⟨_, _, (rfl : _[4]? = some _), rfl, rfl⟩ hg12_4 rfl ?_; clear hF; intro a hF
          refine s_pu hF (pu_pick_t rfl hg12_4 rfl) rfl ?_; clear hF; intro a hF
          refine c_nil ?_
          refine n_then ?_
          refine c_ift hF rfl rfl ?_
          refine c_seq ?_
          refine c_reg ?_
          refine s_pu hF (pu_build_st (cs := tokC t0) strb62 rfl rfl) rfl ?_; clear hF; intro a hF
          refine s_store (i := 0) (new := tokC t0) hF hS rfl rfl rfl rfl sz62 rfl (by simp [tokC]) ?_; clear hS hF; intro w a hS hF
          rw [spl_all (by simp [tokC])] at hS
          refine s_pu hF (pu_assign rfl) rfl ?_; clear hF; intro a hF
          refine s_pu hF (pu_assign rfl) rfl ?_; clear hF; intro a hF
          refine c_nil ?_
          refine n_then ?_
          refine c_ret (r_then (r_block (r_then (r_then (r_block (r_then ?_))))))
          exact f_ret hF rfl (.cell rfl (o_lvA (i := 0) hS rfl agg62) (.tmp rfl (.tmp rfl (.nil)))) (hS.retv (by rw [← htx, tx_bad (by omega) hc18 hc28 (by first | (left; omega) | (right; exact ⟨hg12_9p, hc46⟩))]; rfl))
        · have hg12_4p := hg12_4
          try simp only [decide_eq_true_eq, decide_eq_false_iff_not, Bool.not_eq_true', Bool.not_eq_false', Bool.not_eq_eq_eq_not, Bool.not_true, Bool.not_false] at hg12_4p
          refine g_pu hF ⟨_, _, (rfl : _[4]? = some _), rfl, rfl⟩ hg12_4 (pu_move rfl) rfl ?_; clear hF; intro a hF
          refine g_pu hF ⟨_, _, (rfl : _[4]? = some _), rfl, rfl⟩ hg12_4 (pu_move rfl) rfl ?_; clear hF; intro a hF
          refine g_pu hF ⟨_, _, (rfl : _[4]? = some _), rfl, rfl⟩ hg12_4 (pu_idxn tyS9 rfl rfl rfl (by omega)) rfl ?_; clear hF; intro a hF
          refine g_pu hF ⟨_, _, (rfl : _[4]? = some _), rfl, rfl⟩ hg12_4 (pu_ine rfl rfl) rfl ?_; clear hF; intro a hF
          refine g_pu hF ⟨_, _, (rfl : _[4]? = some _), rfl, rfl⟩ hg12_4 (pu_move rfl) rfl ?_; clear hF; intro a hF
          refine w_split hF ⟨_, _, (rfl : _[9]? = some _), rfl, rfl⟩ (fun hg12_9 => ?_) (fun hg12_9 => ?_)
          · have hg12_9p := hg12_9
            try simp only [decide_eq_true_eq, decide_eq_false_iff_not, Bool.not_eq_true', Bool.not_eq_false', Bool.not_eq_eq_eq_not, Bool.not_true, Bool.not_false] at hg12_9p
            refine g_pu hF ⟨_, _, (rfl : _[9]? = some _), rfl, rfl⟩ hg12_9 (pu_move rfl) rfl ?_; clear hF; intro a hF
            refine g_pu hF ⟨_, _, (rfl : _[9]? = some _), rfl, rfl⟩ hg12_9 (pu_move rfl) rfl ?_; clear hF; intro a hF
            refine g_pu hF ⟨_, _, (rfl : _[9]? = some _), rfl, rfl⟩ hg12_9 (pu_idxn tyS9 rfl rfl rfl (by omega)) rfl ?_; clear hF; intro a hF
            refine g_pu hF ⟨_, _, (rfl : _[9]? = some _), rfl, rfl⟩ hg12_9 (pu_ine rfl rfl) rfl ?_; clear hF; intro a hF
            refine g_pu hF ⟨_, _, (rfl : _[4]? = some _), rfl, rfl⟩ hg12_4 (pu_pick_t rfl hg12_9 rfl) rfl ?_; clear hF; intro a hF
            refine s_pu hF (pu_pick_f rfl hg12_4 rfl) rfl ?_; clear hF; intro a hF
            refine c_nil ?_
            refine n_then ?_
            refine c_if hF rfl (fun hc46 => ?_) (fun hc46 => ?_)
            · try simp only [decide_eq_true_eq, decide_eq_false_iff_not, Bool.not_eq_true', Bool.not_eq_false', Bool.not_eq_eq_eq_not, Bool.not_true, Bool.not_false] at hc46
              refine c_seq ?_
              refine c_reg ?_
              refine s_pu hF (pu_build_st (cs := tokC t0) strb62 rfl rfl) rfl ?_; clear hF; intro a hF
              refine s_store (i := 0) (new := tokC t0) hF hS rfl rfl rfl rfl sz62 rfl (by simp [tokC]) ?_; clear hS hF; intro w a hS hF
              rw [spl_all (by simp [tokC])] at hS
              refine s_pu hF (pu_assign rfl) rfl ?_; clear hF; intro a hF
              refine s_pu hF (pu_assign rfl) rfl ?_; clear hF; intro a hF
              refine c_nil ?_
              refine n_then ?_
              refine c_ret (r_then (r_block (r_then (r_then (r_block (r_then ?_))))))
              exact f_ret hF rfl (.cell rfl (o_lvA (i := 0) hS rfl agg62) (.tmp rfl (.tmp rfl (.nil)))) (hS.retv (by rw [← htx, tx_bad (by omega) hc18 hc28 (by first | (left; omega) | (right; exact ⟨hg12_9p, hc46⟩))]; rfl))
            · try simp only [decide_eq_true_eq, decide_eq_false_iff_not, Bool.not_eq_true', Bool.not_eq_false', Bool.not_eq_eq_eq_not, Bool.not_true, Bool.not_false] at hc46
              refine c_skip ?_
              refine n_then ?_
              refine c_seq ?_
              refine c_seq ?_
              refine c_reg ?_
              refine s_pu hF (pu_move rfl) rfl ?_; clear hF; intro a hF
              refine s_pu hF (pu_move rfl) rfl ?_; clear hF; intro a hF
              refine s_pu hF (pu_idxn tyS9 rfl rfl rfl (by omega)) rfl ?_; clear hF; intro a hF
              refine s_pu hF (pu_ilt rfl rfl) rfl ?_; clear hF; intro a hF
              refine s_pu hF (pu_move rfl) rfl ?_; clear hF; intro a hF
              refine w_split hF ⟨_, _, (rfl : _[4]? = some _), rfl, rfl⟩ (fun hg14_4 => ?_) (fun hg14_4 => ?_)
              · have hg14_4p := hg14_4
                try simp only [decide_eq_true_eq, decide_eq_false_iff_not, Bool.not_eq_true', Bool.not_eq_false', Bool.not_eq_eq_eq_not, Bool.not_true, Bool.not_false] at hg14_4p
                refine g_no hF ⟨_, _, (rfl : _[4]? = some _), rfl, rfl⟩ hg14_4 rfl ?_; clear hF; intro a hF
                refine g_no hF ⟨_, _, (rfl : _[4]? = some _), rfl, rfl⟩ hg14_4 rfl ?_; clear hF; intro a hF
                refine g_no hF ⟨_, _, (rfl : _[4]? = some _), rfl, rfl⟩ hg14_4 rfl ?_; clear hF; intro a hF
                refine g_no hF ⟨_, _, (rfl : _[4]? = some _), rfl, rfl⟩ hg14_4 rfl ?_; clear hF; intro a hF
                refine s_pu hF (pu_pick_t rfl hg14_4 rfl) rfl ?_; clear hF; intro a hF
                refine c_nil ?_
                refine n_then ?_
                refine c_ift hF rfl rfl ?_
                refine c_seq ?_
                refine c_reg ?_
                refine s_pu hF (pu_build_st (cs := tokC t0) strb62 rfl rfl) rfl ?_; clear hF; intro a hF
                refine s_store (i := 0) (new := tokC t0) hF hS rfl rfl rfl rfl sz62 rfl (by simp [tokC]) ?_; clear hS hF; intro w a hS hF
                rw [spl_all (by simp [tokC])] at hS
                refine s_pu hF (pu_assign rfl) rfl ?_; clear hF; intro a hF
                refine s_pu hF (pu_assign rfl) rfl ?_; clear hF; intro a hF
                refine c_nil ?_
                refine n_then ?_
                refine c_ret (r_then (r_block (r_then (r_then (r_block (r_then ?_))))))
                exact f_ret hF rfl (.cell rfl (o_lvA (i := 0) hS rfl agg62) (.tmp rfl (.tmp rfl (.nil)))) (hS.retv (by first | (exfalso; omega) | (rw [← htx, tx_ctl (by omega) hc18 hc28 (by first | (left; exact hg14_4p) | (right; exact hc57))]; rfl)))
              · have hg14_4p := hg14_4
                try simp only [decide_eq_true_eq, decide_eq_false_iff_not, Bool.not_eq_true', Bool.not_eq_false', Bool.not_eq_eq_eq_not, Bool.not_true, Bool.not_false] at hg14_4p
                refine g_pu hF ⟨_, _, (rfl : _[4]? = some _), rfl, rfl⟩ hg14_4 (pu_move rfl) rfl ?_; clear hF; intro a hF
                refine g_pu hF ⟨_, _, (rfl : _[4]? = some _), rfl, rfl⟩ hg14_4 (pu_move rfl) rfl ?_; clear hF; intro a hF
                refine g_pu hF ⟨_, _, (rfl : _[4]? = some _), rfl, rfl⟩ hg14_4 (pu_idxn tyS9 rfl rfl rfl (by omega)) rfl ?_; clear hF; intro a hF
                refine g_pu hF ⟨_, _, (rfl : _[4]? = some _), rfl, rfl⟩ hg14_4 (pu_igt rfl rfl) rfl ?_; clear hF; intro a hF
                refine s_pu hF (pu_pick_f rfl hg14_4 rfl) rfl ?_; clear hF; intro a hF
                refine c_nil ?_
                refine n_then ?_
                refine c_if hF rfl (fun hc57 => ?_) (fun hc57 => ?_)
                · try simp only [decide_eq_true_eq, decide_eq_false_iff_not, Bool.not_eq_true', Bool.not_eq_false', Bool.not_eq_eq_eq_not, Bool.not_true, Bool.not_false] at hc57
                  refine c_seq ?_
                  refine c_reg ?_
                  refine s_pu hF (pu_build_st (cs := tokC t0) strb62 rfl rfl) rfl ?_; clear hF; intro a hF
                  refine s_store (i := 0) (new := tokC t0) hF hS rfl rfl rfl rfl sz62 rfl (by simp [tokC]) ?_; clear hS hF; intro w a hS hF
                  rw [spl_all (by simp [tokC])] at hS
                  refine s_pu hF (pu_assign rfl) rfl ?_; clear hF; intro a hF
                  refine s_pu hF (pu_assign rfl) rfl ?_; clear hF; intro a hF
                  refine c_nil ?_
                  refine n_then ?_
                  refine c_ret (r_then (r_block (r_then (r_then (r_block (r_then ?_))))))
                  exact f_ret hF rfl (.cell rfl (o_lvA (i := 0) hS rfl agg62) (.tmp rfl (.tmp rfl (.nil)))) (hS.retv (by first | (exfalso; omega) | (rw [← htx, tx_ctl (by omega) hc18 hc28 (by first | (left; exact hg14_4p) | (right; exact hc57))]; rfl)))
                · try simp only [decide_eq_true_eq, decide_eq_false_iff_not, Bool.not_eq_true', Bool.not_eq_false', Bool.not_eq_eq_eq_not, Bool.not_true, Bool.not_false] at hc57
                  refine c_skip ?_
                  refine n_then ?_
                  refine c_reg ?_
                  refine s_pu hF (pu_move rfl) rfl ?_; clear hF; intro a hF
                  refine s_pu hF (pu_move rfl) rfl ?_; clear hF; intro a hF
                  refine s_pu hF (pu_move rfl) rfl ?_; clear hF; intro a hF
                  refine s_pu hF (pu_move rfl) rfl ?_; clear hF; intro a hF
                  refine s_pu hF (pu_add rfl rfl (by first | exact wrap_i64 (by omega) (by omega) | rfl)) rfl ?_; clear hF; intro a hF
                  refine s_pu hF (pu_fromto tyS9 rfl rfl rfl (by omega) (by omega) (by omega)) rfl ?_; clear hF; intro a hF
                  refine s_pu hF (pu_cat rfl rfl (by simp only [List.length_take, List.length_drop]; omega)) rfl ?_; clear hF; intro a hF
                  refine s_pu hF (pu_assign rfl) rfl ?_; clear hF; intro a hF
                  first | rw [slice1 s i (by omega) (a := (i : Int)) (b := (i : Int) + 1) rfl rfl] at hF | rw [slice1 s (i + 1) (by omega) (a := ((i + 1 : Nat) : Int)) (b := ((i + 1 : Nat) : Int) + 1) rfl rfl] at hF
                  refine c_nil ?_
                  refine n_block ?_
                  refine n_then ?_
                  refine c_reg ?_
                  refine s_pu hF (pu_move rfl) rfl ?_; clear hF; intro a hF
                  refine s_pu hF (pu_add rfl rfl (by first | exact wrap_i64 (by omega) (by omega) | rfl)) rfl ?_; clear hF; intro a hF
                  refine s_pu hF (pu_assign rfl) rfl ?_; clear hF; intro a hF
                  first | rw [show ((i : Int) + 1) = ((i + 1 : Nat) : Int) by omega] at hF | rw [show (((i + 1 : Nat) : Int) + 1) = ((i + 2 : Nat) : Int) by omega] at hF
                  refine c_nil ?_
                  first | exact ⟨(i + 2, b ++ [s.getD (i + 1) 0]), ⟨(tx_esc (by omega) hc18 hc28 (by rintro (h | ⟨h1, h2⟩) <;> first | omega | exact h1 hg12_9p | exact h2 hc46)).symm.trans htx, by dsimp only; omega, by dsimp only; omega, by simp; omega, hF.pick (.cons (k := 5) rfl <| .cons (k := 6) rfl <| .cons (k := 0) rfl <| .cons (k := 2) rfl <| .nil), hS⟩, by dsimp only; omega⟩ | exact ⟨(i + 1, b ++ [s.getD i 0]), ⟨(tx_ch (by omega) hc18 hc28 (by unfold bt; rintro (h | h) <;> omega)).symm.trans htx, by dsimp only; omega, by dsimp only; omega, by simp; omega, hF.pick (.cons (k := 5) rfl <| .cons (k := 6) rfl <| .cons (k := 0) rfl <| .cons (k := 2) rfl <| .nil), hS⟩, by dsimp only; omega⟩
          · have hg12_9p := hg12_9
            try simp only [decide_eq_true_eq, decide_eq_false_iff_not, Bool.not_eq_true', Bool.not_eq_false', Bool.not_eq_eq_eq_not, Bool.not_true, Bool.not_false] at hg12_9p
            refine g_no hF ⟨_, _, (rfl : _[9]? = some _), rfl, rfl⟩ hg12_9 rfl ?_; clear hF; intro a hF
            refine g_no hF ⟨_, _, (rfl : _[9]? = some _), rfl, rfl⟩ hg12_9 rfl ?_; clear hF; intro a hF
            refine g_no hF ⟨_, _, (rfl : _[9]? = some _), rfl, rfl⟩ hg12_9 rfl ?_; clear hF; intro a hF
            refine g_no hF ⟨_, _, (rfl : _[9]? = some _), rfl, rfl⟩ hg12_9 rfl ?_; clear hF; intro a hF
            refine g_pu hF ⟨_, _, (rfl : _[4]? = some _), rfl, rfl⟩ hg12_4 (pu_pick_f rfl hg12_9 rfl) rfl ?_; clear hF; intro a hF
            refine s_pu hF (pu_pick_f rfl hg12_4 rfl) rfl ?_; clear hF; intro a hF
            refine c_nil ?_
            refine n_then ?_
            refine c_iff hF rfl rfl ?_
            refine c_skip ?_
            refine n_then ?_
            refine c_seq ?_
            refine c_seq ?_
            refine c_reg ?_
            refine s_pu hF (pu_move rfl) rfl ?_; clear hF; intro a hF
            refine s_pu hF (pu_move rfl) rfl ?_; clear hF; intro a hF
            refine s_pu hF (pu_idxn tyS9 rfl rfl rfl (by omega)) rfl ?_; clear hF; intro a hF
            refine s_pu hF (pu_ilt rfl rfl) rfl ?_; clear hF; intro a hF
            refine s_pu hF (pu_move rfl) rfl ?_; clear hF; intro a hF
            refine w_split hF ⟨_, _, (rfl : _[4]? = some _), rfl, rfl⟩ (fun hg14_4 => ?_) (fun hg14_4 => ?_)
            · have hg14_4p := hg14_4
              try simp only [decide_eq_true_eq, decide_eq_false_iff_not, Bool.not_eq_true', Bool.not_eq_false', Bool.not_eq_eq_eq_not, Bool.not_true, Bool.not_false] at hg14_4p
              refine g_no hF ⟨_, _, (rfl : _[4]? = some _), rfl, rfl⟩ hg14_4 rfl ?_; clear hF; intro a hF
              refine g_no hF ⟨_, _, (rfl : _[4]? = some _), rfl, rfl⟩ hg14_4 rfl ?_; clear hF; intro a hF
              refine g_no hF ⟨_, _, (rfl : _[4]? = some _), rfl, rfl⟩ hg14_4 rfl ?_; clear hF; intro a hF
              refine g_no hF ⟨_, _, (rfl : _[4]? = some _), rfl, rfl⟩ hg14_4 rfl ?_; clear hF; intro a hF
              refine s_pu hF (pu_pick_t rfl hg14_4 rfl) rfl ?_; clear hF; intro a hF
              refine c_nil ?_
              refine n_then ?_
              refine c_ift hF rfl rfl ?_
              refine c_seq ?_
              refine c_reg ?_
              refine s_pu hF (pu_build_st (cs := tokC t0) strb62 rfl rfl) rfl ?_; clear hF; intro a hF
              refine s_store (i := 0) (new := tokC t0) hF hS rfl rfl rfl rfl sz62 rfl (by simp [tokC]) ?_; clear hS hF; intro w a hS hF
              rw [spl_all (by simp [tokC])] at hS
              refine s_pu hF (pu_assign rfl) rfl ?_; clear hF; intro a hF
              refine s_pu hF (pu_assign rfl) rfl ?_; clear hF; intro a hF
              refine c_nil ?_
              refine n_then ?_
              refine c_ret (r_then (r_block (r_then (r_then (r_block (r_then ?_))))))
              exact f_ret hF rfl (.cell rfl (o_lvA (i := 0) hS rfl agg62) (.tmp rfl (.tmp rfl (.nil)))) (hS.retv (by first | (exfalso; omega) | (rw [← htx, tx_ctl (by omega) hc18 hc28 (by first | (left; exact hg14_4p) | (right; exact hc57))]; rfl)))
            · have hg14_4p := hg14_4
              try simp only [decide_eq_true_eq, decide_eq_false_iff_not, Bool.not_eq_true', Bool.not_eq_false', Bool.not_eq_eq_eq_not, Bool.not_true, Bool.not_false] at hg14_4p
              refine g_pu hF ⟨_, _, (rfl : _[4]? = some _), rfl, rfl⟩ hg14_4 (pu_move rfl) rfl ?_; clear hF; intro a hF
              refine g_pu hF ⟨_, _, (rfl : _[4]? = some _), rfl, rfl⟩ hg14_4 (pu_move rfl) rfl ?_; clear hF; intro a hF
              refine g_pu hF ⟨_, _, (rfl : _[4]? = some _), rfl, rfl⟩ hg14_4 (pu_idxn tyS9 rfl rfl rfl (by omega)) rfl ?_; clear hF; intro a hF
              refine g_pu hF ⟨_, _, (rfl : _[4]? = some _), rfl, rfl⟩ hg14_4 (pu_igt rfl rfl) rfl ?_; clear hF; intro a hF
              refine s_pu hF (pu_pick_f rfl hg14_4 rfl) rfl ?_; clear hF; intro a hF
              refine c_nil ?_
              refine n_then ?_
              refine c_if hF rfl (fun hc57 => ?_) (fun hc57 => ?_)
              · try simp only [decide_eq_true_eq, decide_eq_false_iff_not, Bool.not_eq_true', Bool.not_eq_false', Bool.not_eq_eq_eq_not, Bool.not_true, Bool.not_false] at hc57
                refine c_seq ?_
                refine c_reg ?_
                refine s_pu hF (pu_build_st (cs := tokC t0) strb62 rfl rfl) rfl ?_; clear hF; intro a hF
                refine s_store (i := 0) (new := tokC t0) hF hS rfl rfl rfl rfl sz62 rfl (by simp [tokC]) ?_; clear hS hF; intro w a hS hF
                rw [spl_all (by simp [tokC])] at hS
                refine s_pu hF (pu_assign rfl) rfl ?_; clear hF; intro a hF
                refine s_pu hF (pu_assign rfl) rfl ?_; clear hF; intro a hF
                refine c_nil ?_
                refine n_then ?_
                refine c_ret (r_then (r_block (r_then (r_then (r_block (r_then ?_))))))
                exact f_ret hF rfl (.cell rfl (o_lvA (i := 0) hS rfl agg62) (.tmp rfl (.tmp rfl (.nil)))) (hS.retv (by first | (exfalso; omega) | (rw [← htx, tx_ctl (by omega) hc18 hc28 (by first | (left; exact hg14_4p) | (right; exact hc57))]; rfl)))
              · try simp only [decide_eq_true_eq, decide_eq_false_iff_not, Bool.not_eq_true', Bool.not_eq_false', Bool.not_eq_eq_eq_not, Bool.not_true, Bool.not_false] at hc57
                refine c_skip ?_
                refine n_then ?_
                refine c_reg ?_
                refine s_pu hF (pu_move rfl) rfl ?_; clear hF; intro a hF
                refine s_pu hF (pu_move rfl) rfl ?_; clear hF; intro a hF
                refine s_pu hF (pu_move rfl) rfl ?_; clear hF; intro a hF
                refine s_pu hF (pu_move rfl) rfl ?_; clear hF; intro a hF
                refine s_pu hF (pu_add rfl rfl (by first | exact wrap_i64 (by omega) (by omega) | rfl)) rfl ?_; clear hF; intro a hF
                refine s_pu hF (pu_fromto tyS9 rfl rfl rfl (by omega) (by omega) (by omega)) rfl ?_; clear hF; intro a hF
                refine s_pu hF (pu_cat rfl rfl (by simp only [List.length_take, List.length_drop]; omega)) rfl ?_; clear hF; intro a hF
                refine s_pu hF (pu_assign rfl) rfl ?_; clear hF; intro a hF
                first | rw [slice1 s i (by omega) (a := (i : Int)) (b := (i : Int) + 1) rfl rfl] at hF | rw [slice1 s (i + 1) (by omega) (a := ((i + 1 : Nat) : Int)) (b := ((i + 1 : Nat) : Int) + 1) rfl rfl] at hF
                refine c_nil ?_
                refine n_block ?_
                refine n_then ?_
                refine c_reg ?_
                refine s_pu hF (pu_move rfl) rfl ?_; clear hF; intro a hF
                refine s_pu hF (pu_add rfl rfl (by first | exact wrap_i64 (by omega) (by omega) | rfl)) rfl ?_; clear hF; intro a hF
                refine s_pu hF (pu_assign rfl) rfl ?_; clear hF; intro a hF
                first | rw [show ((i : Int) + 1) = ((i + 1 : Nat) : Int) by omega] at hF | rw [show (((i + 1 : Nat) : Int) + 1) = ((i + 2 : Nat) : Int) by omega] at hF
                refine c_nil ?_
                first | exact ⟨(i + 2, b ++ [s.getD (i + 1) 0]), ⟨(tx_esc (by omega) hc18 hc28 (by rintro (h | ⟨h1, h2⟩) <;> first | omega | exact h1 hg12_9p | exact h2 hc46)).symm.trans htx, by dsimp only; omega, by dsimp only; omega, by simp; omega, hF.pick (.cons (k := 5) rfl <| .cons (k := 6) rfl <| .cons (k := 0) rfl <| .cons (k := 2) rfl <| .nil), hS⟩, by dsimp only; omega⟩ | exact ⟨(i + 1, b ++ [s.getD i 0]), ⟨(tx_ch (by omega) hc18 hc28 (by unfold bt; rintro (h | h) <;> omega)).symm.trans htx, by dsimp only; omega, by dsimp only; omega, by simp; omega, hF.pick (.cons (k := 5) rfl <| .cons (k := 6) rfl <| .cons (k := 0) rfl <| .cons (k := 2) rfl <| .nil), hS⟩, by dsimp only; omega⟩
      · try simp only [decide_eq_true_eq, decide_eq_false_iff_not, Bool.not_eq_true', Bool.not_eq_false', Bool.not_eq_eq_eq_not, Bool.not_true, Bool.not_false] at hc28
        refine c_skip ?_
        refine n_then ?_
        refine c_seq ?_
        refine c_seq ?_
        refine c_reg ?_
        refine s_pu hF (pu_move rfl) rfl ?_; clear hF; intro a hF
        refine s_pu hF (pu_move rfl) rfl ?_; clear hF; intro a hF
        refine s_pu hF (pu_idxn tyS9 rfl rfl rfl (by omega)) rfl ?_; clear hF; intro a hF
        refine s_pu hF (pu_ilt rfl rfl) rfl ?_; clear hF; intro a hF
        refine s_pu hF (pu_move rfl) rfl ?_; clear hF; intro a hF
        refine w_split hF ⟨_, _, (rfl : _[4]? = some _), rfl, rfl⟩ (fun hg14_4 => ?_) (fun hg14_4 => ?_)
        · have hg14_4p := hg14_4
          try simp only [decide_eq_true_eq, decide_eq_false_iff_not, Bool.not_eq_true', Bool.not_eq_false', Bool.not_eq_eq_eq_not, Bool.not_true, Bool.not_false] at hg14_4p
          refine g_no hF ⟨_, _, (rfl : _[4]? = some _), rfl, rfl⟩ hg14_4 rfl ?_; clear hF; intro a hF
          refine g_no hF ⟨_, _, (rfl : _[4]? = some _), rfl, rfl⟩ hg14_4 rfl ?_; clear hF; intro a hF
          refine g_no hF ⟨_, _, (rfl : _[4]? = some _), rfl, rfl⟩ hg14_4 rfl ?_; clear hF; intro a hF
          refine g_no hF ⟨_, _, (rfl : _[4]? = some _), rfl, rfl⟩ hg14_4 rfl ?_; clear hF; intro a hF
          refine s_pu hF (pu_pick_t rfl hg14_4 rfl) rfl ?_; clear hF; intro a hF
          refine c_nil ?_
          refine n_then ?_
          refine c_ift hF rfl rfl ?_
          refine c_seq ?_
          refine c_reg ?_
          refine s_pu hF (pu_build_st (cs := tokC t0) strb62 rfl rfl) rfl ?_; clear hF; intro a hF
          refine s_store (i := 0) (new := tokC t0) hF hS rfl rfl rfl rfl sz62 rfl (by simp [tokC]) ?_; clear hS hF; intro w a hS hF
          rw [spl_all (by simp [tokC])] at hS
          refine s_pu hF (pu_assign rfl) rfl ?_; clear hF; intro a hF
          refine s_pu hF (pu_assign rfl) rfl ?_; clear hF; intro a hF
          refine c_nil ?_
          refine n_then ?_
          refine c_ret (r_then (r_block (r_then (r_then (r_block (r_then ?_))))))
          exact f_ret hF rfl (.cell rfl (o_lvA (i := 0) hS rfl agg62) (.tmp rfl (.tmp rfl (.nil)))) (hS.retv (by first | (exfalso; omega) | (rw [← htx, tx_ctl (by omega) hc18 hc28 (by first | (left; exact hg14_4p) | (right; exact hc57))]; rfl)))
        · have hg14_4p := hg14_4
          try simp only [decide_eq_true_eq, decide_eq_false_iff_not, Bool.not_eq_true', Bool.not_eq_false', Bool.not_eq_eq_eq_not, Bool.not_true, Bool.not_false] at hg14_4p
          refine g_pu hF ⟨_, _, (rfl : _[4]? = some _), rfl, rfl⟩ hg14_4 (pu_move rfl) rfl ?_; clear hF; intro a hF
          refine g_pu hF ⟨_, _, (rfl : _[4]? = some _), rfl, rfl⟩ hg14_4 (pu_move rfl) rfl ?_; clear hF; intro a hF
          refine g_pu hF ⟨_, _, (rfl : _[4]? = some _), rfl, rfl⟩ hg14_4 (pu_idxn tyS9 rfl rfl rfl (by omega)) rfl ?_; clear hF; intro a hF
          refine g_pu hF ⟨_, _, (rfl : _[4]? = some _), rfl, rfl⟩ hg14_4 (pu_igt rfl rfl) rfl ?_; clear hF; intro a hF
          refine s_pu hF (pu_pick_f rfl hg14_4 rfl) rfl ?_; clear hF; intro a hF
          refine c_nil ?_
          refine n_then ?_
          refine c_if hF rfl (fun hc57 => ?_) (fun hc57 => ?_)
          · try simp only [decide_eq_true_eq, decide_eq_false_iff_not, Bool.not_eq_true', Bool.not_eq_false', Bool.not_eq_eq_eq_not, Bool.not_true, Bool.not_false] at hc57
            refine c_seq ?_
            refine c_reg ?_
            refine s_pu hF (pu_build_st (cs := tokC t0) strb62 rfl rfl) rfl ?_; clear hF; intro a hF
            refine s_store (i := 0) (new := tokC t0) hF hS rfl rfl rfl rfl sz62 rfl (by simp [tokC]) ?_; clear hS hF; intro w a hS hF
            rw [spl_all (by simp [tokC])] at hS
            refine s_pu hF (pu_assign rfl) rfl ?_; clear hF; intro a hF
            refine s_pu hF (pu_assign rfl) rfl ?_; clear hF; intro a hF
            refine c_nil ?_
            refine n_then ?_
            refine c_ret (r_then (r_block (r_then (r_then (r_block (r_then ?_))))))
            exact f_ret hF rfl (.cell rfl (o_lvA (i := 0) hS rfl agg62) (.tmp rfl (.tmp rfl (.nil)))) (hS.retv (by first | (exfalso; omega) | (rw [← htx, tx_ctl (by omega) hc18 hc28 (by first | (left; exact hg14_4p) | (right; exact hc57))]; rfl)))
          · try simp only [decide_eq_true_eq, decide_eq_false_iff_not, Bool.not_eq_true', Bool.not_eq_false', Bool.not_eq_eq_eq_not, Bool.not_true, Bool.not_false] at hc57
            refine c_skip ?_
            refine n_then ?_
            refine c_reg ?_
            refine s_pu hF (pu_move rfl) rfl ?_; clear hF; intro a hF
            refine s_pu hF (pu_move rfl) rfl ?_; clear hF; intro a hF
            refine s_pu hF (pu_move rfl) rfl ?_; clear hF; intro a hF
            refine s_pu hF (pu_move rfl) rfl ?_; clear hF; intro a hF
            refine s_pu hF (pu_add rfl rfl (by first | exact wrap_i64 (by omega) (by omega) | rfl)) rfl ?_; clear hF; intro a hF
            refine s_pu hF (pu_fromto tyS9 rfl rfl rfl (by omega) (by omega) (by omega)) rfl ?_; clear hF; intro a hF
            refine s_pu hF (pu_cat rfl rfl (by simp only [List.length_take, List.length_drop]; omega)) rfl ?_; clear hF; intro a hF
            refine s_pu hF (pu_assign rfl) rfl ?_; clear hF; intro a hF
            first | rw [slice1 s i (by omega) (a := (i : Int)) (b := (i : Int) + 1) rfl rfl] at hF | rw [slice1 s (i + 1) (by omega) (a := ((i + 1 : Nat) : Int)) (b := ((i + 1 : Nat) : Int) + 1) rfl rfl] at hF
            refine c_nil ?_
            refine n_block ?_
            refine n_then ?_
            refine c_reg ?_
            refine s_pu hF (pu_move rfl) rfl ?_; clear hF; intro a hF
            refine s_pu hF (pu_add rfl rfl (by first | exact wrap_i64 (by omega) (by omega) | rfl)) rfl ?_; clear hF; intro a hF
            refine s_pu hF (pu_assign rfl) rfl ?_; clear hF; intro a hF
            first | rw [show ((i : Int) + 1) = ((i + 1 : Nat) : Int) by omega] at hF | rw [show (((i + 1 : Nat) : Int) + 1) = ((i + 2 : Nat) : Int) by omega] at hF
            refine c_nil ?_
            first | exact ⟨(i + 2, b ++ [s.getD (i + 1) 0]), ⟨(tx_esc (by omega) hc18 hc28 (by rintro (h | ⟨h1, h2⟩) <;> first | omega | exact h1 hg12_9p | exact h2 hc46)).symm.trans htx, by dsimp only; omega, by dsimp only; omega, by simp; omega, hF.pick (.cons (k := 5) rfl <| .cons (k := 6) rfl <| .cons (k := 0) rfl <| .cons (k := 2) rfl <| .nil), hS⟩, by dsimp only; omega⟩ | exact ⟨(i + 1, b ++ [s.getD i 0]), ⟨(tx_ch (by omega) hc18 hc28 (by unfold bt; rintro (h | h) <;> omega)).symm.trans htx, by dsimp only; omega, by dsimp only; omega, by simp; omega, hF.pick (.cons (k := 5) rfl <| .cons (k := 6) rfl <| .cons (k := 0) rfl <| .cons (k := 2) rfl <| .nil), hS⟩, by dsimp only; omega⟩
  · try simp only [decide_eq_true_eq, decide_eq_false_iff_not, Bool.not_eq_true', Bool.not_eq_false', Bool.not_eq_eq_eq_not, Bool.not_true, Bool.not_false] at hc11
    refine c_exit (x_then (x_then (x_here ?_)))
    refine n_then ?_
    refine c_seq ?_
    refine c_reg ?_
    refine s_pu hF (pu_build_st (cs := tokC t0) strb62 rfl rfl) rfl ?_; clear hF; intro a hF
    refine s_store (i := 0) (new := tokC t0) hF hS rfl rfl rfl rfl sz62 rfl (by simp [tokC]) ?_; clear hS hF; intro w a hS hF
    rw [spl_all (by simp [tokC])] at hS
    refine s_pu hF (pu_assign rfl) rfl ?_; clear hF; intro a hF
    refine s_pu hF (pu_assign rfl) rfl ?_; clear hF; intro a hF
    refine c_nil ?_
    refine n_then ?_
    refine c_ret ?_
    exact f_ret hF rfl (.cell rfl (o_lvA (i := 0) hS rfl agg62) (.tmp rfl (.tmp rfl (.nil)))) (hS.retv (by rw [← htx, tx_over (by omega)]; rfl))
set_option maxHeartbeats 1000000 in
theorem c_Rone (s : List UInt8) (hs0 : 0 < s.length) (hs : s.length ≤ 1000000) (w0 : World) (h0 : View) (hv : VLe h0 (Full w0))  : Calls Try.prog 28 #[vs s] w0 (Ret w0 h0 fun u _ => u = resB (oneS s)) := by
  refine f_enter (args := [vs s]) Try.func28 rfl Try.ntmps28 rfl fun a hF => ?_
  have hS := St.init w0 h0 hv
  refine c_seq ?_
  refine c_reg ?_
  refine s_alloc hF hS zero62 rfl ?_; clear hS hF; intro b0 w a hS hF
  refine s_pu hF (pu_assign rfl) rfl ?_; clear hF; intro a hF
  refine s_pu hF (pu_assign rfl) rfl ?_; clear hF; intro a hF
  refine c_nil ?_
  refine n_then ?_
  refine c_seq ?_
  refine c_block ?_
  refine c_seq ?_
  refine c_reg ?_
  refine s_pu hF (pu_move rfl) rfl ?_; clear hF; intro a hF
  refine s_pu hF (pu_idxn (j := 0) tyS9 rfl rfl rfl (by omega)) rfl ?_; clear hF; intro a hF
  refine s_callv hF hS ok51 rfl (c_Rletter _ _ _ hS.view) rfl ?_; clear hS hF; intro w a hS hF
  refine s_pu hF (pu_assign rfl) rfl ?_; clear hF; intro a hF
  refine c_nil ?_
  refine n_then ?_
  refine c_if hF rfl (fun hc7 => ?_) (fun hc7 => ?_)
  · try simp only [decide_eq_true_eq, decide_eq_false_iff_not, Bool.not_eq_true', Bool.not_eq_false', Bool.not_eq_eq_eq_not, Bool.not_true, Bool.not_false] at hc7
    refine c_seq ?_
    refine c_reg ?_
    refine s_pu hF (pu_move rfl) rfl ?_; clear hF; intro a hF
    refine s_callv hF hS ok52 rfl (c_Rname s hs _ _ hS.view) rfl ?_; clear hS hF; intro w a hS hF
    refine s_pu hF (pu_extract rfl rfl) rfl ?_; clear hF; intro a hF
    refine s_pu hF (pu_extract rfl rfl) rfl ?_; clear hF; intro a hF
    refine s_pu hF (pu_extract rfl rfl) rfl ?_; clear hF; intro a hF
    refine s_store (i := 0) (new := tokC (resT (nameS s))) hF hS rfl rfl rfl rfl (by exact sz62) rfl (by simp [tokC]) ?_; clear hS hF; intro w a hS hF
    rw [spl_all (by simp [tokC])] at hS
    refine s_pu hF (pu_assign rfl) rfl ?_; clear hF; intro a hF
    refine s_pu hF (pu_assign rfl) rfl ?_; clear hF; intro a hF
    refine c_nil ?_
    refine n_then ?_
    refine c_ret (r_block (r_then ?_))
    exact f_ret hF rfl (.cell rfl (o_lvA (i := 0) hS rfl agg62) (.tmp rfl (.tmp rfl (.nil)))) (hS.retv (by rw [one_let hc7]; rfl))
  · try simp only [decide_eq_true_eq, decide_eq_false_iff_not, Bool.not_eq_true', Bool.not_eq_false', Bool.not_eq_eq_eq_not, Bool.not_true, Bool.not_false] at hc7
    refine c_seq ?_
    refine c_reg ?_
    refine s_pu hF (pu_move rfl) rfl ?_; clear hF; intro a hF
    refine s_pu hF (pu_idxn (j := 0) tyS9 rfl rfl rfl (by omega)) rfl ?_; clear hF; intro a hF
    refine s_callv hF hS ok53 rfl (c_Rdigit _ _ _ hS.view) rfl ?_; clear hS hF; intro w a hS hF
    refine s_pu hF (pu_assign rfl) rfl ?_; clear hF; intro a hF
    refine c_nil ?_
    refine n_then ?_
    refine c_if hF rfl (fun hc16 => ?_) (fun hc16 => ?_)
    · try simp only [decide_eq_true_eq, decide_eq_false_iff_not, Bool.not_eq_true', Bool.not_eq_false', Bool.not_eq_eq_eq_not, Bool.not_true, Bool.not_false] at hc16
      refine c_seq ?_
      refine c_reg ?_
      refine s_pu hF (pu_move rfl) rfl ?_; clear hF; intro a hF
      refine s_callv hF hS ok54 rfl (c_Rnumber s hs0 hs _ _ hS.view) rfl ?_; clear hS hF; intro w a hS hF
      refine s_pu hF (pu_extract rfl rfl) rfl ?_; clear hF; intro a hF
      refine s_pu hF (pu_extract rfl rfl) rfl ?_; clear hF; intro a hF
      refine s_pu hF (pu_extract rfl rfl) rfl ?_; clear hF; intro a hF
      refine s_store (i := 0) (new := tokC (resT (numS s))) hF hS rfl rfl rfl rfl (by exact sz62) rfl (by simp [tokC]) ?_; clear hS hF; intro w a hS hF
      rw [spl_all (by simp [tokC])] at hS
      refine s_pu hF (pu_assign rfl) rfl ?_; clear hF; intro a hF
      refine s_pu hF (pu_assign rfl) rfl ?_; clear hF; intro a hF
      refine c_nil ?_
      refine n_then ?_
      refine c_ret (r_block (r_then ?_))
      exact f_ret hF rfl (.cell rfl (o_lvA (i := 0) hS rfl agg62) (.tmp rfl (.tmp rfl (.nil)))) (hS.retv (by rw [one_dig hc7 hc16]; rfl))
    · try simp only [decide_eq_true_eq, decide_eq_false_iff_not, Bool.not_eq_true', Bool.not_eq_false', Bool.not_eq_eq_eq_not, Bool.not_true, Bool.not_false] at hc16
      refine c_seq ?_
      refine c_reg ?_
      refine s_pu hF (pu_move rfl) rfl ?_; clear hF; intro a hF
      refine s_pu hF (pu_idxn (j := 0) tyS9 rfl rfl rfl (by omega)) rfl ?_; clear hF; intro a hF
      refine s_pu hF (pu_ieq rfl rfl) rfl ?_; clear hF; intro a hF
      refine s_pu hF (pu_assign rfl) rfl ?_; clear hF; intro a hF
      refine c_nil ?_
      refine n_then ?_
      refine c_if hF rfl (fun hc25 => ?_) (fun hc25 => ?_)
      · try simp only [decide_eq_true_eq, decide_eq_false_iff_not, Bool.not_eq_true', Bool.not_eq_false', Bool.not_eq_eq_eq_not, Bool.not_true, Bool.not_false] at hc25
        refine c_seq ?_
        refine c_reg ?_
        refine s_pu hF (pu_move rfl) rfl ?_; clear hF; intro a hF
        refine s_callv hF hS ok55 rfl (c_Rtext s hs0 hs _ _ hS.view) rfl ?_; clear hS hF; intro w a hS hF
        refine s_pu hF (pu_extract rfl rfl) rfl ?_; clear hF; intro a hF
        refine s_pu hF (pu_extract rfl rfl) rfl ?_; clear hF; intro a hF
        refine s_pu hF (pu_extract rfl rfl) rfl ?_; clear hF; intro a hF
        refine s_store (i := 0) (new := tokC (resT (textS s))) hF hS rfl rfl rfl rfl (by exact sz62) rfl (by simp [tokC]) ?_; clear hS hF; intro w a hS hF
        rw [spl_all (by simp [tokC])] at hS
        refine s_pu hF (pu_assign rfl) rfl ?_; clear hF; intro a hF
        refine s_pu hF (pu_assign rfl) rfl ?_; clear hF; intro a hF
        refine c_nil ?_
        refine n_then ?_
        refine c_ret (r_block (r_then ?_))
        exact f_ret hF rfl (.cell rfl (o_lvA (i := 0) hS rfl agg62) (.tmp rfl (.tmp rfl (.nil)))) (hS.retv (by rw [one_txt hc7 hc16 hc25]; rfl))
      · try simp only [decide_eq_true_eq, decide_eq_false_iff_not, Bool.not_eq_true', Bool.not_eq_false', Bool.not_eq_eq_eq_not, Bool.not_true, Bool.not_false] at hc25
        refine c_skip ?_
        refine n_block ?_
        refine n_then ?_
        refine c_seq ?_
        refine c_reg ?_
        refine s_callG hF ok56 rfl (c_Rmarks _ _ (VLe.refl _)) rfl ?_; clear hF; rintro _ w1 a hk1 ⟨mb, rfl, hmb⟩ hF; replace hS := hS.addRow hk1 hmb; clear hk1 hmb
        refine s_pu hF (pu_assign rfl) rfl ?_; clear hF; intro a hF
        refine c_nil ?_
        refine n_then ?_
        refine c_seq ?_
        refine c_seq ?_
        refine c_reg ?_
        refine s_pu hF (pu_assign rfl) rfl ?_; clear hF; intro a hF
        refine c_nil ?_
        refine n_then ?_
        refine c_block ?_
        refine hS.cut fun O0 F0 hO0 hF0 hS => ?_
        subst hO0
        refine hF.cut (.cons (k := 6) rfl <| .nil) (.cons (k := 0) rfl <| .cons (k := 2) rfl <| .cons (k := 5) rfl <| .nil) fun L0 hL0 hF => ?_
        refine c_loop (α := Nat) (fun k a w => k ≤ 16 ∧ markG s (marksL.drop k) = markG s marksL ∧ Fr a 74 ([(6, .val (.int .i64 (k : Nat)))] ++ L0) ∧ St w0 h0 [] w [(some mb, CellsC 9 (cellsL (marksL.map vs))), (some b0, CellsC 62 (tokC t0))] F0) (fun k => 16 - k) 0 (⟨Nat.zero_le _, rfl, hF, hS⟩) ?_
        subst hF0 hL0
        rintro k a w ⟨hk, hmk, hF, hS⟩
        refine c_seq ?_
        refine c_seq ?_
        refine c_reg ?_
        refine s_pu hF (pu_move rfl) rfl ?_; clear hF; intro a hF
        refine s_pu hF (pu_move rfl) rfl ?_; clear hF; intro a hF
        refine s_pu hF (pu_len_sl tyL54 rfl rfl) rfl ?_; clear hF; intro a hF
        refine s_pu hF (pu_ilt rfl rfl) rfl ?_; clear hF; intro a hF
        refine c_nil ?_
        refine n_then ?_
        refine c_if hF rfl (fun hc38 => ?_) (fun hc38 => ?_)
        · try simp only [decide_eq_true_eq, decide_eq_false_iff_not, Bool.not_eq_true', Bool.not_eq_false', Bool.not_eq_eq_eq_not, Bool.not_true, Bool.not_false] at hc38
          refine c_skip ?_
          refine n_then ?_
          refine c_seq ?_
          refine c_block ?_
          refine c_seq ?_
          refine region_st 22 hF hS (allV_ne rfl) mix (by kernel_rfl) fun Γ hG => ?_
          refine t_pu hG (fun w hC => pu_move rfl) ?_; clear hG; intro Γ hG
          refine t_pu hG (fun w hC => pu_move rfl) ?_; clear hG; intro Γ hG
          refine t_pu hG (fun w hC => pu_iaddr_sla (j := k) rfl slt54 rfl rfl (by omega) (by omega)) ?_; clear hG; intro Γ hG
          refine t_pu hG (fun w hC => o_load1 (i := 0) hC.st rfl one9 rfl (marks_get k (by omega))) ?_; clear hG; intro Γ hG
          refine t_pu hG (fun w hC => pu_len_s tyS9 rfl rfl) ?_; clear hG; intro Γ hG
          refine t_pu hG (fun w hC => pu_move rfl) ?_; clear hG; intro Γ hG
          refine t_pu hG (fun w hC => pu_len_s tyS9 rfl rfl) ?_; clear hG; intro Γ hG
          refine t_pu hG (fun w hC => pu_ile rfl rfl) ?_; clear hG; intro Γ hG
          refine t_pu hG (fun w hC => pu_move rfl) ?_; clear hG; intro Γ hG
          refine t_split hG ⟨_, _, (rfl : _[8]? = some _), rfl, rfl⟩ (fun hg11_8 => ?_) (fun hg11_8 => ?_)
          · have hg11_8p := hg11_8
            try simp only [decide_eq_true_eq, decide_eq_false_iff_not, Bool.not_eq_true', Bool.not_eq_false', Bool.not_eq_eq_eq_not, Bool.not_true, Bool.not_false] at hg11_8p
            refine tg_pu hG ⟨_, _, (rfl : _[8]? = some _), rfl, rfl⟩ hg11_8 (fun w hC => pu_move rfl) ?_; clear hG; intro Γ hG
            refine tg_pu hG ⟨_, _, (rfl : _[8]? = some _), rfl, rfl⟩ hg11_8 (fun w hC => pu_move rfl) ?_; clear hG; intro Γ hG
            refine tg_pu hG ⟨_, _, (rfl : _[8]? = some _), rfl, rfl⟩ hg11_8 (fun w hC => pu_move rfl) ?_; clear hG; intro Γ hG
            refine tg_pu hG ⟨_, _, (rfl : _[8]? = some _), rfl, rfl⟩ hg11_8 (fun w hC => pu_iaddr_sla (j := k) rfl slt54 rfl rfl (by omega) (by omega)) ?_; clear hG; intro Γ hG
            refine tg_pu hG ⟨_, _, (rfl : _[8]? = some _), rfl, rfl⟩ hg11_8 (fun w hC => o_load1 (i := 0) hC.st rfl one9 rfl (marks_get k (by omega))) ?_; clear hG; intro Γ hG
            refine tg_pu hG ⟨_, _, (rfl : _[8]? = some _), rfl, rfl⟩ hg11_8 (fun w hC => pu_len_s tyS9 rfl rfl) ?_; clear hG; intro Γ hG
            refine tg_pu hG ⟨_, _, (rfl : _[8]? = some _), rfl, rfl⟩ hg11_8 (fun w hC => pu_to tyS9 rfl rfl (by omega) (by omega)) ?_; clear hG; intro Γ hG
            refine tg_pu hG ⟨_, _, (rfl : _[8]? = some _), rfl, rfl⟩ hg11_8 (fun w hC => pu_move rfl) ?_; clear hG; intro Γ hG
            refine tg_pu hG ⟨_, _, (rfl : _[8]? = some _), rfl, rfl⟩ hg11_8 (fun w hC => pu_move rfl) ?_; clear hG; intro Γ hG
            refine tg_pu hG ⟨_, _, (rfl : _[8]? = some _), rfl, rfl⟩ hg11_8 (fun w hC => pu_iaddr_sla (j := k) rfl slt54 rfl rfl (by omega) (by omega)) ?_; clear hG; intro Γ hG
            refine tg_pu hG ⟨_, _, (rfl : _[8]? = some _), rfl, rfl⟩ hg11_8 (fun w hC => o_load1 (i := 0) hC.st rfl one9 rfl (marks_get k (by omega))) ?_; clear hG; intro Γ hG
            refine tg_pu hG ⟨_, _, (rfl : _[8]? = some _), rfl, rfl⟩ hg11_8 (fun w hC => pu_seq rfl rfl) ?_; clear hG; intro Γ hG
            refine t_pu hG (fun w hC => pu_pick_t rfl hg11_8 rfl) ?_; clear hG; intro Γ hG
            refine t_end hG ?_; clear hG hF; intro a w hC hE hF hP; replace hS := hC.st; clear hC
            clear hE
            clear hP
            refine c_nil ?_
            refine n_then ?_
            refine c_if hF rfl (fun hc62 => ?_) (fun hc62 => ?_)
            · try simp only [decide_eq_true_eq, decide_eq_false_iff_not, Bool.not_eq_true', Bool.not_eq_false', Bool.not_eq_eq_eq_not, Bool.not_true, Bool.not_false] at hc62
              have hp := pre_yes (s := s) (m := marksL.getD k []) hg11_8p hc62
              refine c_seq ?_
              refine region_sto (i := 1) (tokC ⟨4, marksL.getD k [], 0, 0⟩) 13 hF hS rfl (allV_ne rfl) mix (by kernel_rfl) fun hbw Γ hG => ?_
              refine t_pu hG (fun w hC => pu_move rfl) ?_; clear hG; intro Γ hG
              refine t_pu hG (fun w hC => pu_move rfl) ?_; clear hG; intro Γ hG
              refine t_pu hG (fun w hC => pu_iaddr_sla (j := k) rfl slt54 rfl rfl (by omega) (by omega)) ?_; clear hG; intro Γ hG
              refine t_pu hG (fun w hC => o_load1 (i := 0) hC.st rfl one9 rfl (marks_get k (by omega))) ?_; clear hG; intro Γ hG
              refine t_pu hG (fun w hC => pu_build_st (cs := tokC ⟨4, marksL.getD k [], 0, 0⟩) strb62 rfl rfl) ?_; clear hG; intro Γ hG
              refine t_pu hG (fun w hC => pu_move rfl) ?_; clear hG; intro Γ hG
              refine t_pu hG (fun w hC => pu_move rfl) ?_; clear hG; intro Γ hG
              refine t_pu hG (fun w hC => pu_iaddr_sla (j := k) rfl slt54 rfl rfl (by omega) (by omega)) ?_; clear hG; intro Γ hG
              refine t_pu hG (fun w hC => o_load1 (i := 0) hC.st rfl one9 rfl (marks_get k (by omega))) ?_; clear hG; intro Γ hG
              refine t_pu hG (fun w hC => pu_len_s tyS9 rfl rfl) ?_; clear hG; intro Γ hG
              refine t_store (i := 1) (new := tokC ⟨4, marksL.getD k [], 0, 0⟩) hbw hG rfl rfl rfl rfl sz62 rfl (by simp [tokC]) rfl ?_; clear hG; intro Γ hG
              refine t_pu hG (fun w hC => pu_assign rfl) ?_; clear hG; intro Γ hG
              refine t_pu hG (fun w hC => pu_assign rfl) ?_; clear hG; intro Γ hG
              refine t_end hG ?_; clear hG hF; intro a w hC hE hF hP; replace hS := hC.st; clear hC
              replace hS := hS.tight (i := 1) rfl hE.1
              clear hE
              clear hP
              refine c_nil ?_
              refine n_then ?_
              refine c_ret (r_block (r_then (r_then (r_block (r_then ?_)))))
              exact f_ret hF rfl (.cell rfl (o_lvA (i := 1) hS rfl agg62) (.tmp rfl (.tmp rfl (.nil)))) (hS.retv (by rw [one_mark hc7 hc16 hc25, ← hmk, mark_step s k (by omega), hp]; rfl))
            · try simp only [decide_eq_true_eq, decide_eq_false_iff_not, Bool.not_eq_true', Bool.not_eq_false', Bool.not_eq_eq_eq_not, Bool.not_true, Bool.not_false] at hc62
              have hp := pre_no2 (s := s) (m := marksL.getD k []) hc62
              refine c_skip ?_
              refine n_block ?_
              refine n_then ?_
              refine c_reg ?_
              refine s_pu hF (pu_move rfl) rfl ?_; clear hF; intro a hF
              refine s_pu hF (pu_add rfl rfl (by first | exact wrap_i64 (by omega) (by omega) | rfl)) rfl ?_; clear hF; intro a hF
              refine s_pu hF (pu_assign rfl) rfl ?_; clear hF; intro a hF
              refine c_nil ?_
              exact ⟨k + 1, ⟨by omega, by rw [← hmk, mark_step s k (by omega), hp]; rfl, hF.pick (.cons (k := 6) rfl <| .cons (k := 0) rfl <| .cons (k := 2) rfl <| .cons (k := 5) rfl <| .nil), hS⟩, by omega⟩
          · have hg11_8p := hg11_8
            try simp only [decide_eq_true_eq, decide_eq_false_iff_not, Bool.not_eq_true', Bool.not_eq_false', Bool.not_eq_eq_eq_not, Bool.not_true, Bool.not_false] at hg11_8p
            have hp := pre_no1 (s := s) (m := marksL.getD k []) (by omega)
            refine tg_no hG ⟨_, _, (rfl : _[8]? = some _), rfl, rfl⟩ hg11_8 ?_; clear hG; intro Γ hG
            refine tg_no hG ⟨_, _, (rfl : _[8]? = some _), rfl, rfl⟩ hg11_8 ?_; clear hG; intro Γ hG
            refine tg_no hG ⟨_, _, (rfl : _[8]? = some _), rfl, rfl⟩ hg11_8 ?_; clear hG; intro Γ hG
            refine tg_no hG ⟨_, _, (rfl : _[8]? = some _), rfl, rfl⟩ hg11_8 ?_; clear hG; intro Γ hG
            refine tg_no hG ⟨_, _, (rfl : _[8]? = some _), rfl, rfl⟩ hg11_8 ?_; clear hG; intro Γ hG
            refine tg_no hG ⟨_, _, (rfl : _[8]? = some _), rfl, rfl⟩ hg11_8 ?_; clear hG; intro Γ hG
            refine tg_no hG ⟨_, _, (rfl : _[8]? = some _), rfl, rfl⟩ hg11_8 ?_; clear hG; intro Γ hG
            refine tg_no hG ⟨_, _, (rfl : _[8]? = some _), rfl, rfl⟩ hg11_8 ?_; clear hG; intro Γ hG
            refine tg_no hG ⟨_, _, (rfl : _[8]? = some _), rfl, rfl⟩ hg11_8 ?_; clear hG; intro Γ hG
            refine tg_no hG ⟨_, _, (rfl : _[8]? = some _), rfl, rfl⟩ hg11_8 ?_; clear hG; intro Γ hG
            refine tg_no hG ⟨_, _, (rfl : _[8]? = some _), rfl, rfl⟩ hg11_8 ?_; clear hG; intro Γ hG
            refine tg_no hG ⟨_, _, (rfl : _[8]? = some _), rfl, rfl⟩ hg11_8 ?_; clear hG; intro Γ hG
            refine t_pu hG (fun w hC => pu_pick_f rfl hg11_8 rfl) ?_; clear hG; intro Γ hG
            refine t_end hG ?_; clear hG hF; intro a w hC hE hF hP; replace hS := hC.st; clear hC
            clear hE
            clear hP
            refine c_nil ?_
            refine n_then ?_
            refine c_iff hF rfl rfl ?_
            refine c_skip ?_
            refine n_block ?_
            refine n_then ?_
            refine c_reg ?_
            refine s_pu hF (pu_move rfl) rfl ?_; clear hF; intro a hF
            refine s_pu hF (pu_add rfl rfl (by first | exact wrap_i64 (by omega) (by omega) | rfl)) rfl ?_; clear hF; intro a hF
            refine s_pu hF (pu_assign rfl) rfl ?_; clear hF; intro a hF
            refine c_nil ?_
            exact ⟨k + 1, ⟨by omega, by rw [← hmk, mark_step s k (by omega), hp]; rfl, hF.pick (.cons (k := 6) rfl <| .cons (k := 0) rfl <| .cons (k := 2) rfl <| .cons (k := 5) rfl <| .nil), hS⟩, by omega⟩
        · try simp only [decide_eq_true_eq, decide_eq_false_iff_not, Bool.not_eq_true', Bool.not_eq_false', Bool.not_eq_eq_eq_not, Bool.not_true, Bool.not_false] at hc38
          obtain rfl : k = 16 := by omega
          refine c_exit (x_then (x_then (x_here ?_)))
          refine n_then ?_
          refine c_seq ?_
          refine c_reg ?_
          refine s_pu hF (pu_build_st (cs := tokC t0) strb62 rfl rfl) rfl ?_; clear hF; intro a hF
          refine s_store (i := 1) (new := tokC t0) hF hS rfl rfl rfl rfl sz62 rfl (by simp [tokC]) ?_; clear hS hF; intro w a hS hF
          rw [spl_all (by simp [tokC])] at hS
          refine s_pu hF (pu_assign rfl) rfl ?_; clear hF; intro a hF
          refine s_pu hF (pu_assign rfl) rfl ?_; clear hF; intro a hF
          refine c_nil ?_
          refine n_then ?_
          refine c_ret ?_
          exact f_ret hF rfl (.cell rfl (o_lvA (i := 1) hS rfl agg62) (.tmp rfl (.tmp rfl (.nil)))) (hS.retv (by rw [one_mark hc7 hc16 hc25, ← hmk]; rfl))
set_option maxHeartbeats 1000000 in
theorem c_RLex (s : List UInt8) (hs : s.length ≤ 1000000) (w0 : World) (h0 : View) (hv : VLe h0 (Full w0)) : Calls Try.prog 10 #[vs s] w0 (RetM [] w0 fun v w' => ∃ sl, v = .tuple #[sl, .int .i64 (lexS s).2.1, .int .i64 (lexS s).2.2] ∧ NewBuf w0 62 4 ((lexS s).1.map tokC).flatten sl w') := by
  refine f_enter (args := [vs s]) Try.func10 rfl Try.ntmps10 rfl fun a hF => ?_
  have hS := St.init w0 h0 hv
  refine c_seq ?_
  refine c_reg ?_
  refine s_pu hF (pu_assign rfl) rfl ?_; clear hF; intro a hF
  refine s_pu hF (pu_assign rfl) rfl ?_; clear hF; intro a hF
  refine s_pu hF (pu_assign rfl) rfl ?_; clear hF; intro a hF
  refine c_nil ?_
  refine n_then ?_
  refine c_seq ?_
  refine c_seq ?_
  refine c_reg ?_
  refine s_pu hF (pu_move rfl) rfl ?_; clear hF; intro a hF
  refine s_pu hF (pu_len_s tyS9 rfl rfl) rfl ?_; clear hF; intro a hF
  refine s_pu hF (pu_igt rfl rfl) rfl ?_; clear hF; intro a hF
  refine c_nil ?_
  refine n_then ?_
  refine c_if hF rfl (fun hc12 => ?_) (fun hc12 => ?_)
  · try simp only [decide_eq_true_eq, decide_eq_false_iff_not, Bool.not_eq_true', Bool.not_eq_false', Bool.not_eq_eq_eq_not, Bool.not_true, Bool.not_false] at hc12
    refine c_seq ?_
    refine c_reg ?_
    refine s_pu hF (pu_assign rfl) rfl ?_; clear hF; intro a hF
    refine s_pu hF (pu_assign rfl) rfl ?_; clear hF; intro a hF
    refine s_pu hF (pu_assign rfl) rfl ?_; clear hF; intro a hF
    refine c_nil ?_
    refine n_then ?_
    refine c_ret (r_then ?_)
    refine f_ret hF rfl (.tmp rfl (.tmp rfl (.tmp rfl (.nil)))) ?_
    refine hS.retM ⟨.slice none 0 0, ?_, ?_⟩
    · rw [lexS, if_pos (by omega)]; rfl
    · rw [lexS, if_pos (by omega)]; exact NewBuf.nil
  · try simp only [decide_eq_true_eq, decide_eq_false_iff_not, Bool.not_eq_true', Bool.not_eq_false', Bool.not_eq_eq_eq_not, Bool.not_true, Bool.not_false] at hc12
    refine c_skip ?_
    refine n_then ?_
    refine c_seq ?_
    refine c_reg ?_
    refine s_pu hF (pu_assign rfl) rfl ?_; clear hF; intro a hF
    replace hS := hS.newNil 62 4
    refine c_nil ?_
    refine n_then ?_
    refine c_seq ?_
    refine c_seq ?_
    refine c_reg ?_
    refine s_pu hF (pu_assign rfl) rfl ?_; clear hF; intro a hF
    refine c_nil ?_
    refine n_then ?_
    refine c_block ?_
    refine hS.cut fun O0 F0 hO0 hF0 hS => ?_
    subst hO0
    refine hF.cut (.cons (k := 5) rfl <| .cons (k := 6) rfl <| .nil) (.cons (k := 0) rfl <| .nil) fun L0 hL0 hF => ?_
    refine c_loop (α := Nat × List Tok) (fun x a w => ∃ a0 c, lexG s x.1 x.2 = lexS s ∧ x.1 ≤ s.length ∧ x.2.length ≤ x.1 ∧ Fr a 45 ([(5, .val (.slice a0 x.2.length c)), (6, .val (.int .i64 (x.1 : Nat)))] ++ L0) ∧ St w0 h0 [] w [bufE 62 4 (.slice a0 x.2.length c) (x.2.map tokC).flatten] F0) (fun x => s.length - x.1) (0, []) (⟨none, 0, by rw [lexS, if_neg (by omega)], Nat.zero_le _, Nat.le_refl _, hF, hS⟩) ?_
    subst hF0 hL0
    rintro ⟨i, out⟩ a w ⟨a0, c, hlx, his, hol, hF, hS⟩
    dsimp only at hlx his hol hF hS
    refine c_seq ?_
    refine c_seq ?_
    refine c_reg ?_
    refine s_pu hF (pu_move rfl) rfl ?_; clear hF; intro a hF
    refine s_pu hF (pu_move rfl) rfl ?_; clear hF; intro a hF
    refine s_pu hF (pu_len_s tyS9 rfl rfl) rfl ?_; clear hF; intro a hF
    refine s_pu hF (pu_ilt rfl rfl) rfl ?_; clear hF; intro a hF
    refine c_nil ?_
    refine n_then ?_
    refine c_if hF rfl (fun hc16 => ?_) (fun hc16 => ?_)
    · try simp only [decide_eq_true_eq, decide_eq_false_iff_not, Bool.not_eq_true', Bool.not_eq_false', Bool.not_eq_eq_eq_not, Bool.not_true, Bool.not_false] at hc16
      refine c_skip ?_
      refine n_then ?_
      refine c_block ?_
      refine c_seq ?_
      refine c_seq ?_
      refine c_reg ?_
      refine s_pu hF (pu_move rfl) rfl ?_; clear hF; intro a hF
      refine s_pu hF (pu_move rfl) rfl ?_; clear hF; intro a hF
      refine s_pu hF (pu_idxn tyS9 rfl rfl rfl (by omega)) rfl ?_; clear hF; intro a hF
      refine s_pu hF (pu_ieq rfl rfl) rfl ?_; clear hF; intro a hF
      refine c_nil ?_
      refine n_then ?_
      refine c_if hF rfl (fun hc20 => ?_) (fun hc20 => ?_)
      · try simp only [decide_eq_true_eq, decide_eq_false_iff_not, Bool.not_eq_true', Bool.not_eq_false', Bool.not_eq_eq_eq_not, Bool.not_true, Bool.not_false] at hc20
        refine c_seq ?_
        refine c_reg ?_
        refine s_pu hF (pu_move rfl) rfl ?_; clear hF; intro a hF
        refine s_pu hF (pu_add rfl rfl (by first | exact wrap_i64 (by omega) (by omega) | rfl)) rfl ?_; clear hF; intro a hF
        refine s_pu hF (pu_assign rfl) rfl ?_; clear hF; intro a hF
        refine c_nil ?_
        refine n_then ?_
        refine c_exit (x_then (x_here ?_))
        rw [show ((i : Int) + 1) = ((i + 1 : Nat) : Int) by omega] at hF
        exact ⟨(i + 1, out), ⟨a0, c, (lex_sp (by omega) hc20).symm.trans hlx, by dsimp only; omega, by dsimp only; omega, hF.pick (.cons (k := 5) rfl <| .cons (k := 6) rfl <| .cons (k := 0) rfl <| .nil), hS⟩, by dsimp only; omega⟩
      · try simp only [decide_eq_true_eq, decide_eq_false_iff_not, Bool.not_eq_true', Bool.not_eq_false', Bool.not_eq_eq_eq_not, Bool.not_true, Bool.not_false] at hc20
        refine c_skip ?_
        refine n_then ?_
        refine c_seq ?_
        refine c_reg ?_
        refine s_pu hF (pu_move rfl) rfl ?_; clear hF; intro a hF
        refine s_pu hF (pu_move rfl) rfl ?_; clear hF; intro a hF
        refine s_pu hF (pu_from tyS9 rfl rfl (by omega) (by omega)) rfl ?_; clear hF; intro a hF
        refine s_callv hF hS ok28 rfl (c_Rone (s.drop i) (by rw [List.length_drop]; omega) (by rw [List.length_drop]; omega) _ _ hS.view) rfl ?_; clear hS hF; intro w a hS hF
        refine s_pu hF (pu_move rfl) rfl ?_; clear hF; intro a hF
        refine s_pu hF (pu_extract rfl rfl) rfl ?_; clear hF; intro a hF
        refine s_pu hF (pu_extract rfl rfl) rfl ?_; clear hF; intro a hF
        refine s_pu hF (pu_extract rfl rfl) rfl ?_; clear hF; intro a hF
        refine s_alloc hF hS zero62 rfl ?_; clear hS hF; intro b1 w a hS hF
        refine s_store (i := 0) (new := tokC (resT (oneS (s.drop i)))) hF hS rfl rfl rfl rfl (by exact sz62) rfl (by simp [tokC]) ?_; clear hS hF; intro w a hS hF
        rw [spl_all (by simp [tokC])] at hS
        refine s_pu hF (pu_assign rfl) rfl ?_; clear hF; intro a hF
        refine s_pu hF (pu_assign rfl) rfl ?_; clear hF; intro a hF
        refine c_nil ?_
        refine n_then ?_
        refine c_seq ?_
        refine c_seq ?_
        refine c_reg ?_
        refine s_pu hF (pu_move rfl) rfl ?_; clear hF; intro a hF
        refine s_pu hF (pu_ine rfl rfl) rfl ?_; clear hF; intro a hF
        refine c_nil ?_
        refine n_then ?_
        refine c_if hF rfl (fun hc32 => ?_) (fun hc32 => ?_)
        · try simp only [decide_eq_true_eq, decide_eq_false_iff_not, Bool.not_eq_true', Bool.not_eq_false', Bool.not_eq_eq_eq_not, Bool.not_true, Bool.not_false] at hc32
          have hoe := (one_cases (s.drop i) (by rw [List.length_drop]; omega)).2 hc32
          refine c_seq ?_
          refine c_reg ?_
          refine s_pu hF (pu_move rfl) rfl ?_; clear hF; intro a hF
          refine s_pu hF (pu_move rfl) rfl ?_; clear hF; intro a hF
          refine s_pu hF (pu_assign rfl) rfl ?_; clear hF; intro a hF
          refine s_pu hF (pu_assign rfl) rfl ?_; clear hF; intro a hF
          refine s_pu hF (pu_assign rfl) rfl ?_; clear hF; intro a hF
          refine c_nil ?_
          refine n_then ?_
          refine c_ret (r_then (r_block (r_then (r_block (r_then ?_)))))
          refine f_ret hF rfl (.tmp rfl (.tmp rfl (.tmp rfl (.nil)))) ?_
          refine hS.retM ⟨.slice none 0 0, ?_, ?_⟩
          · rw [← hlx, lex_err (by omega) hc20 hoe]; rfl
          · rw [← hlx, lex_err (by omega) hc20 hoe]; exact NewBuf.nil
        · try simp only [decide_eq_true_eq, decide_eq_false_iff_not, Bool.not_eq_true', Bool.not_eq_false', Bool.not_eq_eq_eq_not, Bool.not_true, Bool.not_false] at hc32
          obtain ⟨t, n, hr, hn0, hnl⟩ := (one_cases (s.drop i) (by rw [List.length_drop]; omega)).1 hc32
          rw [hr] at hS hF
          rw [show resN (.ok t n) = n from rfl] at hF
          rw [List.length_drop] at hnl
          refine c_skip ?_
          refine n_then ?_
          refine c_seq ?_
          refine c_reg ?_
          refine s_pu hF (pu_move rfl) rfl ?_; clear hF; intro a hF
          refine s_pu hF (pu_faddr fld62_3 rfl) rfl ?_; clear hF; intro a hF
          refine s_store (i := 0) hF hS rfl rfl rfl rfl sz3 rfl (by simp [tokC]) ?_; clear hS hF; intro w a hS hF
          rw [show spl (tokC (resT (.ok t n))) (0 + 3) [.int .i64 (i : Int)] = tokC { t with p := (i : Int) } from rfl] at hS
          refine c_nil ?_
          refine n_then ?_
          refine c_seq ?_
          refine c_reg ?_
          refine s_pu hF (pu_move rfl) rfl ?_; clear hF; intro a hF
          refine s_pu hF (o_loadA (i := 0) (new := tokC { t with p := (i : Int) }) hS rfl agg62 rfl (rfl)) rfl ?_; clear hF; intro a hF
          refine s_build (xs := [.tmp 38]) hF hS slt_b23 rfl rfl (by simp [Value.cells, tokC]) (by decide) rfl ?_; clear hS hF; intro b2 w a hS hF
          refine s_append (i := 2) hF hS rfl slt_a23_23 rfl rfl (Src.own (hS.at (i := 0) rfl) rfl rfl) (by rw [flatC_len]; simp [cellsL, Value.cells, tokC]; omega) rfl ?_; clear hS hF; intro a0 nn c0 w a hnn hS hF
          refine s_pu hF (pu_assign rfl) rfl ?_; clear hF; intro a hF
          refine c_nil ?_
          refine n_then ?_
          refine c_reg ?_
          refine s_pu hF (pu_move rfl) rfl ?_; clear hF; intro a hF
          refine s_pu hF (pu_move rfl) rfl ?_; clear hF; intro a hF
          refine s_pu hF (pu_add rfl rfl (by first | exact wrap_i64 (by omega) (by omega) | rfl)) rfl ?_; clear hF; intro a hF
          refine s_pu hF (pu_assign rfl) rfl ?_; clear hF; intro a hF
          refine c_nil ?_
          refine n_block ?_
          have hnn2 : nn = (out ++ [{ t with p := (i : Int) }]).length := by (rw [flatC_len] at hnn; simp [cellsL, Value.cells, tokC] at hnn ⊢; omega)
          subst hnn2
          replace hS := (hS.forget 0).forget 0
          rw [show ((i : Int) + (n : Int)) = ((i + n : Nat) : Int) by omega] at hF
          refine ⟨(i + n, out ++ [{ t with p := (i : Int) }]), ⟨a0, c0, (lex_ok (by omega) hc20 hr hn0).symm.trans hlx, by dsimp only; omega, by simp; omega, hF.pick (.cons (k := 5) rfl <| .cons (k := 6) rfl <| .cons (k := 0) rfl <| .nil), ?_⟩, by dsimp only; omega⟩
          rw [List.map_append, List.flatten_append]
          exact hS
    · try simp only [decide_eq_true_eq, decide_eq_false_iff_not, Bool.not_eq_true', Bool.not_eq_false', Bool.not_eq_eq_eq_not, Bool.not_true, Bool.not_false] at hc16
      refine c_exit (x_then (x_then (x_here ?_)))
      refine n_then ?_
      refine c_seq ?_
      refine c_reg ?_
      refine s_pu hF (pu_move rfl) rfl ?_; clear hF; intro a hF
      refine s_pu hF (pu_assign rfl) rfl ?_; clear hF; intro a hF
      refine s_pu hF (pu_assign rfl) rfl ?_; clear hF; intro a hF
      refine s_pu hF (pu_assign rfl) rfl ?_; clear hF; intro a hF
      refine c_nil ?_
      refine n_then ?_
      refine c_ret ?_
      refine f_ret hF rfl (.tmp rfl (.tmp rfl (.tmp rfl (.nil)))) ?_
      have hend := lex_end (s := s) (i := i) (out := out) (by omega)
      refine hS.retM ⟨.slice a0 out.length c, ?_, ?_⟩
      · rw [← hlx, hend]; rfl
      · rw [← hlx, hend]; exact hS.newBuf (i := 0) rfl
set_option maxHeartbeats 1000000 in
theorem c_Same (ad1 : Option Addr) (cap1 : Nat) (l1 : List Tok) (ad2 : Option Addr) (cap2 : Nat) (l2 : List Tok) (pl : Bool) (hl : l1.length ≤ 1000000) (w0 : World) (h0 : View) (hv : VLe h0 (Full w0)) (hb1 : SlC 62 4 (flatR tokC) h0 (.slice ad1 l1.length cap1) l1) (hb2 : SlC 62 4 (flatR tokC) h0 (.slice ad2 l2.length cap2) l2) : Calls Try.prog 11 #[.slice ad1 l1.length cap1, .slice ad2 l2.length cap2, .bool pl] w0 (Ret w0 h0 fun u _ => u = .bool (sameS l1 l2 pl)) := by
  refine f_enter (args := [.slice ad1 l1.length cap1, .slice ad2 l2.length cap2, .bool pl]) Try.func11 rfl Try.ntmps11 rfl fun a hF => ?_
  have hS := St.init w0 h0 hv
  refine c_seq ?_
  refine c_reg ?_
  refine s_pu hF (pu_assign rfl) rfl ?_; clear hF; intro a hF
  refine c_nil ?_
  refine n_then ?_
  refine c_seq ?_
  refine c_seq ?_
  refine c_reg ?_
  refine s_pu hF (pu_move rfl) rfl ?_; clear hF; intro a hF
  refine s_pu hF (pu_len_sl tyL23 rfl rfl) rfl ?_; clear hF; intro a hF
  refine s_pu hF (pu_move rfl) rfl ?_; clear hF; intro a hF
  refine s_pu hF (pu_len_sl tyL23 rfl rfl) rfl ?_; clear hF; intro a hF
  refine s_pu hF (pu_ine rfl rfl) rfl ?_; clear hF; intro a hF
  refine c_nil ?_
  refine n_then ?_
  refine c_if hF rfl (fun hc12 => ?_) (fun hc12 => ?_)
  · try simp only [decide_eq_true_eq, decide_eq_false_iff_not, Bool.not_eq_true', Bool.not_eq_false', Bool.not_eq_eq_eq_not, Bool.not_true, Bool.not_false] at hc12
    refine c_seq ?_
    refine c_reg ?_
    refine s_pu hF (pu_assign rfl) rfl ?_; clear hF; intro a hF
    refine c_nil ?_
    refine n_then ?_
    refine c_ret (r_then ?_)
    exact f_ret hF rfl (.tmp rfl (.nil)) (hS.retv (by rw [same_len (by omega)]; rfl))
  · try simp only [decide_eq_true_eq, decide_eq_false_iff_not, Bool.not_eq_true', Bool.not_eq_false', Bool.not_eq_eq_eq_not, Bool.not_true, Bool.not_false] at hc12
    have hleq : l1.length = l2.length := by omega
    refine c_skip ?_
    refine n_then ?_
    refine c_seq ?_
    refine c_seq ?_
    refine c_reg ?_
    refine s_pu hF (pu_assign rfl) rfl ?_; clear hF; intro a hF
    refine c_nil ?_
    refine n_then ?_
    refine c_block ?_
    refine hS.cut fun O0 F0 hO0 hF0 hS => ?_
    refine hF.cut (.cons (k := 7) rfl <| .nil) (.cons (k := 0) rfl <| .cons (k := 1) rfl <| .cons (k := 2) rfl <| .nil) fun L0 hL0 hF => ?_
    refine c_loop (α := Nat) (fun k a w => k ≤ l1.length ∧ (l1.take k).map (key pl) = (l2.take k).map (key pl) ∧ Fr a 72 ([(7, .val (.int .i64 (k : Nat)))] ++ L0) ∧ St w0 h0 [] w O0 F0) (fun k => l1.length - k) 0 (⟨Nat.zero_le _, rfl, hF, hS⟩) ?_
    subst hO0 hF0 hL0
    rintro k a w ⟨hk, hm, hF, hS⟩
    refine c_seq ?_
    refine c_seq ?_
    refine c_reg ?_
    refine s_pu hF (pu_move rfl) rfl ?_; clear hF; intro a hF
    refine s_pu hF (pu_move rfl) rfl ?_; clear hF; intro a hF
    refine s_pu hF (pu_len_sl tyL23 rfl rfl) rfl ?_; clear hF; intro a hF
    refine s_pu hF (pu_ilt rfl rfl) rfl ?_; clear hF; intro a hF
    refine c_nil ?_
    refine n_then ?_
    refine c_if hF rfl (fun hc16 => ?_) (fun hc16 => ?_)
    · try simp only [decide_eq_true_eq, decide_eq_false_iff_not, Bool.not_eq_true', Bool.not_eq_false', Bool.not_eq_eq_eq_not, Bool.not_true, Bool.not_false] at hc16
      have hk1 : k < l1.length := by omega
      have hk2 : k < l2.length := by omega
      obtain ⟨g1, o1, ha1, hH1⟩ := hb1.at (i := k) (x := l1.getD k t0) (by rw [getD_lt l1 k t0 hk1]; exact List.getElem?_eq_getElem hk1)
      obtain ⟨g2, o2, ha2, hH2⟩ := hb2.at (i := k) (x := l2.getD k t0) (by rw [getD_lt l2 k t0 hk2]; exact List.getElem?_eq_getElem hk2)
      refine c_skip ?_
      refine n_then ?_
      refine c_seq ?_
      refine c_block ?_
      refine c_seq ?_
      refine region_st 53 hF hS (allV_ne rfl) mix (by kernel_rfl) fun Γ hG => ?_
      refine t_pu hG (fun w hC => pu_move rfl) ?_; clear hG; intro Γ hG
      refine t_pu hG (fun w hC => pu_move rfl) ?_; clear hG; intro Γ hG
      refine t_pu hG (fun w hC => pu_iaddr_sla (j := k) ha1 slt23 rfl rfl (by omega) (by omega)) ?_; clear hG; intro Γ hG
      refine t_pu hG (fun w hC => pu_faddr fld62_0 rfl) ?_; clear hG; intro Γ hG
      refine t_pu hG (fun w hC => pu_load1 one60 rfl (hH1 _ hC.st.base 0 _ rfl)) ?_; clear hG; intro Γ hG
      refine t_pu hG (fun w hC => pu_move rfl) ?_; clear hG; intro Γ hG
      refine t_pu hG (fun w hC => pu_move rfl) ?_; clear hG; intro Γ hG
      refine t_pu hG (fun w hC => pu_iaddr_sla (j := k) ha2 slt23 rfl rfl (by omega) (by omega)) ?_; clear hG; intro Γ hG
      refine t_pu hG (fun w hC => pu_faddr fld62_0 rfl) ?_; clear hG; intro Γ hG
      refine t_pu hG (fun w hC => pu_load1 one60 rfl (hH2 _ hC.st.base 0 _ rfl)) ?_; clear hG; intro Γ hG
      refine t_pu hG (fun w hC => pu_ine rfl rfl) ?_; clear hG; intro Γ hG
      refine t_pu hG (fun w hC => pu_move rfl) ?_; clear hG; intro Γ hG
      refine t_split hG ⟨_, _, (rfl : _[11]? = some _), rfl, rfl⟩ (fun hg6_11 => ?_) (fun hg6_11 => ?_)
      · have hg6_11p := hg6_11
        try simp only [decide_eq_true_eq, decide_eq_false_iff_not, Bool.not_eq_true', Bool.not_eq_false', Bool.not_eq_eq_eq_not, Bool.not_true, Bool.not_false] at hg6_11p
        refine tg_no hG ⟨_, _, (rfl : _[11]? = some _), rfl, rfl⟩ hg6_11 ?_; clear hG; intro Γ hG
        refine tg_no hG ⟨_, _, (rfl : _[11]? = some _), rfl, rfl⟩ hg6_11 ?_; clear hG; intro Γ hG
        refine tg_no hG ⟨_, _, (rfl : _[11]? = some _), rfl, rfl⟩ hg6_11 ?_; clear hG; intro Γ hG
        refine tg_no hG ⟨_, _, (rfl : _[11]? = some _), rfl, rfl⟩ hg6_11 ?_; clear hG; intro Γ hG
        refine tg_no hG ⟨_, _, (rfl : _[11]? = some _), rfl, rfl⟩ hg6_11 ?_; clear hG; intro Γ hG
        refine tg_no hG ⟨_, _, (rfl : _[11]? = some _), rfl, rfl⟩ hg6_11 ?_; clear hG; intro Γ hG
        refine tg_no hG ⟨_, _, (rfl : _[11]? = some _), rfl, rfl⟩ hg6_11 ?_; clear hG; intro Γ hG
        refine tg_no hG ⟨_, _, (rfl : _[11]? = some _), rfl, rfl⟩ hg6_11 ?_; clear hG; intro Γ hG
        refine tg_no hG ⟨_, _, (rfl : _[11]? = some _), rfl, rfl⟩ hg6_11 ?_; clear hG; intro Γ hG
        refine tg_no hG ⟨_, _, (rfl : _[11]? = some _), rfl, rfl⟩ hg6_11 ?_; clear hG; intro Γ hG
        refine tg_no hG ⟨_, _, (rfl : _[11]? = some _), rfl, rfl⟩ hg6_11 ?_; clear hG; intro Γ hG
        refine t_pu hG (fun w hC => pu_pick_t rfl hg6_11 rfl) ?_; clear hG; intro Γ hG
        refine t_pu hG (fun w hC => pu_move rfl) ?_; clear hG; intro Γ hG
        refine tg_no hG ⟨_, _, (rfl : _[24]? = some _), rfl, rfl⟩ rfl ?_; clear hG; intro Γ hG
        refine tg_no hG ⟨_, _, (rfl : _[24]? = some _), rfl, rfl⟩ rfl ?_; clear hG; intro Γ hG
        refine tg_no hG ⟨_, _, (rfl : _[24]? = some _), rfl, rfl⟩ rfl ?_; clear hG; intro Γ hG
        refine tg_no hG ⟨_, _, (rfl : _[24]? = some _), rfl, rfl⟩ rfl ?_; clear hG; intro Γ hG
        refine tg_no hG ⟨_, _, (rfl : _[24]? = some _), rfl, rfl⟩ rfl ?_; clear hG; intro Γ hG
        refine tg_no hG ⟨_, _, (rfl : _[24]? = some _), rfl, rfl⟩ rfl ?_; clear hG; intro Γ hG
        refine tg_no hG ⟨_, _, (rfl : _[24]? = some _), rfl, rfl⟩ rfl ?_; clear hG; intro Γ hG
        refine tg_no hG ⟨_, _, (rfl : _[24]? = some _), rfl, rfl⟩ rfl ?_; clear hG; intro Γ hG
        refine tg_no hG ⟨_, _, (rfl : _[24]? = some _), rfl, rfl⟩ rfl ?_; clear hG; intro Γ hG
        refine tg_no hG ⟨_, _, (rfl : _[24]? = some _), rfl, rfl⟩ rfl ?_; clear hG; intro Γ hG
        refine tg_no hG ⟨_, _, (rfl : _[24]? = some _), rfl, rfl⟩ rfl ?_; clear hG; intro Γ hG
        refine t_pu hG (fun w hC => pu_pick_t rfl rfl rfl) ?_; clear hG; intro Γ hG
        refine t_pu hG (fun w hC => pu_move rfl) ?_; clear hG; intro Γ hG
        refine tg_no hG ⟨_, _, (rfl : _[37]? = some _), rfl, rfl⟩ rfl ?_; clear hG; intro Γ hG
        refine tg_no hG ⟨_, _, (rfl : _[37]? = some _), rfl, rfl⟩ rfl ?_; clear hG; intro Γ hG
        refine tg_noU hG ⟨_, _, (rfl : _[39]? = some _), rfl, rfl⟩ ?_; clear hG; intro Γ hG
        refine tg_noU hG ⟨_, _, (rfl : _[39]? = some _), rfl, rfl⟩ ?_; clear hG; intro Γ hG
        refine tg_noU hG ⟨_, _, (rfl : _[39]? = some _), rfl, rfl⟩ ?_; clear hG; intro Γ hG
        refine tg_noU hG ⟨_, _, (rfl : _[39]? = some _), rfl, rfl⟩ ?_; clear hG; intro Γ hG
        refine tg_noU hG ⟨_, _, (rfl : _[39]? = some _), rfl, rfl⟩ ?_; clear hG; intro Γ hG
        refine tg_noU hG ⟨_, _, (rfl : _[39]? = some _), rfl, rfl⟩ ?_; clear hG; intro Γ hG
        refine tg_noU hG ⟨_, _, (rfl : _[39]? = some _), rfl, rfl⟩ ?_; clear hG; intro Γ hG
        refine tg_noU hG ⟨_, _, (rfl : _[39]? = some _), rfl, rfl⟩ ?_; clear hG; intro Γ hG
        refine tg_noU hG ⟨_, _, (rfl : _[39]? = some _), rfl, rfl⟩ ?_; clear hG; intro Γ hG
        refine tg_noU hG ⟨_, _, (rfl : _[39]? = some _), rfl, rfl⟩ ?_; clear hG; intro Γ hG
        refine tg_noU hG ⟨_, _, (rfl : _[39]? = some _), rfl, rfl⟩ ?_; clear hG; intro Γ hG
        refine tg_no hG ⟨_, _, (rfl : _[37]? = some _), rfl, rfl⟩ rfl ?_; clear hG; intro Γ hG
        refine t_pu hG (fun w hC => pu_pick_t rfl rfl rfl) ?_; clear hG; intro Γ hG
        refine t_end hG ?_; clear hG hF; intro a w hC hE hF hP; replace hS := hC.st; clear hC
        clear hE
        clear hP
        refine c_nil ?_
        refine n_then ?_
        refine c_ift hF rfl rfl ?_
        refine c_seq ?_
        refine c_reg ?_
        refine s_pu hF (pu_assign rfl) rfl ?_; clear hF; intro a hF
        refine c_nil ?_
        refine n_then ?_
        refine c_ret (r_block (r_then (r_then (r_block (r_then ?_)))))
        exact f_ret hF rfl (.tmp rfl (.nil)) (hS.retv (by rw [same_no k hk1 hk2 (fun e => by have e := (key_eq _ _ _).1 e; simp_all)]; rfl))
      · have hg6_11p := hg6_11
        try simp only [decide_eq_true_eq, decide_eq_false_iff_not, Bool.not_eq_true', Bool.not_eq_false', Bool.not_eq_eq_eq_not, Bool.not_true, Bool.not_false] at hg6_11p
        refine tg_pu hG ⟨_, _, (rfl : _[11]? = some _), rfl, rfl⟩ hg6_11 (fun w hC => pu_move rfl) ?_; clear hG; intro Γ hG
        refine tg_pu hG ⟨_, _, (rfl : _[11]? = some _), rfl, rfl⟩ hg6_11 (fun w hC => pu_move rfl) ?_; clear hG; intro Γ hG
        refine tg_pu hG ⟨_, _, (rfl : _[11]? = some _), rfl, rfl⟩ hg6_11 (fun w hC => pu_iaddr_sla (j := k) ha1 slt23 rfl rfl (by omega) (by omega)) ?_; clear hG; intro Γ hG
        refine tg_pu hG ⟨_, _, (rfl : _[11]? = some _), rfl, rfl⟩ hg6_11 (fun w hC => pu_faddr fld62_1 rfl) ?_; clear hG; intro Γ hG
        refine tg_pu hG ⟨_, _, (rfl : _[11]? = some _), rfl, rfl⟩ hg6_11 (fun w hC => pu_load1 one9 rfl (hH1 _ hC.st.base 1 _ rfl)) ?_; clear hG; intro Γ hG
        refine tg_pu hG ⟨_, _, (rfl : _[11]? = some _), rfl, rfl⟩ hg6_11 (fun w hC => pu_move rfl) ?_; clear hG; intro Γ hG
        refine tg_pu hG ⟨_, _, (rfl : _[11]? = some _), rfl, rfl⟩ hg6_11 (fun w hC => pu_move rfl) ?_; clear hG; intro Γ hG
        refine tg_pu hG ⟨_, _, (rfl : _[11]? = some _), rfl, rfl⟩ hg6_11 (fun w hC => pu_iaddr_sla (j := k) ha2 slt23 rfl rfl (by omega) (by omega)) ?_; clear hG; intro Γ hG
        refine tg_pu hG ⟨_, _, (rfl : _[11]? = some _), rfl, rfl⟩ hg6_11 (fun w hC => pu_faddr fld62_1 rfl) ?_; clear hG; intro Γ hG
        refine tg_pu hG ⟨_, _, (rfl : _[11]? = some _), rfl, rfl⟩ hg6_11 (fun w hC => pu_load1 one9 rfl (hH2 _ hC.st.base 1 _ rfl)) ?_; clear hG; intro Γ hG
        refine tg_pu hG ⟨_, _, (rfl : _[11]? = some _), rfl, rfl⟩ hg6_11 (fun w hC => pu_sne rfl rfl) ?_; clear hG; intro Γ hG
        refine t_pu hG (fun w hC => pu_pick_f rfl hg6_11 rfl) ?_; clear hG; intro Γ hG
        refine t_pu hG (fun w hC => pu_move rfl) ?_; clear hG; intro Γ hG
        refine t_split hG ⟨_, _, (rfl : _[24]? = some _), rfl, rfl⟩ (fun hg6_24 => ?_) (fun hg6_24 => ?_)
        · have hg6_24p := hg6_24
          try simp only [decide_eq_true_eq, decide_eq_false_iff_not, Bool.not_eq_true', Bool.not_eq_false', Bool.not_eq_eq_eq_not, Bool.not_true, Bool.not_false] at hg6_24p
          refine tg_no hG ⟨_, _, (rfl : _[24]? = some _), rfl, rfl⟩ hg6_24 ?_; clear hG; intro Γ hG
          refine tg_no hG ⟨_, _, (rfl : _[24]? = some _), rfl, rfl⟩ hg6_24 ?_; clear hG; intro Γ hG
          refine tg_no hG ⟨_, _, (rfl : _[24]? = some _), rfl, rfl⟩ hg6_24 ?_; clear hG; intro Γ hG
          refine tg_no hG ⟨_, _, (rfl : _[24]? = some _), rfl, rfl⟩ hg6_24 ?_; clear hG; intro Γ hG
          refine tg_no hG ⟨_, _, (rfl : _[24]? = some _), rfl, rfl⟩ hg6_24 ?_; clear hG; intro Γ hG
          refine tg_no hG ⟨_, _, (rfl : _[24]? = some _), rfl, rfl⟩ hg6_24 ?_; clear hG; intro Γ hG
          refine tg_no hG ⟨_, _, (rfl : _[24]? = some _), rfl, rfl⟩ hg6_24 ?_; clear hG; intro Γ hG
          refine tg_no hG ⟨_, _, (rfl : _[24]? = some _), rfl, rfl⟩ hg6_24 ?_; clear hG; intro Γ hG
          refine tg_no hG ⟨_, _, (rfl : _[24]? = some _), rfl, rfl⟩ hg6_24 ?_; clear hG; intro Γ hG
          refine tg_no hG ⟨_, _, (rfl : _[24]? = some _), rfl, rfl⟩ hg6_24 ?_; clear hG; intro Γ hG
          refine tg_no hG ⟨_, _, (rfl : _[24]? = some _), rfl, rfl⟩ hg6_24 ?_; clear hG; intro Γ hG
          refine t_pu hG (fun w hC => pu_pick_t rfl hg6_24 rfl) ?_; clear hG; intro Γ hG
          refine t_pu hG (fun w hC => pu_move rfl) ?_; clear hG; intro Γ hG
          refine tg_no hG ⟨_, _, (rfl : _[37]? = some _), rfl, rfl⟩ rfl ?_; clear hG; intro Γ hG
          refine tg_no hG ⟨_, _, (rfl : _[37]? = some _), rfl, rfl⟩ rfl ?_; clear hG; intro Γ hG
          refine tg_noU hG ⟨_, _, (rfl : _[39]? = some _), rfl, rfl⟩ ?_; clear hG; intro Γ hG
          refine tg_noU hG ⟨_, _, (rfl : _[39]? = some _), rfl, rfl⟩ ?_; clear hG; intro Γ hG
          refine tg_noU hG ⟨_, _, (rfl : _[39]? = some _), rfl, rfl⟩ ?_; clear hG; intro Γ hG
          refine tg_noU hG ⟨_, _, (rfl : _[39]? = some _), rfl, rfl⟩ ?_; clear hG; intro Γ hG
          refine tg_noU hG ⟨_, _, (rfl : _[39]? = some _), rfl, rfl⟩ ?_; clear hG; intro Γ hG
          refine tg_noU hG ⟨_, _, (rfl : _[39]? = some _), rfl, rfl⟩ ?_; clear hG; intro Γ hG
          refine tg_noU hG ⟨_, _, (rfl : _[39]? = some _), rfl, rfl⟩ ?_; clear hG; intro Γ hG
          refine tg_noU hG ⟨_, _, (rfl : _[39]? = some _), rfl, rfl⟩ ?_; clear hG; intro Γ hG
          refine tg_noU hG ⟨_, _, (rfl : _[39]? = some _), rfl, rfl⟩ ?_; clear hG; intro Γ hG
          refine tg_noU hG ⟨_, _, (rfl : _[39]? = some _), rfl, rfl⟩ ?_; clear hG; intro Γ hG
          refine tg_noU hG ⟨_, _, (rfl : _[39]? = some _), rfl, rfl⟩ ?_; clear hG; intro Γ hG
          refine tg_no hG ⟨_, _, (rfl : _[37]? = some _), rfl, rfl⟩ rfl ?_; clear hG; intro Γ hG
          refine t_pu hG (fun w hC => pu_pick_t rfl rfl rfl) ?_; clear hG; intro Γ hG
          refine t_end hG ?_; clear hG hF; intro a w hC hE hF hP; replace hS := hC.st; clear hC
          clear hE
          clear hP
          refine c_nil ?_
          refine n_then ?_
          refine c_ift hF rfl rfl ?_
          refine c_seq ?_
          refine c_reg ?_
          refine s_pu hF (pu_assign rfl) rfl ?_; clear hF; intro a hF
          refine c_nil ?_
          refine n_then ?_
          refine c_ret (r_block (r_then (r_then (r_block (r_then ?_)))))
          exact f_ret hF rfl (.tmp rfl (.nil)) (hS.retv (by rw [same_no k hk1 hk2 (fun e => by have e := (key_eq _ _ _).1 e; simp_all)]; rfl))
        · have hg6_24p := hg6_24
          try simp only [decide_eq_true_eq, decide_eq_false_iff_not, Bool.not_eq_true', Bool.not_eq_false', Bool.not_eq_eq_eq_not, Bool.not_true, Bool.not_false] at hg6_24p
          refine tg_pu hG ⟨_, _, (rfl : _[24]? = some _), rfl, rfl⟩ hg6_24 (fun w hC => pu_move rfl) ?_; clear hG; intro Γ hG
          refine tg_pu hG ⟨_, _, (rfl : _[24]? = some _), rfl, rfl⟩ hg6_24 (fun w hC => pu_move rfl) ?_; clear hG; intro Γ hG
          refine tg_pu hG ⟨_, _, (rfl : _[24]? = some _), rfl, rfl⟩ hg6_24 (fun w hC => pu_iaddr_sla (j := k) ha1 slt23 rfl rfl (by omega) (by omega)) ?_; clear hG; intro Γ hG
          refine tg_pu hG ⟨_, _, (rfl : _[24]? = some _), rfl, rfl⟩ hg6_24 (fun w hC => pu_faddr fld62_2 rfl) ?_; clear hG; intro Γ hG
          refine tg_pu hG ⟨_, _, (rfl : _[24]? = some _), rfl, rfl⟩ hg6_24 (fun w hC => pu_load1 one3 rfl (hH1 _ hC.st.base 2 _ rfl)) ?_; clear hG; intro Γ hG
          refine tg_pu hG ⟨_, _, (rfl : _[24]? = some _), rfl, rfl⟩ hg6_24 (fun w hC => pu_move rfl) ?_; clear hG; intro Γ hG
          refine tg_pu hG ⟨_, _, (rfl : _[24]? = some _), rfl, rfl⟩ hg6_24 (fun w hC => pu_move rfl) ?_; clear hG; intro Γ hG
          refine tg_pu hG ⟨_, _, (rfl : _[24]? = some _), rfl, rfl⟩ hg6_24 (fun w hC => pu_iaddr_sla (j := k) ha2 slt23 rfl rfl (by omega) (by omega)) ?_; clear hG; intro Γ hG
          refine tg_pu hG ⟨_, _, (rfl : _[24]? = some _), rfl, rfl⟩ hg6_24 (fun w hC => pu_faddr fld62_2 rfl) ?_; clear hG; intro Γ hG
          refine tg_pu hG ⟨_, _, (rfl : _[24]? = some _), rfl, rfl⟩ hg6_24 (fun w hC => pu_load1 one3 rfl (hH2 _ hC.st.base 2 _ rfl)) ?_; clear hG; intro Γ hG
          refine tg_pu hG ⟨_, _, (rfl : _[24]? = some _), rfl, rfl⟩ hg6_24 (fun w hC => pu_ine rfl rfl) ?_; clear hG; intro Γ hG
          refine t_pu hG (fun w hC => pu_pick_f rfl hg6_24 rfl) ?_; clear hG; intro Γ hG
          refine t_pu hG (fun w hC => pu_move rfl) ?_; clear hG; intro Γ hG
          refine t_split hG ⟨_, _, (rfl : _[37]? = some _), rfl, rfl⟩ (fun hg6_37 => ?_) (fun hg6_37 => ?_)
          · have hg6_37p := hg6_37
            try simp only [decide_eq_true_eq, decide_eq_false_iff_not, Bool.not_eq_true', Bool.not_eq_false', Bool.not_eq_eq_eq_not, Bool.not_true, Bool.not_false] at hg6_37p
            refine tg_no hG ⟨_, _, (rfl : _[37]? = some _), rfl, rfl⟩ hg6_37 ?_; clear hG; intro Γ hG
            refine tg_no hG ⟨_, _, (rfl : _[37]? = some _), rfl, rfl⟩ hg6_37 ?_; clear hG; intro Γ hG
            refine tg_noU hG ⟨_, _, (rfl : _[39]? = some _), rfl, rfl⟩ ?_; clear hG; intro Γ hG
            refine tg_noU hG ⟨_, _, (rfl : _[39]? = some _), rfl, rfl⟩ ?_; clear hG; intro Γ hG
            refine tg_noU hG ⟨_, _, (rfl : _[39]? = some _), rfl, rfl⟩ ?_; clear hG; intro Γ hG
            refine tg_noU hG ⟨_, _, (rfl : _[39]? = some _), rfl, rfl⟩ ?_; clear hG; intro Γ hG
            refine tg_noU hG ⟨_, _, (rfl : _[39]? = some _), rfl, rfl⟩ ?_; clear hG; intro Γ hG
            refine tg_noU hG ⟨_, _, (rfl : _[39]? = some _), rfl, rfl⟩ ?_; clear hG; intro Γ hG
            refine tg_noU hG ⟨_, _, (rfl : _[39]? = some _), rfl, rfl⟩ ?_; clear hG; intro Γ hG
            refine tg_noU hG ⟨_, _, (rfl : _[39]? = some _), rfl, rfl⟩ ?_; clear hG; intro Γ hG
            refine tg_noU hG ⟨_, _, (rfl : _[39]? = some _), rfl, rfl⟩ ?_; clear hG; intro Γ hG
            refine tg_noU hG ⟨_, _, (rfl : _[39]? = some _), rfl, rfl⟩ ?_; clear hG; intro Γ hG
            refine tg_noU hG ⟨_, _, (rfl : _[39]? = some _), rfl, rfl⟩ ?_; clear hG; intro Γ hG
            refine tg_no hG ⟨_, _, (rfl : _[37]? = some _), rfl, rfl⟩ hg6_37 ?_; clear hG; intro Γ hG
            refine t_pu hG (fun w hC => pu_pick_t rfl hg6_37 rfl) ?_; clear hG; intro Γ hG
            refine t_end hG ?_; clear hG hF; intro a w hC hE hF hP; replace hS := hC.st; clear hC
            clear hE
            clear hP
            refine c_nil ?_
            refine n_then ?_
            refine c_ift hF rfl rfl ?_
            refine c_seq ?_
            refine c_reg ?_
            refine s_pu hF (pu_assign rfl) rfl ?_; clear hF; intro a hF
            refine c_nil ?_
            refine n_then ?_
            refine c_ret (r_block (r_then (r_then (r_block (r_then ?_)))))
            exact f_ret hF rfl (.tmp rfl (.nil)) (hS.retv (by rw [same_no k hk1 hk2 (fun e => by have e := (key_eq _ _ _).1 e; simp_all)]; rfl))
          · have hg6_37p := hg6_37
            try simp only [decide_eq_true_eq, decide_eq_false_iff_not, Bool.not_eq_true', Bool.not_eq_false', Bool.not_eq_eq_eq_not, Bool.not_true, Bool.not_false] at hg6_37p
            refine tg_pu hG ⟨_, _, (rfl : _[37]? = some _), rfl, rfl⟩ hg6_37 (fun w hC => pu_move rfl) ?_; clear hG; intro Γ hG
            refine tg_pu hG ⟨_, _, (rfl : _[37]? = some _), rfl, rfl⟩ hg6_37 (fun w hC => pu_move rfl) ?_; clear hG; intro Γ hG
            refine t_split hG ⟨_, _, (rfl : _[39]? = some _), rfl, rfl⟩ (fun hg6_39 => ?_) (fun hg6_39 => ?_)
            · have hg6_39p := hg6_39
              try simp only [decide_eq_true_eq, decide_eq_false_iff_not, Bool.not_eq_true', Bool.not_eq_false', Bool.not_eq_eq_eq_not, Bool.not_true, Bool.not_false] at hg6_39p
              refine tg_pu hG ⟨_, _, (rfl : _[39]? = some _), rfl, rfl⟩ hg6_39 (fun w hC => pu_move rfl) ?_; clear hG; intro Γ hG
              refine tg_pu hG ⟨_, _, (rfl : _[39]? = some _), rfl, rfl⟩ hg6_39 (fun w hC => pu_move rfl) ?_; clear hG; intro Γ hG
              refine tg_pu hG ⟨_, _, (rfl : _[39]? = some _), rfl, rfl⟩ hg6_39 (fun w hC => pu_iaddr_sla (j := k) ha1 slt23 rfl rfl (by omega) (by omega)) ?_; clear hG; intro Γ hG
              refine tg_pu hG ⟨_, _, (rfl : _[39]? = some _), rfl, rfl⟩ hg6_39 (fun w hC => pu_faddr fld62_3 rfl) ?_; clear hG; intro Γ hG
              refine tg_pu hG ⟨_, _, (rfl : _[39]? = some _), rfl, rfl⟩ hg6_39 (fun w hC => pu_load1 one3 rfl (hH1 _ hC.st.base 3 _ rfl)) ?_; clear hG; intro Γ hG
              refine tg_pu hG ⟨_, _, (rfl : _[39]? = some _), rfl, rfl⟩ hg6_39 (fun w hC => pu_move rfl) ?_; clear hG; intro Γ hG
              refine tg_pu hG ⟨_, _, (rfl : _[39]? = some _), rfl, rfl⟩ hg6_39 (fun w hC => pu_move rfl) ?_; clear hG; intro Γ hG
              refine tg_pu hG ⟨_, _, (rfl : _[39]? = some _), rfl, rfl⟩ hg6_39 (fun w hC => pu_iaddr_sla (j := k) ha2 slt23 rfl rfl (by omega) (by omega)) ?_; clear hG; intro Γ hG
              refine tg_pu hG ⟨_, _, (rfl : _[39]? = some _), rfl, rfl⟩ hg6_39 (fun w hC => pu_faddr fld62_3 rfl) ?_; clear hG; intro Γ hG
              refine tg_pu hG ⟨_, _, (rfl : _[39]? = some _), rfl, rfl⟩ hg6_39 (fun w hC => pu_load1 one3 rfl (hH2 _ hC.st.base 3 _ rfl)) ?_; clear hG; intro Γ hG
              refine tg_pu hG ⟨_, _, (rfl : _[39]? = some _), rfl, rfl⟩ hg6_39 (fun w hC => pu_ine rfl rfl) ?_; clear hG; intro Γ hG
              refine tg_pu hG ⟨_, _, (rfl : _[37]? = some _), rfl, rfl⟩ hg6_37 (fun w hC => pu_pick_t rfl hg6_39 rfl) ?_; clear hG; intro Γ hG
              refine t_pu hG (fun w hC => pu_pick_f rfl hg6_37 rfl) ?_; clear hG; intro Γ hG
              refine t_end hG ?_; clear hG hF; intro a w hC hE hF hP; replace hS := hC.st; clear hC
              clear hE
              clear hP
              refine c_nil ?_
              refine n_then ?_
              refine c_if hF rfl (fun hc71 => ?_) (fun hc71 => ?_)
              · try simp only [decide_eq_true_eq, decide_eq_false_iff_not, Bool.not_eq_true', Bool.not_eq_false', Bool.not_eq_eq_eq_not, Bool.not_true, Bool.not_false] at hc71
                refine c_seq ?_
                refine c_reg ?_
                refine s_pu hF (pu_assign rfl) rfl ?_; clear hF; intro a hF
                refine c_nil ?_
                refine n_then ?_
                refine c_ret (r_block (r_then (r_then (r_block (r_then ?_)))))
                exact f_ret hF rfl (.tmp rfl (.nil)) (hS.retv (by rw [same_no k hk1 hk2 (fun e => by have e := (key_eq _ _ _).1 e; simp_all)]; rfl))
              · try simp only [decide_eq_true_eq, decide_eq_false_iff_not, Bool.not_eq_true', Bool.not_eq_false', Bool.not_eq_eq_eq_not, Bool.not_true, Bool.not_false] at hc71
                refine c_skip ?_
                refine n_block ?_
                refine n_then ?_
                refine c_reg ?_
                refine s_pu hF (pu_move rfl) rfl ?_; clear hF; intro a hF
                refine s_pu hF (pu_add rfl rfl (by first | exact wrap_i64 (by omega) (by omega) | rfl)) rfl ?_; clear hF; intro a hF
                refine s_pu hF (pu_assign rfl) rfl ?_; clear hF; intro a hF
                refine c_nil ?_
                exact ⟨k + 1, ⟨by omega, same_snoc k hk1 hk2 hm ((key_eq _ _ _).2 (by simp_all)), hF.pick (.cons (k := 7) rfl <| .cons (k := 0) rfl <| .cons (k := 1) rfl <| .cons (k := 2) rfl <| .nil), hS⟩, by omega⟩
            · have hg6_39p := hg6_39
              try simp only [decide_eq_true_eq, decide_eq_false_iff_not, Bool.not_eq_true', Bool.not_eq_false', Bool.not_eq_eq_eq_not, Bool.not_true, Bool.not_false] at hg6_39p
              refine tg_no hG ⟨_, _, (rfl : _[39]? = some _), rfl, rfl⟩ hg6_39 ?_; clear hG; intro Γ hG
              refine tg_no hG ⟨_, _, (rfl : _[39]? = some _), rfl, rfl⟩ hg6_39 ?_; clear hG; intro Γ hG
              refine tg_no hG ⟨_, _, (rfl : _[39]? = some _), rfl, rfl⟩ hg6_39 ?_; clear hG; intro Γ hG
              refine tg_no hG ⟨_, _, (rfl : _[39]? = some _), rfl, rfl⟩ hg6_39 ?_; clear hG; intro Γ hG
              refine tg_no hG ⟨_, _, (rfl : _[39]? = some _), rfl, rfl⟩ hg6_39 ?_; clear hG; intro Γ hG
              refine tg_no hG ⟨_, _, (rfl : _[39]? = some _), rfl, rfl⟩ hg6_39 ?_; clear hG; intro Γ hG
              refine tg_no hG ⟨_, _, (rfl : _[39]? = some _), rfl, rfl⟩ hg6_39 ?_; clear hG; intro Γ hG
              refine tg_no hG ⟨_, _, (rfl : _[39]? = some _), rfl, rfl⟩ hg6_39 ?_; clear hG; intro Γ hG
              refine tg_no hG ⟨_, _, (rfl : _[39]? = some _), rfl, rfl⟩ hg6_39 ?_; clear hG; intro Γ hG
              refine tg_no hG ⟨_, _, (rfl : _[39]? = some _), rfl, rfl⟩ hg6_39 ?_; clear hG; intro Γ hG
              refine tg_no hG ⟨_, _, (rfl : _[39]? = some _), rfl, rfl⟩ hg6_39 ?_; clear hG; intro Γ hG
              refine tg_pu hG ⟨_, _, (rfl : _[37]? = some _), rfl, rfl⟩ hg6_37 (fun w hC => pu_pick_f rfl hg6_39 rfl) ?_; clear hG; intro Γ hG
              refine t_pu hG (fun w hC => pu_pick_f rfl hg6_37 rfl) ?_; clear hG; intro Γ hG
              refine t_end hG ?_; clear hG hF; intro a w hC hE hF hP; replace hS := hC.st; clear hC
              clear hE
              clear hP
              refine c_nil ?_
              refine n_then ?_
              refine c_iff hF rfl rfl ?_
              refine c_skip ?_
              refine n_block ?_
              refine n_then ?_
              refine c_reg ?_
              refine s_pu hF (pu_move rfl) rfl ?_; clear hF; intro a hF
              refine s_pu hF (pu_add rfl rfl (by first | exact wrap_i64 (by omega) (by omega) | rfl)) rfl ?_; clear hF; intro a hF
              refine s_pu hF (pu_assign rfl) rfl ?_; clear hF; intro a hF
              refine c_nil ?_
              exact ⟨k + 1, ⟨by omega, same_snoc k hk1 hk2 hm ((key_eq _ _ _).2 (by simp_all)), hF.pick (.cons (k := 7) rfl <| .cons (k := 0) rfl <| .cons (k := 1) rfl <| .cons (k := 2) rfl <| .nil), hS⟩, by omega⟩
    · try simp only [decide_eq_true_eq, decide_eq_false_iff_not, Bool.not_eq_true', Bool.not_eq_false', Bool.not_eq_eq_eq_not, Bool.not_true, Bool.not_false] at hc16
      refine c_exit (x_then (x_then (x_here ?_)))
      refine n_then ?_
      refine c_seq ?_
      refine c_reg ?_
      refine s_pu hF (pu_assign rfl) rfl ?_; clear hF; intro a hF
      refine c_nil ?_
      refine n_then ?_
      refine c_ret ?_
      exact f_ret hF rfl (.tmp rfl (.nil)) (hS.retv (by rw [same_yes k (by omega) (by omega) hm]; rfl))
theorem c_lives  (w0 : World) (h0 : View) (hv : VLe h0 (Full w0))  : Calls Try.prog 8 #[] w0 (Ret w0 h0 fun u _ => u = .bool true) := by
  refine f_enter (args := []) Try.func8 rfl Try.ntmps8 rfl fun a hF => ?_
  have hS := St.init w0 h0 hv
  refine c_seq ?_
  refine c_reg ?_
  refine s_pu hF (pu_assign rfl) rfl ?_; clear hF; intro a hF
  refine c_nil ?_
  refine n_then ?_
  refine c_seq ?_
  refine c_reg ?_
  refine s_callG hF ok9 rfl (c_Lex [97, 60, 61, 32, 49, 50] (by decide) _ _ (VLe.refl _)) rfl ?_; clear hF; rintro _ w1 a hk1 ⟨sl, rfl, hnb⟩ hF; replace hS := hS.addBuf hk1 hnb; obtain ⟨a1, n1, c1, rfl, hn1⟩ := hnb.form; clear hk1 hnb
  refine s_pu hF (pu_move rfl) rfl ?_; clear hF; intro a hF
  refine s_pu hF (pu_extract rfl rfl) rfl ?_; clear hF; intro a hF
  refine s_pu hF (pu_extract rfl rfl) rfl ?_; clear hF; intro a hF
  refine s_pu hF (pu_extract rfl rfl) rfl ?_; clear hF; intro a hF
  refine s_pu hF (pu_assign rfl) rfl ?_; clear hF; intro a hF
  refine s_pu hF (pu_assign rfl) rfl ?_; clear hF; intro a hF
  refine s_pu hF (pu_assign rfl) rfl ?_; clear hF; intro a hF
  refine c_nil ?_
  refine n_then ?_
  refine c_seq ?_
  refine c_reg ?_
  refine s_pu hF (pu_move rfl) rfl ?_; clear hF; intro a hF
  refine s_pu hF (pu_build_st (cs := tokC ⟨1, [97], 0, 0⟩) strb62 rfl rfl) rfl ?_; clear hF; intro a hF
  refine s_pu hF (pu_build_st (cs := tokC ⟨4, [60, 61], 0, 1⟩) strb62 rfl rfl) rfl ?_; clear hF; intro a hF
  refine s_pu hF (pu_build_st (cs := tokC ⟨2, [], 12, 4⟩) strb62 rfl rfl) rfl ?_; clear hF; intro a hF
  refine s_build (xs := [.tmp 10, .tmp 11, .tmp 12]) hF hS slt_b23 rfl rfl (by simp [Value.cells, tokC]) (by decide) rfl ?_; clear hS hF; intro b0 w a hS hF
  rw [lex_ex] at hS
  have hn1 : n1 = 3 := by (rw [lex_ex, flatC_len] at hn1; have hl : exL.length = 3 := rfl; simp only [hl] at hn1; omega)
  subst hn1
  have hrow := hS.at (i := 0) rfl
  have hbs := hS.bufSl (i := 1) rfl (fun _ _ => rfl) rfl
  refine s_calld hF hS ok11 rfl (c_Same _ _ exL _ 3 exL true (by decide) _ (Full w) (VLe.refl _) hbs (SlC.ofRow (f := tokC) (fun _ _ => rfl) (h := Full w) hrow rfl (by decide) (by decide) rfl)) rfl ?_; clear hS hF hrow hbs; intro w a hS hF
  rw [same_self] at hF
  refine s_pu hF (pu_move rfl) rfl ?_; clear hF; intro a hF
  refine g_pu hF ⟨_, _, (rfl : _[6]? = some _), rfl, rfl⟩ rfl (pu_move rfl) rfl ?_; clear hF; intro a hF
  refine g_pu hF ⟨_, _, (rfl : _[6]? = some _), rfl, rfl⟩ rfl (pu_ieq rfl rfl) rfl ?_; clear hF; intro a hF
  refine s_pu hF (pu_pick_t rfl rfl rfl) rfl ?_; clear hF; intro a hF
  refine s_pu hF (pu_move rfl) rfl ?_; clear hF; intro a hF
  refine g_pu hF ⟨_, _, (rfl : _[10]? = some _), rfl, rfl⟩ (by rw [lex_ex]; rfl) (pu_move rfl) rfl ?_; clear hF; intro a hF
  refine g_pu hF ⟨_, _, (rfl : _[10]? = some _), rfl, rfl⟩ (by rw [lex_ex]; rfl) (pu_ieq rfl rfl) rfl ?_; clear hF; intro a hF
  refine s_pu hF (pu_pick_t rfl (by rw [lex_ex]; rfl) rfl) rfl ?_; clear hF; intro a hF
  refine s_pu hF (pu_move rfl) rfl ?_; clear hF; intro a hF
  refine g_callv hF hS ⟨_, _, (rfl : _[14]? = some _), rfl, rfl⟩ (by rw [lex_ex]; rfl) ok12 rfl (c_Name [97] (by decide) _ _ hS.view) rfl ?_; clear hS hF; intro w a hS hF
  refine s_pu hF (pu_pick_t rfl (by rw [lex_ex]; rfl) rfl) rfl ?_; clear hF; intro a hF
  refine s_pu hF (pu_move rfl) rfl ?_; clear hF; intro a hF
  refine g_callv hF hS ⟨_, _, (rfl : _[17]? = some _), rfl, rfl⟩ name_a ok12 rfl (c_Name [97, 110, 100] (by decide) _ _ hS.view) rfl ?_; clear hS hF; intro w a hS hF
  refine g_pu hF ⟨_, _, (rfl : _[17]? = some _), rfl, rfl⟩ name_a (pu_not rfl) rfl ?_; clear hF; intro a hF
  refine s_pu hF (pu_pick_t rfl name_a rfl) rfl ?_; clear hF; intro a hF
  refine s_pu hF (pu_assign rfl) rfl ?_; clear hF; intro a hF
  refine c_nil ?_
  refine n_then ?_
  refine c_ret ?_
  exact f_ret hF rfl (.tmp rfl (.nil)) (hS.retv (by show Value.bool (!nameOk _) = _; rw [name_and]; rfl))
theorem c_LexReads (s : List UInt8) (w0 : World) (h0 : View) (hv : VLe h0 (Full w0))  : Calls Try.prog 3 #[vs s] w0 (Ret w0 h0 fun u _ => u = .bool true) := by
  refine f_enter (args := [vs s]) Try.func3 rfl Try.ntmps3 rfl fun a hF => ?_
  have hS := St.init w0 h0 hv
  refine c_seq ?_
  refine c_reg ?_
  refine s_pu hF (pu_assign rfl) rfl ?_; clear hF; intro a hF
  refine c_nil ?_
  refine n_then ?_
  refine c_seq ?_
  refine c_seq ?_
  refine c_reg ?_
  refine s_pu hF (pu_move rfl) rfl ?_; clear hF; intro a hF
  refine s_pu hF (pu_len_s tyS9 rfl rfl) rfl ?_; clear hF; intro a hF
  refine s_pu hF (pu_igt rfl rfl) rfl ?_; clear hF; intro a hF
  refine c_nil ?_
  refine n_then ?_
  refine c_if hF rfl (fun hc11 => ?_) (fun hc11 => ?_)
  · try simp only [decide_eq_true_eq, decide_eq_false_iff_not, Bool.not_eq_true', Bool.not_eq_false', Bool.not_eq_eq_eq_not, Bool.not_true, Bool.not_false] at hc11
    refine c_seq ?_
    refine c_reg ?_
    refine s_callv hF hS ok8 rfl (c_lives _ _ hS.view) rfl ?_; clear hS hF; intro w a hS hF
    refine s_pu hF (pu_assign rfl) rfl ?_; clear hF; intro a hF
    refine c_nil ?_
    refine n_then ?_
    refine c_ret (r_then ?_)
    exact f_ret hF rfl (.tmp rfl (.nil)) (hS.retv rfl)
  · try simp only [decide_eq_true_eq, decide_eq_false_iff_not, Bool.not_eq_true', Bool.not_eq_false', Bool.not_eq_eq_eq_not, Bool.not_true, Bool.not_false] at hc11
    refine c_skip ?_
    refine n_then ?_
    refine c_seq ?_
    refine c_reg ?_
    refine s_pu hF (pu_move rfl) rfl ?_; clear hF; intro a hF
    refine s_callG hF ok9 rfl (c_Lex s (by omega) _ _ (VLe.refl _)) rfl ?_; clear hF; rintro _ w1 a hk1 ⟨sl, rfl, hnb⟩ hF; replace hS := hS.addBuf hk1 hnb; obtain ⟨a1, n1, c1, rfl, hn1⟩ := hnb.form; clear hk1 hnb
    refine s_pu hF (pu_move rfl) rfl ?_; clear hF; intro a hF
    refine s_pu hF (pu_extract rfl rfl) rfl ?_; clear hF; intro a hF
    refine s_pu hF (pu_extract rfl rfl) rfl ?_; clear hF; intro a hF
    refine s_pu hF (pu_extract rfl rfl) rfl ?_; clear hF; intro a hF
    refine s_pu hF (pu_assign rfl) rfl ?_; clear hF; intro a hF
    refine s_pu hF (pu_assign rfl) rfl ?_; clear hF; intro a hF
    refine s_pu hF (pu_assign rfl) rfl ?_; clear hF; intro a hF
    refine c_nil ?_
    refine n_then ?_
    refine c_seq ?_
    refine c_reg ?_
    refine s_pu hF (pu_move rfl) rfl ?_; clear hF; intro a hF
    refine s_callG hF ok10 rfl (c_RLex s (by omega) _ _ (VLe.refl _)) rfl ?_; clear hF; rintro _ w1 a hk1 ⟨sl, rfl, hnb⟩ hF; replace hS := hS.addBuf hk1 hnb; obtain ⟨a2, n2, c2, rfl, hn2⟩ := hnb.form; clear hk1 hnb
    refine s_pu hF (pu_move rfl) rfl ?_; clear hF; intro a hF
    refine s_pu hF (pu_extract rfl rfl) rfl ?_; clear hF; intro a hF
    refine s_pu hF (pu_extract rfl rfl) rfl ?_; clear hF; intro a hF
    refine s_pu hF (pu_extract rfl rfl) rfl ?_; clear hF; intro a hF
    refine s_pu hF (pu_assign rfl) rfl ?_; clear hF; intro a hF
    refine s_pu hF (pu_assign rfl) rfl ?_; clear hF; intro a hF
    refine s_pu hF (pu_assign rfl) rfl ?_; clear hF; intro a hF
    refine c_nil ?_
    refine n_then ?_
    refine c_seq ?_
    refine c_reg ?_
    refine s_pu hF (pu_move rfl) rfl ?_; clear hF; intro a hF
    refine s_pu hF (pu_move rfl) rfl ?_; clear hF; intro a hF
    have hn1 : n1 = (lexS s).1.length := by rw [flatC_len] at hn1; omega
    have hn2 : n2 = (lexS s).1.length := by rw [flatC_len] at hn2; omega
    subst hn1
    subst hn2
    have hb1 := hS.bufSl (i := 1) rfl (fun _ _ => rfl) rfl
    have hb2 := hS.bufSl (i := 0) rfl (fun _ _ => rfl) rfl
    refine s_calld hF hS ok11 rfl (c_Same _ _ (lexS s).1 _ _ (lexS s).1 true (by have := lexS_len s; omega) _ (Full _) (VLe.refl _) hb1 hb2) rfl ?_; clear hS hF hb1 hb2; intro w a hS hF
    rw [same_self] at hF
    refine s_pu hF (pu_move rfl) rfl ?_; clear hF; intro a hF
    refine g_pu hF ⟨_, _, (rfl : _[3]? = some _), rfl, rfl⟩ rfl (pu_move rfl) rfl ?_; clear hF; intro a hF
    refine g_pu hF ⟨_, _, (rfl : _[3]? = some _), rfl, rfl⟩ rfl (pu_move rfl) rfl ?_; clear hF; intro a hF
    refine g_pu hF ⟨_, _, (rfl : _[3]? = some _), rfl, rfl⟩ rfl (pu_ieq rfl rfl) rfl ?_; clear hF; intro a hF
    refine s_pu hF (pu_pick_t rfl rfl rfl) rfl ?_; clear hF; intro a hF
    refine s_pu hF (pu_move rfl) rfl ?_; clear hF; intro a hF
    refine g_pu hF ⟨_, _, (rfl : _[8]? = some _), rfl, rfl⟩ (decide_eq_true rfl) (pu_move rfl) rfl ?_; clear hF; intro a hF
    refine g_pu hF ⟨_, _, (rfl : _[8]? = some _), rfl, rfl⟩ (decide_eq_true rfl) (pu_move rfl) rfl ?_; clear hF; intro a hF
    refine g_pu hF ⟨_, _, (rfl : _[8]? = some _), rfl, rfl⟩ (decide_eq_true rfl) (pu_ieq rfl rfl) rfl ?_; clear hF; intro a hF
    refine s_pu hF (pu_pick_t rfl (decide_eq_true rfl) rfl) rfl ?_; clear hF; intro a hF
    refine s_pu hF (pu_move rfl) rfl ?_; clear hF; intro a hF
    refine g_pu hF ⟨_, _, (rfl : _[13]? = some _), rfl, rfl⟩ (decide_eq_true rfl) (pu_move rfl) rfl ?_; clear hF; intro a hF
    refine g_callv hF hS ⟨_, _, (rfl : _[13]? = some _), rfl, rfl⟩ (decide_eq_true rfl) ok12 rfl (c_Name s (by omega) _ _ hS.view) rfl ?_; clear hS hF; intro w a hS hF
    refine g_pu hF ⟨_, _, (rfl : _[13]? = some _), rfl, rfl⟩ (decide_eq_true rfl) (pu_move rfl) rfl ?_; clear hF; intro a hF
    refine g_callv hF hS ⟨_, _, (rfl : _[13]? = some _), rfl, rfl⟩ (decide_eq_true rfl) ok13 rfl (c_RName s (by omega) _ _ hS.view) rfl ?_; clear hS hF; intro w a hS hF
    refine g_pu hF ⟨_, _, (rfl : _[13]? = some _), rfl, rfl⟩ (decide_eq_true rfl) (pu_beq tyB4 rfl rfl) rfl ?_; clear hF; intro a hF
    refine s_pu hF (pu_pick_t rfl (decide_eq_true rfl) rfl) rfl ?_; clear hF; intro a hF
    refine s_pu hF (pu_move rfl) rfl ?_; clear hF; intro a hF
    refine g_callv hF hS ⟨_, _, (rfl : _[20]? = some _), rfl, rfl⟩ (by simp) ok8 rfl (c_lives _ _ hS.view) rfl ?_; clear hS hF; intro w a hS hF
    refine s_pu hF (pu_pick_t rfl (by simp) rfl) rfl ?_; clear hF; intro a hF
    refine s_pu hF (pu_assign rfl) rfl ?_; clear hF; intro a hF
    refine c_nil ?_
    refine n_then ?_
    refine c_ret ?_
    exact f_ret hF rfl (.tmp rfl (.nil)) (hS.retv rfl)
end Go.Proofs.Ytjidmighkphmkaa
