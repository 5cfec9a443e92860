/- What the functions of the program compute, each with its conditions. -/
import Derived.Test.YtklhnhpcgkmijaaDoorT12
set_option linter.unusedSimpArgs false
set_option linter.unusedVariables false
namespace Go.Proofs.YtklhnhpcgkmijaaDoor
open Go Go.Dx Go.RowKit
theorem c_TextQ (v : Val) (hvb : valB v) (hok : valOk v = true) (hk : v.k = 2) (hp : plainS v.s = true) (w0 : World) (h0 : View) (hv : VLe h0 (Full w0))  : Calls Tryd.prog 9 #[.agg (valC v).toArray] w0 (Ret w0 h0 fun u _ => u = tsV (quS v.s, 0)) := by
  refine f_enter (args := [.agg (valC v).toArray]) Tryd.func9 rfl Tryd.ntmps9 rfl fun a hF => ?_
  have hS := St.init w0 h0 hv
  refine c_seq ?_
  refine c_reg ?_
  refine s_box hF hS rfl rfl rfl ?_; clear hS hF; intro b0 w a hS hF
  refine s_pu hF (pu_assign rfl) rfl ?_; clear hF; intro a hF
  refine s_pu hF (pu_assign rfl) rfl ?_; clear hF; intro a hF
  refine c_nil ?_
  refine n_then ?_
  refine c_seq ?_
  refine c_seq ?_
  refine c_reg ?_
  refine s_pu hF (o_loadA (i := 0) (new := valC v) hS rfl agg24 rfl (rfl)) rfl ?_; clear hF; intro a hF
  refine s_callv hF hS ok12 rfl (c_VCheck v hvb _ _ hS.view) rfl ?_; clear hS hF; intro w a hS hF
  refine s_pu hF (pu_assign rfl) rfl ?_; clear hF; intro a hF
  refine c_nil ?_
  refine n_then ?_
  refine c_seq ?_
  refine c_reg ?_
  refine s_pu hF (pu_move rfl) rfl ?_; clear hF; intro a hF
  refine s_pu hF (pu_ine rfl rfl) rfl ?_; clear hF; intro a hF
  refine c_nil ?_
  refine n_then ?_
  refine c_iff hF rfl (by rw [chkV, if_pos hok]; rfl) ?_
  refine c_skip ?_
  refine n_then ?_
  refine c_seq ?_
  refine c_seq ?_
  refine c_reg ?_
  refine s_pu hF (pu_faddr fld24_0 rfl) rfl ?_; clear hF; intro a hF
  refine s_pu hF (o_load1 (i := 0) hS rfl one22 rfl rfl) rfl ?_; clear hF; intro a hF
  refine c_nil ?_
  refine n_then ?_
  refine c_block ?_
  refine c_seq ?_
  refine c_reg ?_
  refine s_pu hF (pu_ieq rfl rfl) rfl ?_; clear hF; intro a hF
  refine s_pu hF (pu_assign rfl) rfl ?_; clear hF; intro a hF
  refine c_nil ?_
  refine n_then ?_
  refine c_iff hF rfl (decide_eq_false (by omega)) ?_
  refine c_seq ?_
  refine c_reg ?_
  refine s_pu hF (pu_ieq rfl rfl) rfl ?_; clear hF; intro a hF
  refine s_pu hF (pu_assign rfl) rfl ?_; clear hF; intro a hF
  refine c_nil ?_
  refine n_then ?_
  refine c_ift hF rfl (decide_eq_true (by omega)) ?_
  refine c_seq ?_
  refine c_reg ?_
  refine s_pu hF (pu_faddr fld24_2 rfl) rfl ?_; clear hF; intro a hF
  refine s_pu hF (o_load1 (i := 0) hS rfl one9 rfl rfl) rfl ?_; clear hF; intro a hF
  refine s_callv hF hS ok26 rfl (c_quote v.s hp _ _ hS.view) rfl ?_; clear hS hF; intro w a hS hF
  refine s_pu hF (pu_assign rfl) rfl ?_; clear hF; intro a hF
  refine s_pu hF (pu_assign rfl) rfl ?_; clear hF; intro a hF
  refine c_nil ?_
  refine n_then ?_
  refine c_ret (r_block (r_then ?_))
  exact f_ret hF rfl (.tmp rfl (.tmp rfl (.nil))) (hS.retv rfl)
set_option maxHeartbeats 1000000 in
theorem c_lives  (w0 : World) (h0 : View) (hv : VLe h0 (Full w0))  : Calls Tryd.prog 8 #[] w0 (Ret w0 h0 fun u _ => u = .bool true) := by
  refine f_enter (args := []) Tryd.func8 rfl Tryd.ntmps8 rfl fun a hF => ?_
  have hS := St.init w0 h0 hv
  refine c_seq ?_
  refine c_reg ?_
  refine s_pu hF (pu_assign rfl) rfl ?_; clear hF; intro a hF
  refine c_nil ?_
  refine n_then ?_
  refine c_seq ?_
  refine c_reg ?_
  refine s_pu hF (pu_build_st (cs := valC ⟨2, 0, [97, 34]⟩) strb24 rfl rfl) rfl ?_; clear hF; intro a hF
  refine s_alloc hF hS zero24 rfl ?_; clear hS hF; intro b0 w a hS hF
  refine s_store (i := 0) (new := valC ⟨2, 0, [97, 34]⟩) hF hS rfl rfl rfl rfl (by exact sz24) rfl (by simp [valC]) ?_; clear hS hF; intro w a hS hF
  rw [spl_all (by simp [valC])] at hS
  refine c_nil ?_
  refine n_then ?_
  refine c_seq ?_
  refine c_reg ?_
  refine s_pu hF (o_loadA (i := 0) (new := valC ⟨2, 0, [97, 34]⟩) hS rfl agg24 rfl (rfl)) rfl ?_; clear hF; intro a hF
  refine s_callv hF hS ok9 rfl (c_TextQ ⟨2, 0, [97, 34]⟩ ⟨⟨by decide, by decide⟩, ⟨by decide, by decide⟩⟩ (by decide) rfl (by decide) _ _ hS.view) rfl ?_; clear hS hF; intro w a hS hF
  refine s_pu hF (pu_move rfl) rfl ?_; clear hF; intro a hF
  refine s_pu hF (pu_extract rfl rfl) rfl ?_; clear hF; intro a hF
  refine s_pu hF (pu_extract rfl rfl) rfl ?_; clear hF; intro a hF
  refine s_pu hF (pu_assign rfl) rfl ?_; clear hF; intro a hF
  refine s_pu hF (pu_assign rfl) rfl ?_; clear hF; intro a hF
  refine c_nil ?_
  refine n_then ?_
  refine c_seq ?_
  refine c_reg ?_
  refine s_pu hF (o_loadA (i := 0) (new := valC ⟨2, 0, [97, 34]⟩) hS rfl agg24 rfl (rfl)) rfl ?_; clear hF; intro a hF
  refine s_callv hF hS ok10 rfl (c_VBytes ⟨2, 0, [97, 34]⟩ ⟨⟨by decide, by decide⟩, ⟨by decide, by decide⟩⟩ _ _ hS.view) rfl ?_; clear hS hF; intro w a hS hF
  refine s_pu hF (pu_move rfl) rfl ?_; clear hF; intro a hF
  refine s_pu hF (pu_extract rfl rfl) rfl ?_; clear hF; intro a hF
  refine s_pu hF (pu_extract rfl rfl) rfl ?_; clear hF; intro a hF
  refine s_pu hF (pu_assign rfl) rfl ?_; clear hF; intro a hF
  refine s_pu hF (pu_assign rfl) rfl ?_; clear hF; intro a hF
  refine c_nil ?_
  refine n_then ?_
  refine c_seq ?_
  refine c_reg ?_
  refine s_pu hF (pu_move rfl) rfl ?_; clear hF; intro a hF
  refine s_pu hF (pu_seq rfl rfl) rfl ?_; clear hF; intro a hF
  refine s_pu hF (pu_move rfl) rfl ?_; clear hF; intro a hF
  refine g_pu hF ⟨_, _, (rfl : _[2]? = some _), rfl, rfl⟩ (by decide +kernel) (pu_move rfl) rfl ?_; clear hF; intro a hF
  refine g_pu hF ⟨_, _, (rfl : _[2]? = some _), rfl, rfl⟩ (by decide +kernel) (pu_ieq rfl rfl) rfl ?_; clear hF; intro a hF
  refine s_pu hF (pu_pick_t rfl (by decide +kernel) rfl) rfl ?_; clear hF; intro a hF
  refine s_pu hF (pu_move rfl) rfl ?_; clear hF; intro a hF
  refine g_pu hF ⟨_, _, (rfl : _[6]? = some _), rfl, rfl⟩ (by decide +kernel) (pu_move rfl) rfl ?_; clear hF; intro a hF
  refine g_pu hF ⟨_, _, (rfl : _[6]? = some _), rfl, rfl⟩ (by decide +kernel) (pu_seq rfl rfl) rfl ?_; clear hF; intro a hF
  refine s_pu hF (pu_pick_t rfl (by decide +kernel) rfl) rfl ?_; clear hF; intro a hF
  refine s_pu hF (pu_move rfl) rfl ?_; clear hF; intro a hF
  refine g_pu hF ⟨_, _, (rfl : _[10]? = some _), rfl, rfl⟩ (by decide +kernel) (pu_move rfl) rfl ?_; clear hF; intro a hF
  refine g_pu hF ⟨_, _, (rfl : _[10]? = some _), rfl, rfl⟩ (by decide +kernel) (pu_ieq rfl rfl) rfl ?_; clear hF; intro a hF
  refine s_pu hF (pu_pick_t rfl (by decide +kernel) rfl) rfl ?_; clear hF; intro a hF
  refine s_pu hF (pu_move rfl) rfl ?_; clear hF; intro a hF
  refine g_pu hF ⟨_, _, (rfl : _[14]? = some _), rfl, rfl⟩ (by decide +kernel) (o_loadA (i := 0) (new := valC ⟨2, 0, [97, 34]⟩) hS rfl agg24 rfl (rfl)) rfl ?_; clear hF; intro a hF
  refine g_pu hF ⟨_, _, (rfl : _[14]? = some _), rfl, rfl⟩ (by decide +kernel) (pu_build_st (cs := valC v0) strb24 rfl rfl) rfl ?_; clear hF; intro a hF
  refine g_callv hF hS ⟨_, _, (rfl : _[14]? = some _), rfl, rfl⟩ (by decide +kernel) ok15 rfl (c_VCompare ⟨2, 0, [97, 34]⟩ v0 _ _ hS.view) rfl ?_; clear hS hF; intro w a hS hF
  refine g_pu hF ⟨_, _, (rfl : _[14]? = some _), rfl, rfl⟩ (by decide +kernel) (pu_ieq rfl rfl) rfl ?_; clear hF; intro a hF
  refine s_pu hF (pu_pick_t rfl (by decide +kernel) rfl) rfl ?_; clear hF; intro a hF
  refine s_pu hF (pu_assign rfl) rfl ?_; clear hF; intro a hF
  refine c_nil ?_
  refine n_then ?_
  refine c_ret ?_
  exact f_ret hF rfl (.tmp rfl (.nil)) (hS.retv (congrArg Value.bool (by decide +kernel)))
set_option maxHeartbeats 1000000 in
theorem c_ValueRows (ad : Option Addr) (cap : Nat) (l : List Val) (hB : ∀ v ∈ l, valB v) (hs : ∀ v ∈ l, v.s.length ≤ 9223372036854775807) (w0 : World) (h0 : View) (hv : VLe h0 (Full w0)) (hb : SlC 24 3 (flatR valC) h0 (.slice ad l.length cap) l) : Calls Tryd.prog 5 #[.slice ad l.length cap] w0 (Ret w0 h0 fun u _ => u = .bool true) := by
  refine f_enter (args := [.slice ad l.length cap]) Tryd.func5 rfl Tryd.ntmps5 rfl fun a hF => ?_
  have hS := St.init w0 h0 hv
  have hlm := hb.lm
  refine c_seq ?_
  refine c_reg ?_
  refine s_pu hF (pu_assign rfl) rfl ?_; clear hF; intro a hF
  refine c_nil ?_
  refine n_then ?_
  refine c_seq ?_
  refine c_seq ?_
  refine c_reg ?_
  refine s_pu hF (pu_move rfl) rfl ?_; clear hF; intro a hF
  refine s_pu hF (pu_len_sl tyL34 rfl rfl) rfl ?_; clear hF; intro a hF
  refine s_pu hF (pu_igt rfl rfl) rfl ?_; clear hF; intro a hF
  refine c_nil ?_
  refine n_then ?_
  refine c_if hF rfl (fun hc9 => ?_) (fun hc9 => ?_)
  · try simp only [decide_eq_true_eq, decide_eq_false_iff_not, Bool.not_eq_true', Bool.not_eq_false', Bool.not_eq_eq_eq_not, Bool.not_true, Bool.not_false] at hc9
    refine c_seq ?_
    refine c_reg ?_
    refine s_callv hF hS ok8 rfl (c_lives _ _ hS.view) rfl ?_; clear hS hF; intro w a hS hF
    refine s_pu hF (pu_assign rfl) rfl ?_; clear hF; intro a hF
    refine c_nil ?_
    refine n_then ?_
    refine c_ret (r_then ?_)
    exact f_ret hF rfl (.tmp rfl (.nil)) (hS.retv rfl)
  · try simp only [decide_eq_true_eq, decide_eq_false_iff_not, Bool.not_eq_true', Bool.not_eq_false', Bool.not_eq_eq_eq_not, Bool.not_true, Bool.not_false] at hc9
    refine c_skip ?_
    refine n_then ?_
    refine c_seq ?_
    refine c_seq ?_
    refine c_reg ?_
    refine s_pu hF (pu_assign rfl) rfl ?_; clear hF; intro a hF
    refine c_nil ?_
    refine n_then ?_
    refine c_block ?_
    refine hS.cut fun O0 F0 hO0 hF0 hS => ?_
    refine hF.cut (.cons (k := 3) rfl <| .nil) (.cons (k := 0) rfl <| .nil) fun L0 hL0 hF => ?_
    refine c_loop (α := Nat) (fun k a w => k ≤ l.length ∧ Fr a 81 ([(3, .val (.int .i64 (k : Nat)))] ++ L0) ∧ St w0 h0 [] w O0 F0) (fun k => l.length - k) 0 (⟨Nat.zero_le _, hF, hS⟩) ?_
    subst hO0 hF0 hL0
    rintro k a w ⟨hk, hF, hS⟩
    refine c_seq ?_
    refine c_seq ?_
    refine c_reg ?_
    refine s_pu hF (pu_move rfl) rfl ?_; clear hF; intro a hF
    refine s_pu hF (pu_move rfl) rfl ?_; clear hF; intro a hF
    refine s_pu hF (pu_len_sl tyL34 rfl rfl) rfl ?_; clear hF; intro a hF
    refine s_pu hF (pu_ilt rfl rfl) rfl ?_; clear hF; intro a hF
    refine c_nil ?_
    refine n_then ?_
    refine c_if hF rfl (fun hc14 => ?_) (fun hc14 => ?_)
    · try simp only [decide_eq_true_eq, decide_eq_false_iff_not, Bool.not_eq_true', Bool.not_eq_false', Bool.not_eq_eq_eq_not, Bool.not_true, Bool.not_false] at hc14
      obtain ⟨g2, oc, ha, HC⟩ := hb.at (i := k) (x := l.getD k v0) (by rw [getD_lt l k v0 (by omega)]; exact List.getElem?_eq_getElem (by omega))
      refine c_skip ?_
      refine n_then ?_
      refine c_seq ?_
      refine c_block ?_
      refine c_seq ?_
      refine c_reg ?_
      refine s_pu hF (pu_move rfl) rfl ?_; clear hF; intro a hF
      refine s_pu hF (pu_move rfl) rfl ?_; clear hF; intro a hF
      refine s_pu hF (pu_iaddr_sla (j := k) ha slt34 rfl rfl (by omega) (by omega)) rfl ?_; clear hF; intro a hF
      refine s_pu hF (pu_faddr fld24_2 rfl) rfl ?_; clear hF; intro a hF
      refine s_pu hF (pu_load1 one9 rfl (HC _ hS.base 2 _ rfl)) rfl ?_; clear hF; intro a hF
      refine s_pu hF (pu_len_s tyS9 rfl rfl) rfl ?_; clear hF; intro a hF
      refine s_pu hF (pu_igt rfl rfl) rfl ?_; clear hF; intro a hF
      refine c_nil ?_
      refine n_then ?_
      refine c_if hF rfl (fun hc23 => ?_) (fun hc23 => ?_)
      · try simp only [decide_eq_true_eq, decide_eq_false_iff_not, Bool.not_eq_true', Bool.not_eq_false', Bool.not_eq_eq_eq_not, Bool.not_true, Bool.not_false] at hc23
        refine c_seq ?_
        refine c_reg ?_
        refine s_callv hF hS ok8 rfl (c_lives _ _ hS.view) rfl ?_; clear hS hF; intro w a hS hF
        refine s_pu hF (pu_assign rfl) rfl ?_; clear hF; intro a hF
        refine c_nil ?_
        refine n_then ?_
        refine c_ret (r_block (r_then (r_then (r_block (r_then ?_)))))
        exact f_ret hF rfl (.tmp rfl (.nil)) (hS.retv rfl)
      · try simp only [decide_eq_true_eq, decide_eq_false_iff_not, Bool.not_eq_true', Bool.not_eq_false', Bool.not_eq_eq_eq_not, Bool.not_true, Bool.not_false] at hc23
        refine c_skip ?_
        refine n_block ?_
        refine n_then ?_
        refine c_reg ?_
        refine s_pu hF (pu_move rfl) rfl ?_; clear hF; intro a hF
        refine s_pu hF (pu_add rfl rfl (by first | exact wrap_i64 (by omega) (by omega) | rfl)) rfl ?_; clear hF; intro a hF
        refine s_pu hF (pu_assign rfl) rfl ?_; clear hF; intro a hF
        refine c_nil ?_
        exact ⟨k + 1, ⟨by omega, hF.pick (.cons (k := 3) rfl <| .cons (k := 0) rfl <| .nil), hS⟩, by omega⟩
    · try simp only [decide_eq_true_eq, decide_eq_false_iff_not, Bool.not_eq_true', Bool.not_eq_false', Bool.not_eq_eq_eq_not, Bool.not_true, Bool.not_false] at hc14
      refine c_exit (x_then (x_then (x_here ?_)))
      refine n_then ?_
      refine c_seq ?_
      refine c_reg ?_
      refine s_pu hF (pu_move rfl) rfl ?_; clear hF; intro a hF
      refine s_calld hF hS ok16 rfl (c_Row ad cap l hB (by omega) _ h0 hS.base hb) rfl ?_; clear hS hF; intro w a hS hF
      refine s_pu hF (pu_move rfl) rfl ?_; clear hF; intro a hF
      refine s_pu hF (pu_extract rfl rfl) rfl ?_; clear hF; intro a hF
      refine s_pu hF (pu_extract rfl rfl) rfl ?_; clear hF; intro a hF
      refine s_pu hF (pu_assign rfl) rfl ?_; clear hF; intro a hF
      refine s_pu hF (pu_assign rfl) rfl ?_; clear hF; intro a hF
      refine c_nil ?_
      refine n_then ?_
      refine c_seq ?_
      refine c_seq ?_
      refine c_reg ?_
      refine s_pu hF (pu_move rfl) rfl ?_; clear hF; intro a hF
      refine s_calld hF hS ok17 rfl (c_RightRow ad cap l hs _ h0 hS.base hb) rfl ?_; clear hS hF; intro w a hS hF
      refine s_pu hF (pu_not rfl) rfl ?_; clear hF; intro a hF
      refine c_nil ?_
      refine n_then ?_
      refine c_if hF rfl (fun hc32 => ?_) (fun hc32 => ?_)
      · try simp only [decide_eq_true_eq, decide_eq_false_iff_not, Bool.not_eq_true', Bool.not_eq_false', Bool.not_eq_eq_eq_not, Bool.not_true, Bool.not_false] at hc32
        refine c_seq ?_
        refine c_reg ?_
        refine s_pu hF (pu_move rfl) rfl ?_; clear hF; intro a hF
        refine s_pu hF (pu_seq rfl rfl) rfl ?_; clear hF; intro a hF
        refine s_pu hF (pu_move rfl) rfl ?_; clear hF; intro a hF
        refine g_pu hF ⟨_, _, (rfl : _[2]? = some _), rfl, rfl⟩ (decide_eq_true (by rw [rowR, hc32]; rfl)) (pu_move rfl) rfl ?_; clear hF; intro a hF
        refine g_pu hF ⟨_, _, (rfl : _[2]? = some _), rfl, rfl⟩ (decide_eq_true (by rw [rowR, hc32]; rfl)) (pu_ieq rfl rfl) rfl ?_; clear hF; intro a hF
        refine s_pu hF (pu_pick_t rfl (decide_eq_true (by rw [rowR, hc32]; rfl)) rfl) rfl ?_; clear hF; intro a hF
        refine s_pu hF (pu_move rfl) rfl ?_; clear hF; intro a hF
        refine g_callv hF hS ⟨_, _, (rfl : _[6]? = some _), rfl, rfl⟩ (decide_eq_true (by rw [rowR, hc32]; rfl)) ok8 rfl (c_lives _ _ hS.view) rfl ?_; clear hS hF; intro w a hS hF
        refine s_pu hF (pu_pick_t rfl (decide_eq_true (by rw [rowR, hc32]; rfl)) rfl) rfl ?_; clear hF; intro a hF
        refine s_pu hF (pu_assign rfl) rfl ?_; clear hF; intro a hF
        refine c_nil ?_
        refine n_then ?_
        refine c_ret (r_then ?_)
        exact f_ret hF rfl (.tmp rfl (.nil)) (hS.retv rfl)
      · try simp only [decide_eq_true_eq, decide_eq_false_iff_not, Bool.not_eq_true', Bool.not_eq_false', Bool.not_eq_eq_eq_not, Bool.not_true, Bool.not_false] at hc32
        have hall : ∀ v ∈ l, valOk v = true := List.all_eq_true.1 hc32
        refine c_skip ?_
        refine n_then ?_
        refine c_seq ?_
        refine c_seq ?_
        refine c_reg ?_
        refine s_pu hF (pu_assign rfl) rfl ?_; clear hF; intro a hF
        refine c_nil ?_
        refine n_then ?_
        refine c_block ?_
        refine hS.cut fun O1 F1 hO1 hF1 hS => ?_
        refine hF.cut (.cons (k := 6) rfl <| .nil) (.cons (k := 0) rfl <| .cons (k := 4) rfl <| .cons (k := 5) rfl <| .nil) fun L1 hL1 hF => ?_
        refine c_loop (α := Nat) (fun k a w => k ≤ l.length ∧ Fr a 81 ([(6, .val (.int .i64 (k : Nat)))] ++ L1) ∧ St w0 h0 [] w O1 F1) (fun k => l.length - k) 0 (⟨Nat.zero_le _, hF, hS⟩) ?_
        subst hO1 hF1 hL1
        rintro k a w ⟨hk, hF, hS⟩
        refine c_seq ?_
        refine c_seq ?_
        refine c_reg ?_
        refine s_pu hF (pu_move rfl) rfl ?_; clear hF; intro a hF
        refine s_pu hF (pu_add rfl rfl (by first | exact wrap_i64 (by omega) (by omega) | rfl)) rfl ?_; clear hF; intro a hF
        refine s_pu hF (pu_move rfl) rfl ?_; clear hF; intro a hF
        refine s_pu hF (pu_len_sl tyL34 rfl rfl) rfl ?_; clear hF; intro a hF
        refine s_pu hF (pu_ilt rfl rfl) rfl ?_; clear hF; intro a hF
        refine c_nil ?_
        refine n_then ?_
        refine c_if hF rfl (fun hc46 => ?_) (fun hc46 => ?_)
        · try simp only [decide_eq_true_eq, decide_eq_false_iff_not, Bool.not_eq_true', Bool.not_eq_false', Bool.not_eq_eq_eq_not, Bool.not_true, Bool.not_false] at hc46
          obtain ⟨g2, oc, ha, HC⟩ := hb.at (i := k) (x := l.getD k v0) (by rw [getD_lt l k v0 (by omega)]; exact List.getElem?_eq_getElem (by omega))
          obtain ⟨g3, oc2, ha2, HC2⟩ := hb.at (i := k + 1) (x := l.getD (k + 1) v0) (by rw [getD_lt l (k + 1) v0 (by omega)]; exact List.getElem?_eq_getElem (by omega))
          refine c_skip ?_
          refine n_then ?_
          refine c_seq ?_
          refine c_block ?_
          refine c_seq ?_
          refine region_st 21 hF hS (allV_ne rfl) mix (by kernel_rfl) fun Γ hG => ?_
          refine t_pu hG (fun w hC => pu_move rfl) ?_; clear hG; intro Γ hG
          refine t_pu hG (fun w hC => pu_move rfl) ?_; clear hG; intro Γ hG
          refine t_pu hG (fun w hC => pu_iaddr_sla (j := k) ha slt34 rfl rfl (by omega) (by omega)) ?_; clear hG; intro Γ hG
          refine t_pu hG (fun w hC => pu_loadA (cs := valC (l.getD k v0)) agg24 rfl (fun j v hj => by rw [add_mk]; exact HC _ hC.st.base j v hj)) ?_; clear hG; intro Γ hG
          refine t_pu hG (fun w hC => pu_move rfl) ?_; clear hG; intro Γ hG
          refine t_pu hG (fun w hC => pu_move rfl) ?_; clear hG; intro Γ hG
          refine t_pu hG (fun w hC => pu_add rfl rfl (by first | exact wrap_i64 (by omega) (by omega) | rfl)) ?_; clear hG; intro Γ hG
          refine t_pu hG (fun w hC => pu_iaddr_sla (j := k + 1) ha2 slt34 rfl rfl (by omega) (by omega)) ?_; clear hG; intro Γ hG
          refine t_pu hG (fun w hC => pu_loadA (cs := valC (l.getD (k + 1) v0)) agg24 rfl (fun j v hj => by rw [add_mk]; exact HC2 _ hC.st.base j v hj)) ?_; clear hG; intro Γ hG
          refine t_callv hG ok15 rfl (fun w hS => (c_VCompare (l.getD k v0) (l.getD (k + 1) v0) _ _ hS.view)) ?_; clear hG; intro Γ hG
          refine t_pu hG (fun w hC => pu_move rfl) ?_; clear hG; intro Γ hG
          refine t_pu hG (fun w hC => pu_move rfl) ?_; clear hG; intro Γ hG
          refine t_pu hG (fun w hC => pu_iaddr_sla (j := k) ha slt34 rfl rfl (by omega) (by omega)) ?_; clear hG; intro Γ hG
          refine t_pu hG (fun w hC => pu_loadA (cs := valC (l.getD k v0)) agg24 rfl (fun j v hj => by rw [add_mk]; exact HC _ hC.st.base j v hj)) ?_; clear hG; intro Γ hG
          refine t_pu hG (fun w hC => pu_move rfl) ?_; clear hG; intro Γ hG
          refine t_pu hG (fun w hC => pu_move rfl) ?_; clear hG; intro Γ hG
          refine t_pu hG (fun w hC => pu_add rfl rfl (by first | exact wrap_i64 (by omega) (by omega) | rfl)) ?_; clear hG; intro Γ hG
          refine t_pu hG (fun w hC => pu_iaddr_sla (j := k + 1) ha2 slt34 rfl rfl (by omega) (by omega)) ?_; clear hG; intro Γ hG
          refine t_pu hG (fun w hC => pu_loadA (cs := valC (l.getD (k + 1) v0)) agg24 rfl (fun j v hj => by rw [add_mk]; exact HC2 _ hC.st.base j v hj)) ?_; clear hG; intro Γ hG
          refine t_callv hG ok18 rfl (fun w hS => (c_RCompare (l.getD k v0) (l.getD (k + 1) v0) _ _ hS.view)) ?_; clear hG; intro Γ hG
          refine t_pu hG (fun w hC => pu_ine rfl rfl) ?_; clear hG; intro Γ hG
          refine t_end hG ?_; clear hG hF; intro a w hC hE hF hP; replace hS := hC.st; clear hC
          clear hE
          clear hP
          refine c_nil ?_
          refine n_then ?_
          refine c_iff hF rfl (by simp) ?_
          refine c_skip ?_
          refine n_block ?_
          refine n_then ?_
          refine c_reg ?_
          refine s_pu hF (pu_move rfl) rfl ?_; clear hF; intro a hF
          refine s_pu hF (pu_add rfl rfl (by first | exact wrap_i64 (by omega) (by omega) | rfl)) rfl ?_; clear hF; intro a hF
          refine s_pu hF (pu_assign rfl) rfl ?_; clear hF; intro a hF
          refine c_nil ?_
          exact ⟨k + 1, ⟨by omega, hF.pick (.cons (k := 6) rfl <| .cons (k := 0) rfl <| .cons (k := 4) rfl <| .cons (k := 5) rfl <| .nil), hS⟩, by omega⟩
        · try simp only [decide_eq_true_eq, decide_eq_false_iff_not, Bool.not_eq_true', Bool.not_eq_false', Bool.not_eq_eq_eq_not, Bool.not_true, Bool.not_false] at hc46
          refine c_exit (x_then (x_then (x_here ?_)))
          refine n_then ?_
          refine c_seq ?_
          refine c_reg ?_
          refine s_pu hF (pu_move rfl) rfl ?_; clear hF; intro a hF
          refine s_pu hF (pu_move rfl) rfl ?_; clear hF; intro a hF
          refine s_calld hF hS ok19 rfl (c_RRow ad cap l hB hall (by omega) _ h0 hS.base hb) rfl ?_; clear hS hF; intro w a hS hF
          refine s_pu hF (pu_seq rfl rfl) rfl ?_; clear hF; intro a hF
          refine s_pu hF (pu_move rfl) rfl ?_; clear hF; intro a hF
          refine g_pu hF ⟨_, _, (rfl : _[4]? = some _), rfl, rfl⟩ (decide_eq_true (by rw [rowR, if_pos hc32])) (pu_move rfl) rfl ?_; clear hF; intro a hF
          refine g_pu hF ⟨_, _, (rfl : _[4]? = some _), rfl, rfl⟩ (decide_eq_true (by rw [rowR, if_pos hc32])) (pu_ieq rfl rfl) rfl ?_; clear hF; intro a hF
          refine s_pu hF (pu_pick_t rfl (decide_eq_true (by rw [rowR, if_pos hc32])) rfl) rfl ?_; clear hF; intro a hF
          refine s_pu hF (pu_move rfl) rfl ?_; clear hF; intro a hF
          refine g_callv hF hS ⟨_, _, (rfl : _[8]? = some _), rfl, rfl⟩ (decide_eq_true (by rw [rowR, if_pos hc32])) ok8 rfl (c_lives _ _ hS.view) rfl ?_; clear hS hF; intro w a hS hF
          refine s_pu hF (pu_pick_t rfl (decide_eq_true (by rw [rowR, if_pos hc32])) rfl) rfl ?_; clear hF; intro a hF
          refine s_pu hF (pu_assign rfl) rfl ?_; clear hF; intro a hF
          refine c_nil ?_
          refine n_then ?_
          refine c_ret ?_
          exact f_ret hF rfl (.tmp rfl (.nil)) (hS.retv rfl)
set_option maxHeartbeats 1000000 in
theorem c_ValueTakes (s : List UInt8) (most : Int) (w0 : World) (h0 : View) (hv : VLe h0 (Full w0))  : Calls Tryd.prog 6 #[vs s, .int .i64 most] w0 (Ret w0 h0 fun u _ => u = .bool true) := by
  refine f_enter (args := [vs s, .int .i64 most]) Tryd.func6 rfl Tryd.ntmps6 rfl fun a hF => ?_
  have hS := St.init w0 h0 hv
  refine c_seq ?_
  refine c_reg ?_
  refine s_pu hF (pu_assign rfl) rfl ?_; clear hF; intro a hF
  refine c_nil ?_
  refine n_then ?_
  refine c_seq ?_
  refine c_seq ?_
  refine c_reg ?_
  refine s_pu hF (pu_move rfl) rfl ?_; clear hF; intro a hF
  refine s_pu hF (pu_len_s tyS9 rfl rfl) rfl ?_; clear hF; intro a hF
  refine s_pu hF (pu_igt rfl rfl) rfl ?_; clear hF; intro a hF
  refine c_nil ?_
  refine n_then ?_
  refine c_if hF rfl (fun hc19 => ?_) (fun hc19 => ?_)
  · try simp only [decide_eq_true_eq, decide_eq_false_iff_not, Bool.not_eq_true', Bool.not_eq_false', Bool.not_eq_eq_eq_not, Bool.not_true, Bool.not_false] at hc19
    refine c_seq ?_
    refine c_reg ?_
    refine s_callv hF hS ok8 rfl (c_lives _ _ hS.view) rfl ?_; clear hS hF; intro w a hS hF
    refine s_pu hF (pu_assign rfl) rfl ?_; clear hF; intro a hF
    refine c_nil ?_
    refine n_then ?_
    refine c_ret (r_then ?_)
    exact f_ret hF rfl (.tmp rfl (.nil)) (hS.retv rfl)
  · try simp only [decide_eq_true_eq, decide_eq_false_iff_not, Bool.not_eq_true', Bool.not_eq_false', Bool.not_eq_eq_eq_not, Bool.not_true, Bool.not_false] at hc19
    refine c_skip ?_
    refine n_then ?_
    refine c_seq ?_
    refine c_reg ?_
    refine s_pu hF (pu_move rfl) rfl ?_; clear hF; intro a hF
    refine s_callv hF hS ok20 rfl (c_Take s _ _ hS.view) rfl ?_; clear hS hF; intro w a hS hF
    refine s_pu hF (pu_move rfl) rfl ?_; clear hF; intro a hF
    refine s_pu hF (pu_extract rfl rfl) rfl ?_; clear hF; intro a hF
    refine s_pu hF (pu_extract rfl rfl) rfl ?_; clear hF; intro a hF
    refine s_pu hF (pu_extract rfl rfl) rfl ?_; clear hF; intro a hF
    refine s_alloc hF hS zero24 rfl ?_; clear hS hF; intro b0 w a hS hF
    refine s_store (i := 0) (new := valC (takeV s).1) hF hS rfl rfl rfl rfl (by exact sz24) rfl (by simp [valC]) ?_; clear hS hF; intro w a hS hF
    rw [spl_all (by simp [valC])] at hS
    refine s_pu hF (pu_assign rfl) rfl ?_; clear hF; intro a hF
    refine s_pu hF (pu_assign rfl) rfl ?_; clear hF; intro a hF
    refine c_nil ?_
    refine n_then ?_
    refine c_seq ?_
    refine c_reg ?_
    refine s_pu hF (pu_move rfl) rfl ?_; clear hF; intro a hF
    refine s_callv hF hS ok21 rfl (c_RTake s (by omega) _ _ hS.view) rfl ?_; clear hS hF; intro w a hS hF
    refine s_pu hF (pu_move rfl) rfl ?_; clear hF; intro a hF
    refine s_pu hF (pu_extract rfl rfl) rfl ?_; clear hF; intro a hF
    refine s_pu hF (pu_extract rfl rfl) rfl ?_; clear hF; intro a hF
    refine s_pu hF (pu_extract rfl rfl) rfl ?_; clear hF; intro a hF
    refine s_alloc hF hS zero24 rfl ?_; clear hS hF; intro b1 w a hS hF
    refine s_store (i := 0) (new := valC (takeV s).1) hF hS rfl rfl rfl rfl (by exact sz24) rfl (by simp [valC]) ?_; clear hS hF; intro w a hS hF
    rw [spl_all (by simp [valC])] at hS
    refine s_pu hF (pu_assign rfl) rfl ?_; clear hF; intro a hF
    refine s_pu hF (pu_assign rfl) rfl ?_; clear hF; intro a hF
    refine c_nil ?_
    refine n_then ?_
    refine c_seq ?_
    refine c_seq ?_
    refine c_reg ?_
    refine s_pu hF (o_loadA (i := 1) (new := valC (takeV s).1) hS rfl agg24 rfl (rfl)) rfl ?_; clear hF; intro a hF
    refine s_pu hF (o_loadA (i := 0) (new := valC (takeV s).1) hS rfl agg24 rfl (rfl)) rfl ?_; clear hF; intro a hF
    refine s_pu hF (pu_ane (a := (takeV s).1) (b := (takeV s).1) eqV rfl rfl) rfl ?_; clear hF; intro a hF
    refine s_pu hF (pu_move rfl) rfl ?_; clear hF; intro a hF
    refine g_pu hF ⟨_, _, (rfl : _[3]? = some _), rfl, rfl⟩ (by simp) (pu_move rfl) rfl ?_; clear hF; intro a hF
    refine g_pu hF ⟨_, _, (rfl : _[3]? = some _), rfl, rfl⟩ (by simp) (pu_move rfl) rfl ?_; clear hF; intro a hF
    refine g_pu hF ⟨_, _, (rfl : _[3]? = some _), rfl, rfl⟩ (by simp) (pu_sne rfl rfl) rfl ?_; clear hF; intro a hF
    refine s_pu hF (pu_pick_f rfl (by simp) rfl) rfl ?_; clear hF; intro a hF
    refine s_pu hF (pu_move rfl) rfl ?_; clear hF; intro a hF
    refine g_pu hF ⟨_, _, (rfl : _[8]? = some _), rfl, rfl⟩ (by simp) (pu_move rfl) rfl ?_; clear hF; intro a hF
    refine g_pu hF ⟨_, _, (rfl : _[8]? = some _), rfl, rfl⟩ (by simp) (pu_move rfl) rfl ?_; clear hF; intro a hF
    refine g_pu hF ⟨_, _, (rfl : _[8]? = some _), rfl, rfl⟩ (by simp) (pu_ine rfl rfl) rfl ?_; clear hF; intro a hF
    refine s_pu hF (pu_pick_f rfl (by simp) rfl) rfl ?_; clear hF; intro a hF
    refine c_nil ?_
    refine n_then ?_
    refine c_iff hF rfl (by simp) ?_
    refine c_skip ?_
    refine n_then ?_
    refine c_seq ?_
    refine c_reg ?_
    refine s_pu hF (pu_move rfl) rfl ?_; clear hF; intro a hF
    refine s_pu hF (pu_move rfl) rfl ?_; clear hF; intro a hF
    refine s_callBT hF hS ok22 rfl (c_TakeRow s most (by omega) _ (Full _) (VLe.refl _)) rfl ?_; clear hS hF; intro a1 n1 p1 w a hn1 hS hF
    rw [flat3] at hn1
    obtain rfl : n1 = (takeRow s most).1.length := by omega
    refine s_pu hF (pu_move rfl) rfl ?_; clear hF; intro a hF
    refine s_pu hF (pu_extract rfl rfl) rfl ?_; clear hF; intro a hF
    refine s_pu hF (pu_extract rfl rfl) rfl ?_; clear hF; intro a hF
    refine s_pu hF (pu_extract rfl rfl) rfl ?_; clear hF; intro a hF
    refine s_pu hF (pu_assign rfl) rfl ?_; clear hF; intro a hF
    refine s_pu hF (pu_assign rfl) rfl ?_; clear hF; intro a hF
    refine s_pu hF (pu_assign rfl) rfl ?_; clear hF; intro a hF
    refine c_nil ?_
    refine n_then ?_
    refine c_seq ?_
    refine c_reg ?_
    refine s_pu hF (pu_move rfl) rfl ?_; clear hF; intro a hF
    refine s_pu hF (pu_move rfl) rfl ?_; clear hF; intro a hF
    refine s_callBT hF hS ok23 rfl (c_RTakeRow s most (by omega) _ (Full _) (VLe.refl _)) rfl ?_; clear hS hF; intro a2 n2 p2 w a hn2 hS hF
    rw [flat3] at hn2
    obtain rfl : n2 = (takeRow s most).1.length := by omega
    refine s_pu hF (pu_move rfl) rfl ?_; clear hF; intro a hF
    refine s_pu hF (pu_extract rfl rfl) rfl ?_; clear hF; intro a hF
    refine s_pu hF (pu_extract rfl rfl) rfl ?_; clear hF; intro a hF
    refine s_pu hF (pu_extract rfl rfl) rfl ?_; clear hF; intro a hF
    refine s_pu hF (pu_assign rfl) rfl ?_; clear hF; intro a hF
    refine s_pu hF (pu_assign rfl) rfl ?_; clear hF; intro a hF
    refine s_pu hF (pu_assign rfl) rfl ?_; clear hF; intro a hF
    refine c_nil ?_
    refine n_then ?_
    refine c_seq ?_
    refine c_reg ?_
    refine s_pu hF (pu_move rfl) rfl ?_; clear hF; intro a hF
    refine s_pu hF (pu_move rfl) rfl ?_; clear hF; intro a hF
    have hs1 := hS.bufFull (i := 1) (l := (takeRow s most).1) (f := valC) rfl (fun _ _ => rfl) rfl
    have hs2 := hS.bufFull (i := 0) (l := (takeRow s most).1) (f := valC) rfl (fun _ _ => rfl) rfl
    refine s_calld hF hS ok24 rfl (c_SameRow a1 a2 p1 p2 _ _ _ (Full _) (VLe.refl _) hs1 hs2) rfl ?_; clear hS hF hs1 hs2; intro w a hS hF
    refine s_pu hF (pu_move rfl) rfl ?_; clear hF; intro a hF
    refine g_pu hF ⟨_, _, (rfl : _[3]? = some _), rfl, rfl⟩ (decide_eq_true rfl) (pu_move rfl) rfl ?_; clear hF; intro a hF
    refine g_pu hF ⟨_, _, (rfl : _[3]? = some _), rfl, rfl⟩ (decide_eq_true rfl) (pu_move rfl) rfl ?_; clear hF; intro a hF
    refine g_pu hF ⟨_, _, (rfl : _[3]? = some _), rfl, rfl⟩ (decide_eq_true rfl) (pu_seq rfl rfl) rfl ?_; clear hF; intro a hF
    refine s_pu hF (pu_pick_t rfl (decide_eq_true rfl) rfl) rfl ?_; clear hF; intro a hF
    refine s_pu hF (pu_move rfl) rfl ?_; clear hF; intro a hF
    refine g_pu hF ⟨_, _, (rfl : _[8]? = some _), rfl, rfl⟩ (decide_eq_true rfl) (pu_move rfl) rfl ?_; clear hF; intro a hF
    refine g_pu hF ⟨_, _, (rfl : _[8]? = some _), rfl, rfl⟩ (decide_eq_true rfl) (pu_move rfl) rfl ?_; clear hF; intro a hF
    refine g_pu hF ⟨_, _, (rfl : _[8]? = some _), rfl, rfl⟩ (decide_eq_true rfl) (pu_ieq rfl rfl) rfl ?_; clear hF; intro a hF
    refine s_pu hF (pu_pick_t rfl (decide_eq_true rfl) rfl) rfl ?_; clear hF; intro a hF
    refine s_pu hF (pu_move rfl) rfl ?_; clear hF; intro a hF
    refine g_callv hF hS ⟨_, _, (rfl : _[13]? = some _), rfl, rfl⟩ (decide_eq_true rfl) ok8 rfl (c_lives _ _ hS.view) rfl ?_; clear hS hF; intro w a hS hF
    refine s_pu hF (pu_pick_t rfl (decide_eq_true rfl) rfl) rfl ?_; clear hF; intro a hF
    refine s_pu hF (pu_assign rfl) rfl ?_; clear hF; intro a hF
    refine c_nil ?_
    refine n_then ?_
    refine c_ret ?_
    exact f_ret hF rfl (.tmp rfl (.nil)) (hS.retv rfl)
set_option maxHeartbeats 2000000 in
theorem c_ValueBack (ad : Option Addr) (cap : Nat) (l : List Val) (b s : List UInt8) (hB : ∀ v ∈ l, valB v) (w0 : World) (h0 : View) (hv : VLe h0 (Full w0)) (hb : SlC 24 3 (flatR valC) h0 (.slice ad l.length cap) l) : Calls Tryd.prog 7 #[.slice ad l.length cap, vs b, vs s] w0 (Ret w0 h0 fun u _ => u = .bool true) := by
  refine f_enter (args := [.slice ad l.length cap, vs b, vs s]) Tryd.func7 rfl Tryd.ntmps7 rfl fun a hF => ?_
  have hS := St.init w0 h0 hv
  have hlm := hb.lm
  refine c_seq ?_
  refine c_reg ?_
  refine s_pu hF (pu_assign rfl) rfl ?_; clear hF; intro a hF
  refine c_nil ?_
  refine n_then ?_
  refine c_seq ?_
  refine c_seq ?_
  refine c_reg ?_
  refine s_pu hF (pu_move rfl) rfl ?_; clear hF; intro a hF
  refine s_pu hF (pu_len_sl tyL34 rfl rfl) rfl ?_; clear hF; intro a hF
  refine s_pu hF (pu_igt rfl rfl) rfl ?_; clear hF; intro a hF
  refine s_pu hF (pu_move rfl) rfl ?_; clear hF; intro a hF
  refine w_split hF ⟨_, _, (rfl : _[3]? = some _), rfl, rfl⟩ (fun hg1_3 => ?_) (fun hg1_3 => ?_)
  · have hg1_3p := hg1_3
    try simp only [decide_eq_true_eq, decide_eq_false_iff_not, Bool.not_eq_true', Bool.not_eq_false', Bool.not_eq_eq_eq_not, Bool.not_true, Bool.not_false] at hg1_3p
    refine g_no hF ⟨_, _, (rfl : _[3]? = some _), rfl, rfl⟩ hg1_3 rfl ?_; clear hF; intro a hF
    refine g_no hF ⟨_, _, (rfl : _[3]? = some _), rfl, rfl⟩ hg1_3 rfl ?_; clear hF; intro a hF
    refine g_no hF ⟨_, _, (rfl : _[3]? = some _), rfl, rfl⟩ hg1_3 rfl ?_; clear hF; intro a hF
    refine s_pu hF (pu_pick_t rfl hg1_3 rfl) rfl ?_; clear hF; intro a hF
    refine s_pu hF (pu_move rfl) rfl ?_; clear hF; intro a hF
    refine g_no hF ⟨_, _, (rfl : _[8]? = some _), rfl, rfl⟩ rfl rfl ?_; clear hF; intro a hF
    refine g_no hF ⟨_, _, (rfl : _[8]? = some _), rfl, rfl⟩ rfl rfl ?_; clear hF; intro a hF
    refine g_no hF ⟨_, _, (rfl : _[8]? = some _), rfl, rfl⟩ rfl rfl ?_; clear hF; intro a hF
    refine s_pu hF (pu_pick_t rfl rfl rfl) rfl ?_; clear hF; intro a hF
    refine c_nil ?_
    refine n_then ?_
    refine c_ift hF rfl rfl ?_
    refine c_seq ?_
    refine c_reg ?_
    refine s_callv hF hS ok8 rfl (c_lives _ _ hS.view) rfl ?_; clear hS hF; intro w a hS hF
    refine s_pu hF (pu_assign rfl) rfl ?_; clear hF; intro a hF
    refine c_nil ?_
    refine n_then ?_
    refine c_ret (r_then ?_)
    exact f_ret hF rfl (.tmp rfl (.nil)) (hS.retv rfl)
  · have hg1_3p := hg1_3
    try simp only [decide_eq_true_eq, decide_eq_false_iff_not, Bool.not_eq_true', Bool.not_eq_false', Bool.not_eq_eq_eq_not, Bool.not_true, Bool.not_false] at hg1_3p
    refine g_pu hF ⟨_, _, (rfl : _[3]? = some _), rfl, rfl⟩ hg1_3 (pu_move rfl) rfl ?_; clear hF; intro a hF
    refine g_pu hF ⟨_, _, (rfl : _[3]? = some _), rfl, rfl⟩ hg1_3 (pu_len_s tyS9 rfl rfl) rfl ?_; clear hF; intro a hF
    refine g_pu hF ⟨_, _, (rfl : _[3]? = some _), rfl, rfl⟩ hg1_3 (pu_igt rfl rfl) rfl ?_; clear hF; intro a hF
    refine s_pu hF (pu_pick_f rfl hg1_3 rfl) rfl ?_; clear hF; intro a hF
    refine s_pu hF (pu_move rfl) rfl ?_; clear hF; intro a hF
    refine w_split hF ⟨_, _, (rfl : _[8]? = some _), rfl, rfl⟩ (fun hg1_8 => ?_) (fun hg1_8 => ?_)
    · have hg1_8p := hg1_8
      try simp only [decide_eq_true_eq, decide_eq_false_iff_not, Bool.not_eq_true', Bool.not_eq_false', Bool.not_eq_eq_eq_not, Bool.not_true, Bool.not_false] at hg1_8p
      refine g_no hF ⟨_, _, (rfl : _[8]? = some _), rfl, rfl⟩ hg1_8 rfl ?_; clear hF; intro a hF
      refine g_no hF ⟨_, _, (rfl : _[8]? = some _), rfl, rfl⟩ hg1_8 rfl ?_; clear hF; intro a hF
      refine g_no hF ⟨_, _, (rfl : _[8]? = some _), rfl, rfl⟩ hg1_8 rfl ?_; clear hF; intro a hF
      refine s_pu hF (pu_pick_t rfl hg1_8 rfl) rfl ?_; clear hF; intro a hF
      refine c_nil ?_
      refine n_then ?_
      refine c_ift hF rfl rfl ?_
      refine c_seq ?_
      refine c_reg ?_
      refine s_callv hF hS ok8 rfl (c_lives _ _ hS.view) rfl ?_; clear hS hF; intro w a hS hF
      refine s_pu hF (pu_assign rfl) rfl ?_; clear hF; intro a hF
      refine c_nil ?_
      refine n_then ?_
      refine c_ret (r_then ?_)
      exact f_ret hF rfl (.tmp rfl (.nil)) (hS.retv rfl)
    · have hg1_8p := hg1_8
      try simp only [decide_eq_true_eq, decide_eq_false_iff_not, Bool.not_eq_true', Bool.not_eq_false', Bool.not_eq_eq_eq_not, Bool.not_true, Bool.not_false] at hg1_8p
      refine g_pu hF ⟨_, _, (rfl : _[8]? = some _), rfl, rfl⟩ hg1_8 (pu_move rfl) rfl ?_; clear hF; intro a hF
      refine g_pu hF ⟨_, _, (rfl : _[8]? = some _), rfl, rfl⟩ hg1_8 (pu_len_s tyS9 rfl rfl) rfl ?_; clear hF; intro a hF
      refine g_pu hF ⟨_, _, (rfl : _[8]? = some _), rfl, rfl⟩ hg1_8 (pu_igt rfl rfl) rfl ?_; clear hF; intro a hF
      refine s_pu hF (pu_pick_f rfl hg1_8 rfl) rfl ?_; clear hF; intro a hF
      refine c_nil ?_
      refine n_then ?_
      refine c_if hF rfl (fun hc35 => ?_) (fun hc35 => ?_)
      · try simp only [decide_eq_true_eq, decide_eq_false_iff_not, Bool.not_eq_true', Bool.not_eq_false', Bool.not_eq_eq_eq_not, Bool.not_true, Bool.not_false] at hc35
        refine c_seq ?_
        refine c_reg ?_
        refine s_callv hF hS ok8 rfl (c_lives _ _ hS.view) rfl ?_; clear hS hF; intro w a hS hF
        refine s_pu hF (pu_assign rfl) rfl ?_; clear hF; intro a hF
        refine c_nil ?_
        refine n_then ?_
        refine c_ret (r_then ?_)
        exact f_ret hF rfl (.tmp rfl (.nil)) (hS.retv rfl)
      · try simp only [decide_eq_true_eq, decide_eq_false_iff_not, Bool.not_eq_true', Bool.not_eq_false', Bool.not_eq_eq_eq_not, Bool.not_true, Bool.not_false] at hc35
        refine c_skip ?_
        refine n_then ?_
        refine c_seq ?_
        refine c_seq ?_
        refine c_reg ?_
        refine s_pu hF (pu_assign rfl) rfl ?_; clear hF; intro a hF
        refine c_nil ?_
        refine n_then ?_
        refine c_block ?_
        refine hS.cut fun O0 F0 hO0 hF0 hS => ?_
        refine hF.cut (.cons (k := 7) rfl <| .nil) (.cons (k := 0) rfl <| .cons (k := 1) rfl <| .cons (k := 2) rfl <| .nil) fun L0 hL0 hF => ?_
        refine c_loop (α := Nat) (fun k a w => k ≤ l.length ∧ (∀ j, j < k → valOk (l.getD j v0) = true) ∧ Fr a 161 ([(7, .val (.int .i64 (k : Nat)))] ++ L0) ∧ St w0 h0 [] w O0 F0) (fun k => l.length - k) 0 (⟨Nat.zero_le _, fun j hj => absurd hj (Nat.not_lt_zero j), hF, hS⟩) ?_
        subst hO0 hF0 hL0
        rintro k a w ⟨hk, hn, hF, hS⟩
        refine c_seq ?_
        refine c_seq ?_
        refine c_reg ?_
        refine s_pu hF (pu_move rfl) rfl ?_; clear hF; intro a hF
        refine s_pu hF (pu_move rfl) rfl ?_; clear hF; intro a hF
        refine s_pu hF (pu_len_sl tyL34 rfl rfl) rfl ?_; clear hF; intro a hF
        refine s_pu hF (pu_ilt rfl rfl) rfl ?_; clear hF; intro a hF
        refine c_nil ?_
        refine n_then ?_
        refine c_if hF rfl (fun hc40 => ?_) (fun hc40 => ?_)
        · try simp only [decide_eq_true_eq, decide_eq_false_iff_not, Bool.not_eq_true', Bool.not_eq_false', Bool.not_eq_eq_eq_not, Bool.not_true, Bool.not_false] at hc40
          obtain ⟨g2, oc, ha, HC⟩ := hb.at (i := k) (x := l.getD k v0) (by rw [getD_lt l k v0 (by omega)]; exact List.getElem?_eq_getElem (by omega))
          refine c_skip ?_
          refine n_then ?_
          refine c_seq ?_
          refine c_block ?_
          refine c_seq ?_
          refine c_seq ?_
          refine c_reg ?_
          refine s_pu hF (pu_move rfl) rfl ?_; clear hF; intro a hF
          refine s_pu hF (pu_move rfl) rfl ?_; clear hF; intro a hF
          refine s_pu hF (pu_iaddr_sla (j := k) ha slt34 rfl rfl (by omega) (by omega)) rfl ?_; clear hF; intro a hF
          refine s_pu hF (pu_faddr fld24_2 rfl) rfl ?_; clear hF; intro a hF
          refine s_pu hF (pu_load1 one9 rfl (HC _ hS.base 2 _ rfl)) rfl ?_; clear hF; intro a hF
          refine s_pu hF (pu_len_s tyS9 rfl rfl) rfl ?_; clear hF; intro a hF
          refine s_pu hF (pu_igt rfl rfl) rfl ?_; clear hF; intro a hF
          refine c_nil ?_
          refine n_then ?_
          refine c_if hF rfl (fun hc49 => ?_) (fun hc49 => ?_)
          · try simp only [decide_eq_true_eq, decide_eq_false_iff_not, Bool.not_eq_true', Bool.not_eq_false', Bool.not_eq_eq_eq_not, Bool.not_true, Bool.not_false] at hc49
            refine c_seq ?_
            refine c_reg ?_
            refine s_callv hF hS ok8 rfl (c_lives _ _ hS.view) rfl ?_; clear hS hF; intro w a hS hF
            refine s_pu hF (pu_assign rfl) rfl ?_; clear hF; intro a hF
            refine c_nil ?_
            refine n_then ?_
            refine c_ret (r_then (r_block (r_then (r_then (r_block (r_then ?_))))))
            exact f_ret hF rfl (.tmp rfl (.nil)) (hS.retv rfl)
          · try simp only [decide_eq_true_eq, decide_eq_false_iff_not, Bool.not_eq_true', Bool.not_eq_false', Bool.not_eq_eq_eq_not, Bool.not_true, Bool.not_false] at hc49
            refine c_skip ?_
            refine n_then ?_
            refine c_seq ?_
            refine c_reg ?_
            refine s_pu hF (pu_move rfl) rfl ?_; clear hF; intro a hF
            refine s_pu hF (pu_move rfl) rfl ?_; clear hF; intro a hF
            refine s_pu hF (pu_iaddr_sla (j := k) ha slt34 rfl rfl (by omega) (by omega)) rfl ?_; clear hF; intro a hF
            refine s_pu hF (pu_loadA (cs := valC (l.getD k v0)) agg24 rfl (fun j v hj => by rw [add_mk]; exact HC _ hS.base j v hj)) rfl ?_; clear hF; intro a hF
            refine s_callv hF hS ok10 rfl (c_VBytes (l.getD k v0) (hB _ (getD_mem l k v0 (by omega))) _ _ hS.view) rfl ?_; clear hS hF; intro w a hS hF
            refine s_pu hF (pu_move rfl) rfl ?_; clear hF; intro a hF
            refine s_pu hF (pu_extract rfl rfl) rfl ?_; clear hF; intro a hF
            refine s_pu hF (pu_extract rfl rfl) rfl ?_; clear hF; intro a hF
            refine s_pu hF (pu_assign rfl) rfl ?_; clear hF; intro a hF
            refine s_pu hF (pu_assign rfl) rfl ?_; clear hF; intro a hF
            refine c_nil ?_
            refine n_then ?_
            refine c_seq ?_
            refine c_seq ?_
            refine c_reg ?_
            refine s_pu hF (pu_move rfl) rfl ?_; clear hF; intro a hF
            refine s_pu hF (pu_ine rfl rfl) rfl ?_; clear hF; intro a hF
            refine c_nil ?_
            refine n_then ?_
            refine c_if hF rfl (fun hc60 => ?_) (fun hc60 => ?_)
            · try simp only [decide_eq_true_eq, decide_eq_false_iff_not, Bool.not_eq_true', Bool.not_eq_false', Bool.not_eq_eq_eq_not, Bool.not_true, Bool.not_false] at hc60
              refine c_seq ?_
              refine c_reg ?_
              refine s_pu hF (pu_move rfl) rfl ?_; clear hF; intro a hF
              refine s_pu hF (pu_move rfl) rfl ?_; clear hF; intro a hF
              refine s_pu hF (pu_iaddr_sla (j := k) ha slt34 rfl rfl (by omega) (by omega)) rfl ?_; clear hF; intro a hF
              refine s_pu hF (pu_loadA (cs := valC (l.getD k v0)) agg24 rfl (fun j v hj => by rw [add_mk]; exact HC _ hS.base j v hj)) rfl ?_; clear hF; intro a hF
              refine s_callv hF hS ok12 rfl (c_VCheck (l.getD k v0) (hB _ (getD_mem l k v0 (by omega))) _ _ hS.view) rfl ?_; clear hS hF; intro w a hS hF
              refine s_pu hF (pu_move rfl) rfl ?_; clear hF; intro a hF
              refine s_pu hF (pu_ieq rfl rfl) rfl ?_; clear hF; intro a hF
              refine s_pu hF (pu_move rfl) rfl ?_; clear hF; intro a hF
              refine g_callv hF hS ⟨_, _, (rfl : _[7]? = some _), rfl, rfl⟩ (decide_eq_true (by rw [chkV, vbR, vbR_no hc60]; rfl)) ok8 rfl (c_lives _ _ hS.view) rfl ?_; clear hS hF; intro w a hS hF
              refine s_pu hF (pu_pick_t rfl (decide_eq_true (by rw [chkV, vbR, vbR_no hc60]; rfl)) rfl) rfl ?_; clear hF; intro a hF
              refine s_pu hF (pu_assign rfl) rfl ?_; clear hF; intro a hF
              refine c_nil ?_
              refine n_then ?_
              refine c_ret (r_then (r_block (r_then (r_then (r_block (r_then ?_))))))
              exact f_ret hF rfl (.tmp rfl (.nil)) (hS.retv rfl)
            · try simp only [decide_eq_true_eq, decide_eq_false_iff_not, Bool.not_eq_true', Bool.not_eq_false', Bool.not_eq_eq_eq_not, Bool.not_true, Bool.not_false] at hc60
              have hok := vbR_ok hc60
              have e1 : (vbR (l.getD k v0)).1 = bytesV (l.getD k v0) := by rw [vbR, if_pos hok]
              rw [e1] at hF
              refine c_skip ?_
              refine n_then ?_
              refine c_seq ?_
              refine c_reg ?_
              refine s_pu hF (pu_move rfl) rfl ?_; clear hF; intro a hF
              refine s_pu hF (pu_move rfl) rfl ?_; clear hF; intro a hF
              refine s_pu hF (pu_cat rfl rfl (by first | omega | (dsimp only; omega) | (have := bytesV_len hok (hB _ (getD_mem l k v0 (by omega))); omega))) rfl ?_; clear hF; intro a hF
              refine s_calld (v := tvV ((l.getD k v0), b, 0)) hF hS ok20 rfl (by rw [← take_bytes hok (hB _ (getD_mem l k v0 (by omega))) b]; exact c_Take _ _ h0 hS.base) rfl ?_; clear hS hF; intro w a hS hF
              refine s_pu hF (pu_move rfl) rfl ?_; clear hF; intro a hF
              refine s_pu hF (pu_extract rfl rfl) rfl ?_; clear hF; intro a hF
              refine s_pu hF (pu_extract rfl rfl) rfl ?_; clear hF; intro a hF
              refine s_pu hF (pu_extract rfl rfl) rfl ?_; clear hF; intro a hF
              refine s_alloc hF hS zero24 rfl ?_; clear hS hF; intro b0 w a hS hF
              refine s_store (i := 0) (new := valC (l.getD k v0)) hF hS rfl rfl rfl rfl (by exact sz24) rfl (by simp [valC]) ?_; clear hS hF; intro w a hS hF
              rw [spl_all (by simp [valC])] at hS
              refine s_pu hF (pu_assign rfl) rfl ?_; clear hF; intro a hF
              refine s_pu hF (pu_assign rfl) rfl ?_; clear hF; intro a hF
              refine c_nil ?_
              refine n_then ?_
              refine c_seq ?_
              refine region_st 15 hF hS (allV_ne rfl) mix (by kernel_rfl) fun Γ hG => ?_
              refine t_pu hG (fun w hC => o_loadA (i := 0) (new := valC (l.getD k v0)) hC.st rfl agg24 rfl (rfl)) ?_; clear hG; intro Γ hG
              refine t_pu hG (fun w hC => pu_move rfl) ?_; clear hG; intro Γ hG
              refine t_pu hG (fun w hC => pu_move rfl) ?_; clear hG; intro Γ hG
              refine t_pu hG (fun w hC => pu_iaddr_sla (j := k) ha slt34 rfl rfl (by omega) (by omega)) ?_; clear hG; intro Γ hG
              refine t_pu hG (fun w hC => pu_loadA (cs := valC (l.getD k v0)) agg24 rfl (fun j v hj => by rw [add_mk]; exact HC _ hC.st.base j v hj)) ?_; clear hG; intro Γ hG
              refine t_pu hG (fun w hC => pu_ane (a := (l.getD k v0)) (b := (l.getD k v0)) eqV rfl rfl) ?_; clear hG; intro Γ hG
              refine t_pu hG (fun w hC => pu_move rfl) ?_; clear hG; intro Γ hG
              refine tg_pu hG ⟨_, _, (rfl : _[6]? = some _), rfl, rfl⟩ (by simp) (fun w hC => pu_move rfl) ?_; clear hG; intro Γ hG
              refine tg_pu hG ⟨_, _, (rfl : _[6]? = some _), rfl, rfl⟩ (by simp) (fun w hC => pu_move rfl) ?_; clear hG; intro Γ hG
              refine tg_pu hG ⟨_, _, (rfl : _[6]? = some _), rfl, rfl⟩ (by simp) (fun w hC => pu_sne rfl rfl) ?_; clear hG; intro Γ hG
              refine t_pu hG (fun w hC => pu_pick_f rfl (by simp) rfl) ?_; clear hG; intro Γ hG
              refine t_pu hG (fun w hC => pu_move rfl) ?_; clear hG; intro Γ hG
              refine tg_pu hG ⟨_, _, (rfl : _[11]? = some _), rfl, rfl⟩ (by simp) (fun w hC => pu_move rfl) ?_; clear hG; intro Γ hG
              refine tg_pu hG ⟨_, _, (rfl : _[11]? = some _), rfl, rfl⟩ (by simp) (fun w hC => pu_ine rfl rfl) ?_; clear hG; intro Γ hG
              refine t_pu hG (fun w hC => pu_pick_f rfl (by simp) rfl) ?_; clear hG; intro Γ hG
              refine t_end hG ?_; clear hG hF; intro a w hC hE hF hP; replace hS := hC.st; clear hC
              clear hE
              clear hP
              refine c_nil ?_
              refine n_then ?_
              refine c_iff hF rfl (by simp) ?_
              refine c_skip ?_
              refine n_block ?_
              refine n_then ?_
              refine c_reg ?_
              refine s_pu hF (pu_move rfl) rfl ?_; clear hF; intro a hF
              refine s_pu hF (pu_add rfl rfl (by first | exact wrap_i64 (by omega) (by omega) | rfl)) rfl ?_; clear hF; intro a hF
              refine s_pu hF (pu_assign rfl) rfl ?_; clear hF; intro a hF
              refine c_nil ?_
              replace hS := hS.forget 0
              exact ⟨k + 1, ⟨by omega, upto_snoc hn hok, hF.pick (.cons (k := 7) rfl <| .cons (k := 0) rfl <| .cons (k := 1) rfl <| .cons (k := 2) rfl <| .nil), hS⟩, by omega⟩
        · try simp only [decide_eq_true_eq, decide_eq_false_iff_not, Bool.not_eq_true', Bool.not_eq_false', Bool.not_eq_eq_eq_not, Bool.not_true, Bool.not_false] at hc40
          obtain rfl : k = l.length := by omega
          have hall := all_upto (p := valOk) v0 (fun j hj => hn j hj)
          have hab : ∀ v ∈ l, valOk v = true ∧ valB v := fun v hv => ⟨List.all_eq_true.1 hall v hv, hB v hv⟩
          have hrr : rowR l = (rowS l, 0) := by rw [rowR, if_pos hall]
          have hrl := row_len hab
          have hnl := numS_len (n := (l.length : Int)) ⟨by omega, by omega⟩
          have hsl : (rowS l).length ≤ 4000 := by rw [rowS, List.length_append]; omega
          refine c_exit (x_then (x_then (x_here ?_)))
          refine n_then ?_
          refine c_seq ?_
          refine c_reg ?_
          refine s_pu hF (pu_move rfl) rfl ?_; clear hF; intro a hF
          refine s_calld (v := tsV (rowS l, 0)) hF hS ok16 rfl (by rw [← hrr]; exact c_Row ad cap l hB (by omega) _ h0 hS.base hb) rfl ?_; clear hS hF; intro w a hS hF
          refine s_pu hF (pu_move rfl) rfl ?_; clear hF; intro a hF
          refine s_pu hF (pu_extract rfl rfl) rfl ?_; clear hF; intro a hF
          refine s_pu hF (pu_extract rfl rfl) rfl ?_; clear hF; intro a hF
          refine s_pu hF (pu_assign rfl) rfl ?_; clear hF; intro a hF
          refine s_pu hF (pu_assign rfl) rfl ?_; clear hF; intro a hF
          refine c_nil ?_
          refine n_then ?_
          refine c_seq ?_
          refine c_reg ?_
          refine s_pu hF (pu_move rfl) rfl ?_; clear hF; intro a hF
          refine s_pu hF (pu_move rfl) rfl ?_; clear hF; intro a hF
          refine s_pu hF (pu_cat rfl rfl (by first | omega | (dsimp only; omega) | (have := bytesV_len hok (hB _ (getD_mem l k v0 (by omega))); omega))) rfl ?_; clear hF; intro a hF
          refine s_pu hF (pu_move rfl) rfl ?_; clear hF; intro a hF
          refine s_pu hF (pu_len_sl tyL34 rfl rfl) rfl ?_; clear hF; intro a hF
          refine s_callBT (tl := [vs b, .int .i64 0]) (xs := (l.map valC).flatten) hF hS ok22 rfl (by have hh := c_TakeRow (rowS l ++ b) l.length (by rw [List.length_append]; omega) w (Full _) (VLe.refl _); rw [take_row hab (by omega)] at hh; exact hh) rfl ?_; clear hS hF; intro a1 n1 p1 w a hn1 hS hF
          rw [flat3] at hn1
          obtain rfl : n1 = l.length := by omega
          refine s_pu hF (pu_move rfl) rfl ?_; clear hF; intro a hF
          refine s_pu hF (pu_extract rfl rfl) rfl ?_; clear hF; intro a hF
          refine s_pu hF (pu_extract rfl rfl) rfl ?_; clear hF; intro a hF
          refine s_pu hF (pu_extract rfl rfl) rfl ?_; clear hF; intro a hF
          refine s_pu hF (pu_assign rfl) rfl ?_; clear hF; intro a hF
          refine s_pu hF (pu_assign rfl) rfl ?_; clear hF; intro a hF
          refine s_pu hF (pu_assign rfl) rfl ?_; clear hF; intro a hF
          refine c_nil ?_
          refine n_then ?_
          refine c_seq ?_
          refine c_seq ?_
          refine c_reg ?_
          refine s_pu hF (pu_move rfl) rfl ?_; clear hF; intro a hF
          refine s_pu hF (pu_ine rfl rfl) rfl ?_; clear hF; intro a hF
          refine s_pu hF (pu_move rfl) rfl ?_; clear hF; intro a hF
          refine g_pu hF ⟨_, _, (rfl : _[2]? = some _), rfl, rfl⟩ (by simp) (pu_move rfl) rfl ?_; clear hF; intro a hF
          refine g_pu hF ⟨_, _, (rfl : _[2]? = some _), rfl, rfl⟩ (by simp) (pu_move rfl) rfl ?_; clear hF; intro a hF
          have hs2 := hS.bufFull (i := 0) (l := l) (f := valC) rfl (fun _ _ => rfl) rfl
          refine g_calld hF hS ⟨_, _, (rfl : _[2]? = some _), rfl, rfl⟩ (by simp) ok24 rfl (c_SameRow ad a1 cap p1 l l _ (Full _) (VLe.refl _) (hb.monoF hS.base) hs2) rfl ?_; clear hS hF hs2; intro w a hS hF
          refine g_pu hF ⟨_, _, (rfl : _[2]? = some _), rfl, rfl⟩ (by simp) (pu_not rfl) rfl ?_; clear hF; intro a hF
          refine s_pu hF (pu_pick_f rfl (by simp) rfl) rfl ?_; clear hF; intro a hF
          refine s_pu hF (pu_move rfl) rfl ?_; clear hF; intro a hF
          refine g_pu hF ⟨_, _, (rfl : _[8]? = some _), rfl, rfl⟩ (by simp) (pu_move rfl) rfl ?_; clear hF; intro a hF
          refine g_pu hF ⟨_, _, (rfl : _[8]? = some _), rfl, rfl⟩ (by simp) (pu_move rfl) rfl ?_; clear hF; intro a hF
          refine g_pu hF ⟨_, _, (rfl : _[8]? = some _), rfl, rfl⟩ (by simp) (pu_sne rfl rfl) rfl ?_; clear hF; intro a hF
          refine s_pu hF (pu_pick_f rfl (by simp) rfl) rfl ?_; clear hF; intro a hF
          refine s_pu hF (pu_move rfl) rfl ?_; clear hF; intro a hF
          refine g_pu hF ⟨_, _, (rfl : _[13]? = some _), rfl, rfl⟩ (by simp) (pu_move rfl) rfl ?_; clear hF; intro a hF
          refine g_pu hF ⟨_, _, (rfl : _[13]? = some _), rfl, rfl⟩ (by simp) (pu_ine rfl rfl) rfl ?_; clear hF; intro a hF
          refine s_pu hF (pu_pick_f rfl (by simp) rfl) rfl ?_; clear hF; intro a hF
          refine c_nil ?_
          refine n_then ?_
          refine c_iff hF rfl (by simp) ?_
          refine c_skip ?_
          refine n_then ?_
          refine c_seq ?_
          refine c_reg ?_
          refine s_pu hF (pu_move rfl) rfl ?_; clear hF; intro a hF
          refine s_callv hF hS ok20 rfl (c_Take s _ _ hS.view) rfl ?_; clear hS hF; intro w a hS hF
          refine s_pu hF (pu_move rfl) rfl ?_; clear hF; intro a hF
          refine s_pu hF (pu_extract rfl rfl) rfl ?_; clear hF; intro a hF
          refine s_pu hF (pu_extract rfl rfl) rfl ?_; clear hF; intro a hF
          refine s_pu hF (pu_extract rfl rfl) rfl ?_; clear hF; intro a hF
          refine s_alloc hF hS zero24 rfl ?_; clear hS hF; intro b0 w a hS hF
          refine s_store (i := 0) (new := valC (takeV s).1) hF hS rfl rfl rfl rfl (by exact sz24) rfl (by simp [valC]) ?_; clear hS hF; intro w a hS hF
          rw [spl_all (by simp [valC])] at hS
          refine s_pu hF (pu_assign rfl) rfl ?_; clear hF; intro a hF
          refine s_pu hF (pu_assign rfl) rfl ?_; clear hF; intro a hF
          refine c_nil ?_
          refine n_then ?_
          refine c_seq ?_
          refine c_seq ?_
          refine c_reg ?_
          refine s_pu hF (pu_move rfl) rfl ?_; clear hF; intro a hF
          refine s_pu hF (pu_ine rfl rfl) rfl ?_; clear hF; intro a hF
          refine c_nil ?_
          refine n_then ?_
          refine c_if hF rfl (fun hc133 => ?_) (fun hc133 => ?_)
          · try simp only [decide_eq_true_eq, decide_eq_false_iff_not, Bool.not_eq_true', Bool.not_eq_false', Bool.not_eq_eq_eq_not, Bool.not_true, Bool.not_false] at hc133
            have hz : takeV s = (v0, [], (takeV s).2.2) := by
              rcases takeV_or s with ⟨h, _⟩ | ⟨_, e⟩
              · exact absurd h hc133
              · exact e
            refine c_seq ?_
            refine c_reg ?_
            refine s_pu hF (o_loadA (i := 0) (new := valC (takeV s).1) hS rfl agg24 rfl (rfl)) rfl ?_; clear hF; intro a hF
            refine s_pu hF (pu_build_st (cs := valC v0) strb24 rfl rfl) rfl ?_; clear hF; intro a hF
            refine s_pu hF (pu_aeq (a := (takeV s).1) (b := v0) eqV rfl rfl) rfl ?_; clear hF; intro a hF
            refine s_pu hF (pu_move rfl) rfl ?_; clear hF; intro a hF
            refine g_pu hF ⟨_, _, (rfl : _[3]? = some _), rfl, rfl⟩ (decide_eq_true (by rw [hz])) (pu_move rfl) rfl ?_; clear hF; intro a hF
            refine g_pu hF ⟨_, _, (rfl : _[3]? = some _), rfl, rfl⟩ (decide_eq_true (by rw [hz])) (pu_seq rfl rfl) rfl ?_; clear hF; intro a hF
            refine s_pu hF (pu_pick_t rfl (decide_eq_true (by rw [hz])) rfl) rfl ?_; clear hF; intro a hF
            refine s_pu hF (pu_move rfl) rfl ?_; clear hF; intro a hF
            refine g_callv hF hS ⟨_, _, (rfl : _[7]? = some _), rfl, rfl⟩ (decide_eq_true (by rw [hz])) ok8 rfl (c_lives _ _ hS.view) rfl ?_; clear hS hF; intro w a hS hF
            refine s_pu hF (pu_pick_t rfl (decide_eq_true (by rw [hz])) rfl) rfl ?_; clear hF; intro a hF
            refine s_pu hF (pu_assign rfl) rfl ?_; clear hF; intro a hF
            refine c_nil ?_
            refine n_then ?_
            refine c_ret (r_then ?_)
            exact f_ret hF rfl (.tmp rfl (.nil)) (hS.retv rfl)
          · try simp only [decide_eq_true_eq, decide_eq_false_iff_not, Bool.not_eq_true', Bool.not_eq_false', Bool.not_eq_eq_eq_not, Bool.not_true, Bool.not_false] at hc133
            obtain ⟨hok, hcat⟩ := takeV_back hc133
            have hbz : vbR (takeV s).1 = (bytesV (takeV s).1, 0) := by rw [vbR, if_pos hok]
            have hcl := congrArg List.length hcat
            rw [List.length_append] at hcl
            refine c_skip ?_
            refine n_then ?_
            refine c_seq ?_
            refine c_reg ?_
            refine s_pu hF (o_loadA (i := 0) (new := valC (takeV s).1) hS rfl agg24 rfl (rfl)) rfl ?_; clear hF; intro a hF
            refine s_calld (v := tsV (bytesV (takeV s).1, 0)) hF hS ok10 rfl (by rw [← hbz]; exact c_VBytes (takeV s).1 (takeV_B s) _ h0 hS.base) rfl ?_; clear hS hF; intro w a hS hF
            refine s_pu hF (pu_move rfl) rfl ?_; clear hF; intro a hF
            refine s_pu hF (pu_extract rfl rfl) rfl ?_; clear hF; intro a hF
            refine s_pu hF (pu_extract rfl rfl) rfl ?_; clear hF; intro a hF
            refine s_pu hF (pu_assign rfl) rfl ?_; clear hF; intro a hF
            refine s_pu hF (pu_assign rfl) rfl ?_; clear hF; intro a hF
            refine c_nil ?_
            refine n_then ?_
            refine c_seq ?_
            refine c_reg ?_
            refine s_pu hF (pu_move rfl) rfl ?_; clear hF; intro a hF
            refine s_pu hF (pu_move rfl) rfl ?_; clear hF; intro a hF
            refine s_pu hF (pu_cat rfl rfl (by first | omega | (dsimp only; omega) | (have := bytesV_len hok (hB _ (getD_mem l k v0 (by omega))); omega))) rfl ?_; clear hF; intro a hF
            refine s_pu hF (pu_move rfl) rfl ?_; clear hF; intro a hF
            refine s_pu hF (pu_seq rfl rfl) rfl ?_; clear hF; intro a hF
            refine s_pu hF (pu_move rfl) rfl ?_; clear hF; intro a hF
            refine g_pu hF ⟨_, _, (rfl : _[5]? = some _), rfl, rfl⟩ (decide_eq_true hcat) (pu_move rfl) rfl ?_; clear hF; intro a hF
            refine g_pu hF ⟨_, _, (rfl : _[5]? = some _), rfl, rfl⟩ (decide_eq_true hcat) (pu_ieq rfl rfl) rfl ?_; clear hF; intro a hF
            refine s_pu hF (pu_pick_t rfl (decide_eq_true hcat) rfl) rfl ?_; clear hF; intro a hF
            refine s_pu hF (pu_move rfl) rfl ?_; clear hF; intro a hF
            refine g_callv hF hS ⟨_, _, (rfl : _[9]? = some _), rfl, rfl⟩ (decide_eq_true rfl) ok8 rfl (c_lives _ _ hS.view) rfl ?_; clear hS hF; intro w a hS hF
            refine s_pu hF (pu_pick_t rfl (decide_eq_true rfl) rfl) rfl ?_; clear hF; intro a hF
            refine s_pu hF (pu_assign rfl) rfl ?_; clear hF; intro a hF
            refine c_nil ?_
            refine n_then ?_
            refine c_ret ?_
            exact f_ret hF rfl (.tmp rfl (.nil)) (hS.retv rfl)
end Go.Proofs.YtklhnhpcgkmijaaDoor
