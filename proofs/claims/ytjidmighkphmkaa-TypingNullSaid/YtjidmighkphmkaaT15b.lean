/- What the functions of the program compute, each with its conditions. -/
import Derived.Test.YtjidmighkphmkaaT15
set_option linter.unusedSimpArgs false
set_option linter.unusedVariables false
namespace Go.Proofs.Ytjidmighkphmkaa
open Go Go.Dx Go.RowKit
theorem c_at1 (c : Col) (s : List UInt8) (b : Nat) (w0 : World) (h0 : View) (hv : VLe h0 (Full w0)) (hb : ∀ w, VLe h0 (Full w) → w.cell? ⟨b, 0, none⟩ = some (vs s)) : Calls Try.prog 64 #[.agg (colC c).toArray, .pointer (some ⟨b, 0, none⟩)] w0 (Ret w0 h0 fun u _ => u = .bool (decide (c.name = s))) := by
  refine f_enter (args := [.agg (colC c).toArray, .pointer (some ⟨b, 0, none⟩)]) Try.func64 rfl Try.ntmps64 rfl fun a hF => ?_
  have hS := St.init w0 h0 hv
  refine c_seq ?_
  refine c_reg ?_
  refine s_box (cs := colC c) hF hS rfl rfl rfl ?_; clear hS hF; intro b0 w a hS hF
  refine s_pu hF (pu_assign rfl) rfl ?_; clear hF; intro a hF
  refine c_nil ?_
  refine n_then ?_
  refine c_seq ?_
  refine c_reg ?_
  refine s_pu hF (pu_faddr fld58_0 rfl) rfl ?_; clear hF; intro a hF
  refine s_pu hF (o_load1 (i := 0) hS rfl one9 rfl rfl) rfl ?_; clear hF; intro a hF
  refine s_pu hF (pu_load1 one9 rfl (hb _ hS.base)) rfl ?_; clear hF; intro a hF
  refine s_pu hF (pu_seq rfl rfl) rfl ?_; clear hF; intro a hF
  refine s_pu hF (pu_assign rfl) rfl ?_; clear hF; intro a hF
  refine c_nil ?_
  refine n_then ?_
  refine c_ret ?_
  exact f_ret hF rfl (.tmp rfl (.nil)) (hS.retv rfl)
theorem c_IndexC (adc : Option Addr) (capc : Nat) (cl : List Col) (g : FuncId) (cs : List Value) (p : Col → Bool) (hg : CallOk Try.prog g) (w0 : World) (h0 : View) (hv : VLe h0 (Full w0)) (hcl : SlC 0 3 (flatR colC) h0 (.slice adc cl.length capc) cl) (hp : ∀ c w, VLe h0 (Full w) → Calls Try.prog g ([] ++ [Value.agg (colC c).toArray] ++ cs).toArray w (Ret w h0 fun u _ => u = .bool (p c))) : Calls Try.prog 63 #[.slice adc cl.length capc, .func (.func g) #[] cs.toArray] w0 (Ret w0 h0 fun u _ => u = .int .i64 (idxS p cl)) := by
  refine f_enter (args := [.slice adc cl.length capc, .func (.func g) #[] cs.toArray]) Try.func63 rfl Try.ntmps63 rfl fun a hF => ?_
  have hS := St.init w0 h0 hv
  have hlm := hcl.lm
  refine c_seq ?_
  refine c_reg ?_
  refine s_pu hF (pu_assign rfl) rfl ?_; clear hF; intro a hF
  refine c_nil ?_
  refine n_then ?_
  refine c_seq ?_
  refine c_seq ?_
  refine c_reg ?_
  refine s_pu hF (pu_move rfl) rfl ?_; clear hF; intro a hF
  refine s_pu hF (pu_len_sl tyL38 rfl rfl) rfl ?_; clear hF; intro a hF
  refine s_pu hF (pu_move rfl) rfl ?_; clear hF; intro a hF
  refine c_nil ?_
  refine n_then ?_
  refine c_block ?_
  refine hS.cut fun O0 F0 hO0 hF0 hS => ?_
  refine hF.cut (.cons (k := 8) rfl <| .nil) (.cons (k := 0) rfl <| .cons (k := 1) rfl <| .cons (k := 7) rfl <| .nil) fun L0 hL0 hF => ?_
  refine c_loop (α := Nat) (fun k a w => k ≤ cl.length ∧ (∀ j, j < k → p (cl.getD j c0) = false) ∧ Fr a 19 ([(8, .val (.int .i64 (k : Nat)))] ++ L0) ∧ St w0 h0 [] w O0 F0) (fun k => cl.length - k) 0 (⟨Nat.zero_le _, fun j hj => absurd hj (Nat.not_lt_zero j), hF, hS⟩) ?_
  subst hO0 hF0 hL0
  rintro k a w ⟨hk, hn, hF, hS⟩
  refine c_seq ?_
  refine c_reg ?_
  refine s_pu hF (pu_ilt rfl rfl) rfl ?_; clear hF; intro a hF
  refine c_nil ?_
  refine n_then ?_
  refine c_seq ?_
  refine c_if hF rfl (fun hc9 => ?_) (fun hc9 => ?_)
  · try simp only [decide_eq_true_eq, decide_eq_false_iff_not, Bool.not_eq_true', Bool.not_eq_false', Bool.not_eq_eq_eq_not, Bool.not_true, Bool.not_false] at hc9
    obtain ⟨g2, oc, hac, HC⟩ := hcl.at (i := k) (x := cl.getD k c0) (by rw [getD_lt cl k c0 (by omega)]; exact List.getElem?_eq_getElem (by omega))
    refine c_skip ?_
    refine n_then ?_
    refine c_seq ?_
    refine c_block ?_
    refine c_seq ?_
    refine c_reg ?_
    refine s_pu hF (pu_move rfl) rfl ?_; clear hF; intro a hF
    refine s_pu hF (pu_assign rfl) rfl ?_; clear hF; intro a hF
    refine c_nil ?_
    refine n_then ?_
    refine c_seq ?_
    refine c_reg ?_
    refine s_pu hF (pu_move rfl) rfl ?_; clear hF; intro a hF
    refine s_pu hF (pu_move rfl) rfl ?_; clear hF; intro a hF
    refine s_pu hF (pu_move rfl) rfl ?_; clear hF; intro a hF
    refine s_pu hF (pu_iaddr_sla (j := k) hac slt38 rfl rfl (by omega) (by omega)) rfl ?_; clear hF; intro a hF
    refine s_pu hF (pu_loadA (cs := colC (cl.getD k c0)) agg58 rfl (fun j v hj => by rw [add_mk]; exact HC _ hS.base j v hj)) rfl ?_; clear hF; intro a hF
    refine s_callF (first := []) (cap := cs) hF hS hg rfl rfl (hp _ _ hS.base) rfl ?_; clear hS hF; intro w a hS hF
    refine c_nil ?_
    refine n_then ?_
    refine c_if hF rfl (fun hc16 => ?_) (fun hc16 => ?_)
    · try simp only [decide_eq_true_eq, decide_eq_false_iff_not, Bool.not_eq_true', Bool.not_eq_false', Bool.not_eq_eq_eq_not, Bool.not_true, Bool.not_false] at hc16
      refine c_seq ?_
      refine c_reg ?_
      refine s_pu hF (pu_move rfl) rfl ?_; clear hF; intro a hF
      refine s_pu hF (pu_assign rfl) rfl ?_; clear hF; intro a hF
      refine c_nil ?_
      refine n_then ?_
      refine c_ret (r_block (r_then (r_then (r_block (r_then ?_)))))
      exact f_ret hF rfl (.tmp rfl (.nil)) (hS.retv (congrArg (Value.int .i64) (idx_hit c0 (by omega) hn hc16).symm))
    · try simp only [decide_eq_true_eq, decide_eq_false_iff_not, Bool.not_eq_true', Bool.not_eq_false', Bool.not_eq_eq_eq_not, Bool.not_true, Bool.not_false] at hc16
      refine c_skip ?_
      refine n_block ?_
      refine n_then ?_
      refine c_reg ?_
      refine s_pu hF (pu_add rfl rfl (by first | exact wrap_i64 (by omega) (by omega) | rfl)) rfl ?_; clear hF; intro a hF
      refine s_pu hF (pu_move rfl) rfl ?_; clear hF; intro a hF
      refine c_nil ?_
      exact ⟨k + 1, ⟨by omega, upto_snoc hn hc16, hF.pick (.cons (k := 8) rfl <| .cons (k := 0) rfl <| .cons (k := 1) rfl <| .cons (k := 7) rfl <| .nil), hS⟩, by omega⟩
  · try simp only [decide_eq_true_eq, decide_eq_false_iff_not, Bool.not_eq_true', Bool.not_eq_false', Bool.not_eq_eq_eq_not, Bool.not_true, Bool.not_false] at hc9
    refine c_exit (x_then (x_then (x_here ?_)))
    refine n_then ?_
    refine c_seq ?_
    refine c_reg ?_
    refine s_pu hF (pu_assign rfl) rfl ?_; clear hF; intro a hF
    refine c_nil ?_
    refine n_then ?_
    refine c_ret ?_
    exact f_ret hF rfl (.tmp rfl (.nil)) (hS.retv (congrArg (Value.int .i64) (idx_none c0 (fun j hj => hn j (by omega))).symm))
theorem c_at_ (adc : Option Addr) (capc : Nat) (cl : List Col) (s : List UInt8) (w0 : World) (h0 : View) (hv : VLe h0 (Full w0)) (hcl : SlC 0 3 (flatR colC) h0 (.slice adc cl.length capc) cl) : Calls Try.prog 40 #[.slice adc cl.length capc, vs s] w0 (Ret w0 h0 fun u _ => u = .int .i64 (atS cl s)) := by
  refine f_enter (args := [.slice adc cl.length capc, vs s]) Try.func40 rfl Try.ntmps40 rfl fun a hF => ?_
  have hS := St.init w0 h0 hv
  refine c_seq ?_
  refine c_reg ?_
  refine s_box hF hS rfl rfl rfl ?_; clear hS hF; intro b0 w a hS hF
  refine s_pu hF (pu_assign rfl) rfl ?_; clear hF; intro a hF
  refine c_nil ?_
  refine n_then ?_
  refine c_seq ?_
  refine c_reg ?_
  refine s_pu hF (pu_move rfl) rfl ?_; clear hF; intro a hF
  refine s_pu hF (pu_mkfunc rfl) rfl ?_; clear hF; intro a hF
  have hbox := hS.at (i := 0) rfl
  refine s_calld hF hS ok63 rfl (c_IndexC adc capc cl 64 [.pointer (some ⟨b0, 0, none⟩)] (fun c => decide (c.name = s)) ok64 _ (Full _) (VLe.refl _) (hcl.monoF hS.base) (fun c w2 hv2 => c_at1 c s b0 w2 _ hv2 (fun w3 hv3 => (cell_row (hv3 _ _ hbox)).trans rfl))) rfl ?_; clear hS hF hbox; intro w a hS hF
  refine s_pu hF (pu_assign rfl) rfl ?_; clear hF; intro a hF
  refine c_nil ?_
  refine n_then ?_
  refine c_ret ?_
  exact f_ret hF rfl (.tmp rfl (.nil)) (hS.retv rfl)
theorem c_RAt (adc : Option Addr) (capc : Nat) (cl : List Col) (s : List UInt8) (w0 : World) (h0 : View) (hv : VLe h0 (Full w0)) (hcl : SlC 0 3 (flatR colC) h0 (.slice adc cl.length capc) cl) : Calls Try.prog 41 #[.slice adc cl.length capc, vs s] w0 (Ret w0 h0 fun u _ => u = .int .i64 (atS cl s)) := by
  refine f_enter (args := [.slice adc cl.length capc, vs s]) Try.func41 rfl Try.ntmps41 rfl fun a hF => ?_
  have hS := St.init w0 h0 hv
  have hlm := hcl.lm
  refine c_seq ?_
  refine c_reg ?_
  refine s_pu hF (pu_assign rfl) rfl ?_; clear hF; intro a hF
  refine c_nil ?_
  refine n_then ?_
  refine c_seq ?_
  refine c_seq ?_
  refine c_reg ?_
  refine s_pu hF (pu_assign rfl) rfl ?_; clear hF; intro a hF
  refine c_nil ?_
  refine n_then ?_
  refine c_block ?_
  refine hS.cut fun O0 F0 hO0 hF0 hS => ?_
  refine hF.cut (.cons (k := 5) rfl <| .nil) (.cons (k := 0) rfl <| .cons (k := 1) rfl <| .nil) fun L0 hL0 hF => ?_
  refine c_loop (α := Nat) (fun k a w => k ≤ cl.length ∧ (∀ j, j < k → (fun c : Col => decide (c.name = s)) (cl.getD j c0) = false) ∧ Fr a 20 ([(5, .val (.int .i64 (k : Nat)))] ++ L0) ∧ St w0 h0 [] w O0 F0) (fun k => cl.length - k) 0 (⟨Nat.zero_le _, fun j hj => absurd hj (Nat.not_lt_zero j), hF, hS⟩) ?_
  subst hO0 hF0 hL0
  rintro k a w ⟨hk, hn, hF, hS⟩
  refine c_seq ?_
  refine c_seq ?_
  refine c_reg ?_
  refine s_pu hF (pu_move rfl) rfl ?_; clear hF; intro a hF
  refine s_pu hF (pu_move rfl) rfl ?_; clear hF; intro a hF
  refine s_pu hF (pu_len_sl tyL38 rfl rfl) rfl ?_; clear hF; intro a hF
  refine s_pu hF (pu_ilt rfl rfl) rfl ?_; clear hF; intro a hF
  refine c_nil ?_
  refine n_then ?_
  refine c_if hF rfl (fun hc9 => ?_) (fun hc9 => ?_)
  · try simp only [decide_eq_true_eq, decide_eq_false_iff_not, Bool.not_eq_true', Bool.not_eq_false', Bool.not_eq_eq_eq_not, Bool.not_true, Bool.not_false] at hc9
    obtain ⟨g2, oc, hac, HC⟩ := hcl.at (i := k) (x := cl.getD k c0) (by rw [getD_lt cl k c0 (by omega)]; exact List.getElem?_eq_getElem (by omega))
    refine c_skip ?_
    refine n_then ?_
    refine c_seq ?_
    refine c_block ?_
    refine c_seq ?_
    refine c_reg ?_
    refine s_pu hF (pu_move rfl) rfl ?_; clear hF; intro a hF
    refine s_pu hF (pu_move rfl) rfl ?_; clear hF; intro a hF
    refine s_pu hF (pu_iaddr_sla (j := k) hac slt38 rfl rfl (by omega) (by omega)) rfl ?_; clear hF; intro a hF
    refine s_pu hF (pu_faddr fld58_0 rfl) rfl ?_; clear hF; intro a hF
    refine s_pu hF (pu_load1 one9 rfl (HC _ hS.base 0 _ rfl)) rfl ?_; clear hF; intro a hF
    refine s_pu hF (pu_move rfl) rfl ?_; clear hF; intro a hF
    refine s_pu hF (pu_seq rfl rfl) rfl ?_; clear hF; intro a hF
    refine c_nil ?_
    refine n_then ?_
    refine c_if hF rfl (fun hc18 => ?_) (fun hc18 => ?_)
    · try simp only [decide_eq_true_eq, decide_eq_false_iff_not, Bool.not_eq_true', Bool.not_eq_false', Bool.not_eq_eq_eq_not, Bool.not_true, Bool.not_false] at hc18
      refine c_seq ?_
      refine c_reg ?_
      refine s_pu hF (pu_move rfl) rfl ?_; clear hF; intro a hF
      refine s_pu hF (pu_assign rfl) rfl ?_; clear hF; intro a hF
      refine c_nil ?_
      refine n_then ?_
      refine c_ret (r_block (r_then (r_then (r_block (r_then ?_)))))
      exact f_ret hF rfl (.tmp rfl (.nil)) (hS.retv (congrArg (Value.int .i64) (idx_hit c0 (by omega) hn (by simpa using hc18)).symm))
    · try simp only [decide_eq_true_eq, decide_eq_false_iff_not, Bool.not_eq_true', Bool.not_eq_false', Bool.not_eq_eq_eq_not, Bool.not_true, Bool.not_false] at hc18
      refine c_skip ?_
      refine n_block ?_
      refine n_then ?_
      refine c_reg ?_
      refine s_pu hF (pu_move rfl) rfl ?_; clear hF; intro a hF
      refine s_pu hF (pu_add rfl rfl (by first | exact wrap_i64 (by omega) (by omega) | rfl)) rfl ?_; clear hF; intro a hF
      refine s_pu hF (pu_assign rfl) rfl ?_; clear hF; intro a hF
      refine c_nil ?_
      exact ⟨k + 1, ⟨by omega, upto_snoc hn (by simpa using hc18), hF.pick (.cons (k := 5) rfl <| .cons (k := 0) rfl <| .cons (k := 1) rfl <| .nil), hS⟩, by omega⟩
  · try simp only [decide_eq_true_eq, decide_eq_false_iff_not, Bool.not_eq_true', Bool.not_eq_false', Bool.not_eq_eq_eq_not, Bool.not_true, Bool.not_false] at hc9
    refine c_exit (x_then (x_then (x_here ?_)))
    refine n_then ?_
    refine c_seq ?_
    refine c_reg ?_
    refine s_pu hF (pu_assign rfl) rfl ?_; clear hF; intro a hF
    refine c_nil ?_
    refine n_then ?_
    refine c_ret ?_
    exact f_ret hF rfl (.tmp rfl (.nil)) (hS.retv (congrArg (Value.int .i64) (idx_none c0 (fun j hj => hn j (by omega))).symm))
set_option maxHeartbeats 1000000 in
theorem c_Columns (adc : Option Addr) (capc : Nat) (cl : List Col) (hfew : ∀ j, j < cl.length → (cl.getD j c0).name.length ≤ 300) (w0 : World) (h0 : View) (hv : VLe h0 (Full w0)) (hcl : SlC 0 3 (flatR colC) h0 (.slice adc cl.length capc) cl) : Calls Try.prog 19 #[.slice adc cl.length capc] w0 (Ret w0 h0 fun u _ => u = .int .i64 (colsS cl)) := by
  refine f_enter (args := [.slice adc cl.length capc]) Try.func19 rfl Try.ntmps19 rfl fun a hF => ?_
  have hS := St.init w0 h0 hv
  have hlm := hcl.lm
  refine c_seq ?_
  refine c_reg ?_
  refine s_pu hF (pu_assign rfl) rfl ?_; clear hF; intro a hF
  refine c_nil ?_
  refine n_then ?_
  refine c_seq ?_
  refine c_seq ?_
  refine c_reg ?_
  refine s_pu hF (pu_move rfl) rfl ?_; clear hF; intro a hF
  refine s_pu hF (pu_len_sl tyL38 rfl rfl) rfl ?_; clear hF; intro a hF
  refine s_pu hF (pu_igt rfl rfl) rfl ?_; clear hF; intro a hF
  refine c_nil ?_
  refine n_then ?_
  refine c_if hF rfl (fun hc7 => ?_) (fun hc7 => ?_)
  · try simp only [decide_eq_true_eq, decide_eq_false_iff_not, Bool.not_eq_true', Bool.not_eq_false', Bool.not_eq_eq_eq_not, Bool.not_true, Bool.not_false] at hc7
    refine c_seq ?_
    refine c_reg ?_
    refine s_pu hF (pu_assign rfl) rfl ?_; clear hF; intro a hF
    refine c_nil ?_
    refine n_then ?_
    refine c_ret (r_then ?_)
    exact f_ret hF rfl (.tmp rfl (.nil)) (hS.retv (congrArg (Value.int .i64) (by rw [colsS, if_pos (by omega)])))
  · try simp only [decide_eq_true_eq, decide_eq_false_iff_not, Bool.not_eq_true', Bool.not_eq_false', Bool.not_eq_eq_eq_not, Bool.not_true, Bool.not_false] at hc7
    refine c_skip ?_
    refine n_then ?_
    refine c_seq ?_
    refine c_seq ?_
    refine c_reg ?_
    refine s_pu hF (pu_move rfl) rfl ?_; clear hF; intro a hF
    refine s_pu hF (pu_len_sl tyL38 rfl rfl) rfl ?_; clear hF; intro a hF
    refine s_pu hF (pu_move rfl) rfl ?_; clear hF; intro a hF
    refine c_nil ?_
    refine n_then ?_
    refine c_block ?_
    refine hS.cut fun O0 F0 hO0 hF0 hS => ?_
    refine hF.cut (.cons (k := 10) rfl <| .nil) (.cons (k := 0) rfl <| .cons (k := 8) rfl <| .cons (k := 9) rfl <| .nil) fun L0 hL0 hF => ?_
    refine c_loop (α := Nat) (fun k a w => k ≤ cl.length ∧ colsG cl k = colsG cl 0 ∧ Fr a 41 ([(10, .val (.int .i64 (k : Nat)))] ++ L0) ∧ St w0 h0 [] w O0 F0) (fun k => cl.length - k) 0 (⟨Nat.zero_le _, rfl, hF, hS⟩) ?_
    subst hO0 hF0 hL0
    rintro k a w ⟨hk, hcg, hF, hS⟩
    refine c_seq ?_
    refine c_reg ?_
    refine s_pu hF (pu_ilt rfl rfl) rfl ?_; clear hF; intro a hF
    refine c_nil ?_
    refine n_then ?_
    refine c_seq ?_
    refine c_if hF rfl (fun hc11 => ?_) (fun hc11 => ?_)
    · try simp only [decide_eq_true_eq, decide_eq_false_iff_not, Bool.not_eq_true', Bool.not_eq_false', Bool.not_eq_eq_eq_not, Bool.not_true, Bool.not_false] at hc11
      obtain ⟨g2, oc, hac, HC⟩ := hcl.at (i := k) (x := cl.getD k c0) (by rw [getD_lt cl k c0 (by omega)]; exact List.getElem?_eq_getElem (by omega))
      refine c_skip ?_
      refine n_then ?_
      refine c_seq ?_
      refine c_block ?_
      refine c_seq ?_
      refine c_reg ?_
      refine s_pu hF (pu_move rfl) rfl ?_; clear hF; intro a hF
      refine s_pu hF (pu_iaddr_sla (j := k) hac slt38 rfl rfl (by omega) (by omega)) rfl ?_; clear hF; intro a hF
      refine s_pu hF (pu_loadA (cs := colC (cl.getD k c0)) agg58 rfl (fun j v hj => by rw [add_mk]; exact HC _ hS.base j v hj)) rfl ?_; clear hF; intro a hF
      refine s_alloc hF hS zero58 rfl ?_; clear hS hF; intro b0 w a hS hF
      refine s_pu hF (pu_assign rfl) rfl ?_; clear hF; intro a hF
      refine s_store (i := 0) (new := colC (cl.getD k c0)) hF hS rfl rfl rfl rfl (by exact sz58) rfl (by simp [colC]) ?_; clear hS hF; intro w a hS hF
      rw [spl_all (by simp [colC])] at hS
      refine c_nil ?_
      refine n_then ?_
      refine c_seq ?_
      refine c_seq ?_
      refine c_reg ?_
      refine s_pu hF (pu_faddr fld58_0 rfl) rfl ?_; clear hF; intro a hF
      refine s_pu hF (o_load1 (i := 0) hS rfl one9 rfl rfl) rfl ?_; clear hF; intro a hF
      refine s_calld hF hS ok12 rfl (c_Name _ (by have := hfew k (by omega); omega) _ h0 hS.base ) rfl ?_; clear hS hF; intro w a hS hF
      refine s_pu hF (pu_not rfl) rfl ?_; clear hF; intro a hF
      refine s_pu hF (pu_move rfl) rfl ?_; clear hF; intro a hF
      refine w_split hF ⟨_, _, (rfl : _[4]? = some _), rfl, rfl⟩ (fun hg6_4 => ?_) (fun hg6_4 => ?_)
      · have hg6_4p := hg6_4
        try simp only [decide_eq_true_eq, decide_eq_false_iff_not, Bool.not_eq_true', Bool.not_eq_false', Bool.not_eq_eq_eq_not, Bool.not_true, Bool.not_false] at hg6_4p
        refine g_no hF ⟨_, _, (rfl : _[4]? = some _), rfl, rfl⟩ hg6_4 rfl ?_; clear hF; intro a hF
        refine g_no hF ⟨_, _, (rfl : _[4]? = some _), rfl, rfl⟩ hg6_4 rfl ?_; clear hF; intro a hF
        refine g_no hF ⟨_, _, (rfl : _[4]? = some _), rfl, rfl⟩ hg6_4 rfl ?_; clear hF; intro a hF
        refine g_no hF ⟨_, _, (rfl : _[4]? = some _), rfl, rfl⟩ hg6_4 rfl ?_; clear hF; intro a hF
        refine g_no hF ⟨_, _, (rfl : _[4]? = some _), rfl, rfl⟩ hg6_4 rfl ?_; clear hF; intro a hF
        refine g_no hF ⟨_, _, (rfl : _[4]? = some _), rfl, rfl⟩ hg6_4 rfl ?_; clear hF; intro a hF
        refine s_pu hF (pu_pick_t rfl hg6_4 rfl) rfl ?_; clear hF; intro a hF
        refine c_nil ?_
        refine n_then ?_
        refine c_ift hF rfl rfl ?_
        refine c_seq ?_
        refine c_reg ?_
        refine s_pu hF (pu_assign rfl) rfl ?_; clear hF; intro a hF
        refine c_nil ?_
        refine n_then ?_
        refine c_ret (r_then (r_block (r_then (r_then (r_block (r_then ?_))))))
        exact f_ret hF rfl (.tmp rfl (.nil)) (hS.retv (congrArg (Value.int .i64) (by rw [colsS, if_neg (by omega), ← hcg, cg_name (by omega) (by first | exact .inl hg6_4p | exact .inr (by omega))])))
      · have hg6_4p := hg6_4
        try simp only [decide_eq_true_eq, decide_eq_false_iff_not, Bool.not_eq_true', Bool.not_eq_false', Bool.not_eq_eq_eq_not, Bool.not_true, Bool.not_false] at hg6_4p
        refine g_pu hF ⟨_, _, (rfl : _[4]? = some _), rfl, rfl⟩ hg6_4 (pu_move rfl) rfl ?_; clear hF; intro a hF
        refine g_pu hF ⟨_, _, (rfl : _[4]? = some _), rfl, rfl⟩ hg6_4 (pu_faddr fld58_0 rfl) rfl ?_; clear hF; intro a hF
        refine g_pu hF ⟨_, _, (rfl : _[4]? = some _), rfl, rfl⟩ hg6_4 (o_load1 (i := 0) hS rfl one9 rfl rfl) rfl ?_; clear hF; intro a hF
        refine g_calld hF hS ⟨_, _, (rfl : _[4]? = some _), rfl, rfl⟩ hg6_4 ok40 rfl (c_at_ adc capc cl _ _ h0 hS.base hcl) rfl ?_; clear hS hF; intro w a hS hF
        refine g_pu hF ⟨_, _, (rfl : _[4]? = some _), rfl, rfl⟩ hg6_4 (pu_move rfl) rfl ?_; clear hF; intro a hF
        refine g_pu hF ⟨_, _, (rfl : _[4]? = some _), rfl, rfl⟩ hg6_4 (pu_ine rfl rfl) rfl ?_; clear hF; intro a hF
        refine s_pu hF (pu_pick_f rfl hg6_4 rfl) rfl ?_; clear hF; intro a hF
        refine c_nil ?_
        refine n_then ?_
        refine c_if hF rfl (fun hc26 => ?_) (fun hc26 => ?_)
        · try simp only [decide_eq_true_eq, decide_eq_false_iff_not, Bool.not_eq_true', Bool.not_eq_false', Bool.not_eq_eq_eq_not, Bool.not_true, Bool.not_false] at hc26
          refine c_seq ?_
          refine c_reg ?_
          refine s_pu hF (pu_assign rfl) rfl ?_; clear hF; intro a hF
          refine c_nil ?_
          refine n_then ?_
          refine c_ret (r_then (r_block (r_then (r_then (r_block (r_then ?_))))))
          exact f_ret hF rfl (.tmp rfl (.nil)) (hS.retv (congrArg (Value.int .i64) (by rw [colsS, if_neg (by omega), ← hcg, cg_name (by omega) (by first | exact .inl hg6_4p | exact .inr (by omega))])))
        · try simp only [decide_eq_true_eq, decide_eq_false_iff_not, Bool.not_eq_true', Bool.not_eq_false', Bool.not_eq_eq_eq_not, Bool.not_true, Bool.not_false] at hc26
          refine c_skip ?_
          refine n_then ?_
          refine c_seq ?_
          refine c_reg ?_
          refine s_pu hF (pu_faddr fld58_1 rfl) rfl ?_; clear hF; intro a hF
          refine s_pu hF (o_load1 (i := 0) hS rfl one32 rfl rfl) rfl ?_; clear hF; intro a hF
          refine s_pu hF (pu_ine rfl rfl) rfl ?_; clear hF; intro a hF
          refine s_pu hF (pu_move rfl) rfl ?_; clear hF; intro a hF
          refine w_split hF ⟨_, _, (rfl : _[3]? = some _), rfl, rfl⟩ (fun hg8_3 => ?_) (fun hg8_3 => ?_)
          · have hg8_3p := hg8_3
            try simp only [decide_eq_true_eq, decide_eq_false_iff_not, Bool.not_eq_true', Bool.not_eq_false', Bool.not_eq_eq_eq_not, Bool.not_true, Bool.not_false] at hg8_3p
            refine g_pu hF ⟨_, _, (rfl : _[3]? = some _), rfl, rfl⟩ hg8_3 (pu_faddr fld58_1 rfl) rfl ?_; clear hF; intro a hF
            refine g_pu hF ⟨_, _, (rfl : _[3]? = some _), rfl, rfl⟩ hg8_3 (o_load1 (i := 0) hS rfl one32 rfl rfl) rfl ?_; clear hF; intro a hF
            refine g_pu hF ⟨_, _, (rfl : _[3]? = some _), rfl, rfl⟩ hg8_3 (pu_ine rfl rfl) rfl ?_; clear hF; intro a hF
            refine s_pu hF (pu_pick_t rfl hg8_3 rfl) rfl ?_; clear hF; intro a hF
            refine s_pu hF (pu_move rfl) rfl ?_; clear hF; intro a hF
            refine w_split hF ⟨_, _, (rfl : _[8]? = some _), rfl, rfl⟩ (fun hg8_8 => ?_) (fun hg8_8 => ?_)
            · have hg8_8p := hg8_8
              try simp only [decide_eq_true_eq, decide_eq_false_iff_not, Bool.not_eq_true', Bool.not_eq_false', Bool.not_eq_eq_eq_not, Bool.not_true, Bool.not_false] at hg8_8p
              refine g_pu hF ⟨_, _, (rfl : _[8]? = some _), rfl, rfl⟩ hg8_8 (pu_faddr fld58_1 rfl) rfl ?_; clear hF; intro a hF
              refine g_pu hF ⟨_, _, (rfl : _[8]? = some _), rfl, rfl⟩ hg8_8 (o_load1 (i := 0) hS rfl one32 rfl rfl) rfl ?_; clear hF; intro a hF
              refine g_pu hF ⟨_, _, (rfl : _[8]? = some _), rfl, rfl⟩ hg8_8 (pu_ine rfl rfl) rfl ?_; clear hF; intro a hF
              refine s_pu hF (pu_pick_t rfl hg8_8 rfl) rfl ?_; clear hF; intro a hF
              refine c_nil ?_
              refine n_then ?_
              refine c_if hF rfl (fun hc39 => ?_) (fun hc39 => ?_)
              · try simp only [decide_eq_true_eq, decide_eq_false_iff_not, Bool.not_eq_true', Bool.not_eq_false', Bool.not_eq_eq_eq_not, Bool.not_true, Bool.not_false] at hc39
                refine c_seq ?_
                refine c_reg ?_
                refine s_pu hF (pu_assign rfl) rfl ?_; clear hF; intro a hF
                refine c_nil ?_
                refine n_then ?_
                refine c_ret (r_block (r_then (r_then (r_block (r_then ?_)))))
                exact f_ret hF rfl (.tmp rfl (.nil)) (hS.retv (congrArg (Value.int .i64) (by rw [colsS, if_neg (by omega), ← hcg, cg_kind (by omega) (nbN (by assumption) (by omega)) (by unfold badK; omega)])))
              · try simp only [decide_eq_true_eq, decide_eq_false_iff_not, Bool.not_eq_true', Bool.not_eq_false', Bool.not_eq_eq_eq_not, Bool.not_true, Bool.not_false] at hc39
                refine c_skip ?_
                refine n_block ?_
                refine n_then ?_
                refine c_reg ?_
                refine s_pu hF (pu_add rfl rfl (by first | exact wrap_i64 (by omega) (by omega) | rfl)) rfl ?_; clear hF; intro a hF
                refine s_pu hF (pu_move rfl) rfl ?_; clear hF; intro a hF
                refine c_nil ?_
                replace hS := hS.forget 0
                exact ⟨k + 1, ⟨by omega, (cg_next (by omega) (nbN (by assumption) (by omega)) (nbK (by omega))).symm.trans hcg, hF.pick (.cons (k := 10) rfl <| .cons (k := 0) rfl <| .cons (k := 8) rfl <| .cons (k := 9) rfl <| .nil), hS⟩, by omega⟩
            · have hg8_8p := hg8_8
              try simp only [decide_eq_true_eq, decide_eq_false_iff_not, Bool.not_eq_true', Bool.not_eq_false', Bool.not_eq_eq_eq_not, Bool.not_true, Bool.not_false] at hg8_8p
              refine g_no hF ⟨_, _, (rfl : _[8]? = some _), rfl, rfl⟩ hg8_8 rfl ?_; clear hF; intro a hF
              refine g_no hF ⟨_, _, (rfl : _[8]? = some _), rfl, rfl⟩ hg8_8 rfl ?_; clear hF; intro a hF
              refine g_no hF ⟨_, _, (rfl : _[8]? = some _), rfl, rfl⟩ hg8_8 rfl ?_; clear hF; intro a hF
              refine s_pu hF (pu_pick_f rfl hg8_8 rfl) rfl ?_; clear hF; intro a hF
              refine c_nil ?_
              refine n_then ?_
              refine c_iff hF rfl rfl ?_
              refine c_skip ?_
              refine n_block ?_
              refine n_then ?_
              refine c_reg ?_
              refine s_pu hF (pu_add rfl rfl (by first | exact wrap_i64 (by omega) (by omega) | rfl)) rfl ?_; clear hF; intro a hF
              refine s_pu hF (pu_move rfl) rfl ?_; clear hF; intro a hF
              refine c_nil ?_
              replace hS := hS.forget 0
              exact ⟨k + 1, ⟨by omega, (cg_next (by omega) (nbN (by assumption) (by omega)) (nbK (by omega))).symm.trans hcg, hF.pick (.cons (k := 10) rfl <| .cons (k := 0) rfl <| .cons (k := 8) rfl <| .cons (k := 9) rfl <| .nil), hS⟩, by omega⟩
          · have hg8_3p := hg8_3
            try simp only [decide_eq_true_eq, decide_eq_false_iff_not, Bool.not_eq_true', Bool.not_eq_false', Bool.not_eq_eq_eq_not, Bool.not_true, Bool.not_false] at hg8_3p
            refine g_no hF ⟨_, _, (rfl : _[3]? = some _), rfl, rfl⟩ hg8_3 rfl ?_; clear hF; intro a hF
            refine g_no hF ⟨_, _, (rfl : _[3]? = some _), rfl, rfl⟩ hg8_3 rfl ?_; clear hF; intro a hF
            refine g_no hF ⟨_, _, (rfl : _[3]? = some _), rfl, rfl⟩ hg8_3 rfl ?_; clear hF; intro a hF
            refine s_pu hF (pu_pick_f rfl hg8_3 rfl) rfl ?_; clear hF; intro a hF
            refine s_pu hF (pu_move rfl) rfl ?_; clear hF; intro a hF
            refine g_no hF ⟨_, _, (rfl : _[8]? = some _), rfl, rfl⟩ rfl rfl ?_; clear hF; intro a hF
            refine g_no hF ⟨_, _, (rfl : _[8]? = some _), rfl, rfl⟩ rfl rfl ?_; clear hF; intro a hF
            refine g_no hF ⟨_, _, (rfl : _[8]? = some _), rfl, rfl⟩ rfl rfl ?_; clear hF; intro a hF
            refine s_pu hF (pu_pick_f rfl rfl rfl) rfl ?_; clear hF; intro a hF
            refine c_nil ?_
            refine n_then ?_
            refine c_iff hF rfl rfl ?_
            refine c_skip ?_
            refine n_block ?_
            refine n_then ?_
            refine c_reg ?_
            refine s_pu hF (pu_add rfl rfl (by first | exact wrap_i64 (by omega) (by omega) | rfl)) rfl ?_; clear hF; intro a hF
            refine s_pu hF (pu_move rfl) rfl ?_; clear hF; intro a hF
            refine c_nil ?_
            replace hS := hS.forget 0
            exact ⟨k + 1, ⟨by omega, (cg_next (by omega) (nbN (by assumption) (by omega)) (nbK (by omega))).symm.trans hcg, hF.pick (.cons (k := 10) rfl <| .cons (k := 0) rfl <| .cons (k := 8) rfl <| .cons (k := 9) rfl <| .nil), hS⟩, by omega⟩
    · try simp only [decide_eq_true_eq, decide_eq_false_iff_not, Bool.not_eq_true', Bool.not_eq_false', Bool.not_eq_eq_eq_not, Bool.not_true, Bool.not_false] at hc11
      refine c_exit (x_then (x_then (x_here ?_)))
      refine n_then ?_
      refine c_seq ?_
      refine c_reg ?_
      refine s_pu hF (pu_assign rfl) rfl ?_; clear hF; intro a hF
      refine c_nil ?_
      refine n_then ?_
      refine c_ret ?_
      exact f_ret hF rfl (.tmp rfl (.nil)) (hS.retv (congrArg (Value.int .i64) (by rw [colsS, if_neg (by omega), ← hcg, cg_over (by omega)])))
set_option maxHeartbeats 1000000 in
theorem c_RColumns (adc : Option Addr) (capc : Nat) (cl : List Col) (hfew : ∀ j, j < cl.length → (cl.getD j c0).name.length ≤ 300) (w0 : World) (h0 : View) (hv : VLe h0 (Full w0)) (hcl : SlC 0 3 (flatR colC) h0 (.slice adc cl.length capc) cl) : Calls Try.prog 20 #[.slice adc cl.length capc] w0 (Ret w0 h0 fun u _ => u = .int .i64 (colsS cl)) := by
  refine f_enter (args := [.slice adc cl.length capc]) Try.func20 rfl Try.ntmps20 rfl fun a hF => ?_
  have hS := St.init w0 h0 hv
  have hlm := hcl.lm
  refine c_seq ?_
  refine c_reg ?_
  refine s_pu hF (pu_assign rfl) rfl ?_; clear hF; intro a hF
  refine c_nil ?_
  refine n_then ?_
  refine c_seq ?_
  refine c_seq ?_
  refine c_reg ?_
  refine s_pu hF (pu_move rfl) rfl ?_; clear hF; intro a hF
  refine s_pu hF (pu_len_sl tyL38 rfl rfl) rfl ?_; clear hF; intro a hF
  refine s_pu hF (pu_igt rfl rfl) rfl ?_; clear hF; intro a hF
  refine c_nil ?_
  refine n_then ?_
  refine c_if hF rfl (fun hc6 => ?_) (fun hc6 => ?_)
  · try simp only [decide_eq_true_eq, decide_eq_false_iff_not, Bool.not_eq_true', Bool.not_eq_false', Bool.not_eq_eq_eq_not, Bool.not_true, Bool.not_false] at hc6
    refine c_seq ?_
    refine c_reg ?_
    refine s_pu hF (pu_assign rfl) rfl ?_; clear hF; intro a hF
    refine c_nil ?_
    refine n_then ?_
    refine c_ret (r_then ?_)
    exact f_ret hF rfl (.tmp rfl (.nil)) (hS.retv (congrArg (Value.int .i64) (by rw [colsS, if_pos (by omega)])))
  · try simp only [decide_eq_true_eq, decide_eq_false_iff_not, Bool.not_eq_true', Bool.not_eq_false', Bool.not_eq_eq_eq_not, Bool.not_true, Bool.not_false] at hc6
    refine c_skip ?_
    refine n_then ?_
    refine c_seq ?_
    refine c_seq ?_
    refine c_reg ?_
    refine s_pu hF (pu_assign rfl) rfl ?_; clear hF; intro a hF
    refine c_nil ?_
    refine n_then ?_
    refine c_block ?_
    refine hS.cut fun O0 F0 hO0 hF0 hS => ?_
    refine hF.cut (.cons (k := 3) rfl <| .nil) (.cons (k := 0) rfl <| .nil) fun L0 hL0 hF => ?_
    refine c_loop (α := Nat) (fun k a w => k ≤ cl.length ∧ colsG cl k = colsG cl 0 ∧ Fr a 47 ([(3, .val (.int .i64 (k : Nat)))] ++ L0) ∧ St w0 h0 [] w O0 F0) (fun k => cl.length - k) 0 (⟨Nat.zero_le _, rfl, hF, hS⟩) ?_
    subst hO0 hF0 hL0
    rintro k a w ⟨hk, hcg, hF, hS⟩
    refine c_seq ?_
    refine c_seq ?_
    refine c_reg ?_
    refine s_pu hF (pu_move rfl) rfl ?_; clear hF; intro a hF
    refine s_pu hF (pu_move rfl) rfl ?_; clear hF; intro a hF
    refine s_pu hF (pu_len_sl tyL38 rfl rfl) rfl ?_; clear hF; intro a hF
    refine s_pu hF (pu_ilt rfl rfl) rfl ?_; clear hF; intro a hF
    refine c_nil ?_
    refine n_then ?_
    refine c_if hF rfl (fun hc10 => ?_) (fun hc10 => ?_)
    · try simp only [decide_eq_true_eq, decide_eq_false_iff_not, Bool.not_eq_true', Bool.not_eq_false', Bool.not_eq_eq_eq_not, Bool.not_true, Bool.not_false] at hc10
      obtain ⟨g2, oc, hac, HC⟩ := hcl.at (i := k) (x := cl.getD k c0) (by rw [getD_lt cl k c0 (by omega)]; exact List.getElem?_eq_getElem (by omega))
      obtain ⟨m, hat, hmk⟩ := at_le (l := cl) (i := k) (by omega)
      refine c_skip ?_
      refine n_then ?_
      refine c_seq ?_
      refine c_block ?_
      refine c_block ?_
      refine c_seq ?_
      refine c_reg ?_
      refine s_pu hF (pu_move rfl) rfl ?_; clear hF; intro a hF
      refine s_pu hF (pu_move rfl) rfl ?_; clear hF; intro a hF
      refine s_pu hF (pu_iaddr_sla (j := k) hac slt38 rfl rfl (by omega) (by omega)) rfl ?_; clear hF; intro a hF
      refine s_pu hF (pu_faddr fld58_0 rfl) rfl ?_; clear hF; intro a hF
      refine s_pu hF (pu_load1 one9 rfl (HC _ hS.base 0 _ rfl)) rfl ?_; clear hF; intro a hF
      refine s_calld hF hS ok13 rfl (c_RName _ (by have := hfew k (by omega); omega) _ h0 hS.base ) rfl ?_; clear hS hF; intro w a hS hF
      refine s_pu hF (pu_not rfl) rfl ?_; clear hF; intro a hF
      refine s_pu hF (pu_move rfl) rfl ?_; clear hF; intro a hF
      refine w_split hF ⟨_, _, (rfl : _[7]? = some _), rfl, rfl⟩ (fun hg6_7 => ?_) (fun hg6_7 => ?_)
      · have hg6_7p := hg6_7
        try simp only [decide_eq_true_eq, decide_eq_false_iff_not, Bool.not_eq_true', Bool.not_eq_false', Bool.not_eq_eq_eq_not, Bool.not_true, Bool.not_false] at hg6_7p
        refine g_no hF ⟨_, _, (rfl : _[7]? = some _), rfl, rfl⟩ hg6_7 rfl ?_; clear hF; intro a hF
        refine g_no hF ⟨_, _, (rfl : _[7]? = some _), rfl, rfl⟩ hg6_7 rfl ?_; clear hF; intro a hF
        refine g_no hF ⟨_, _, (rfl : _[7]? = some _), rfl, rfl⟩ hg6_7 rfl ?_; clear hF; intro a hF
        refine g_no hF ⟨_, _, (rfl : _[7]? = some _), rfl, rfl⟩ hg6_7 rfl ?_; clear hF; intro a hF
        refine g_no hF ⟨_, _, (rfl : _[7]? = some _), rfl, rfl⟩ hg6_7 rfl ?_; clear hF; intro a hF
        refine g_no hF ⟨_, _, (rfl : _[7]? = some _), rfl, rfl⟩ hg6_7 rfl ?_; clear hF; intro a hF
        refine g_no hF ⟨_, _, (rfl : _[7]? = some _), rfl, rfl⟩ hg6_7 rfl ?_; clear hF; intro a hF
        refine g_no hF ⟨_, _, (rfl : _[7]? = some _), rfl, rfl⟩ hg6_7 rfl ?_; clear hF; intro a hF
        refine g_no hF ⟨_, _, (rfl : _[7]? = some _), rfl, rfl⟩ hg6_7 rfl ?_; clear hF; intro a hF
        refine s_pu hF (pu_pick_t rfl hg6_7 rfl) rfl ?_; clear hF; intro a hF
        refine s_pu hF (pu_assign rfl) rfl ?_; clear hF; intro a hF
        refine c_nil ?_
        refine n_then ?_
        refine c_ift hF rfl rfl ?_
        refine c_seq ?_
        refine c_reg ?_
        refine s_pu hF (pu_assign rfl) rfl ?_; clear hF; intro a hF
        refine c_nil ?_
        refine n_then ?_
        refine c_ret (r_block (r_block (r_then (r_then (r_block (r_then ?_))))))
        exact f_ret hF rfl (.tmp rfl (.nil)) (hS.retv (congrArg (Value.int .i64) (by rw [colsS, if_neg (by omega), ← hcg, cg_name (by omega) (by first | exact .inl hg6_7p | exact .inr (by omega))])))
      · have hg6_7p := hg6_7
        try simp only [decide_eq_true_eq, decide_eq_false_iff_not, Bool.not_eq_true', Bool.not_eq_false', Bool.not_eq_eq_eq_not, Bool.not_true, Bool.not_false] at hg6_7p
        refine g_pu hF ⟨_, _, (rfl : _[7]? = some _), rfl, rfl⟩ hg6_7 (pu_move rfl) rfl ?_; clear hF; intro a hF
        refine g_pu hF ⟨_, _, (rfl : _[7]? = some _), rfl, rfl⟩ hg6_7 (pu_move rfl) rfl ?_; clear hF; intro a hF
        refine g_pu hF ⟨_, _, (rfl : _[7]? = some _), rfl, rfl⟩ hg6_7 (pu_move rfl) rfl ?_; clear hF; intro a hF
        refine g_pu hF ⟨_, _, (rfl : _[7]? = some _), rfl, rfl⟩ hg6_7 (pu_iaddr_sla (j := k) hac slt38 rfl rfl (by omega) (by omega)) rfl ?_; clear hF; intro a hF
        refine g_pu hF ⟨_, _, (rfl : _[7]? = some _), rfl, rfl⟩ hg6_7 (pu_faddr fld58_0 rfl) rfl ?_; clear hF; intro a hF
        refine g_pu hF ⟨_, _, (rfl : _[7]? = some _), rfl, rfl⟩ hg6_7 (pu_load1 one9 rfl (HC _ hS.base 0 _ rfl)) rfl ?_; clear hF; intro a hF
        refine g_calld hF hS ⟨_, _, (rfl : _[7]? = some _), rfl, rfl⟩ hg6_7 ok41 rfl (c_RAt adc capc cl _ _ h0 hS.base hcl) rfl ?_; clear hS hF; intro w a hS hF
        refine g_pu hF ⟨_, _, (rfl : _[7]? = some _), rfl, rfl⟩ hg6_7 (pu_move rfl) rfl ?_; clear hF; intro a hF
        refine g_pu hF ⟨_, _, (rfl : _[7]? = some _), rfl, rfl⟩ hg6_7 (pu_ilt rfl rfl) rfl ?_; clear hF; intro a hF
        refine s_pu hF (pu_pick_f rfl hg6_7 rfl) rfl ?_; clear hF; intro a hF
        refine s_pu hF (pu_assign rfl) rfl ?_; clear hF; intro a hF
        refine c_nil ?_
        refine n_then ?_
        refine c_if hF rfl (fun hc13 => ?_) (fun hc13 => ?_)
        · try simp only [decide_eq_true_eq, decide_eq_false_iff_not, Bool.not_eq_true', Bool.not_eq_false', Bool.not_eq_eq_eq_not, Bool.not_true, Bool.not_false] at hc13
          refine c_seq ?_
          refine c_reg ?_
          refine s_pu hF (pu_assign rfl) rfl ?_; clear hF; intro a hF
          refine c_nil ?_
          refine n_then ?_
          refine c_ret (r_block (r_block (r_then (r_then (r_block (r_then ?_))))))
          exact f_ret hF rfl (.tmp rfl (.nil)) (hS.retv (congrArg (Value.int .i64) (by rw [colsS, if_neg (by omega), ← hcg, cg_name (by omega) (by first | exact .inl hg6_7p | exact .inr (by omega))])))
        · try simp only [decide_eq_true_eq, decide_eq_false_iff_not, Bool.not_eq_true', Bool.not_eq_false', Bool.not_eq_eq_eq_not, Bool.not_true, Bool.not_false] at hc13
          refine c_seq ?_
          refine c_reg ?_
          refine s_pu hF (pu_move rfl) rfl ?_; clear hF; intro a hF
          refine s_pu hF (pu_move rfl) rfl ?_; clear hF; intro a hF
          refine s_pu hF (pu_iaddr_sla (j := k) hac slt38 rfl rfl (by omega) (by omega)) rfl ?_; clear hF; intro a hF
          refine s_pu hF (pu_faddr fld58_1 rfl) rfl ?_; clear hF; intro a hF
          refine s_pu hF (pu_load1 one32 rfl (HC _ hS.base 1 _ rfl)) rfl ?_; clear hF; intro a hF
          refine s_pu hF (pu_ilt rfl rfl) rfl ?_; clear hF; intro a hF
          refine s_pu hF (pu_move rfl) rfl ?_; clear hF; intro a hF
          refine w_split hF ⟨_, _, (rfl : _[6]? = some _), rfl, rfl⟩ (fun hg8_6 => ?_) (fun hg8_6 => ?_)
          · have hg8_6p := hg8_6
            try simp only [decide_eq_true_eq, decide_eq_false_iff_not, Bool.not_eq_true', Bool.not_eq_false', Bool.not_eq_eq_eq_not, Bool.not_true, Bool.not_false] at hg8_6p
            refine g_no hF ⟨_, _, (rfl : _[6]? = some _), rfl, rfl⟩ hg8_6 rfl ?_; clear hF; intro a hF
            refine g_no hF ⟨_, _, (rfl : _[6]? = some _), rfl, rfl⟩ hg8_6 rfl ?_; clear hF; intro a hF
            refine g_no hF ⟨_, _, (rfl : _[6]? = some _), rfl, rfl⟩ hg8_6 rfl ?_; clear hF; intro a hF
            refine g_no hF ⟨_, _, (rfl : _[6]? = some _), rfl, rfl⟩ hg8_6 rfl ?_; clear hF; intro a hF
            refine g_no hF ⟨_, _, (rfl : _[6]? = some _), rfl, rfl⟩ hg8_6 rfl ?_; clear hF; intro a hF
            refine g_no hF ⟨_, _, (rfl : _[6]? = some _), rfl, rfl⟩ hg8_6 rfl ?_; clear hF; intro a hF
            refine s_pu hF (pu_pick_t rfl hg8_6 rfl) rfl ?_; clear hF; intro a hF
            refine s_pu hF (pu_assign rfl) rfl ?_; clear hF; intro a hF
            refine c_nil ?_
            refine n_then ?_
            refine c_ift hF rfl rfl ?_
            refine c_seq ?_
            refine c_reg ?_
            refine s_pu hF (pu_assign rfl) rfl ?_; clear hF; intro a hF
            refine c_nil ?_
            refine n_then ?_
            refine c_ret (r_block (r_block (r_then (r_then (r_block (r_then ?_))))))
            exact f_ret hF rfl (.tmp rfl (.nil)) (hS.retv (congrArg (Value.int .i64) (by rw [colsS, if_neg (by omega), ← hcg, cg_kind (by omega) (nbN (by assumption) (by omega)) (by unfold badK; omega)])))
          · have hg8_6p := hg8_6
            try simp only [decide_eq_true_eq, decide_eq_false_iff_not, Bool.not_eq_true', Bool.not_eq_false', Bool.not_eq_eq_eq_not, Bool.not_true, Bool.not_false] at hg8_6p
            refine g_pu hF ⟨_, _, (rfl : _[6]? = some _), rfl, rfl⟩ hg8_6 (pu_move rfl) rfl ?_; clear hF; intro a hF
            refine g_pu hF ⟨_, _, (rfl : _[6]? = some _), rfl, rfl⟩ hg8_6 (pu_move rfl) rfl ?_; clear hF; intro a hF
            refine g_pu hF ⟨_, _, (rfl : _[6]? = some _), rfl, rfl⟩ hg8_6 (pu_iaddr_sla (j := k) hac slt38 rfl rfl (by omega) (by omega)) rfl ?_; clear hF; intro a hF
            refine g_pu hF ⟨_, _, (rfl : _[6]? = some _), rfl, rfl⟩ hg8_6 (pu_faddr fld58_1 rfl) rfl ?_; clear hF; intro a hF
            refine g_pu hF ⟨_, _, (rfl : _[6]? = some _), rfl, rfl⟩ hg8_6 (pu_load1 one32 rfl (HC _ hS.base 1 _ rfl)) rfl ?_; clear hF; intro a hF
            refine g_pu hF ⟨_, _, (rfl : _[6]? = some _), rfl, rfl⟩ hg8_6 (pu_igt rfl rfl) rfl ?_; clear hF; intro a hF
            refine s_pu hF (pu_pick_f rfl hg8_6 rfl) rfl ?_; clear hF; intro a hF
            refine s_pu hF (pu_assign rfl) rfl ?_; clear hF; intro a hF
            refine c_nil ?_
            refine n_then ?_
            refine c_if hF rfl (fun hc32 => ?_) (fun hc32 => ?_)
            · try simp only [decide_eq_true_eq, decide_eq_false_iff_not, Bool.not_eq_true', Bool.not_eq_false', Bool.not_eq_eq_eq_not, Bool.not_true, Bool.not_false] at hc32
              refine c_seq ?_
              refine c_reg ?_
              refine s_pu hF (pu_assign rfl) rfl ?_; clear hF; intro a hF
              refine c_nil ?_
              refine n_then ?_
              refine c_ret (r_block (r_block (r_then (r_then (r_block (r_then ?_))))))
              exact f_ret hF rfl (.tmp rfl (.nil)) (hS.retv (congrArg (Value.int .i64) (by rw [colsS, if_neg (by omega), ← hcg, cg_kind (by omega) (nbN (by assumption) (by omega)) (by unfold badK; omega)])))
            · try simp only [decide_eq_true_eq, decide_eq_false_iff_not, Bool.not_eq_true', Bool.not_eq_false', Bool.not_eq_eq_eq_not, Bool.not_true, Bool.not_false] at hc32
              refine c_skip ?_
              refine n_block ?_
              refine n_block ?_
              refine n_then ?_
              refine c_reg ?_
              refine s_pu hF (pu_move rfl) rfl ?_; clear hF; intro a hF
              refine s_pu hF (pu_add rfl rfl (by first | exact wrap_i64 (by omega) (by omega) | rfl)) rfl ?_; clear hF; intro a hF
              refine s_pu hF (pu_assign rfl) rfl ?_; clear hF; intro a hF
              refine c_nil ?_
              exact ⟨k + 1, ⟨by omega, (cg_next (by omega) (nbN (by assumption) (by omega)) (nbK (by omega))).symm.trans hcg, hF.pick (.cons (k := 3) rfl <| .cons (k := 0) rfl <| .nil), hS⟩, by omega⟩
    · try simp only [decide_eq_true_eq, decide_eq_false_iff_not, Bool.not_eq_true', Bool.not_eq_false', Bool.not_eq_eq_eq_not, Bool.not_true, Bool.not_false] at hc10
      refine c_exit (x_then (x_then (x_here ?_)))
      refine n_then ?_
      refine c_seq ?_
      refine c_reg ?_
      refine s_pu hF (pu_assign rfl) rfl ?_; clear hF; intro a hF
      refine c_nil ?_
      refine n_then ?_
      refine c_ret ?_
      exact f_ret hF rfl (.tmp rfl (.nil)) (hS.retv (congrArg (Value.int .i64) (by rw [colsS, if_neg (by omega), ← hcg, cg_over (by omega)])))
set_option maxHeartbeats 2000000 in
theorem c_rule (op : Int) (ad : Option Addr) (cap n : Nat) (l : List Int) (hn : n = l.length) (hop : 3 ≤ op ∧ op ≤ 16) (hlen : (l.length : Int) = cntS op) (w0 : World) (h0 : View) (hv : VLe h0 (Full w0)) (hb : SlC 0 1 (flatR fun n => [Value.int .i64 n]) h0 (.slice ad n cap) l) : Calls Try.prog 59 #[.int .i64 op, .slice ad n cap] w0 (Ret w0 h0 fun u _ => u = .tuple #[.int .i64 (rulS op l).1, .bool (rulS op l).2]) := by
  refine f_enter (args := [.int .i64 op, .slice ad n cap]) Try.func59 rfl Try.ntmps59 rfl fun a hF => ?_
  have hS := St.init w0 h0 hv
  subst hn
  have hcp := cnt_pos hop
  have hl0 : 0 < l.length := by omega
  have hl1 : op = 3 → l.length = 1 := fun h => by have := hcp.2.1 h; omega
  have hl2 : 4 ≤ op ∧ op ≤ 15 → l.length = 2 := fun h => by have := hcp.2.2.1 h; omega
  have hl3 : op = 16 → l.length = 3 := fun h => by have := hcp.2.2.2 h; omega
  obtain ⟨g1, o, ha, HH⟩ := hb.all1 0 hl0
  refine c_seq ?_
  refine c_reg ?_
  refine s_pu hF (pu_assign rfl) rfl ?_; clear hF; intro a hF
  refine s_pu hF (pu_assign rfl) rfl ?_; clear hF; intro a hF
  refine c_nil ?_
  refine n_then ?_
  refine c_seq ?_
  refine c_seq ?_
  refine c_reg ?_
  refine s_pu hF (pu_move rfl) rfl ?_; clear hF; intro a hF
  refine c_nil ?_
  refine n_then ?_
  refine c_block ?_
  refine c_seq ?_
  refine c_seq ?_
  refine c_reg ?_
  refine s_pu hF (pu_ieq rfl rfl) rfl ?_; clear hF; intro a hF
  refine s_pu hF (pu_assign rfl) rfl ?_; clear hF; intro a hF
  refine c_nil ?_
  refine n_then ?_
  refine c_if hF rfl (fun hc8 => ?_) (fun hc8 => ?_)
  · have hc8k := hc8
    try simp only [decide_eq_true_eq, decide_eq_false_iff_not, Bool.not_eq_true', Bool.not_eq_false', Bool.not_eq_eq_eq_not, Bool.not_true, Bool.not_false] at hc8
    refine c_skip ?_
    refine n_then ?_
    refine c_ift hF rfl hc8k ?_
    refine c_seq ?_
    refine c_reg ?_
    refine s_pu hF (pu_move rfl) rfl ?_; clear hF; intro a hF
    refine s_calld hF hS ok76 rfl (c_all _ ad cap l _ h0 hS.base hb) rfl ?_; clear hS hF; intro w a hS hF
    refine s_pu hF (pu_assign rfl) rfl ?_; clear hF; intro a hF
    refine s_pu hF (pu_assign rfl) rfl ?_; clear hF; intro a hF
    refine c_nil ?_
    refine n_then ?_
    refine c_ret (r_block (r_then ?_))
    exact f_ret hF rfl (.tmp rfl (.tmp rfl (.nil))) (hS.retv (by rw [rul1 (by omega)]; rfl))
  · have hc8k := hc8
    try simp only [decide_eq_true_eq, decide_eq_false_iff_not, Bool.not_eq_true', Bool.not_eq_false', Bool.not_eq_eq_eq_not, Bool.not_true, Bool.not_false] at hc8
    refine c_seq ?_
    refine c_reg ?_
    refine s_pu hF (pu_ieq rfl rfl) rfl ?_; clear hF; intro a hF
    refine s_pu hF (pu_assign rfl) rfl ?_; clear hF; intro a hF
    refine c_nil ?_
    refine n_then ?_
    refine c_if hF rfl (fun hc8 => ?_) (fun hc8 => ?_)
    · have hc8k := hc8
      try simp only [decide_eq_true_eq, decide_eq_false_iff_not, Bool.not_eq_true', Bool.not_eq_false', Bool.not_eq_eq_eq_not, Bool.not_true, Bool.not_false] at hc8
      refine c_skip ?_
      refine n_then ?_
      refine c_ift hF rfl hc8k ?_
      refine c_seq ?_
      refine c_reg ?_
      refine s_pu hF (pu_move rfl) rfl ?_; clear hF; intro a hF
      refine s_calld hF hS ok76 rfl (c_all _ ad cap l _ h0 hS.base hb) rfl ?_; clear hS hF; intro w a hS hF
      refine s_pu hF (pu_assign rfl) rfl ?_; clear hF; intro a hF
      refine s_pu hF (pu_assign rfl) rfl ?_; clear hF; intro a hF
      refine c_nil ?_
      refine n_then ?_
      refine c_ret (r_block (r_then ?_))
      exact f_ret hF rfl (.tmp rfl (.tmp rfl (.nil))) (hS.retv (by rw [rul1 (by omega)]; rfl))
    · have hc8k := hc8
      try simp only [decide_eq_true_eq, decide_eq_false_iff_not, Bool.not_eq_true', Bool.not_eq_false', Bool.not_eq_eq_eq_not, Bool.not_true, Bool.not_false] at hc8
      refine c_seq ?_
      refine c_reg ?_
      refine s_pu hF (pu_ieq rfl rfl) rfl ?_; clear hF; intro a hF
      refine s_pu hF (pu_assign rfl) rfl ?_; clear hF; intro a hF
      refine c_nil ?_
      refine n_then ?_
      refine c_if hF rfl (fun hc8 => ?_) (fun hc8 => ?_)
      · have hc8k := hc8
        try simp only [decide_eq_true_eq, decide_eq_false_iff_not, Bool.not_eq_true', Bool.not_eq_false', Bool.not_eq_eq_eq_not, Bool.not_true, Bool.not_false] at hc8
        refine c_skip ?_
        refine n_then ?_
        refine c_ift hF rfl hc8k ?_
        refine c_seq ?_
        refine c_reg ?_
        refine s_pu hF (pu_move rfl) rfl ?_; clear hF; intro a hF
        refine s_calld hF hS ok76 rfl (c_all _ ad cap l _ h0 hS.base hb) rfl ?_; clear hS hF; intro w a hS hF
        refine s_pu hF (pu_assign rfl) rfl ?_; clear hF; intro a hF
        refine s_pu hF (pu_assign rfl) rfl ?_; clear hF; intro a hF
        refine c_nil ?_
        refine n_then ?_
        refine c_ret (r_block (r_then ?_))
        exact f_ret hF rfl (.tmp rfl (.tmp rfl (.nil))) (hS.retv (by rw [rul1 (by omega)]; rfl))
      · have hc8k := hc8
        try simp only [decide_eq_true_eq, decide_eq_false_iff_not, Bool.not_eq_true', Bool.not_eq_false', Bool.not_eq_eq_eq_not, Bool.not_true, Bool.not_false] at hc8
        refine c_reg ?_
        refine s_pu hF (pu_ieq rfl rfl) rfl ?_; clear hF; intro a hF
        refine s_pu hF (pu_assign rfl) rfl ?_; clear hF; intro a hF
        refine c_nil ?_
        refine n_then ?_
        refine c_if hF rfl (fun hc8 => ?_) (fun hc8 => ?_)
        · have hc8k := hc8
          try simp only [decide_eq_true_eq, decide_eq_false_iff_not, Bool.not_eq_true', Bool.not_eq_false', Bool.not_eq_eq_eq_not, Bool.not_true, Bool.not_false] at hc8
          refine c_seq ?_
          refine c_reg ?_
          refine s_pu hF (pu_move rfl) rfl ?_; clear hF; intro a hF
          refine s_calld hF hS ok76 rfl (c_all _ ad cap l _ h0 hS.base hb) rfl ?_; clear hS hF; intro w a hS hF
          refine s_pu hF (pu_assign rfl) rfl ?_; clear hF; intro a hF
          refine s_pu hF (pu_assign rfl) rfl ?_; clear hF; intro a hF
          refine c_nil ?_
          refine n_then ?_
          refine c_ret (r_block (r_then ?_))
          exact f_ret hF rfl (.tmp rfl (.tmp rfl (.nil))) (hS.retv (by rw [rul1 (by omega)]; rfl))
        · have hc8k := hc8
          try simp only [decide_eq_true_eq, decide_eq_false_iff_not, Bool.not_eq_true', Bool.not_eq_false', Bool.not_eq_eq_eq_not, Bool.not_true, Bool.not_false] at hc8
          refine c_seq ?_
          refine c_reg ?_
          refine s_pu hF (pu_ieq rfl rfl) rfl ?_; clear hF; intro a hF
          refine s_pu hF (pu_assign rfl) rfl ?_; clear hF; intro a hF
          refine c_nil ?_
          refine n_then ?_
          refine c_if hF rfl (fun hc15 => ?_) (fun hc15 => ?_)
          · try simp only [decide_eq_true_eq, decide_eq_false_iff_not, Bool.not_eq_true', Bool.not_eq_false', Bool.not_eq_eq_eq_not, Bool.not_true, Bool.not_false] at hc15
            have hll := hl2 (by omega)
            refine c_seq ?_
            refine region_st 8 hF hS (allV_ne rfl) mix (by kernel_rfl) fun Γ hG => ?_
            refine t_pu hG (fun w hC => pu_move rfl) ?_; clear hG; intro Γ hG
            refine t_pu hG (fun w hC => pu_iaddr_sla (j := 0) ha slt81 rfl rfl (by omega) (by omega)) ?_; clear hG; intro Γ hG
            refine t_pu hG (fun w hC => pu_load1 one32 rfl (HH 0 (by omega) _ hC.st.base)) ?_; clear hG; intro Γ hG
            refine t_pu hG (fun w hC => pu_move rfl) ?_; clear hG; intro Γ hG
            refine t_pu hG (fun w hC => pu_iaddr_sla (j := 1) ha slt81 rfl rfl (by omega) (by omega)) ?_; clear hG; intro Γ hG
            refine t_pu hG (fun w hC => pu_load1 one32 rfl (HH 1 (by omega) _ hC.st.base)) ?_; clear hG; intro Γ hG
            refine t_callv hG ok77 rfl (fun w hS => (c_either _ _ _ _ hS.view)) ?_; clear hG; intro Γ hG
            refine t_pu hG (fun w hC => pu_assign rfl) ?_; clear hG; intro Γ hG
            refine t_end hG ?_; clear hG hF; intro a w hC hE hF hP; replace hS := hC.st; clear hC
            clear hE
            clear hP
            refine c_nil ?_
            refine n_then ?_
            refine c_seq ?_
            refine c_seq ?_
            refine c_reg ?_
            refine s_pu hF (pu_move rfl) rfl ?_; clear hF; intro a hF
            refine s_pu hF (pu_ine rfl rfl) rfl ?_; clear hF; intro a hF
            refine c_nil ?_
            refine n_then ?_
            refine c_if hF rfl (fun hc25 => ?_) (fun hc25 => ?_)
            · try simp only [decide_eq_true_eq, decide_eq_false_iff_not, Bool.not_eq_true', Bool.not_eq_false', Bool.not_eq_eq_eq_not, Bool.not_true, Bool.not_false] at hc25
              refine c_reg ?_
              refine s_pu hF (pu_assign rfl) rfl ?_; clear hF; intro a hF
              refine c_nil ?_
              refine n_then ?_
              refine c_seq ?_
              refine c_reg ?_
              refine s_pu hF (pu_move rfl) rfl ?_; clear hF; intro a hF
              refine s_pu hF (pu_move rfl) rfl ?_; clear hF; intro a hF
              refine s_pu hF (pu_move rfl) rfl ?_; clear hF; intro a hF
              refine s_calld hF hS ok76 rfl (c_all _ ad cap l _ h0 hS.base hb) rfl ?_; clear hS hF; intro w a hS hF
              refine s_pu hF (pu_assign rfl) rfl ?_; clear hF; intro a hF
              refine s_pu hF (pu_assign rfl) rfl ?_; clear hF; intro a hF
              refine c_nil ?_
              refine n_then ?_
              refine c_ret (r_block (r_then ?_))
              exact f_ret hF rfl (.tmp rfl (.tmp rfl (.nil))) (hS.retv (by first | (rw [rul2 (by omega), addK, if_pos hc25]; rfl) | (rw [rul2 (by omega), addK, if_neg hc25]; rfl)))
            · try simp only [decide_eq_true_eq, decide_eq_false_iff_not, Bool.not_eq_true', Bool.not_eq_false', Bool.not_eq_eq_eq_not, Bool.not_true, Bool.not_false] at hc25
              rw [hc25] at hF
              refine c_skip ?_
              refine n_then ?_
              refine c_seq ?_
              refine c_reg ?_
              refine s_pu hF (pu_move rfl) rfl ?_; clear hF; intro a hF
              refine s_pu hF (pu_move rfl) rfl ?_; clear hF; intro a hF
              refine s_pu hF (pu_move rfl) rfl ?_; clear hF; intro a hF
              refine s_calld hF hS ok76 rfl (c_all _ ad cap l _ h0 hS.base hb) rfl ?_; clear hS hF; intro w a hS hF
              refine s_pu hF (pu_assign rfl) rfl ?_; clear hF; intro a hF
              refine s_pu hF (pu_assign rfl) rfl ?_; clear hF; intro a hF
              refine c_nil ?_
              refine n_then ?_
              refine c_ret (r_block (r_then ?_))
              exact f_ret hF rfl (.tmp rfl (.tmp rfl (.nil))) (hS.retv (by first | (rw [rul2 (by omega), addK, if_pos hc25]; rfl) | (rw [rul2 (by omega), addK, if_neg hc25]; rfl)))
          · try simp only [decide_eq_true_eq, decide_eq_false_iff_not, Bool.not_eq_true', Bool.not_eq_false', Bool.not_eq_eq_eq_not, Bool.not_true, Bool.not_false] at hc15
            refine c_seq ?_
            refine c_seq ?_
            refine c_reg ?_
            refine s_pu hF (pu_ieq rfl rfl) rfl ?_; clear hF; intro a hF
            refine s_pu hF (pu_assign rfl) rfl ?_; clear hF; intro a hF
            refine c_nil ?_
            refine n_then ?_
            refine c_if hF rfl (fun hc30 => ?_) (fun hc30 => ?_)
            · have hc30k := hc30
              try simp only [decide_eq_true_eq, decide_eq_false_iff_not, Bool.not_eq_true', Bool.not_eq_false', Bool.not_eq_eq_eq_not, Bool.not_true, Bool.not_false] at hc30
              have hll := hl2 (by omega)
              refine c_skip ?_
              refine n_then ?_
              refine c_ift hF rfl hc30k ?_
              refine c_seq ?_
              refine region_st 9 hF hS (allV_ne rfl) mix (by kernel_rfl) fun Γ hG => ?_
              refine t_pu hG (fun w hC => pu_move rfl) ?_; clear hG; intro Γ hG
              refine t_pu hG (fun w hC => pu_iaddr_sla (j := 0) ha slt81 rfl rfl (by omega) (by omega)) ?_; clear hG; intro Γ hG
              refine t_pu hG (fun w hC => pu_load1 one32 rfl (HH 0 (by omega) _ hC.st.base)) ?_; clear hG; intro Γ hG
              refine t_pu hG (fun w hC => pu_move rfl) ?_; clear hG; intro Γ hG
              refine t_pu hG (fun w hC => pu_iaddr_sla (j := 1) ha slt81 rfl rfl (by omega) (by omega)) ?_; clear hG; intro Γ hG
              refine t_pu hG (fun w hC => pu_load1 one32 rfl (HH 1 (by omega) _ hC.st.base)) ?_; clear hG; intro Γ hG
              refine t_callv hG ok21 rfl (fun w hS => (c_Fits _ _ _ _ hS.view)) ?_; clear hG; intro Γ hG
              refine t_pu hG (fun w hC => pu_assign rfl) ?_; clear hG; intro Γ hG
              refine t_pu hG (fun w hC => pu_assign rfl) ?_; clear hG; intro Γ hG
              refine t_end hG ?_; clear hG hF; intro a w hC hE hF hP; replace hS := hC.st; clear hC
              clear hE
              clear hP
              refine c_nil ?_
              refine n_then ?_
              refine c_ret (r_block (r_then ?_))
              exact f_ret hF rfl (.tmp rfl (.tmp rfl (.nil))) (hS.retv (by rw [rul3 (by omega)]; rfl))
            · have hc30k := hc30
              try simp only [decide_eq_true_eq, decide_eq_false_iff_not, Bool.not_eq_true', Bool.not_eq_false', Bool.not_eq_eq_eq_not, Bool.not_true, Bool.not_false] at hc30
              refine c_reg ?_
              refine s_pu hF (pu_ieq rfl rfl) rfl ?_; clear hF; intro a hF
              refine s_pu hF (pu_assign rfl) rfl ?_; clear hF; intro a hF
              refine c_nil ?_
              refine n_then ?_
              refine c_if hF rfl (fun hc30 => ?_) (fun hc30 => ?_)
              · have hc30k := hc30
                try simp only [decide_eq_true_eq, decide_eq_false_iff_not, Bool.not_eq_true', Bool.not_eq_false', Bool.not_eq_eq_eq_not, Bool.not_true, Bool.not_false] at hc30
                have hll := hl2 (by omega)
                refine c_seq ?_
                refine region_st 9 hF hS (allV_ne rfl) mix (by kernel_rfl) fun Γ hG => ?_
                refine t_pu hG (fun w hC => pu_move rfl) ?_; clear hG; intro Γ hG
                refine t_pu hG (fun w hC => pu_iaddr_sla (j := 0) ha slt81 rfl rfl (by omega) (by omega)) ?_; clear hG; intro Γ hG
                refine t_pu hG (fun w hC => pu_load1 one32 rfl (HH 0 (by omega) _ hC.st.base)) ?_; clear hG; intro Γ hG
                refine t_pu hG (fun w hC => pu_move rfl) ?_; clear hG; intro Γ hG
                refine t_pu hG (fun w hC => pu_iaddr_sla (j := 1) ha slt81 rfl rfl (by omega) (by omega)) ?_; clear hG; intro Γ hG
                refine t_pu hG (fun w hC => pu_load1 one32 rfl (HH 1 (by omega) _ hC.st.base)) ?_; clear hG; intro Γ hG
                refine t_callv hG ok21 rfl (fun w hS => (c_Fits _ _ _ _ hS.view)) ?_; clear hG; intro Γ hG
                refine t_pu hG (fun w hC => pu_assign rfl) ?_; clear hG; intro Γ hG
                refine t_pu hG (fun w hC => pu_assign rfl) ?_; clear hG; intro Γ hG
                refine t_end hG ?_; clear hG hF; intro a w hC hE hF hP; replace hS := hC.st; clear hC
                clear hE
                clear hP
                refine c_nil ?_
                refine n_then ?_
                refine c_ret (r_block (r_then ?_))
                exact f_ret hF rfl (.tmp rfl (.tmp rfl (.nil))) (hS.retv (by rw [rul3 (by omega)]; rfl))
              · have hc30k := hc30
                try simp only [decide_eq_true_eq, decide_eq_false_iff_not, Bool.not_eq_true', Bool.not_eq_false', Bool.not_eq_eq_eq_not, Bool.not_true, Bool.not_false] at hc30
                refine c_seq ?_
                refine c_seq ?_
                refine c_reg ?_
                refine s_pu hF (pu_ieq rfl rfl) rfl ?_; clear hF; intro a hF
                refine s_pu hF (pu_assign rfl) rfl ?_; clear hF; intro a hF
                refine c_nil ?_
                refine n_then ?_
                refine c_if hF rfl (fun hc40 => ?_) (fun hc40 => ?_)
                · have hc40k := hc40
                  try simp only [decide_eq_true_eq, decide_eq_false_iff_not, Bool.not_eq_true', Bool.not_eq_false', Bool.not_eq_eq_eq_not, Bool.not_true, Bool.not_false] at hc40
                  have hll := hl2 (by omega)
                  refine c_skip ?_
                  refine n_then ?_
                  refine c_ift hF rfl hc40k ?_
                  refine c_seq ?_
                  refine region_st 14 hF hS (allV_ne rfl) mix (by kernel_rfl) fun Γ hG => ?_
                  refine t_pu hG (fun w hC => pu_move rfl) ?_; clear hG; intro Γ hG
                  refine t_pu hG (fun w hC => pu_iaddr_sla (j := 0) ha slt81 rfl rfl (by omega) (by omega)) ?_; clear hG; intro Γ hG
                  refine t_pu hG (fun w hC => pu_load1 one32 rfl (HH 0 (by omega) _ hC.st.base)) ?_; clear hG; intro Γ hG
                  refine t_pu hG (fun w hC => pu_move rfl) ?_; clear hG; intro Γ hG
                  refine t_pu hG (fun w hC => pu_iaddr_sla (j := 1) ha slt81 rfl rfl (by omega) (by omega)) ?_; clear hG; intro Γ hG
                  refine t_pu hG (fun w hC => pu_load1 one32 rfl (HH 1 (by omega) _ hC.st.base)) ?_; clear hG; intro Γ hG
                  refine t_callv hG ok21 rfl (fun w hS => (c_Fits _ _ _ _ hS.view)) ?_; clear hG; intro Γ hG
                  refine t_pu hG (fun w hC => pu_move rfl) ?_; clear hG; intro Γ hG
                  refine t_split hG ⟨_, _, (rfl : _[7]? = some _), rfl, rfl⟩ (fun hg19_7 => ?_) (fun hg19_7 => ?_)
                  · have hg19_7p := hg19_7
                    try simp only [decide_eq_true_eq, decide_eq_false_iff_not, Bool.not_eq_true', Bool.not_eq_false', Bool.not_eq_eq_eq_not, Bool.not_true, Bool.not_false] at hg19_7p
                    refine tg_pu hG ⟨_, _, (rfl : _[7]? = some _), rfl, rfl⟩ hg19_7 (fun w hC => pu_move rfl) ?_; clear hG; intro Γ hG
                    refine tg_calld hG ⟨_, _, (rfl : _[7]? = some _), rfl, rfl⟩ hg19_7 ok78 rfl (fun w1 hS1 => ⟨_, c_ContainsK ad cap l 3 w1 h0 hS1.base hb⟩) ?_; clear hG; intro Γ hG
                    refine tg_pu hG ⟨_, _, (rfl : _[7]? = some _), rfl, rfl⟩ hg19_7 (fun w hC => pu_not rfl) ?_; clear hG; intro Γ hG
                    refine t_pu hG (fun w hC => pu_pick_t rfl hg19_7 rfl) ?_; clear hG; intro Γ hG
                    refine t_pu hG (fun w hC => pu_assign rfl) ?_; clear hG; intro Γ hG
                    refine t_pu hG (fun w hC => pu_assign rfl) ?_; clear hG; intro Γ hG
                    refine t_end hG ?_; clear hG hF; intro a w hC hE hF hP; replace hS := hC.st; clear hC
                    clear hE
                    clear hP
                    refine c_nil ?_
                    refine n_then ?_
                    refine c_ret (r_block (r_then ?_))
                    exact f_ret hF rfl (.tmp rfl (.tmp rfl (.nil))) (hS.retv (by rw [rul4 (by omega)]; first | (rw [hg19_7]; rfl) | rfl))
                  · have hg19_7p := hg19_7
                    try simp only [decide_eq_true_eq, decide_eq_false_iff_not, Bool.not_eq_true', Bool.not_eq_false', Bool.not_eq_eq_eq_not, Bool.not_true, Bool.not_false] at hg19_7p
                    refine tg_no hG ⟨_, _, (rfl : _[7]? = some _), rfl, rfl⟩ hg19_7 ?_; clear hG; intro Γ hG
                    refine tg_no hG ⟨_, _, (rfl : _[7]? = some _), rfl, rfl⟩ hg19_7 ?_; clear hG; intro Γ hG
                    refine tg_no hG ⟨_, _, (rfl : _[7]? = some _), rfl, rfl⟩ hg19_7 ?_; clear hG; intro Γ hG
                    refine t_pu hG (fun w hC => pu_pick_f rfl hg19_7 rfl) ?_; clear hG; intro Γ hG
                    refine t_pu hG (fun w hC => pu_assign rfl) ?_; clear hG; intro Γ hG
                    refine t_pu hG (fun w hC => pu_assign rfl) ?_; clear hG; intro Γ hG
                    refine t_end hG ?_; clear hG hF; intro a w hC hE hF hP; replace hS := hC.st; clear hC
                    clear hE
                    clear hP
                    refine c_nil ?_
                    refine n_then ?_
                    refine c_ret (r_block (r_then ?_))
                    exact f_ret hF rfl (.tmp rfl (.tmp rfl (.nil))) (hS.retv (by rw [rul4 (by omega)]; first | (rw [hg19_7]; rfl) | rfl))
                · have hc40k := hc40
                  try simp only [decide_eq_true_eq, decide_eq_false_iff_not, Bool.not_eq_true', Bool.not_eq_false', Bool.not_eq_eq_eq_not, Bool.not_true, Bool.not_false] at hc40
                  refine c_seq ?_
                  refine c_reg ?_
                  refine s_pu hF (pu_ieq rfl rfl) rfl ?_; clear hF; intro a hF
                  refine s_pu hF (pu_assign rfl) rfl ?_; clear hF; intro a hF
                  refine c_nil ?_
                  refine n_then ?_
                  refine c_if hF rfl (fun hc40 => ?_) (fun hc40 => ?_)
                  · have hc40k := hc40
                    try simp only [decide_eq_true_eq, decide_eq_false_iff_not, Bool.not_eq_true', Bool.not_eq_false', Bool.not_eq_eq_eq_not, Bool.not_true, Bool.not_false] at hc40
                    have hll := hl2 (by omega)
                    refine c_skip ?_
                    refine n_then ?_
                    refine c_ift hF rfl hc40k ?_
                    refine c_seq ?_
                    refine region_st 14 hF hS (allV_ne rfl) mix (by kernel_rfl) fun Γ hG => ?_
                    refine t_pu hG (fun w hC => pu_move rfl) ?_; clear hG; intro Γ hG
                    refine t_pu hG (fun w hC => pu_iaddr_sla (j := 0) ha slt81 rfl rfl (by omega) (by omega)) ?_; clear hG; intro Γ hG
                    refine t_pu hG (fun w hC => pu_load1 one32 rfl (HH 0 (by omega) _ hC.st.base)) ?_; clear hG; intro Γ hG
                    refine t_pu hG (fun w hC => pu_move rfl) ?_; clear hG; intro Γ hG
                    refine t_pu hG (fun w hC => pu_iaddr_sla (j := 1) ha slt81 rfl rfl (by omega) (by omega)) ?_; clear hG; intro Γ hG
                    refine t_pu hG (fun w hC => pu_load1 one32 rfl (HH 1 (by omega) _ hC.st.base)) ?_; clear hG; intro Γ hG
                    refine t_callv hG ok21 rfl (fun w hS => (c_Fits _ _ _ _ hS.view)) ?_; clear hG; intro Γ hG
                    refine t_pu hG (fun w hC => pu_move rfl) ?_; clear hG; intro Γ hG
                    refine t_split hG ⟨_, _, (rfl : _[7]? = some _), rfl, rfl⟩ (fun hg19_7 => ?_) (fun hg19_7 => ?_)
                    · have hg19_7p := hg19_7
                      try simp only [decide_eq_true_eq, decide_eq_false_iff_not, Bool.not_eq_true', Bool.not_eq_false', Bool.not_eq_eq_eq_not, Bool.not_true, Bool.not_false] at hg19_7p
                      refine tg_pu hG ⟨_, _, (rfl : _[7]? = some _), rfl, rfl⟩ hg19_7 (fun w hC => pu_move rfl) ?_; clear hG; intro Γ hG
                      refine tg_calld hG ⟨_, _, (rfl : _[7]? = some _), rfl, rfl⟩ hg19_7 ok78 rfl (fun w1 hS1 => ⟨_, c_ContainsK ad cap l 3 w1 h0 hS1.base hb⟩) ?_; clear hG; intro Γ hG
                      refine tg_pu hG ⟨_, _, (rfl : _[7]? = some _), rfl, rfl⟩ hg19_7 (fun w hC => pu_not rfl) ?_; clear hG; intro Γ hG
                      refine t_pu hG (fun w hC => pu_pick_t rfl hg19_7 rfl) ?_; clear hG; intro Γ hG
                      refine t_pu hG (fun w hC => pu_assign rfl) ?_; clear hG; intro Γ hG
                      refine t_pu hG (fun w hC => pu_assign rfl) ?_; clear hG; intro Γ hG
                      refine t_end hG ?_; clear hG hF; intro a w hC hE hF hP; replace hS := hC.st; clear hC
                      clear hE
                      clear hP
                      refine c_nil ?_
                      refine n_then ?_
                      refine c_ret (r_block (r_then ?_))
                      exact f_ret hF rfl (.tmp rfl (.tmp rfl (.nil))) (hS.retv (by rw [rul4 (by omega)]; first | (rw [hg19_7]; rfl) | rfl))
                    · have hg19_7p := hg19_7
                      try simp only [decide_eq_true_eq, decide_eq_false_iff_not, Bool.not_eq_true', Bool.not_eq_false', Bool.not_eq_eq_eq_not, Bool.not_true, Bool.not_false] at hg19_7p
                      refine tg_no hG ⟨_, _, (rfl : _[7]? = some _), rfl, rfl⟩ hg19_7 ?_; clear hG; intro Γ hG
                      refine tg_no hG ⟨_, _, (rfl : _[7]? = some _), rfl, rfl⟩ hg19_7 ?_; clear hG; intro Γ hG
                      refine tg_no hG ⟨_, _, (rfl : _[7]? = some _), rfl, rfl⟩ hg19_7 ?_; clear hG; intro Γ hG
                      refine t_pu hG (fun w hC => pu_pick_f rfl hg19_7 rfl) ?_; clear hG; intro Γ hG
                      refine t_pu hG (fun w hC => pu_assign rfl) ?_; clear hG; intro Γ hG
                      refine t_pu hG (fun w hC => pu_assign rfl) ?_; clear hG; intro Γ hG
                      refine t_end hG ?_; clear hG hF; intro a w hC hE hF hP; replace hS := hC.st; clear hC
                      clear hE
                      clear hP
                      refine c_nil ?_
                      refine n_then ?_
                      refine c_ret (r_block (r_then ?_))
                      exact f_ret hF rfl (.tmp rfl (.tmp rfl (.nil))) (hS.retv (by rw [rul4 (by omega)]; first | (rw [hg19_7]; rfl) | rfl))
                  · have hc40k := hc40
                    try simp only [decide_eq_true_eq, decide_eq_false_iff_not, Bool.not_eq_true', Bool.not_eq_false', Bool.not_eq_eq_eq_not, Bool.not_true, Bool.not_false] at hc40
                    refine c_seq ?_
                    refine c_reg ?_
                    refine s_pu hF (pu_ieq rfl rfl) rfl ?_; clear hF; intro a hF
                    refine s_pu hF (pu_assign rfl) rfl ?_; clear hF; intro a hF
                    refine c_nil ?_
                    refine n_then ?_
                    refine c_if hF rfl (fun hc40 => ?_) (fun hc40 => ?_)
                    · have hc40k := hc40
                      try simp only [decide_eq_true_eq, decide_eq_false_iff_not, Bool.not_eq_true', Bool.not_eq_false', Bool.not_eq_eq_eq_not, Bool.not_true, Bool.not_false] at hc40
                      have hll := hl2 (by omega)
                      refine c_skip ?_
                      refine n_then ?_
                      refine c_ift hF rfl hc40k ?_
                      refine c_seq ?_
                      refine region_st 14 hF hS (allV_ne rfl) mix (by kernel_rfl) fun Γ hG => ?_
                      refine t_pu hG (fun w hC => pu_move rfl) ?_; clear hG; intro Γ hG
                      refine t_pu hG (fun w hC => pu_iaddr_sla (j := 0) ha slt81 rfl rfl (by omega) (by omega)) ?_; clear hG; intro Γ hG
                      refine t_pu hG (fun w hC => pu_load1 one32 rfl (HH 0 (by omega) _ hC.st.base)) ?_; clear hG; intro Γ hG
                      refine t_pu hG (fun w hC => pu_move rfl) ?_; clear hG; intro Γ hG
                      refine t_pu hG (fun w hC => pu_iaddr_sla (j := 1) ha slt81 rfl rfl (by omega) (by omega)) ?_; clear hG; intro Γ hG
                      refine t_pu hG (fun w hC => pu_load1 one32 rfl (HH 1 (by omega) _ hC.st.base)) ?_; clear hG; intro Γ hG
                      refine t_callv hG ok21 rfl (fun w hS => (c_Fits _ _ _ _ hS.view)) ?_; clear hG; intro Γ hG
                      refine t_pu hG (fun w hC => pu_move rfl) ?_; clear hG; intro Γ hG
                      refine t_split hG ⟨_, _, (rfl : _[7]? = some _), rfl, rfl⟩ (fun hg19_7 => ?_) (fun hg19_7 => ?_)
                      · have hg19_7p := hg19_7
                        try simp only [decide_eq_true_eq, decide_eq_false_iff_not, Bool.not_eq_true', Bool.not_eq_false', Bool.not_eq_eq_eq_not, Bool.not_true, Bool.not_false] at hg19_7p
                        refine tg_pu hG ⟨_, _, (rfl : _[7]? = some _), rfl, rfl⟩ hg19_7 (fun w hC => pu_move rfl) ?_; clear hG; intro Γ hG
                        refine tg_calld hG ⟨_, _, (rfl : _[7]? = some _), rfl, rfl⟩ hg19_7 ok78 rfl (fun w1 hS1 => ⟨_, c_ContainsK ad cap l 3 w1 h0 hS1.base hb⟩) ?_; clear hG; intro Γ hG
                        refine tg_pu hG ⟨_, _, (rfl : _[7]? = some _), rfl, rfl⟩ hg19_7 (fun w hC => pu_not rfl) ?_; clear hG; intro Γ hG
                        refine t_pu hG (fun w hC => pu_pick_t rfl hg19_7 rfl) ?_; clear hG; intro Γ hG
                        refine t_pu hG (fun w hC => pu_assign rfl) ?_; clear hG; intro Γ hG
                        refine t_pu hG (fun w hC => pu_assign rfl) ?_; clear hG; intro Γ hG
                        refine t_end hG ?_; clear hG hF; intro a w hC hE hF hP; replace hS := hC.st; clear hC
                        clear hE
                        clear hP
                        refine c_nil ?_
                        refine n_then ?_
                        refine c_ret (r_block (r_then ?_))
                        exact f_ret hF rfl (.tmp rfl (.tmp rfl (.nil))) (hS.retv (by rw [rul4 (by omega)]; first | (rw [hg19_7]; rfl) | rfl))
                      · have hg19_7p := hg19_7
                        try simp only [decide_eq_true_eq, decide_eq_false_iff_not, Bool.not_eq_true', Bool.not_eq_false', Bool.not_eq_eq_eq_not, Bool.not_true, Bool.not_false] at hg19_7p
                        refine tg_no hG ⟨_, _, (rfl : _[7]? = some _), rfl, rfl⟩ hg19_7 ?_; clear hG; intro Γ hG
                        refine tg_no hG ⟨_, _, (rfl : _[7]? = some _), rfl, rfl⟩ hg19_7 ?_; clear hG; intro Γ hG
                        refine tg_no hG ⟨_, _, (rfl : _[7]? = some _), rfl, rfl⟩ hg19_7 ?_; clear hG; intro Γ hG
                        refine t_pu hG (fun w hC => pu_pick_f rfl hg19_7 rfl) ?_; clear hG; intro Γ hG
                        refine t_pu hG (fun w hC => pu_assign rfl) ?_; clear hG; intro Γ hG
                        refine t_pu hG (fun w hC => pu_assign rfl) ?_; clear hG; intro Γ hG
                        refine t_end hG ?_; clear hG hF; intro a w hC hE hF hP; replace hS := hC.st; clear hC
                        clear hE
                        clear hP
                        refine c_nil ?_
                        refine n_then ?_
                        refine c_ret (r_block (r_then ?_))
                        exact f_ret hF rfl (.tmp rfl (.tmp rfl (.nil))) (hS.retv (by rw [rul4 (by omega)]; first | (rw [hg19_7]; rfl) | rfl))
                    · have hc40k := hc40
                      try simp only [decide_eq_true_eq, decide_eq_false_iff_not, Bool.not_eq_true', Bool.not_eq_false', Bool.not_eq_eq_eq_not, Bool.not_true, Bool.not_false] at hc40
                      refine c_reg ?_
                      refine s_pu hF (pu_ieq rfl rfl) rfl ?_; clear hF; intro a hF
                      refine s_pu hF (pu_assign rfl) rfl ?_; clear hF; intro a hF
                      refine c_nil ?_
                      refine n_then ?_
                      refine c_if hF rfl (fun hc40 => ?_) (fun hc40 => ?_)
                      · have hc40k := hc40
                        try simp only [decide_eq_true_eq, decide_eq_false_iff_not, Bool.not_eq_true', Bool.not_eq_false', Bool.not_eq_eq_eq_not, Bool.not_true, Bool.not_false] at hc40
                        have hll := hl2 (by omega)
                        refine c_seq ?_
                        refine region_st 14 hF hS (allV_ne rfl) mix (by kernel_rfl) fun Γ hG => ?_
                        refine t_pu hG (fun w hC => pu_move rfl) ?_; clear hG; intro Γ hG
                        refine t_pu hG (fun w hC => pu_iaddr_sla (j := 0) ha slt81 rfl rfl (by omega) (by omega)) ?_; clear hG; intro Γ hG
                        refine t_pu hG (fun w hC => pu_load1 one32 rfl (HH 0 (by omega) _ hC.st.base)) ?_; clear hG; intro Γ hG
                        refine t_pu hG (fun w hC => pu_move rfl) ?_; clear hG; intro Γ hG
                        refine t_pu hG (fun w hC => pu_iaddr_sla (j := 1) ha slt81 rfl rfl (by omega) (by omega)) ?_; clear hG; intro Γ hG
                        refine t_pu hG (fun w hC => pu_load1 one32 rfl (HH 1 (by omega) _ hC.st.base)) ?_; clear hG; intro Γ hG
                        refine t_callv hG ok21 rfl (fun w hS => (c_Fits _ _ _ _ hS.view)) ?_; clear hG; intro Γ hG
                        refine t_pu hG (fun w hC => pu_move rfl) ?_; clear hG; intro Γ hG
                        refine t_split hG ⟨_, _, (rfl : _[7]? = some _), rfl, rfl⟩ (fun hg19_7 => ?_) (fun hg19_7 => ?_)
                        · have hg19_7p := hg19_7
                          try simp only [decide_eq_true_eq, decide_eq_false_iff_not, Bool.not_eq_true', Bool.not_eq_false', Bool.not_eq_eq_eq_not, Bool.not_true, Bool.not_false] at hg19_7p
                          refine tg_pu hG ⟨_, _, (rfl : _[7]? = some _), rfl, rfl⟩ hg19_7 (fun w hC => pu_move rfl) ?_; clear hG; intro Γ hG
                          refine tg_calld hG ⟨_, _, (rfl : _[7]? = some _), rfl, rfl⟩ hg19_7 ok78 rfl (fun w1 hS1 => ⟨_, c_ContainsK ad cap l 3 w1 h0 hS1.base hb⟩) ?_; clear hG; intro Γ hG
                          refine tg_pu hG ⟨_, _, (rfl : _[7]? = some _), rfl, rfl⟩ hg19_7 (fun w hC => pu_not rfl) ?_; clear hG; intro Γ hG
                          refine t_pu hG (fun w hC => pu_pick_t rfl hg19_7 rfl) ?_; clear hG; intro Γ hG
                          refine t_pu hG (fun w hC => pu_assign rfl) ?_; clear hG; intro Γ hG
                          refine t_pu hG (fun w hC => pu_assign rfl) ?_; clear hG; intro Γ hG
                          refine t_end hG ?_; clear hG hF; intro a w hC hE hF hP; replace hS := hC.st; clear hC
                          clear hE
                          clear hP
                          refine c_nil ?_
                          refine n_then ?_
                          refine c_ret (r_block (r_then ?_))
                          exact f_ret hF rfl (.tmp rfl (.tmp rfl (.nil))) (hS.retv (by rw [rul4 (by omega)]; first | (rw [hg19_7]; rfl) | rfl))
                        · have hg19_7p := hg19_7
                          try simp only [decide_eq_true_eq, decide_eq_false_iff_not, Bool.not_eq_true', Bool.not_eq_false', Bool.not_eq_eq_eq_not, Bool.not_true, Bool.not_false] at hg19_7p
                          refine tg_no hG ⟨_, _, (rfl : _[7]? = some _), rfl, rfl⟩ hg19_7 ?_; clear hG; intro Γ hG
                          refine tg_no hG ⟨_, _, (rfl : _[7]? = some _), rfl, rfl⟩ hg19_7 ?_; clear hG; intro Γ hG
                          refine tg_no hG ⟨_, _, (rfl : _[7]? = some _), rfl, rfl⟩ hg19_7 ?_; clear hG; intro Γ hG
                          refine t_pu hG (fun w hC => pu_pick_f rfl hg19_7 rfl) ?_; clear hG; intro Γ hG
                          refine t_pu hG (fun w hC => pu_assign rfl) ?_; clear hG; intro Γ hG
                          refine t_pu hG (fun w hC => pu_assign rfl) ?_; clear hG; intro Γ hG
                          refine t_end hG ?_; clear hG hF; intro a w hC hE hF hP; replace hS := hC.st; clear hC
                          clear hE
                          clear hP
                          refine c_nil ?_
                          refine n_then ?_
                          refine c_ret (r_block (r_then ?_))
                          exact f_ret hF rfl (.tmp rfl (.tmp rfl (.nil))) (hS.retv (by rw [rul4 (by omega)]; first | (rw [hg19_7]; rfl) | rfl))
                      · have hc40k := hc40
                        try simp only [decide_eq_true_eq, decide_eq_false_iff_not, Bool.not_eq_true', Bool.not_eq_false', Bool.not_eq_eq_eq_not, Bool.not_true, Bool.not_false] at hc40
                        refine c_seq ?_
                        refine c_seq ?_
                        refine c_reg ?_
                        refine s_pu hF (pu_ieq rfl rfl) rfl ?_; clear hF; intro a hF
                        refine s_pu hF (pu_assign rfl) rfl ?_; clear hF; intro a hF
                        refine c_nil ?_
                        refine n_then ?_
                        refine c_if hF rfl (fun hc57 => ?_) (fun hc57 => ?_)
                        · have hc57k := hc57
                          try simp only [decide_eq_true_eq, decide_eq_false_iff_not, Bool.not_eq_true', Bool.not_eq_false', Bool.not_eq_eq_eq_not, Bool.not_true, Bool.not_false] at hc57
                          have hll := hl2 (by omega)
                          refine c_skip ?_
                          refine n_then ?_
                          refine c_ift hF rfl hc57k ?_
                          refine c_seq ?_
                          refine c_reg ?_
                          refine s_pu hF (pu_move rfl) rfl ?_; clear hF; intro a hF
                          refine s_calld hF hS ok76 rfl (c_all _ ad cap l _ h0 hS.base hb) rfl ?_; clear hS hF; intro w a hS hF
                          refine s_pu hF (pu_assign rfl) rfl ?_; clear hF; intro a hF
                          refine s_pu hF (pu_assign rfl) rfl ?_; clear hF; intro a hF
                          refine c_nil ?_
                          refine n_then ?_
                          refine c_ret (r_block (r_then ?_))
                          exact f_ret hF rfl (.tmp rfl (.tmp rfl (.nil))) (hS.retv (by rw [rul5 (by omega)]; rfl))
                        · have hc57k := hc57
                          try simp only [decide_eq_true_eq, decide_eq_false_iff_not, Bool.not_eq_true', Bool.not_eq_false', Bool.not_eq_eq_eq_not, Bool.not_true, Bool.not_false] at hc57
                          first | have hll := hl3 (by omega) | skip
                          refine c_reg ?_
                          refine s_pu hF (pu_ieq rfl rfl) rfl ?_; clear hF; intro a hF
                          refine s_pu hF (pu_assign rfl) rfl ?_; clear hF; intro a hF
                          refine c_nil ?_
                          refine n_then ?_
                          refine c_if hF rfl (fun hc57 => ?_) (fun hc57 => ?_)
                          · have hc57k := hc57
                            try simp only [decide_eq_true_eq, decide_eq_false_iff_not, Bool.not_eq_true', Bool.not_eq_false', Bool.not_eq_eq_eq_not, Bool.not_true, Bool.not_false] at hc57
                            have hll := hl2 (by omega)
                            refine c_seq ?_
                            refine c_reg ?_
                            refine s_pu hF (pu_move rfl) rfl ?_; clear hF; intro a hF
                            refine s_calld hF hS ok76 rfl (c_all _ ad cap l _ h0 hS.base hb) rfl ?_; clear hS hF; intro w a hS hF
                            refine s_pu hF (pu_assign rfl) rfl ?_; clear hF; intro a hF
                            refine s_pu hF (pu_assign rfl) rfl ?_; clear hF; intro a hF
                            refine c_nil ?_
                            refine n_then ?_
                            refine c_ret (r_block (r_then ?_))
                            exact f_ret hF rfl (.tmp rfl (.tmp rfl (.nil))) (hS.retv (by rw [rul5 (by omega)]; rfl))
                          · have hc57k := hc57
                            try simp only [decide_eq_true_eq, decide_eq_false_iff_not, Bool.not_eq_true', Bool.not_eq_false', Bool.not_eq_eq_eq_not, Bool.not_true, Bool.not_false] at hc57
                            first | have hll := hl3 (by omega) | skip
                            refine c_skip ?_
                            refine n_block ?_
                            refine n_then ?_
                            refine c_seq ?_
                            refine region_st 22 hF hS (allV_ne rfl) mix (by kernel_rfl) fun Γ hG => ?_
                            refine t_pu hG (fun w hC => pu_move rfl) ?_; clear hG; intro Γ hG
                            refine t_pu hG (fun w hC => pu_iaddr_sla (j := 1) ha slt81 rfl rfl (by omega) (by omega)) ?_; clear hG; intro Γ hG
                            refine t_pu hG (fun w hC => pu_load1 one32 rfl (HH 1 (by omega) _ hC.st.base)) ?_; clear hG; intro Γ hG
                            refine t_pu hG (fun w hC => pu_move rfl) ?_; clear hG; intro Γ hG
                            refine t_pu hG (fun w hC => pu_iaddr_sla (j := 2) ha slt81 rfl rfl (by omega) (by omega)) ?_; clear hG; intro Γ hG
                            refine t_pu hG (fun w hC => pu_load1 one32 rfl (HH 2 (by omega) _ hC.st.base)) ?_; clear hG; intro Γ hG
                            refine t_callv hG ok77 rfl (fun w hS => (c_either _ _ _ _ hS.view)) ?_; clear hG; intro Γ hG
                            refine t_pu hG (fun w hC => pu_move rfl) ?_; clear hG; intro Γ hG
                            refine t_pu hG (fun w hC => pu_iaddr_sla (j := 0) ha slt81 rfl rfl (by omega) (by omega)) ?_; clear hG; intro Γ hG
                            refine t_pu hG (fun w hC => pu_load1 one32 rfl (HH 0 (by omega) _ hC.st.base)) ?_; clear hG; intro Γ hG
                            refine t_callv hG ok21 rfl (fun w hS => (c_Fits _ _ _ _ hS.view)) ?_; clear hG; intro Γ hG
                            refine t_pu hG (fun w hC => pu_move rfl) ?_; clear hG; intro Γ hG
                            refine t_split hG ⟨_, _, (rfl : _[11]? = some _), rfl, rfl⟩ (fun hg23_11 => ?_) (fun hg23_11 => ?_)
                            · have hg23_11p := hg23_11
                              try simp only [decide_eq_true_eq, decide_eq_false_iff_not, Bool.not_eq_true', Bool.not_eq_false', Bool.not_eq_eq_eq_not, Bool.not_true, Bool.not_false] at hg23_11p
                              refine tg_pu hG ⟨_, _, (rfl : _[11]? = some _), rfl, rfl⟩ hg23_11 (fun w hC => pu_move rfl) ?_; clear hG; intro Γ hG
                              refine tg_pu hG ⟨_, _, (rfl : _[11]? = some _), rfl, rfl⟩ hg23_11 (fun w hC => pu_iaddr_sla (j := 1) ha slt81 rfl rfl (by omega) (by omega)) ?_; clear hG; intro Γ hG
                              refine tg_pu hG ⟨_, _, (rfl : _[11]? = some _), rfl, rfl⟩ hg23_11 (fun w hC => pu_load1 one32 rfl (HH 1 (by omega) _ hC.st.base)) ?_; clear hG; intro Γ hG
                              refine tg_pu hG ⟨_, _, (rfl : _[11]? = some _), rfl, rfl⟩ hg23_11 (fun w hC => pu_move rfl) ?_; clear hG; intro Γ hG
                              refine tg_pu hG ⟨_, _, (rfl : _[11]? = some _), rfl, rfl⟩ hg23_11 (fun w hC => pu_iaddr_sla (j := 2) ha slt81 rfl rfl (by omega) (by omega)) ?_; clear hG; intro Γ hG
                              refine tg_pu hG ⟨_, _, (rfl : _[11]? = some _), rfl, rfl⟩ hg23_11 (fun w hC => pu_load1 one32 rfl (HH 2 (by omega) _ hC.st.base)) ?_; clear hG; intro Γ hG
                              refine tg_callv hG ⟨_, _, (rfl : _[11]? = some _), rfl, rfl⟩ hg23_11 ok21 rfl (fun w hS => (c_Fits _ _ _ _ hS.view)) ?_; clear hG; intro Γ hG
                              refine t_pu hG (fun w hC => pu_pick_t rfl hg23_11 rfl) ?_; clear hG; intro Γ hG
                              refine t_pu hG (fun w hC => pu_assign rfl) ?_; clear hG; intro Γ hG
                              refine t_pu hG (fun w hC => pu_assign rfl) ?_; clear hG; intro Γ hG
                              refine t_end hG ?_; clear hG hF; intro a w hC hE hF hP; replace hS := hC.st; clear hC
                              clear hE
                              clear hP
                              refine c_nil ?_
                              refine n_then ?_
                              refine c_ret ?_
                              exact f_ret hF rfl (.tmp rfl (.tmp rfl (.nil))) (hS.retv (by rw [rul6 (by omega)]; first | (rw [hg23_11]; rfl) | rfl))
                            · have hg23_11p := hg23_11
                              try simp only [decide_eq_true_eq, decide_eq_false_iff_not, Bool.not_eq_true', Bool.not_eq_false', Bool.not_eq_eq_eq_not, Bool.not_true, Bool.not_false] at hg23_11p
                              refine tg_no hG ⟨_, _, (rfl : _[11]? = some _), rfl, rfl⟩ hg23_11 ?_; clear hG; intro Γ hG
                              refine tg_no hG ⟨_, _, (rfl : _[11]? = some _), rfl, rfl⟩ hg23_11 ?_; clear hG; intro Γ hG
                              refine tg_no hG ⟨_, _, (rfl : _[11]? = some _), rfl, rfl⟩ hg23_11 ?_; clear hG; intro Γ hG
                              refine tg_no hG ⟨_, _, (rfl : _[11]? = some _), rfl, rfl⟩ hg23_11 ?_; clear hG; intro Γ hG
                              refine tg_no hG ⟨_, _, (rfl : _[11]? = some _), rfl, rfl⟩ hg23_11 ?_; clear hG; intro Γ hG
                              refine tg_no hG ⟨_, _, (rfl : _[11]? = some _), rfl, rfl⟩ hg23_11 ?_; clear hG; intro Γ hG
                              refine tg_no hG ⟨_, _, (rfl : _[11]? = some _), rfl, rfl⟩ hg23_11 ?_; clear hG; intro Γ hG
                              refine t_pu hG (fun w hC => pu_pick_f rfl hg23_11 rfl) ?_; clear hG; intro Γ hG
                              refine t_pu hG (fun w hC => pu_assign rfl) ?_; clear hG; intro Γ hG
                              refine t_pu hG (fun w hC => pu_assign rfl) ?_; clear hG; intro Γ hG
                              refine t_end hG ?_; clear hG hF; intro a w hC hE hF hP; replace hS := hC.st; clear hC
                              clear hE
                              clear hP
                              refine c_nil ?_
                              refine n_then ?_
                              refine c_ret ?_
                              exact f_ret hF rfl (.tmp rfl (.tmp rfl (.nil))) (hS.retv (by rw [rul6 (by omega)]; first | (rw [hg23_11]; rfl) | rfl))
set_option maxHeartbeats 4000000 in
theorem c_Rof (op : Int) (ad : Option Addr) (cap n : Nat) (l : List Int) (hn : n = l.length) (hop : 3 ≤ op ∧ op ≤ 16) (hlen : (l.length : Int) = cntS op) (w0 : World) (h0 : View) (hv : VLe h0 (Full w0)) (hb : SlC 0 1 (flatR fun n => [Value.int .i64 n]) h0 (.slice ad n cap) l) : Calls Try.prog 62 #[.int .i64 op, .slice ad n cap] w0 (Ret w0 h0 fun u _ => u = .tuple #[.int .i64 (ofK (rulS op l)).1, .int .i64 (ofK (rulS op l)).2]) := by
  refine f_enter (args := [.int .i64 op, .slice ad n cap]) Try.func62 rfl Try.ntmps62 rfl fun a hF => ?_
  have hS := St.init w0 h0 hv
  subst hn
  have hcp := cnt_pos hop
  have hl0 : 0 < l.length := by omega
  have hl1 : op = 3 → l.length = 1 := fun h => by have := hcp.2.1 h; omega
  have hl2 : 4 ≤ op ∧ op ≤ 15 → l.length = 2 := fun h => by have := hcp.2.2.1 h; omega
  have hl3 : op = 16 → l.length = 3 := fun h => by have := hcp.2.2.2 h; omega
  obtain ⟨g1, o, ha, HH⟩ := hb.all1 0 hl0
  refine c_seq ?_
  refine c_reg ?_
  refine s_pu hF (pu_assign rfl) rfl ?_; clear hF; intro a hF
  refine s_pu hF (pu_assign rfl) rfl ?_; clear hF; intro a hF
  refine c_nil ?_
  refine n_then ?_
  refine c_seq ?_
  refine c_reg ?_
  refine s_pu hF (pu_assign rfl) rfl ?_; clear hF; intro a hF
  refine c_nil ?_
  refine n_then ?_
  refine c_seq ?_
  refine c_reg ?_
  refine s_pu hF (pu_assign rfl) rfl ?_; clear hF; intro a hF
  refine c_nil ?_
  refine n_then ?_
  refine hS.cut fun OK32 FK32 hOK32 hFK32 hS => ?_
  refine hF.cut .nil (.nil) fun LK32 hLK32 _ => ?_
  refine c_seq_cut (fun a w => ∃ (r : Bool) (o : Int), (o, r) = rulS op l ∧ Fr a 123 ([(6, .val (.bool r)), (7, .val (.int .i64 o))] ++ LK32) ∧ St w0 h0 [] w OK32 FK32) ?_ ?_
  · subst hOK32 hFK32 hLK32
    refine c_seq ?_
    refine c_reg ?_
    refine s_pu hF (pu_move rfl) rfl ?_; clear hF; intro a hF
    refine c_nil ?_
    refine n_then ?_
    refine c_block ?_
    refine c_seq ?_
    refine c_reg ?_
    refine s_pu hF (pu_ieq rfl rfl) rfl ?_; clear hF; intro a hF
    refine s_pu hF (pu_assign rfl) rfl ?_; clear hF; intro a hF
    refine c_nil ?_
    refine n_then ?_
    refine c_if hF rfl (fun hc9 => ?_) (fun hc9 => ?_)
    · try simp only [decide_eq_true_eq, decide_eq_false_iff_not, Bool.not_eq_true', Bool.not_eq_false', Bool.not_eq_eq_eq_not, Bool.not_true, Bool.not_false] at hc9
      refine c_seq ?_
      refine c_reg ?_
      refine s_pu hF (pu_move rfl) rfl ?_; clear hF; intro a hF
      refine s_pu hF (pu_iaddr_sla (j := 0) ha slt81 rfl rfl (by omega) (by omega)) rfl ?_; clear hF; intro a hF
      refine s_pu hF (pu_load1 one32 rfl (HH 0 (by omega) _ hS.base)) rfl ?_; clear hF; intro a hF
      refine s_callv hF hS ok22 rfl (c_RFits _ _ _ _ hS.view) rfl ?_; clear hS hF; intro w a hS hF
      refine s_pu hF (pu_assign rfl) rfl ?_; clear hF; intro a hF
      refine c_nil ?_
      refine n_then ?_
      refine c_reg ?_
      refine s_pu hF (pu_assign rfl) rfl ?_; clear hF; intro a hF
      refine c_nil ?_
      refine n_block ?_
      refine n_then ?_
      exact ⟨_, _, by first | (rw [rul1 (by omega), all_1 (hl1 (by omega))]) | (rw [rul1 (by omega), all_2 (hl2 (by omega)), hg11_4]; rfl) | (rw [rul2 (by omega), all_2 (hl2 (by omega)), addK, if_pos hc38, hg17_5]; rfl) | (rw [rul2 (by omega), all_2 (hl2 (by omega)), addK, if_neg hc38, hg17_5]; rfl) | (rw [rul3 (by omega)]) | (rw [rul4 (by omega), con_2 (hl2 (by omega)), hg25_7, hg25_13]; rfl) | (rw [rul4 (by omega), con_2 (hl2 (by omega)), hg25_7]; rfl) | (rw [rul5 (by omega), all_2 (hl2 (by omega)), hg28_4]; rfl) | (rw [rul6 (by omega), hg30_4]; rfl), hF.pick (.cons (k := 6) rfl <| .cons (k := 7) rfl <| .nil), hS⟩
    · try simp only [decide_eq_true_eq, decide_eq_false_iff_not, Bool.not_eq_true', Bool.not_eq_false', Bool.not_eq_eq_eq_not, Bool.not_true, Bool.not_false] at hc9
      refine c_seq ?_
      refine c_seq ?_
      refine c_reg ?_
      refine s_pu hF (pu_ieq rfl rfl) rfl ?_; clear hF; intro a hF
      refine s_pu hF (pu_assign rfl) rfl ?_; clear hF; intro a hF
      refine c_nil ?_
      refine n_then ?_
      refine c_if hF rfl (fun hc15 => ?_) (fun hc15 => ?_)
      · have hc15k := hc15
        try simp only [decide_eq_true_eq, decide_eq_false_iff_not, Bool.not_eq_true', Bool.not_eq_false', Bool.not_eq_eq_eq_not, Bool.not_true, Bool.not_false] at hc15
        have hll := hl2 (by omega)
        refine c_skip ?_
        refine n_then ?_
        refine c_ift hF rfl hc15k ?_
        refine c_seq ?_
        refine c_reg ?_
        refine s_pu hF (pu_move rfl) rfl ?_; clear hF; intro a hF
        refine s_pu hF (pu_iaddr_sla (j := 0) ha slt81 rfl rfl (by omega) (by omega)) rfl ?_; clear hF; intro a hF
        refine s_pu hF (pu_load1 one32 rfl (HH 0 (by omega) _ hS.base)) rfl ?_; clear hF; intro a hF
        refine s_callv hF hS ok22 rfl (c_RFits _ _ _ _ hS.view) rfl ?_; clear hS hF; intro w a hS hF
        refine s_pu hF (pu_move rfl) rfl ?_; clear hF; intro a hF
        refine w_split hF ⟨_, _, (rfl : _[4]? = some _), rfl, rfl⟩ (fun hg11_4 => ?_) (fun hg11_4 => ?_)
        · have hg11_4p := hg11_4
          try simp only [decide_eq_true_eq, decide_eq_false_iff_not, Bool.not_eq_true', Bool.not_eq_false', Bool.not_eq_eq_eq_not, Bool.not_true, Bool.not_false] at hg11_4p
          refine g_pu hF ⟨_, _, (rfl : _[4]? = some _), rfl, rfl⟩ hg11_4 (pu_move rfl) rfl ?_; clear hF; intro a hF
          refine g_pu hF ⟨_, _, (rfl : _[4]? = some _), rfl, rfl⟩ hg11_4 (pu_iaddr_sla (j := 1) ha slt81 rfl rfl (by omega) (by omega)) rfl ?_; clear hF; intro a hF
          refine g_pu hF ⟨_, _, (rfl : _[4]? = some _), rfl, rfl⟩ hg11_4 (pu_load1 one32 rfl (HH 1 (by omega) _ hS.base)) rfl ?_; clear hF; intro a hF
          refine g_callv hF hS ⟨_, _, (rfl : _[4]? = some _), rfl, rfl⟩ hg11_4 ok22 rfl (c_RFits _ _ _ _ hS.view) rfl ?_; clear hS hF; intro w a hS hF
          refine s_pu hF (pu_pick_t rfl hg11_4 rfl) rfl ?_; clear hF; intro a hF
          refine s_pu hF (pu_assign rfl) rfl ?_; clear hF; intro a hF
          refine c_nil ?_
          refine n_then ?_
          refine c_reg ?_
          refine s_pu hF (pu_assign rfl) rfl ?_; clear hF; intro a hF
          refine c_nil ?_
          refine n_block ?_
          refine n_then ?_
          exact ⟨_, _, by first | (rw [rul1 (by omega), all_1 (hl1 (by omega))]) | (rw [rul1 (by omega), all_2 (hl2 (by omega)), hg11_4]; rfl) | (rw [rul2 (by omega), all_2 (hl2 (by omega)), addK, if_pos hc38, hg17_5]; rfl) | (rw [rul2 (by omega), all_2 (hl2 (by omega)), addK, if_neg hc38, hg17_5]; rfl) | (rw [rul3 (by omega)]) | (rw [rul4 (by omega), con_2 (hl2 (by omega)), hg25_7, hg25_13]; rfl) | (rw [rul4 (by omega), con_2 (hl2 (by omega)), hg25_7]; rfl) | (rw [rul5 (by omega), all_2 (hl2 (by omega)), hg28_4]; rfl) | (rw [rul6 (by omega), hg30_4]; rfl), hF.pick (.cons (k := 6) rfl <| .cons (k := 7) rfl <| .nil), hS⟩
        · have hg11_4p := hg11_4
          try simp only [decide_eq_true_eq, decide_eq_false_iff_not, Bool.not_eq_true', Bool.not_eq_false', Bool.not_eq_eq_eq_not, Bool.not_true, Bool.not_false] at hg11_4p
          refine g_no hF ⟨_, _, (rfl : _[4]? = some _), rfl, rfl⟩ hg11_4 rfl ?_; clear hF; intro a hF
          refine g_no hF ⟨_, _, (rfl : _[4]? = some _), rfl, rfl⟩ hg11_4 rfl ?_; clear hF; intro a hF
          refine g_no hF ⟨_, _, (rfl : _[4]? = some _), rfl, rfl⟩ hg11_4 rfl ?_; clear hF; intro a hF
          refine g_no hF ⟨_, _, (rfl : _[4]? = some _), rfl, rfl⟩ hg11_4 rfl ?_; clear hF; intro a hF
          refine s_pu hF (pu_pick_f rfl hg11_4 rfl) rfl ?_; clear hF; intro a hF
          refine s_pu hF (pu_assign rfl) rfl ?_; clear hF; intro a hF
          refine c_nil ?_
          refine n_then ?_
          refine c_reg ?_
          refine s_pu hF (pu_assign rfl) rfl ?_; clear hF; intro a hF
          refine c_nil ?_
          refine n_block ?_
          refine n_then ?_
          exact ⟨_, _, by first | (rw [rul1 (by omega), all_1 (hl1 (by omega))]) | (rw [rul1 (by omega), all_2 (hl2 (by omega)), hg11_4]; rfl) | (rw [rul2 (by omega), all_2 (hl2 (by omega)), addK, if_pos hc38, hg17_5]; rfl) | (rw [rul2 (by omega), all_2 (hl2 (by omega)), addK, if_neg hc38, hg17_5]; rfl) | (rw [rul3 (by omega)]) | (rw [rul4 (by omega), con_2 (hl2 (by omega)), hg25_7, hg25_13]; rfl) | (rw [rul4 (by omega), con_2 (hl2 (by omega)), hg25_7]; rfl) | (rw [rul5 (by omega), all_2 (hl2 (by omega)), hg28_4]; rfl) | (rw [rul6 (by omega), hg30_4]; rfl), hF.pick (.cons (k := 6) rfl <| .cons (k := 7) rfl <| .nil), hS⟩
      · have hc15k := hc15
        try simp only [decide_eq_true_eq, decide_eq_false_iff_not, Bool.not_eq_true', Bool.not_eq_false', Bool.not_eq_eq_eq_not, Bool.not_true, Bool.not_false] at hc15
        refine c_seq ?_
        refine c_reg ?_
        refine s_pu hF (pu_ieq rfl rfl) rfl ?_; clear hF; intro a hF
        refine s_pu hF (pu_assign rfl) rfl ?_; clear hF; intro a hF
        refine c_nil ?_
        refine n_then ?_
        refine c_if hF rfl (fun hc15 => ?_) (fun hc15 => ?_)
        · have hc15k := hc15
          try simp only [decide_eq_true_eq, decide_eq_false_iff_not, Bool.not_eq_true', Bool.not_eq_false', Bool.not_eq_eq_eq_not, Bool.not_true, Bool.not_false] at hc15
          have hll := hl2 (by omega)
          refine c_skip ?_
          refine n_then ?_
          refine c_ift hF rfl hc15k ?_
          refine c_seq ?_
          refine c_reg ?_
          refine s_pu hF (pu_move rfl) rfl ?_; clear hF; intro a hF
          refine s_pu hF (pu_iaddr_sla (j := 0) ha slt81 rfl rfl (by omega) (by omega)) rfl ?_; clear hF; intro a hF
          refine s_pu hF (pu_load1 one32 rfl (HH 0 (by omega) _ hS.base)) rfl ?_; clear hF; intro a hF
          refine s_callv hF hS ok22 rfl (c_RFits _ _ _ _ hS.view) rfl ?_; clear hS hF; intro w a hS hF
          refine s_pu hF (pu_move rfl) rfl ?_; clear hF; intro a hF
          refine w_split hF ⟨_, _, (rfl : _[4]? = some _), rfl, rfl⟩ (fun hg11_4 => ?_) (fun hg11_4 => ?_)
          · have hg11_4p := hg11_4
            try simp only [decide_eq_true_eq, decide_eq_false_iff_not, Bool.not_eq_true', Bool.not_eq_false', Bool.not_eq_eq_eq_not, Bool.not_true, Bool.not_false] at hg11_4p
            refine g_pu hF ⟨_, _, (rfl : _[4]? = some _), rfl, rfl⟩ hg11_4 (pu_move rfl) rfl ?_; clear hF; intro a hF
            refine g_pu hF ⟨_, _, (rfl : _[4]? = some _), rfl, rfl⟩ hg11_4 (pu_iaddr_sla (j := 1) ha slt81 rfl rfl (by omega) (by omega)) rfl ?_; clear hF; intro a hF
            refine g_pu hF ⟨_, _, (rfl : _[4]? = some _), rfl, rfl⟩ hg11_4 (pu_load1 one32 rfl (HH 1 (by omega) _ hS.base)) rfl ?_; clear hF; intro a hF
            refine g_callv hF hS ⟨_, _, (rfl : _[4]? = some _), rfl, rfl⟩ hg11_4 ok22 rfl (c_RFits _ _ _ _ hS.view) rfl ?_; clear hS hF; intro w a hS hF
            refine s_pu hF (pu_pick_t rfl hg11_4 rfl) rfl ?_; clear hF; intro a hF
            refine s_pu hF (pu_assign rfl) rfl ?_; clear hF; intro a hF
            refine c_nil ?_
            refine n_then ?_
            refine c_reg ?_
            refine s_pu hF (pu_assign rfl) rfl ?_; clear hF; intro a hF
            refine c_nil ?_
            refine n_block ?_
            refine n_then ?_
            exact ⟨_, _, by first | (rw [rul1 (by omega), all_1 (hl1 (by omega))]) | (rw [rul1 (by omega), all_2 (hl2 (by omega)), hg11_4]; rfl) | (rw [rul2 (by omega), all_2 (hl2 (by omega)), addK, if_pos hc38, hg17_5]; rfl) | (rw [rul2 (by omega), all_2 (hl2 (by omega)), addK, if_neg hc38, hg17_5]; rfl) | (rw [rul3 (by omega)]) | (rw [rul4 (by omega), con_2 (hl2 (by omega)), hg25_7, hg25_13]; rfl) | (rw [rul4 (by omega), con_2 (hl2 (by omega)), hg25_7]; rfl) | (rw [rul5 (by omega), all_2 (hl2 (by omega)), hg28_4]; rfl) | (rw [rul6 (by omega), hg30_4]; rfl), hF.pick (.cons (k := 6) rfl <| .cons (k := 7) rfl <| .nil), hS⟩
          · have hg11_4p := hg11_4
            try simp only [decide_eq_true_eq, decide_eq_false_iff_not, Bool.not_eq_true', Bool.not_eq_false', Bool.not_eq_eq_eq_not, Bool.not_true, Bool.not_false] at hg11_4p
            refine g_no hF ⟨_, _, (rfl : _[4]? = some _), rfl, rfl⟩ hg11_4 rfl ?_; clear hF; intro a hF
            refine g_no hF ⟨_, _, (rfl : _[4]? = some _), rfl, rfl⟩ hg11_4 rfl ?_; clear hF; intro a hF
            refine g_no hF ⟨_, _, (rfl : _[4]? = some _), rfl, rfl⟩ hg11_4 rfl ?_; clear hF; intro a hF
            refine g_no hF ⟨_, _, (rfl : _[4]? = some _), rfl, rfl⟩ hg11_4 rfl ?_; clear hF; intro a hF
            refine s_pu hF (pu_pick_f rfl hg11_4 rfl) rfl ?_; clear hF; intro a hF
            refine s_pu hF (pu_assign rfl) rfl ?_; clear hF; intro a hF
            refine c_nil ?_
            refine n_then ?_
            refine c_reg ?_
            refine s_pu hF (pu_assign rfl) rfl ?_; clear hF; intro a hF
            refine c_nil ?_
            refine n_block ?_
            refine n_then ?_
            exact ⟨_, _, by first | (rw [rul1 (by omega), all_1 (hl1 (by omega))]) | (rw [rul1 (by omega), all_2 (hl2 (by omega)), hg11_4]; rfl) | (rw [rul2 (by omega), all_2 (hl2 (by omega)), addK, if_pos hc38, hg17_5]; rfl) | (rw [rul2 (by omega), all_2 (hl2 (by omega)), addK, if_neg hc38, hg17_5]; rfl) | (rw [rul3 (by omega)]) | (rw [rul4 (by omega), con_2 (hl2 (by omega)), hg25_7, hg25_13]; rfl) | (rw [rul4 (by omega), con_2 (hl2 (by omega)), hg25_7]; rfl) | (rw [rul5 (by omega), all_2 (hl2 (by omega)), hg28_4]; rfl) | (rw [rul6 (by omega), hg30_4]; rfl), hF.pick (.cons (k := 6) rfl <| .cons (k := 7) rfl <| .nil), hS⟩
        · have hc15k := hc15
          try simp only [decide_eq_true_eq, decide_eq_false_iff_not, Bool.not_eq_true', Bool.not_eq_false', Bool.not_eq_eq_eq_not, Bool.not_true, Bool.not_false] at hc15
          refine c_reg ?_
          refine s_pu hF (pu_ieq rfl rfl) rfl ?_; clear hF; intro a hF
          refine s_pu hF (pu_assign rfl) rfl ?_; clear hF; intro a hF
          refine c_nil ?_
          refine n_then ?_
          refine c_if hF rfl (fun hc15 => ?_) (fun hc15 => ?_)
          · have hc15k := hc15
            try simp only [decide_eq_true_eq, decide_eq_false_iff_not, Bool.not_eq_true', Bool.not_eq_false', Bool.not_eq_eq_eq_not, Bool.not_true, Bool.not_false] at hc15
            have hll := hl2 (by omega)
            refine c_seq ?_
            refine c_reg ?_
            refine s_pu hF (pu_move rfl) rfl ?_; clear hF; intro a hF
            refine s_pu hF (pu_iaddr_sla (j := 0) ha slt81 rfl rfl (by omega) (by omega)) rfl ?_; clear hF; intro a hF
            refine s_pu hF (pu_load1 one32 rfl (HH 0 (by omega) _ hS.base)) rfl ?_; clear hF; intro a hF
            refine s_callv hF hS ok22 rfl (c_RFits _ _ _ _ hS.view) rfl ?_; clear hS hF; intro w a hS hF
            refine s_pu hF (pu_move rfl) rfl ?_; clear hF; intro a hF
            refine w_split hF ⟨_, _, (rfl : _[4]? = some _), rfl, rfl⟩ (fun hg11_4 => ?_) (fun hg11_4 => ?_)
            · have hg11_4p := hg11_4
              try simp only [decide_eq_true_eq, decide_eq_false_iff_not, Bool.not_eq_true', Bool.not_eq_false', Bool.not_eq_eq_eq_not, Bool.not_true, Bool.not_false] at hg11_4p
              refine g_pu hF ⟨_, _, (rfl : _[4]? = some _), rfl, rfl⟩ hg11_4 (pu_move rfl) rfl ?_; clear hF; intro a hF
              refine g_pu hF ⟨_, _, (rfl : _[4]? = some _), rfl, rfl⟩ hg11_4 (pu_iaddr_sla (j := 1) ha slt81 rfl rfl (by omega) (by omega)) rfl ?_; clear hF; intro a hF
              refine g_pu hF ⟨_, _, (rfl : _[4]? = some _), rfl, rfl⟩ hg11_4 (pu_load1 one32 rfl (HH 1 (by omega) _ hS.base)) rfl ?_; clear hF; intro a hF
              refine g_callv hF hS ⟨_, _, (rfl : _[4]? = some _), rfl, rfl⟩ hg11_4 ok22 rfl (c_RFits _ _ _ _ hS.view) rfl ?_; clear hS hF; intro w a hS hF
              refine s_pu hF (pu_pick_t rfl hg11_4 rfl) rfl ?_; clear hF; intro a hF
              refine s_pu hF (pu_assign rfl) rfl ?_; clear hF; intro a hF
              refine c_nil ?_
              refine n_then ?_
              refine c_reg ?_
              refine s_pu hF (pu_assign rfl) rfl ?_; clear hF; intro a hF
              refine c_nil ?_
              refine n_block ?_
              refine n_then ?_
              exact ⟨_, _, by first | (rw [rul1 (by omega), all_1 (hl1 (by omega))]) | (rw [rul1 (by omega), all_2 (hl2 (by omega)), hg11_4]; rfl) | (rw [rul2 (by omega), all_2 (hl2 (by omega)), addK, if_pos hc38, hg17_5]; rfl) | (rw [rul2 (by omega), all_2 (hl2 (by omega)), addK, if_neg hc38, hg17_5]; rfl) | (rw [rul3 (by omega)]) | (rw [rul4 (by omega), con_2 (hl2 (by omega)), hg25_7, hg25_13]; rfl) | (rw [rul4 (by omega), con_2 (hl2 (by omega)), hg25_7]; rfl) | (rw [rul5 (by omega), all_2 (hl2 (by omega)), hg28_4]; rfl) | (rw [rul6 (by omega), hg30_4]; rfl), hF.pick (.cons (k := 6) rfl <| .cons (k := 7) rfl <| .nil), hS⟩
            · have hg11_4p := hg11_4
              try simp only [decide_eq_true_eq, decide_eq_false_iff_not, Bool.not_eq_true', Bool.not_eq_false', Bool.not_eq_eq_eq_not, Bool.not_true, Bool.not_false] at hg11_4p
              refine g_no hF ⟨_, _, (rfl : _[4]? = some _), rfl, rfl⟩ hg11_4 rfl ?_; clear hF; intro a hF
              refine g_no hF ⟨_, _, (rfl : _[4]? = some _), rfl, rfl⟩ hg11_4 rfl ?_; clear hF; intro a hF
              refine g_no hF ⟨_, _, (rfl : _[4]? = some _), rfl, rfl⟩ hg11_4 rfl ?_; clear hF; intro a hF
              refine g_no hF ⟨_, _, (rfl : _[4]? = some _), rfl, rfl⟩ hg11_4 rfl ?_; clear hF; intro a hF
              refine s_pu hF (pu_pick_f rfl hg11_4 rfl) rfl ?_; clear hF; intro a hF
              refine s_pu hF (pu_assign rfl) rfl ?_; clear hF; intro a hF
              refine c_nil ?_
              refine n_then ?_
              refine c_reg ?_
              refine s_pu hF (pu_assign rfl) rfl ?_; clear hF; intro a hF
              refine c_nil ?_
              refine n_block ?_
              refine n_then ?_
              exact ⟨_, _, by first | (rw [rul1 (by omega), all_1 (hl1 (by omega))]) | (rw [rul1 (by omega), all_2 (hl2 (by omega)), hg11_4]; rfl) | (rw [rul2 (by omega), all_2 (hl2 (by omega)), addK, if_pos hc38, hg17_5]; rfl) | (rw [rul2 (by omega), all_2 (hl2 (by omega)), addK, if_neg hc38, hg17_5]; rfl) | (rw [rul3 (by omega)]) | (rw [rul4 (by omega), con_2 (hl2 (by omega)), hg25_7, hg25_13]; rfl) | (rw [rul4 (by omega), con_2 (hl2 (by omega)), hg25_7]; rfl) | (rw [rul5 (by omega), all_2 (hl2 (by omega)), hg28_4]; rfl) | (rw [rul6 (by omega), hg30_4]; rfl), hF.pick (.cons (k := 6) rfl <| .cons (k := 7) rfl <| .nil), hS⟩
          · have hc15k := hc15
            try simp only [decide_eq_true_eq, decide_eq_false_iff_not, Bool.not_eq_true', Bool.not_eq_false', Bool.not_eq_eq_eq_not, Bool.not_true, Bool.not_false] at hc15
            refine c_seq ?_
            refine c_reg ?_
            refine s_pu hF (pu_ieq rfl rfl) rfl ?_; clear hF; intro a hF
            refine s_pu hF (pu_assign rfl) rfl ?_; clear hF; intro a hF
            refine c_nil ?_
            refine n_then ?_
            refine c_if hF rfl (fun hc29 => ?_) (fun hc29 => ?_)
            · try simp only [decide_eq_true_eq, decide_eq_false_iff_not, Bool.not_eq_true', Bool.not_eq_false', Bool.not_eq_eq_eq_not, Bool.not_true, Bool.not_false] at hc29
              have hll := hl2 (by omega)
              refine c_seq ?_
              refine c_reg ?_
              refine s_pu hF (pu_assign rfl) rfl ?_; clear hF; intro a hF
              refine c_nil ?_
              refine n_then ?_
              refine c_seq ?_
              refine c_seq ?_
              refine region_st 8 hF hS (allV_ne rfl) mix (by kernel_rfl) fun Γ hG => ?_
              refine t_pu hG (fun w hC => pu_move rfl) ?_; clear hG; intro Γ hG
              refine t_pu hG (fun w hC => pu_iaddr_sla (j := 0) ha slt81 rfl rfl (by omega) (by omega)) ?_; clear hG; intro Γ hG
              refine t_pu hG (fun w hC => pu_load1 one32 rfl (HH 0 (by omega) _ hC.st.base)) ?_; clear hG; intro Γ hG
              refine t_pu hG (fun w hC => pu_move rfl) ?_; clear hG; intro Γ hG
              refine t_pu hG (fun w hC => pu_iaddr_sla (j := 1) ha slt81 rfl rfl (by omega) (by omega)) ?_; clear hG; intro Γ hG
              refine t_pu hG (fun w hC => pu_load1 one32 rfl (HH 1 (by omega) _ hC.st.base)) ?_; clear hG; intro Γ hG
              refine t_callv hG ok81 rfl (fun w hS => (c_Ror _ _ _ _ hS.view)) ?_; clear hG; intro Γ hG
              refine t_pu hG (fun w hC => pu_ieq rfl rfl) ?_; clear hG; intro Γ hG
              refine t_end hG ?_; clear hG hF; intro a w hC hE hF hP; replace hS := hC.st; clear hC
              clear hE
              clear hP
              refine c_nil ?_
              refine n_then ?_
              refine c_if hF rfl (fun hc38 => ?_) (fun hc38 => ?_)
              · try simp only [decide_eq_true_eq, decide_eq_false_iff_not, Bool.not_eq_true', Bool.not_eq_false', Bool.not_eq_eq_eq_not, Bool.not_true, Bool.not_false] at hc38
                refine c_reg ?_
                refine s_pu hF (pu_assign rfl) rfl ?_; clear hF; intro a hF
                refine c_nil ?_
                refine n_then ?_
                refine c_reg ?_
                refine s_pu hF (pu_move rfl) rfl ?_; clear hF; intro a hF
                refine s_pu hF (pu_iaddr_sla (j := 0) ha slt81 rfl rfl (by omega) (by omega)) rfl ?_; clear hF; intro a hF
                refine s_pu hF (pu_load1 one32 rfl (HH 0 (by omega) _ hS.base)) rfl ?_; clear hF; intro a hF
                refine s_pu hF (pu_move rfl) rfl ?_; clear hF; intro a hF
                refine s_callv hF hS ok22 rfl (c_RFits _ _ _ _ hS.view) rfl ?_; clear hS hF; intro w a hS hF
                refine s_pu hF (pu_move rfl) rfl ?_; clear hF; intro a hF
                refine w_split hF ⟨_, _, (rfl : _[5]? = some _), rfl, rfl⟩ (fun hg17_5 => ?_) (fun hg17_5 => ?_)
                · have hg17_5p := hg17_5
                  try simp only [decide_eq_true_eq, decide_eq_false_iff_not, Bool.not_eq_true', Bool.not_eq_false', Bool.not_eq_eq_eq_not, Bool.not_true, Bool.not_false] at hg17_5p
                  refine g_pu hF ⟨_, _, (rfl : _[5]? = some _), rfl, rfl⟩ hg17_5 (pu_move rfl) rfl ?_; clear hF; intro a hF
                  refine g_pu hF ⟨_, _, (rfl : _[5]? = some _), rfl, rfl⟩ hg17_5 (pu_iaddr_sla (j := 1) ha slt81 rfl rfl (by omega) (by omega)) rfl ?_; clear hF; intro a hF
                  refine g_pu hF ⟨_, _, (rfl : _[5]? = some _), rfl, rfl⟩ hg17_5 (pu_load1 one32 rfl (HH 1 (by omega) _ hS.base)) rfl ?_; clear hF; intro a hF
                  refine g_pu hF ⟨_, _, (rfl : _[5]? = some _), rfl, rfl⟩ hg17_5 (pu_move rfl) rfl ?_; clear hF; intro a hF
                  refine g_callv hF hS ⟨_, _, (rfl : _[5]? = some _), rfl, rfl⟩ hg17_5 ok22 rfl (c_RFits _ _ _ _ hS.view) rfl ?_; clear hS hF; intro w a hS hF
                  refine s_pu hF (pu_pick_t rfl hg17_5 rfl) rfl ?_; clear hF; intro a hF
                  refine s_pu hF (pu_assign rfl) rfl ?_; clear hF; intro a hF
                  refine c_nil ?_
                  refine n_block ?_
                  refine n_then ?_
                  exact ⟨_, _, by first | (rw [rul1 (by omega), all_1 (hl1 (by omega))]) | (rw [rul1 (by omega), all_2 (hl2 (by omega)), hg11_4]; rfl) | (rw [rul2 (by omega), all_2 (hl2 (by omega)), addK, if_pos hc38, hg17_5]; rfl) | (rw [rul2 (by omega), all_2 (hl2 (by omega)), addK, if_neg hc38, hg17_5]; rfl) | (rw [rul3 (by omega)]) | (rw [rul4 (by omega), con_2 (hl2 (by omega)), hg25_7, hg25_13]; rfl) | (rw [rul4 (by omega), con_2 (hl2 (by omega)), hg25_7]; rfl) | (rw [rul5 (by omega), all_2 (hl2 (by omega)), hg28_4]; rfl) | (rw [rul6 (by omega), hg30_4]; rfl), hF.pick (.cons (k := 6) rfl <| .cons (k := 7) rfl <| .nil), hS⟩
                · have hg17_5p := hg17_5
                  try simp only [decide_eq_true_eq, decide_eq_false_iff_not, Bool.not_eq_true', Bool.not_eq_false', Bool.not_eq_eq_eq_not, Bool.not_true, Bool.not_false] at hg17_5p
                  refine g_no hF ⟨_, _, (rfl : _[5]? = some _), rfl, rfl⟩ hg17_5 rfl ?_; clear hF; intro a hF
                  refine g_no hF ⟨_, _, (rfl : _[5]? = some _), rfl, rfl⟩ hg17_5 rfl ?_; clear hF; intro a hF
                  refine g_no hF ⟨_, _, (rfl : _[5]? = some _), rfl, rfl⟩ hg17_5 rfl ?_; clear hF; intro a hF
                  refine g_no hF ⟨_, _, (rfl : _[5]? = some _), rfl, rfl⟩ hg17_5 rfl ?_; clear hF; intro a hF
                  refine g_no hF ⟨_, _, (rfl : _[5]? = some _), rfl, rfl⟩ hg17_5 rfl ?_; clear hF; intro a hF
                  refine s_pu hF (pu_pick_f rfl hg17_5 rfl) rfl ?_; clear hF; intro a hF
                  refine s_pu hF (pu_assign rfl) rfl ?_; clear hF; intro a hF
                  refine c_nil ?_
                  refine n_block ?_
                  refine n_then ?_
                  exact ⟨_, _, by first | (rw [rul1 (by omega), all_1 (hl1 (by omega))]) | (rw [rul1 (by omega), all_2 (hl2 (by omega)), hg11_4]; rfl) | (rw [rul2 (by omega), all_2 (hl2 (by omega)), addK, if_pos hc38, hg17_5]; rfl) | (rw [rul2 (by omega), all_2 (hl2 (by omega)), addK, if_neg hc38, hg17_5]; rfl) | (rw [rul3 (by omega)]) | (rw [rul4 (by omega), con_2 (hl2 (by omega)), hg25_7, hg25_13]; rfl) | (rw [rul4 (by omega), con_2 (hl2 (by omega)), hg25_7]; rfl) | (rw [rul5 (by omega), all_2 (hl2 (by omega)), hg28_4]; rfl) | (rw [rul6 (by omega), hg30_4]; rfl), hF.pick (.cons (k := 6) rfl <| .cons (k := 7) rfl <| .nil), hS⟩
              · try simp only [decide_eq_true_eq, decide_eq_false_iff_not, Bool.not_eq_true', Bool.not_eq_false', Bool.not_eq_eq_eq_not, Bool.not_true, Bool.not_false] at hc38
                refine c_skip ?_
                refine n_then ?_
                refine c_reg ?_
                refine s_pu hF (pu_move rfl) rfl ?_; clear hF; intro a hF
                refine s_pu hF (pu_iaddr_sla (j := 0) ha slt81 rfl rfl (by omega) (by omega)) rfl ?_; clear hF; intro a hF
                refine s_pu hF (pu_load1 one32 rfl (HH 0 (by omega) _ hS.base)) rfl ?_; clear hF; intro a hF
                refine s_pu hF (pu_move rfl) rfl ?_; clear hF; intro a hF
                refine s_callv hF hS ok22 rfl (c_RFits _ _ _ _ hS.view) rfl ?_; clear hS hF; intro w a hS hF
                refine s_pu hF (pu_move rfl) rfl ?_; clear hF; intro a hF
                refine w_split hF ⟨_, _, (rfl : _[5]? = some _), rfl, rfl⟩ (fun hg17_5 => ?_) (fun hg17_5 => ?_)
                · have hg17_5p := hg17_5
                  try simp only [decide_eq_true_eq, decide_eq_false_iff_not, Bool.not_eq_true', Bool.not_eq_false', Bool.not_eq_eq_eq_not, Bool.not_true, Bool.not_false] at hg17_5p
                  refine g_pu hF ⟨_, _, (rfl : _[5]? = some _), rfl, rfl⟩ hg17_5 (pu_move rfl) rfl ?_; clear hF; intro a hF
                  refine g_pu hF ⟨_, _, (rfl : _[5]? = some _), rfl, rfl⟩ hg17_5 (pu_iaddr_sla (j := 1) ha slt81 rfl rfl (by omega) (by omega)) rfl ?_; clear hF; intro a hF
                  refine g_pu hF ⟨_, _, (rfl : _[5]? = some _), rfl, rfl⟩ hg17_5 (pu_load1 one32 rfl (HH 1 (by omega) _ hS.base)) rfl ?_; clear hF; intro a hF
                  refine g_pu hF ⟨_, _, (rfl : _[5]? = some _), rfl, rfl⟩ hg17_5 (pu_move rfl) rfl ?_; clear hF; intro a hF
                  refine g_callv hF hS ⟨_, _, (rfl : _[5]? = some _), rfl, rfl⟩ hg17_5 ok22 rfl (c_RFits _ _ _ _ hS.view) rfl ?_; clear hS hF; intro w a hS hF
                  refine s_pu hF (pu_pick_t rfl hg17_5 rfl) rfl ?_; clear hF; intro a hF
                  refine s_pu hF (pu_assign rfl) rfl ?_; clear hF; intro a hF
                  refine c_nil ?_
                  refine n_block ?_
                  refine n_then ?_
                  exact ⟨_, _, by first | (rw [rul1 (by omega), all_1 (hl1 (by omega))]) | (rw [rul1 (by omega), all_2 (hl2 (by omega)), hg11_4]; rfl) | (rw [rul2 (by omega), all_2 (hl2 (by omega)), addK, if_pos hc38, hg17_5]; rfl) | (rw [rul2 (by omega), all_2 (hl2 (by omega)), addK, if_neg hc38, hg17_5]; rfl) | (rw [rul3 (by omega)]) | (rw [rul4 (by omega), con_2 (hl2 (by omega)), hg25_7, hg25_13]; rfl) | (rw [rul4 (by omega), con_2 (hl2 (by omega)), hg25_7]; rfl) | (rw [rul5 (by omega), all_2 (hl2 (by omega)), hg28_4]; rfl) | (rw [rul6 (by omega), hg30_4]; rfl), hF.pick (.cons (k := 6) rfl <| .cons (k := 7) rfl <| .nil), hS⟩
                · have hg17_5p := hg17_5
                  try simp only [decide_eq_true_eq, decide_eq_false_iff_not, Bool.not_eq_true', Bool.not_eq_false', Bool.not_eq_eq_eq_not, Bool.not_true, Bool.not_false] at hg17_5p
                  refine g_no hF ⟨_, _, (rfl : _[5]? = some _), rfl, rfl⟩ hg17_5 rfl ?_; clear hF; intro a hF
                  refine g_no hF ⟨_, _, (rfl : _[5]? = some _), rfl, rfl⟩ hg17_5 rfl ?_; clear hF; intro a hF
                  refine g_no hF ⟨_, _, (rfl : _[5]? = some _), rfl, rfl⟩ hg17_5 rfl ?_; clear hF; intro a hF
                  refine g_no hF ⟨_, _, (rfl : _[5]? = some _), rfl, rfl⟩ hg17_5 rfl ?_; clear hF; intro a hF
                  refine g_no hF ⟨_, _, (rfl : _[5]? = some _), rfl, rfl⟩ hg17_5 rfl ?_; clear hF; intro a hF
                  refine s_pu hF (pu_pick_f rfl hg17_5 rfl) rfl ?_; clear hF; intro a hF
                  refine s_pu hF (pu_assign rfl) rfl ?_; clear hF; intro a hF
                  refine c_nil ?_
                  refine n_block ?_
                  refine n_then ?_
                  exact ⟨_, _, by first | (rw [rul1 (by omega), all_1 (hl1 (by omega))]) | (rw [rul1 (by omega), all_2 (hl2 (by omega)), hg11_4]; rfl) | (rw [rul2 (by omega), all_2 (hl2 (by omega)), addK, if_pos hc38, hg17_5]; rfl) | (rw [rul2 (by omega), all_2 (hl2 (by omega)), addK, if_neg hc38, hg17_5]; rfl) | (rw [rul3 (by omega)]) | (rw [rul4 (by omega), con_2 (hl2 (by omega)), hg25_7, hg25_13]; rfl) | (rw [rul4 (by omega), con_2 (hl2 (by omega)), hg25_7]; rfl) | (rw [rul5 (by omega), all_2 (hl2 (by omega)), hg28_4]; rfl) | (rw [rul6 (by omega), hg30_4]; rfl), hF.pick (.cons (k := 6) rfl <| .cons (k := 7) rfl <| .nil), hS⟩
            · try simp only [decide_eq_true_eq, decide_eq_false_iff_not, Bool.not_eq_true', Bool.not_eq_false', Bool.not_eq_eq_eq_not, Bool.not_true, Bool.not_false] at hc29
              refine c_seq ?_
              refine c_seq ?_
              refine c_reg ?_
              refine s_pu hF (pu_ieq rfl rfl) rfl ?_; clear hF; intro a hF
              refine s_pu hF (pu_assign rfl) rfl ?_; clear hF; intro a hF
              refine c_nil ?_
              refine n_then ?_
              refine c_if hF rfl (fun hc51 => ?_) (fun hc51 => ?_)
              · have hc51k := hc51
                try simp only [decide_eq_true_eq, decide_eq_false_iff_not, Bool.not_eq_true', Bool.not_eq_false', Bool.not_eq_eq_eq_not, Bool.not_true, Bool.not_false] at hc51
                have hll := hl2 (by omega)
                refine c_skip ?_
                refine n_then ?_
                refine c_ift hF rfl hc51k ?_
                refine region_st 8 hF hS (allV_ne rfl) mix (by kernel_rfl) fun Γ hG => ?_
                refine t_pu hG (fun w hC => pu_move rfl) ?_; clear hG; intro Γ hG
                refine t_pu hG (fun w hC => pu_iaddr_sla (j := 0) ha slt81 rfl rfl (by omega) (by omega)) ?_; clear hG; intro Γ hG
                refine t_pu hG (fun w hC => pu_load1 one32 rfl (HH 0 (by omega) _ hC.st.base)) ?_; clear hG; intro Γ hG
                refine t_pu hG (fun w hC => pu_move rfl) ?_; clear hG; intro Γ hG
                refine t_pu hG (fun w hC => pu_iaddr_sla (j := 1) ha slt81 rfl rfl (by omega) (by omega)) ?_; clear hG; intro Γ hG
                refine t_pu hG (fun w hC => pu_load1 one32 rfl (HH 1 (by omega) _ hC.st.base)) ?_; clear hG; intro Γ hG
                refine t_callv hG ok22 rfl (fun w hS => (c_RFits _ _ _ _ hS.view)) ?_; clear hG; intro Γ hG
                refine t_pu hG (fun w hC => pu_assign rfl) ?_; clear hG; intro Γ hG
                refine t_end hG ?_; clear hG hF; intro a w hC hE hF hP; replace hS := hC.st; clear hC
                clear hE
                clear hP
                refine c_nil ?_
                refine n_block ?_
                refine n_then ?_
                exact ⟨_, _, by first | (rw [rul1 (by omega), all_1 (hl1 (by omega))]) | (rw [rul1 (by omega), all_2 (hl2 (by omega)), hg11_4]; rfl) | (rw [rul2 (by omega), all_2 (hl2 (by omega)), addK, if_pos hc38, hg17_5]; rfl) | (rw [rul2 (by omega), all_2 (hl2 (by omega)), addK, if_neg hc38, hg17_5]; rfl) | (rw [rul3 (by omega)]) | (rw [rul4 (by omega), con_2 (hl2 (by omega)), hg25_7, hg25_13]; rfl) | (rw [rul4 (by omega), con_2 (hl2 (by omega)), hg25_7]; rfl) | (rw [rul5 (by omega), all_2 (hl2 (by omega)), hg28_4]; rfl) | (rw [rul6 (by omega), hg30_4]; rfl), hF.pick (.cons (k := 6) rfl <| .cons (k := 7) rfl <| .nil), hS⟩
              · have hc51k := hc51
                try simp only [decide_eq_true_eq, decide_eq_false_iff_not, Bool.not_eq_true', Bool.not_eq_false', Bool.not_eq_eq_eq_not, Bool.not_true, Bool.not_false] at hc51
                refine c_reg ?_
                refine s_pu hF (pu_ieq rfl rfl) rfl ?_; clear hF; intro a hF
                refine s_pu hF (pu_assign rfl) rfl ?_; clear hF; intro a hF
                refine c_nil ?_
                refine n_then ?_
                refine c_if hF rfl (fun hc51 => ?_) (fun hc51 => ?_)
                · have hc51k := hc51
                  try simp only [decide_eq_true_eq, decide_eq_false_iff_not, Bool.not_eq_true', Bool.not_eq_false', Bool.not_eq_eq_eq_not, Bool.not_true, Bool.not_false] at hc51
                  have hll := hl2 (by omega)
                  refine region_st 8 hF hS (allV_ne rfl) mix (by kernel_rfl) fun Γ hG => ?_
                  refine t_pu hG (fun w hC => pu_move rfl) ?_; clear hG; intro Γ hG
                  refine t_pu hG (fun w hC => pu_iaddr_sla (j := 0) ha slt81 rfl rfl (by omega) (by omega)) ?_; clear hG; intro Γ hG
                  refine t_pu hG (fun w hC => pu_load1 one32 rfl (HH 0 (by omega) _ hC.st.base)) ?_; clear hG; intro Γ hG
                  refine t_pu hG (fun w hC => pu_move rfl) ?_; clear hG; intro Γ hG
                  refine t_pu hG (fun w hC => pu_iaddr_sla (j := 1) ha slt81 rfl rfl (by omega) (by omega)) ?_; clear hG; intro Γ hG
                  refine t_pu hG (fun w hC => pu_load1 one32 rfl (HH 1 (by omega) _ hC.st.base)) ?_; clear hG; intro Γ hG
                  refine t_callv hG ok22 rfl (fun w hS => (c_RFits _ _ _ _ hS.view)) ?_; clear hG; intro Γ hG
                  refine t_pu hG (fun w hC => pu_assign rfl) ?_; clear hG; intro Γ hG
                  refine t_end hG ?_; clear hG hF; intro a w hC hE hF hP; replace hS := hC.st; clear hC
                  clear hE
                  clear hP
                  refine c_nil ?_
                  refine n_block ?_
                  refine n_then ?_
                  exact ⟨_, _, by first | (rw [rul1 (by omega), all_1 (hl1 (by omega))]) | (rw [rul1 (by omega), all_2 (hl2 (by omega)), hg11_4]; rfl) | (rw [rul2 (by omega), all_2 (hl2 (by omega)), addK, if_pos hc38, hg17_5]; rfl) | (rw [rul2 (by omega), all_2 (hl2 (by omega)), addK, if_neg hc38, hg17_5]; rfl) | (rw [rul3 (by omega)]) | (rw [rul4 (by omega), con_2 (hl2 (by omega)), hg25_7, hg25_13]; rfl) | (rw [rul4 (by omega), con_2 (hl2 (by omega)), hg25_7]; rfl) | (rw [rul5 (by omega), all_2 (hl2 (by omega)), hg28_4]; rfl) | (rw [rul6 (by omega), hg30_4]; rfl), hF.pick (.cons (k := 6) rfl <| .cons (k := 7) rfl <| .nil), hS⟩
                · have hc51k := hc51
                  try simp only [decide_eq_true_eq, decide_eq_false_iff_not, Bool.not_eq_true', Bool.not_eq_false', Bool.not_eq_eq_eq_not, Bool.not_true, Bool.not_false] at hc51
                  refine c_seq ?_
                  refine c_seq ?_
                  refine c_reg ?_
                  refine s_pu hF (pu_ieq rfl rfl) rfl ?_; clear hF; intro a hF
                  refine s_pu hF (pu_assign rfl) rfl ?_; clear hF; intro a hF
                  refine c_nil ?_
                  refine n_then ?_
                  refine c_if hF rfl (fun hc61 => ?_) (fun hc61 => ?_)
                  · have hc61k := hc61
                    try simp only [decide_eq_true_eq, decide_eq_false_iff_not, Bool.not_eq_true', Bool.not_eq_false', Bool.not_eq_eq_eq_not, Bool.not_true, Bool.not_false] at hc61
                    have hll := hl2 (by omega)
                    refine c_skip ?_
                    refine n_then ?_
                    refine c_ift hF rfl hc61k ?_
                    refine region_st 20 hF hS (allV_ne rfl) mix (by kernel_rfl) fun Γ hG => ?_
                    refine t_pu hG (fun w hC => pu_move rfl) ?_; clear hG; intro Γ hG
                    refine t_pu hG (fun w hC => pu_iaddr_sla (j := 0) ha slt81 rfl rfl (by omega) (by omega)) ?_; clear hG; intro Γ hG
                    refine t_pu hG (fun w hC => pu_load1 one32 rfl (HH 0 (by omega) _ hC.st.base)) ?_; clear hG; intro Γ hG
                    refine t_pu hG (fun w hC => pu_move rfl) ?_; clear hG; intro Γ hG
                    refine t_pu hG (fun w hC => pu_iaddr_sla (j := 1) ha slt81 rfl rfl (by omega) (by omega)) ?_; clear hG; intro Γ hG
                    refine t_pu hG (fun w hC => pu_load1 one32 rfl (HH 1 (by omega) _ hC.st.base)) ?_; clear hG; intro Γ hG
                    refine t_callv hG ok22 rfl (fun w hS => (c_RFits _ _ _ _ hS.view)) ?_; clear hG; intro Γ hG
                    refine t_pu hG (fun w hC => pu_move rfl) ?_; clear hG; intro Γ hG
                    refine t_split hG ⟨_, _, (rfl : _[7]? = some _), rfl, rfl⟩ (fun hg25_7 => ?_) (fun hg25_7 => ?_)
                    · have hg25_7p := hg25_7
                      try simp only [decide_eq_true_eq, decide_eq_false_iff_not, Bool.not_eq_true', Bool.not_eq_false', Bool.not_eq_eq_eq_not, Bool.not_true, Bool.not_false] at hg25_7p
                      refine tg_pu hG ⟨_, _, (rfl : _[7]? = some _), rfl, rfl⟩ hg25_7 (fun w hC => pu_move rfl) ?_; clear hG; intro Γ hG
                      refine tg_pu hG ⟨_, _, (rfl : _[7]? = some _), rfl, rfl⟩ hg25_7 (fun w hC => pu_iaddr_sla (j := 0) ha slt81 rfl rfl (by omega) (by omega)) ?_; clear hG; intro Γ hG
                      refine tg_pu hG ⟨_, _, (rfl : _[7]? = some _), rfl, rfl⟩ hg25_7 (fun w hC => pu_load1 one32 rfl (HH 0 (by omega) _ hC.st.base)) ?_; clear hG; intro Γ hG
                      refine tg_pu hG ⟨_, _, (rfl : _[7]? = some _), rfl, rfl⟩ hg25_7 (fun w hC => pu_ine rfl rfl) ?_; clear hG; intro Γ hG
                      refine t_pu hG (fun w hC => pu_pick_t rfl hg25_7 rfl) ?_; clear hG; intro Γ hG
                      refine t_pu hG (fun w hC => pu_move rfl) ?_; clear hG; intro Γ hG
                      refine t_split hG ⟨_, _, (rfl : _[13]? = some _), rfl, rfl⟩ (fun hg25_13 => ?_) (fun hg25_13 => ?_)
                      · have hg25_13p := hg25_13
                        try simp only [decide_eq_true_eq, decide_eq_false_iff_not, Bool.not_eq_true', Bool.not_eq_false', Bool.not_eq_eq_eq_not, Bool.not_true, Bool.not_false] at hg25_13p
                        refine tg_pu hG ⟨_, _, (rfl : _[13]? = some _), rfl, rfl⟩ hg25_13 (fun w hC => pu_move rfl) ?_; clear hG; intro Γ hG
                        refine tg_pu hG ⟨_, _, (rfl : _[13]? = some _), rfl, rfl⟩ hg25_13 (fun w hC => pu_iaddr_sla (j := 1) ha slt81 rfl rfl (by omega) (by omega)) ?_; clear hG; intro Γ hG
                        refine tg_pu hG ⟨_, _, (rfl : _[13]? = some _), rfl, rfl⟩ hg25_13 (fun w hC => pu_load1 one32 rfl (HH 1 (by omega) _ hC.st.base)) ?_; clear hG; intro Γ hG
                        refine tg_pu hG ⟨_, _, (rfl : _[13]? = some _), rfl, rfl⟩ hg25_13 (fun w hC => pu_ine rfl rfl) ?_; clear hG; intro Γ hG
                        refine t_pu hG (fun w hC => pu_pick_t rfl hg25_13 rfl) ?_; clear hG; intro Γ hG
                        refine t_pu hG (fun w hC => pu_assign rfl) ?_; clear hG; intro Γ hG
                        refine t_end hG ?_; clear hG hF; intro a w hC hE hF hP; replace hS := hC.st; clear hC
                        clear hE
                        clear hP
                        refine c_nil ?_
                        refine n_block ?_
                        refine n_then ?_
                        exact ⟨_, _, by first | (rw [rul1 (by omega), all_1 (hl1 (by omega))]) | (rw [rul1 (by omega), all_2 (hl2 (by omega)), hg11_4]; rfl) | (rw [rul2 (by omega), all_2 (hl2 (by omega)), addK, if_pos hc38, hg17_5]; rfl) | (rw [rul2 (by omega), all_2 (hl2 (by omega)), addK, if_neg hc38, hg17_5]; rfl) | (rw [rul3 (by omega)]) | (rw [rul4 (by omega), con_2 (hl2 (by omega)), hg25_7, hg25_13]; rfl) | (rw [rul4 (by omega), con_2 (hl2 (by omega)), hg25_7]; rfl) | (rw [rul5 (by omega), all_2 (hl2 (by omega)), hg28_4]; rfl) | (rw [rul6 (by omega), hg30_4]; rfl), hF.pick (.cons (k := 6) rfl <| .cons (k := 7) rfl <| .nil), hS⟩
                      · have hg25_13p := hg25_13
                        try simp only [decide_eq_true_eq, decide_eq_false_iff_not, Bool.not_eq_true', Bool.not_eq_false', Bool.not_eq_eq_eq_not, Bool.not_true, Bool.not_false] at hg25_13p
                        refine tg_no hG ⟨_, _, (rfl : _[13]? = some _), rfl, rfl⟩ hg25_13 ?_; clear hG; intro Γ hG
                        refine tg_no hG ⟨_, _, (rfl : _[13]? = some _), rfl, rfl⟩ hg25_13 ?_; clear hG; intro Γ hG
                        refine tg_no hG ⟨_, _, (rfl : _[13]? = some _), rfl, rfl⟩ hg25_13 ?_; clear hG; intro Γ hG
                        refine tg_no hG ⟨_, _, (rfl : _[13]? = some _), rfl, rfl⟩ hg25_13 ?_; clear hG; intro Γ hG
                        refine t_pu hG (fun w hC => pu_pick_f rfl hg25_13 rfl) ?_; clear hG; intro Γ hG
                        refine t_pu hG (fun w hC => pu_assign rfl) ?_; clear hG; intro Γ hG
                        refine t_end hG ?_; clear hG hF; intro a w hC hE hF hP; replace hS := hC.st; clear hC
                        clear hE
                        clear hP
                        refine c_nil ?_
                        refine n_block ?_
                        refine n_then ?_
                        exact ⟨_, _, by first | (rw [rul1 (by omega), all_1 (hl1 (by omega))]) | (rw [rul1 (by omega), all_2 (hl2 (by omega)), hg11_4]; rfl) | (rw [rul2 (by omega), all_2 (hl2 (by omega)), addK, if_pos hc38, hg17_5]; rfl) | (rw [rul2 (by omega), all_2 (hl2 (by omega)), addK, if_neg hc38, hg17_5]; rfl) | (rw [rul3 (by omega)]) | (rw [rul4 (by omega), con_2 (hl2 (by omega)), hg25_7, hg25_13]; rfl) | (rw [rul4 (by omega), con_2 (hl2 (by omega)), hg25_7]; rfl) | (rw [rul5 (by omega), all_2 (hl2 (by omega)), hg28_4]; rfl) | (rw [rul6 (by omega), hg30_4]; rfl), hF.pick (.cons (k := 6) rfl <| .cons (k := 7) rfl <| .nil), hS⟩
                    · have hg25_7p := hg25_7
                      try simp only [decide_eq_true_eq, decide_eq_false_iff_not, Bool.not_eq_true', Bool.not_eq_false', Bool.not_eq_eq_eq_not, Bool.not_true, Bool.not_false] at hg25_7p
                      refine tg_no hG ⟨_, _, (rfl : _[7]? = some _), rfl, rfl⟩ hg25_7 ?_; clear hG; intro Γ hG
                      refine tg_no hG ⟨_, _, (rfl : _[7]? = some _), rfl, rfl⟩ hg25_7 ?_; clear hG; intro Γ hG
                      refine tg_no hG ⟨_, _, (rfl : _[7]? = some _), rfl, rfl⟩ hg25_7 ?_; clear hG; intro Γ hG
                      refine tg_no hG ⟨_, _, (rfl : _[7]? = some _), rfl, rfl⟩ hg25_7 ?_; clear hG; intro Γ hG
                      refine t_pu hG (fun w hC => pu_pick_f rfl hg25_7 rfl) ?_; clear hG; intro Γ hG
                      refine t_pu hG (fun w hC => pu_move rfl) ?_; clear hG; intro Γ hG
                      refine tg_no hG ⟨_, _, (rfl : _[13]? = some _), rfl, rfl⟩ rfl ?_; clear hG; intro Γ hG
                      refine tg_no hG ⟨_, _, (rfl : _[13]? = some _), rfl, rfl⟩ rfl ?_; clear hG; intro Γ hG
                      refine tg_no hG ⟨_, _, (rfl : _[13]? = some _), rfl, rfl⟩ rfl ?_; clear hG; intro Γ hG
                      refine tg_no hG ⟨_, _, (rfl : _[13]? = some _), rfl, rfl⟩ rfl ?_; clear hG; intro Γ hG
                      refine t_pu hG (fun w hC => pu_pick_f rfl rfl rfl) ?_; clear hG; intro Γ hG
                      refine t_pu hG (fun w hC => pu_assign rfl) ?_; clear hG; intro Γ hG
                      refine t_end hG ?_; clear hG hF; intro a w hC hE hF hP; replace hS := hC.st; clear hC
                      clear hE
                      clear hP
                      refine c_nil ?_
                      refine n_block ?_
                      refine n_then ?_
                      exact ⟨_, _, by first | (rw [rul1 (by omega), all_1 (hl1 (by omega))]) | (rw [rul1 (by omega), all_2 (hl2 (by omega)), hg11_4]; rfl) | (rw [rul2 (by omega), all_2 (hl2 (by omega)), addK, if_pos hc38, hg17_5]; rfl) | (rw [rul2 (by omega), all_2 (hl2 (by omega)), addK, if_neg hc38, hg17_5]; rfl) | (rw [rul3 (by omega)]) | (rw [rul4 (by omega), con_2 (hl2 (by omega)), hg25_7, hg25_13]; rfl) | (rw [rul4 (by omega), con_2 (hl2 (by omega)), hg25_7]; rfl) | (rw [rul5 (by omega), all_2 (hl2 (by omega)), hg28_4]; rfl) | (rw [rul6 (by omega), hg30_4]; rfl), hF.pick (.cons (k := 6) rfl <| .cons (k := 7) rfl <| .nil), hS⟩
                  · have hc61k := hc61
                    try simp only [decide_eq_true_eq, decide_eq_false_iff_not, Bool.not_eq_true', Bool.not_eq_false', Bool.not_eq_eq_eq_not, Bool.not_true, Bool.not_false] at hc61
                    refine c_seq ?_
                    refine c_reg ?_
                    refine s_pu hF (pu_ieq rfl rfl) rfl ?_; clear hF; intro a hF
                    refine s_pu hF (pu_assign rfl) rfl ?_; clear hF; intro a hF
                    refine c_nil ?_
                    refine n_then ?_
                    refine c_if hF rfl (fun hc61 => ?_) (fun hc61 => ?_)
                    · have hc61k := hc61
                      try simp only [decide_eq_true_eq, decide_eq_false_iff_not, Bool.not_eq_true', Bool.not_eq_false', Bool.not_eq_eq_eq_not, Bool.not_true, Bool.not_false] at hc61
                      have hll := hl2 (by omega)
                      refine c_skip ?_
                      refine n_then ?_
                      refine c_ift hF rfl hc61k ?_
                      refine region_st 20 hF hS (allV_ne rfl) mix (by kernel_rfl) fun Γ hG => ?_
                      refine t_pu hG (fun w hC => pu_move rfl) ?_; clear hG; intro Γ hG
                      refine t_pu hG (fun w hC => pu_iaddr_sla (j := 0) ha slt81 rfl rfl (by omega) (by omega)) ?_; clear hG; intro Γ hG
                      refine t_pu hG (fun w hC => pu_load1 one32 rfl (HH 0 (by omega) _ hC.st.base)) ?_; clear hG; intro Γ hG
                      refine t_pu hG (fun w hC => pu_move rfl) ?_; clear hG; intro Γ hG
                      refine t_pu hG (fun w hC => pu_iaddr_sla (j := 1) ha slt81 rfl rfl (by omega) (by omega)) ?_; clear hG; intro Γ hG
                      refine t_pu hG (fun w hC => pu_load1 one32 rfl (HH 1 (by omega) _ hC.st.base)) ?_; clear hG; intro Γ hG
                      refine t_callv hG ok22 rfl (fun w hS => (c_RFits _ _ _ _ hS.view)) ?_; clear hG; intro Γ hG
                      refine t_pu hG (fun w hC => pu_move rfl) ?_; clear hG; intro Γ hG
                      refine t_split hG ⟨_, _, (rfl : _[7]? = some _), rfl, rfl⟩ (fun hg25_7 => ?_) (fun hg25_7 => ?_)
                      · have hg25_7p := hg25_7
                        try simp only [decide_eq_true_eq, decide_eq_false_iff_not, Bool.not_eq_true', Bool.not_eq_false', Bool.not_eq_eq_eq_not, Bool.not_true, Bool.not_false] at hg25_7p
                        refine tg_pu hG ⟨_, _, (rfl : _[7]? = some _), rfl, rfl⟩ hg25_7 (fun w hC => pu_move rfl) ?_; clear hG; intro Γ hG
                        refine tg_pu hG ⟨_, _, (rfl : _[7]? = some _), rfl, rfl⟩ hg25_7 (fun w hC => pu_iaddr_sla (j := 0) ha slt81 rfl rfl (by omega) (by omega)) ?_; clear hG; intro Γ hG
                        refine tg_pu hG ⟨_, _, (rfl : _[7]? = some _), rfl, rfl⟩ hg25_7 (fun w hC => pu_load1 one32 rfl (HH 0 (by omega) _ hC.st.base)) ?_; clear hG; intro Γ hG
                        refine tg_pu hG ⟨_, _, (rfl : _[7]? = some _), rfl, rfl⟩ hg25_7 (fun w hC => pu_ine rfl rfl) ?_; clear hG; intro Γ hG
                        refine t_pu hG (fun w hC => pu_pick_t rfl hg25_7 rfl) ?_; clear hG; intro Γ hG
                        refine t_pu hG (fun w hC => pu_move rfl) ?_; clear hG; intro Γ hG
                        refine t_split hG ⟨_, _, (rfl : _[13]? = some _), rfl, rfl⟩ (fun hg25_13 => ?_) (fun hg25_13 => ?_)
                        · have hg25_13p := hg25_13
                          try simp only [decide_eq_true_eq, decide_eq_false_iff_not, Bool.not_eq_true', Bool.not_eq_false', Bool.not_eq_eq_eq_not, Bool.not_true, Bool.not_false] at hg25_13p
                          refine tg_pu hG ⟨_, _, (rfl : _[13]? = some _), rfl, rfl⟩ hg25_13 (fun w hC => pu_move rfl) ?_; clear hG; intro Γ hG
                          refine tg_pu hG ⟨_, _, (rfl : _[13]? = some _), rfl, rfl⟩ hg25_13 (fun w hC => pu_iaddr_sla (j := 1) ha slt81 rfl rfl (by omega) (by omega)) ?_; clear hG; intro Γ hG
                          refine tg_pu hG ⟨_, _, (rfl : _[13]? = some _), rfl, rfl⟩ hg25_13 (fun w hC => pu_load1 one32 rfl (HH 1 (by omega) _ hC.st.base)) ?_; clear hG; intro Γ hG
                          refine tg_pu hG ⟨_, _, (rfl : _[13]? = some _), rfl, rfl⟩ hg25_13 (fun w hC => pu_ine rfl rfl) ?_; clear hG; intro Γ hG
                          refine t_pu hG (fun w hC => pu_pick_t rfl hg25_13 rfl) ?_; clear hG; intro Γ hG
                          refine t_pu hG (fun w hC => pu_assign rfl) ?_; clear hG; intro Γ hG
                          refine t_end hG ?_; clear hG hF; intro a w hC hE hF hP; replace hS := hC.st; clear hC
                          clear hE
                          clear hP
                          refine c_nil ?_
                          refine n_block ?_
                          refine n_then ?_
                          exact ⟨_, _, by first | (rw [rul1 (by omega), all_1 (hl1 (by omega))]) | (rw [rul1 (by omega), all_2 (hl2 (by omega)), hg11_4]; rfl) | (rw [rul2 (by omega), all_2 (hl2 (by omega)), addK, if_pos hc38, hg17_5]; rfl) | (rw [rul2 (by omega), all_2 (hl2 (by omega)), addK, if_neg hc38, hg17_5]; rfl) | (rw [rul3 (by omega)]) | (rw [rul4 (by omega), con_2 (hl2 (by omega)), hg25_7, hg25_13]; rfl) | (rw [rul4 (by omega), con_2 (hl2 (by omega)), hg25_7]; rfl) | (rw [rul5 (by omega), all_2 (hl2 (by omega)), hg28_4]; rfl) | (rw [rul6 (by omega), hg30_4]; rfl), hF.pick (.cons (k := 6) rfl <| .cons (k := 7) rfl <| .nil), hS⟩
                        · have hg25_13p := hg25_13
                          try simp only [decide_eq_true_eq, decide_eq_false_iff_not, Bool.not_eq_true', Bool.not_eq_false', Bool.not_eq_eq_eq_not, Bool.not_true, Bool.not_false] at hg25_13p
                          refine tg_no hG ⟨_, _, (rfl : _[13]? = some _), rfl, rfl⟩ hg25_13 ?_; clear hG; intro Γ hG
                          refine tg_no hG ⟨_, _, (rfl : _[13]? = some _), rfl, rfl⟩ hg25_13 ?_; clear hG; intro Γ hG
                          refine tg_no hG ⟨_, _, (rfl : _[13]? = some _), rfl, rfl⟩ hg25_13 ?_; clear hG; intro Γ hG
                          refine tg_no hG ⟨_, _, (rfl : _[13]? = some _), rfl, rfl⟩ hg25_13 ?_; clear hG; intro Γ hG
                          refine t_pu hG (fun w hC => pu_pick_f rfl hg25_13 rfl) ?_; clear hG; intro Γ hG
                          refine t_pu hG (fun w hC => pu_assign rfl) ?_; clear hG; intro Γ hG
                          refine t_end hG ?_; clear hG hF; intro a w hC hE hF hP; replace hS := hC.st; clear hC
                          clear hE
                          clear hP
                          refine c_nil ?_
                          refine n_block ?_
                          refine n_then ?_
                          exact ⟨_, _, by first | (rw [rul1 (by omega), all_1 (hl1 (by omega))]) | (rw [rul1 (by omega), all_2 (hl2 (by omega)), hg11_4]; rfl) | (rw [rul2 (by omega), all_2 (hl2 (by omega)), addK, if_pos hc38, hg17_5]; rfl) | (rw [rul2 (by omega), all_2 (hl2 (by omega)), addK, if_neg hc38, hg17_5]; rfl) | (rw [rul3 (by omega)]) | (rw [rul4 (by omega), con_2 (hl2 (by omega)), hg25_7, hg25_13]; rfl) | (rw [rul4 (by omega), con_2 (hl2 (by omega)), hg25_7]; rfl) | (rw [rul5 (by omega), all_2 (hl2 (by omega)), hg28_4]; rfl) | (rw [rul6 (by omega), hg30_4]; rfl), hF.pick (.cons (k := 6) rfl <| .cons (k := 7) rfl <| .nil), hS⟩
                      · have hg25_7p := hg25_7
                        try simp only [decide_eq_true_eq, decide_eq_false_iff_not, Bool.not_eq_true', Bool.not_eq_false', Bool.not_eq_eq_eq_not, Bool.not_true, Bool.not_false] at hg25_7p
                        refine tg_no hG ⟨_, _, (rfl : _[7]? = some _), rfl, rfl⟩ hg25_7 ?_; clear hG; intro Γ hG
                        refine tg_no hG ⟨_, _, (rfl : _[7]? = some _), rfl, rfl⟩ hg25_7 ?_; clear hG; intro Γ hG
                        refine tg_no hG ⟨_, _, (rfl : _[7]? = some _), rfl, rfl⟩ hg25_7 ?_; clear hG; intro Γ hG
                        refine tg_no hG ⟨_, _, (rfl : _[7]? = some _), rfl, rfl⟩ hg25_7 ?_; clear hG; intro Γ hG
                        refine t_pu hG (fun w hC => pu_pick_f rfl hg25_7 rfl) ?_; clear hG; intro Γ hG
                        refine t_pu hG (fun w hC => pu_move rfl) ?_; clear hG; intro Γ hG
                        refine tg_no hG ⟨_, _, (rfl : _[13]? = some _), rfl, rfl⟩ rfl ?_; clear hG; intro Γ hG
                        refine tg_no hG ⟨_, _, (rfl : _[13]? = some _), rfl, rfl⟩ rfl ?_; clear hG; intro Γ hG
                        refine tg_no hG ⟨_, _, (rfl : _[13]? = some _), rfl, rfl⟩ rfl ?_; clear hG; intro Γ hG
                        refine tg_no hG ⟨_, _, (rfl : _[13]? = some _), rfl, rfl⟩ rfl ?_; clear hG; intro Γ hG
                        refine t_pu hG (fun w hC => pu_pick_f rfl rfl rfl) ?_; clear hG; intro Γ hG
                        refine t_pu hG (fun w hC => pu_assign rfl) ?_; clear hG; intro Γ hG
                        refine t_end hG ?_; clear hG hF; intro a w hC hE hF hP; replace hS := hC.st; clear hC
                        clear hE
                        clear hP
                        refine c_nil ?_
                        refine n_block ?_
                        refine n_then ?_
                        exact ⟨_, _, by first | (rw [rul1 (by omega), all_1 (hl1 (by omega))]) | (rw [rul1 (by omega), all_2 (hl2 (by omega)), hg11_4]; rfl) | (rw [rul2 (by omega), all_2 (hl2 (by omega)), addK, if_pos hc38, hg17_5]; rfl) | (rw [rul2 (by omega), all_2 (hl2 (by omega)), addK, if_neg hc38, hg17_5]; rfl) | (rw [rul3 (by omega)]) | (rw [rul4 (by omega), con_2 (hl2 (by omega)), hg25_7, hg25_13]; rfl) | (rw [rul4 (by omega), con_2 (hl2 (by omega)), hg25_7]; rfl) | (rw [rul5 (by omega), all_2 (hl2 (by omega)), hg28_4]; rfl) | (rw [rul6 (by omega), hg30_4]; rfl), hF.pick (.cons (k := 6) rfl <| .cons (k := 7) rfl <| .nil), hS⟩
                    · have hc61k := hc61
                      try simp only [decide_eq_true_eq, decide_eq_false_iff_not, Bool.not_eq_true', Bool.not_eq_false', Bool.not_eq_eq_eq_not, Bool.not_true, Bool.not_false] at hc61
                      refine c_seq ?_
                      refine c_reg ?_
                      refine s_pu hF (pu_ieq rfl rfl) rfl ?_; clear hF; intro a hF
                      refine s_pu hF (pu_assign rfl) rfl ?_; clear hF; intro a hF
                      refine c_nil ?_
                      refine n_then ?_
                      refine c_if hF rfl (fun hc61 => ?_) (fun hc61 => ?_)
                      · have hc61k := hc61
                        try simp only [decide_eq_true_eq, decide_eq_false_iff_not, Bool.not_eq_true', Bool.not_eq_false', Bool.not_eq_eq_eq_not, Bool.not_true, Bool.not_false] at hc61
                        have hll := hl2 (by omega)
                        refine c_skip ?_
                        refine n_then ?_
                        refine c_ift hF rfl hc61k ?_
                        refine region_st 20 hF hS (allV_ne rfl) mix (by kernel_rfl) fun Γ hG => ?_
                        refine t_pu hG (fun w hC => pu_move rfl) ?_; clear hG; intro Γ hG
                        refine t_pu hG (fun w hC => pu_iaddr_sla (j := 0) ha slt81 rfl rfl (by omega) (by omega)) ?_; clear hG; intro Γ hG
                        refine t_pu hG (fun w hC => pu_load1 one32 rfl (HH 0 (by omega) _ hC.st.base)) ?_; clear hG; intro Γ hG
                        refine t_pu hG (fun w hC => pu_move rfl) ?_; clear hG; intro Γ hG
                        refine t_pu hG (fun w hC => pu_iaddr_sla (j := 1) ha slt81 rfl rfl (by omega) (by omega)) ?_; clear hG; intro Γ hG
                        refine t_pu hG (fun w hC => pu_load1 one32 rfl (HH 1 (by omega) _ hC.st.base)) ?_; clear hG; intro Γ hG
                        refine t_callv hG ok22 rfl (fun w hS => (c_RFits _ _ _ _ hS.view)) ?_; clear hG; intro Γ hG
                        refine t_pu hG (fun w hC => pu_move rfl) ?_; clear hG; intro Γ hG
                        refine t_split hG ⟨_, _, (rfl : _[7]? = some _), rfl, rfl⟩ (fun hg25_7 => ?_) (fun hg25_7 => ?_)
                        · have hg25_7p := hg25_7
                          try simp only [decide_eq_true_eq, decide_eq_false_iff_not, Bool.not_eq_true', Bool.not_eq_false', Bool.not_eq_eq_eq_not, Bool.not_true, Bool.not_false] at hg25_7p
                          refine tg_pu hG ⟨_, _, (rfl : _[7]? = some _), rfl, rfl⟩ hg25_7 (fun w hC => pu_move rfl) ?_; clear hG; intro Γ hG
                          refine tg_pu hG ⟨_, _, (rfl : _[7]? = some _), rfl, rfl⟩ hg25_7 (fun w hC => pu_iaddr_sla (j := 0) ha slt81 rfl rfl (by omega) (by omega)) ?_; clear hG; intro Γ hG
                          refine tg_pu hG ⟨_, _, (rfl : _[7]? = some _), rfl, rfl⟩ hg25_7 (fun w hC => pu_load1 one32 rfl (HH 0 (by omega) _ hC.st.base)) ?_; clear hG; intro Γ hG
                          refine tg_pu hG ⟨_, _, (rfl : _[7]? = some _), rfl, rfl⟩ hg25_7 (fun w hC => pu_ine rfl rfl) ?_; clear hG; intro Γ hG
                          refine t_pu hG (fun w hC => pu_pick_t rfl hg25_7 rfl) ?_; clear hG; intro Γ hG
                          refine t_pu hG (fun w hC => pu_move rfl) ?_; clear hG; intro Γ hG
                          refine t_split hG ⟨_, _, (rfl : _[13]? = some _), rfl, rfl⟩ (fun hg25_13 => ?_) (fun hg25_13 => ?_)
                          · have hg25_13p := hg25_13
                            try simp only [decide_eq_true_eq, decide_eq_false_iff_not, Bool.not_eq_true', Bool.not_eq_false', Bool.not_eq_eq_eq_not, Bool.not_true, Bool.not_false] at hg25_13p
                            refine tg_pu hG ⟨_, _, (rfl : _[13]? = some _), rfl, rfl⟩ hg25_13 (fun w hC => pu_move rfl) ?_; clear hG; intro Γ hG
                            refine tg_pu hG ⟨_, _, (rfl : _[13]? = some _), rfl, rfl⟩ hg25_13 (fun w hC => pu_iaddr_sla (j := 1) ha slt81 rfl rfl (by omega) (by omega)) ?_; clear hG; intro Γ hG
                            refine tg_pu hG ⟨_, _, (rfl : _[13]? = some _), rfl, rfl⟩ hg25_13 (fun w hC => pu_load1 one32 rfl (HH 1 (by omega) _ hC.st.base)) ?_; clear hG; intro Γ hG
                            refine tg_pu hG ⟨_, _, (rfl : _[13]? = some _), rfl, rfl⟩ hg25_13 (fun w hC => pu_ine rfl rfl) ?_; clear hG; intro Γ hG
                            refine t_pu hG (fun w hC => pu_pick_t rfl hg25_13 rfl) ?_; clear hG; intro Γ hG
                            refine t_pu hG (fun w hC => pu_assign rfl) ?_; clear hG; intro Γ hG
                            refine t_end hG ?_; clear hG hF; intro a w hC hE hF hP; replace hS := hC.st; clear hC
                            clear hE
                            clear hP
                            refine c_nil ?_
                            refine n_block ?_
                            refine n_then ?_
                            exact ⟨_, _, by first | (rw [rul1 (by omega), all_1 (hl1 (by omega))]) | (rw [rul1 (by omega), all_2 (hl2 (by omega)), hg11_4]; rfl) | (rw [rul2 (by omega), all_2 (hl2 (by omega)), addK, if_pos hc38, hg17_5]; rfl) | (rw [rul2 (by omega), all_2 (hl2 (by omega)), addK, if_neg hc38, hg17_5]; rfl) | (rw [rul3 (by omega)]) | (rw [rul4 (by omega), con_2 (hl2 (by omega)), hg25_7, hg25_13]; rfl) | (rw [rul4 (by omega), con_2 (hl2 (by omega)), hg25_7]; rfl) | (rw [rul5 (by omega), all_2 (hl2 (by omega)), hg28_4]; rfl) | (rw [rul6 (by omega), hg30_4]; rfl), hF.pick (.cons (k := 6) rfl <| .cons (k := 7) rfl <| .nil), hS⟩
                          · have hg25_13p := hg25_13
                            try simp only [decide_eq_true_eq, decide_eq_false_iff_not, Bool.not_eq_true', Bool.not_eq_false', Bool.not_eq_eq_eq_not, Bool.not_true, Bool.not_false] at hg25_13p
                            refine tg_no hG ⟨_, _, (rfl : _[13]? = some _), rfl, rfl⟩ hg25_13 ?_; clear hG; intro Γ hG
                            refine tg_no hG ⟨_, _, (rfl : _[13]? = some _), rfl, rfl⟩ hg25_13 ?_; clear hG; intro Γ hG
                            refine tg_no hG ⟨_, _, (rfl : _[13]? = some _), rfl, rfl⟩ hg25_13 ?_; clear hG; intro Γ hG
                            refine tg_no hG ⟨_, _, (rfl : _[13]? = some _), rfl, rfl⟩ hg25_13 ?_; clear hG; intro Γ hG
                            refine t_pu hG (fun w hC => pu_pick_f rfl hg25_13 rfl) ?_; clear hG; intro Γ hG
                            refine t_pu hG (fun w hC => pu_assign rfl) ?_; clear hG; intro Γ hG
                            refine t_end hG ?_; clear hG hF; intro a w hC hE hF hP; replace hS := hC.st; clear hC
                            clear hE
                            clear hP
                            refine c_nil ?_
                            refine n_block ?_
                            refine n_then ?_
                            exact ⟨_, _, by first | (rw [rul1 (by omega), all_1 (hl1 (by omega))]) | (rw [rul1 (by omega), all_2 (hl2 (by omega)), hg11_4]; rfl) | (rw [rul2 (by omega), all_2 (hl2 (by omega)), addK, if_pos hc38, hg17_5]; rfl) | (rw [rul2 (by omega), all_2 (hl2 (by omega)), addK, if_neg hc38, hg17_5]; rfl) | (rw [rul3 (by omega)]) | (rw [rul4 (by omega), con_2 (hl2 (by omega)), hg25_7, hg25_13]; rfl) | (rw [rul4 (by omega), con_2 (hl2 (by omega)), hg25_7]; rfl) | (rw [rul5 (by omega), all_2 (hl2 (by omega)), hg28_4]; rfl) | (rw [rul6 (by omega), hg30_4]; rfl), hF.pick (.cons (k := 6) rfl <| .cons (k := 7) rfl <| .nil), hS⟩
                        · have hg25_7p := hg25_7
                          try simp only [decide_eq_true_eq, decide_eq_false_iff_not, Bool.not_eq_true', Bool.not_eq_false', Bool.not_eq_eq_eq_not, Bool.not_true, Bool.not_false] at hg25_7p
                          refine tg_no hG ⟨_, _, (rfl : _[7]? = some _), rfl, rfl⟩ hg25_7 ?_; clear hG; intro Γ hG
                          refine tg_no hG ⟨_, _, (rfl : _[7]? = some _), rfl, rfl⟩ hg25_7 ?_; clear hG; intro Γ hG
                          refine tg_no hG ⟨_, _, (rfl : _[7]? = some _), rfl, rfl⟩ hg25_7 ?_; clear hG; intro Γ hG
                          refine tg_no hG ⟨_, _, (rfl : _[7]? = some _), rfl, rfl⟩ hg25_7 ?_; clear hG; intro Γ hG
                          refine t_pu hG (fun w hC => pu_pick_f rfl hg25_7 rfl) ?_; clear hG; intro Γ hG
                          refine t_pu hG (fun w hC => pu_move rfl) ?_; clear hG; intro Γ hG
                          refine tg_no hG ⟨_, _, (rfl : _[13]? = some _), rfl, rfl⟩ rfl ?_; clear hG; intro Γ hG
                          refine tg_no hG ⟨_, _, (rfl : _[13]? = some _), rfl, rfl⟩ rfl ?_; clear hG; intro Γ hG
                          refine tg_no hG ⟨_, _, (rfl : _[13]? = some _), rfl, rfl⟩ rfl ?_; clear hG; intro Γ hG
                          refine tg_no hG ⟨_, _, (rfl : _[13]? = some _), rfl, rfl⟩ rfl ?_; clear hG; intro Γ hG
                          refine t_pu hG (fun w hC => pu_pick_f rfl rfl rfl) ?_; clear hG; intro Γ hG
                          refine t_pu hG (fun w hC => pu_assign rfl) ?_; clear hG; intro Γ hG
                          refine t_end hG ?_; clear hG hF; intro a w hC hE hF hP; replace hS := hC.st; clear hC
                          clear hE
                          clear hP
                          refine c_nil ?_
                          refine n_block ?_
                          refine n_then ?_
                          exact ⟨_, _, by first | (rw [rul1 (by omega), all_1 (hl1 (by omega))]) | (rw [rul1 (by omega), all_2 (hl2 (by omega)), hg11_4]; rfl) | (rw [rul2 (by omega), all_2 (hl2 (by omega)), addK, if_pos hc38, hg17_5]; rfl) | (rw [rul2 (by omega), all_2 (hl2 (by omega)), addK, if_neg hc38, hg17_5]; rfl) | (rw [rul3 (by omega)]) | (rw [rul4 (by omega), con_2 (hl2 (by omega)), hg25_7, hg25_13]; rfl) | (rw [rul4 (by omega), con_2 (hl2 (by omega)), hg25_7]; rfl) | (rw [rul5 (by omega), all_2 (hl2 (by omega)), hg28_4]; rfl) | (rw [rul6 (by omega), hg30_4]; rfl), hF.pick (.cons (k := 6) rfl <| .cons (k := 7) rfl <| .nil), hS⟩
                      · have hc61k := hc61
                        try simp only [decide_eq_true_eq, decide_eq_false_iff_not, Bool.not_eq_true', Bool.not_eq_false', Bool.not_eq_eq_eq_not, Bool.not_true, Bool.not_false] at hc61
                        refine c_reg ?_
                        refine s_pu hF (pu_ieq rfl rfl) rfl ?_; clear hF; intro a hF
                        refine s_pu hF (pu_assign rfl) rfl ?_; clear hF; intro a hF
                        refine c_nil ?_
                        refine n_then ?_
                        refine c_if hF rfl (fun hc61 => ?_) (fun hc61 => ?_)
                        · have hc61k := hc61
                          try simp only [decide_eq_true_eq, decide_eq_false_iff_not, Bool.not_eq_true', Bool.not_eq_false', Bool.not_eq_eq_eq_not, Bool.not_true, Bool.not_false] at hc61
                          have hll := hl2 (by omega)
                          refine region_st 20 hF hS (allV_ne rfl) mix (by kernel_rfl) fun Γ hG => ?_
                          refine t_pu hG (fun w hC => pu_move rfl) ?_; clear hG; intro Γ hG
                          refine t_pu hG (fun w hC => pu_iaddr_sla (j := 0) ha slt81 rfl rfl (by omega) (by omega)) ?_; clear hG; intro Γ hG
                          refine t_pu hG (fun w hC => pu_load1 one32 rfl (HH 0 (by omega) _ hC.st.base)) ?_; clear hG; intro Γ hG
                          refine t_pu hG (fun w hC => pu_move rfl) ?_; clear hG; intro Γ hG
                          refine t_pu hG (fun w hC => pu_iaddr_sla (j := 1) ha slt81 rfl rfl (by omega) (by omega)) ?_; clear hG; intro Γ hG
                          refine t_pu hG (fun w hC => pu_load1 one32 rfl (HH 1 (by omega) _ hC.st.base)) ?_; clear hG; intro Γ hG
                          refine t_callv hG ok22 rfl (fun w hS => (c_RFits _ _ _ _ hS.view)) ?_; clear hG; intro Γ hG
                          refine t_pu hG (fun w hC => pu_move rfl) ?_; clear hG; intro Γ hG
                          refine t_split hG ⟨_, _, (rfl : _[7]? = some _), rfl, rfl⟩ (fun hg25_7 => ?_) (fun hg25_7 => ?_)
                          · have hg25_7p := hg25_7
                            try simp only [decide_eq_true_eq, decide_eq_false_iff_not, Bool.not_eq_true', Bool.not_eq_false', Bool.not_eq_eq_eq_not, Bool.not_true, Bool.not_false] at hg25_7p
                            refine tg_pu hG ⟨_, _, (rfl : _[7]? = some _), rfl, rfl⟩ hg25_7 (fun w hC => pu_move rfl) ?_; clear hG; intro Γ hG
                            refine tg_pu hG ⟨_, _, (rfl : _[7]? = some _), rfl, rfl⟩ hg25_7 (fun w hC => pu_iaddr_sla (j := 0) ha slt81 rfl rfl (by omega) (by omega)) ?_; clear hG; intro Γ hG
                            refine tg_pu hG ⟨_, _, (rfl : _[7]? = some _), rfl, rfl⟩ hg25_7 (fun w hC => pu_load1 one32 rfl (HH 0 (by omega) _ hC.st.base)) ?_; clear hG; intro Γ hG
                            refine tg_pu hG ⟨_, _, (rfl : _[7]? = some _), rfl, rfl⟩ hg25_7 (fun w hC => pu_ine rfl rfl) ?_; clear hG; intro Γ hG
                            refine t_pu hG (fun w hC => pu_pick_t rfl hg25_7 rfl) ?_; clear hG; intro Γ hG
                            refine t_pu hG (fun w hC => pu_move rfl) ?_; clear hG; intro Γ hG
                            refine t_split hG ⟨_, _, (rfl : _[13]? = some _), rfl, rfl⟩ (fun hg25_13 => ?_) (fun hg25_13 => ?_)
                            · have hg25_13p := hg25_13
                              try simp only [decide_eq_true_eq, decide_eq_false_iff_not, Bool.not_eq_true', Bool.not_eq_false', Bool.not_eq_eq_eq_not, Bool.not_true, Bool.not_false] at hg25_13p
                              refine tg_pu hG ⟨_, _, (rfl : _[13]? = some _), rfl, rfl⟩ hg25_13 (fun w hC => pu_move rfl) ?_; clear hG; intro Γ hG
                              refine tg_pu hG ⟨_, _, (rfl : _[13]? = some _), rfl, rfl⟩ hg25_13 (fun w hC => pu_iaddr_sla (j := 1) ha slt81 rfl rfl (by omega) (by omega)) ?_; clear hG; intro Γ hG
                              refine tg_pu hG ⟨_, _, (rfl : _[13]? = some _), rfl, rfl⟩ hg25_13 (fun w hC => pu_load1 one32 rfl (HH 1 (by omega) _ hC.st.base)) ?_; clear hG; intro Γ hG
                              refine tg_pu hG ⟨_, _, (rfl : _[13]? = some _), rfl, rfl⟩ hg25_13 (fun w hC => pu_ine rfl rfl) ?_; clear hG; intro Γ hG
                              refine t_pu hG (fun w hC => pu_pick_t rfl hg25_13 rfl) ?_; clear hG; intro Γ hG
                              refine t_pu hG (fun w hC => pu_assign rfl) ?_; clear hG; intro Γ hG
                              refine t_end hG ?_; clear hG hF; intro a w hC hE hF hP; replace hS := hC.st; clear hC
                              clear hE
                              clear hP
                              refine c_nil ?_
                              refine n_block ?_
                              refine n_then ?_
                              exact ⟨_, _, by first | (rw [rul1 (by omega), all_1 (hl1 (by omega))]) | (rw [rul1 (by omega), all_2 (hl2 (by omega)), hg11_4]; rfl) | (rw [rul2 (by omega), all_2 (hl2 (by omega)), addK, if_pos hc38, hg17_5]; rfl) | (rw [rul2 (by omega), all_2 (hl2 (by omega)), addK, if_neg hc38, hg17_5]; rfl) | (rw [rul3 (by omega)]) | (rw [rul4 (by omega), con_2 (hl2 (by omega)), hg25_7, hg25_13]; rfl) | (rw [rul4 (by omega), con_2 (hl2 (by omega)), hg25_7]; rfl) | (rw [rul5 (by omega), all_2 (hl2 (by omega)), hg28_4]; rfl) | (rw [rul6 (by omega), hg30_4]; rfl), hF.pick (.cons (k := 6) rfl <| .cons (k := 7) rfl <| .nil), hS⟩
                            · have hg25_13p := hg25_13
                              try simp only [decide_eq_true_eq, decide_eq_false_iff_not, Bool.not_eq_true', Bool.not_eq_false', Bool.not_eq_eq_eq_not, Bool.not_true, Bool.not_false] at hg25_13p
                              refine tg_no hG ⟨_, _, (rfl : _[13]? = some _), rfl, rfl⟩ hg25_13 ?_; clear hG; intro Γ hG
                              refine tg_no hG ⟨_, _, (rfl : _[13]? = some _), rfl, rfl⟩ hg25_13 ?_; clear hG; intro Γ hG
                              refine tg_no hG ⟨_, _, (rfl : _[13]? = some _), rfl, rfl⟩ hg25_13 ?_; clear hG; intro Γ hG
                              refine tg_no hG ⟨_, _, (rfl : _[13]? = some _), rfl, rfl⟩ hg25_13 ?_; clear hG; intro Γ hG
                              refine t_pu hG (fun w hC => pu_pick_f rfl hg25_13 rfl) ?_; clear hG; intro Γ hG
                              refine t_pu hG (fun w hC => pu_assign rfl) ?_; clear hG; intro Γ hG
                              refine t_end hG ?_; clear hG hF; intro a w hC hE hF hP; replace hS := hC.st; clear hC
                              clear hE
                              clear hP
                              refine c_nil ?_
                              refine n_block ?_
                              refine n_then ?_
                              exact ⟨_, _, by first | (rw [rul1 (by omega), all_1 (hl1 (by omega))]) | (rw [rul1 (by omega), all_2 (hl2 (by omega)), hg11_4]; rfl) | (rw [rul2 (by omega), all_2 (hl2 (by omega)), addK, if_pos hc38, hg17_5]; rfl) | (rw [rul2 (by omega), all_2 (hl2 (by omega)), addK, if_neg hc38, hg17_5]; rfl) | (rw [rul3 (by omega)]) | (rw [rul4 (by omega), con_2 (hl2 (by omega)), hg25_7, hg25_13]; rfl) | (rw [rul4 (by omega), con_2 (hl2 (by omega)), hg25_7]; rfl) | (rw [rul5 (by omega), all_2 (hl2 (by omega)), hg28_4]; rfl) | (rw [rul6 (by omega), hg30_4]; rfl), hF.pick (.cons (k := 6) rfl <| .cons (k := 7) rfl <| .nil), hS⟩
                          · have hg25_7p := hg25_7
                            try simp only [decide_eq_true_eq, decide_eq_false_iff_not, Bool.not_eq_true', Bool.not_eq_false', Bool.not_eq_eq_eq_not, Bool.not_true, Bool.not_false] at hg25_7p
                            refine tg_no hG ⟨_, _, (rfl : _[7]? = some _), rfl, rfl⟩ hg25_7 ?_; clear hG; intro Γ hG
                            refine tg_no hG ⟨_, _, (rfl : _[7]? = some _), rfl, rfl⟩ hg25_7 ?_; clear hG; intro Γ hG
                            refine tg_no hG ⟨_, _, (rfl : _[7]? = some _), rfl, rfl⟩ hg25_7 ?_; clear hG; intro Γ hG
                            refine tg_no hG ⟨_, _, (rfl : _[7]? = some _), rfl, rfl⟩ hg25_7 ?_; clear hG; intro Γ hG
                            refine t_pu hG (fun w hC => pu_pick_f rfl hg25_7 rfl) ?_; clear hG; intro Γ hG
                            refine t_pu hG (fun w hC => pu_move rfl) ?_; clear hG; intro Γ hG
                            refine tg_no hG ⟨_, _, (rfl : _[13]? = some _), rfl, rfl⟩ rfl ?_; clear hG; intro Γ hG
                            refine tg_no hG ⟨_, _, (rfl : _[13]? = some _), rfl, rfl⟩ rfl ?_; clear hG; intro Γ hG
                            refine tg_no hG ⟨_, _, (rfl : _[13]? = some _), rfl, rfl⟩ rfl ?_; clear hG; intro Γ hG
                            refine tg_no hG ⟨_, _, (rfl : _[13]? = some _), rfl, rfl⟩ rfl ?_; clear hG; intro Γ hG
                            refine t_pu hG (fun w hC => pu_pick_f rfl rfl rfl) ?_; clear hG; intro Γ hG
                            refine t_pu hG (fun w hC => pu_assign rfl) ?_; clear hG; intro Γ hG
                            refine t_end hG ?_; clear hG hF; intro a w hC hE hF hP; replace hS := hC.st; clear hC
                            clear hE
                            clear hP
                            refine c_nil ?_
                            refine n_block ?_
                            refine n_then ?_
                            exact ⟨_, _, by first | (rw [rul1 (by omega), all_1 (hl1 (by omega))]) | (rw [rul1 (by omega), all_2 (hl2 (by omega)), hg11_4]; rfl) | (rw [rul2 (by omega), all_2 (hl2 (by omega)), addK, if_pos hc38, hg17_5]; rfl) | (rw [rul2 (by omega), all_2 (hl2 (by omega)), addK, if_neg hc38, hg17_5]; rfl) | (rw [rul3 (by omega)]) | (rw [rul4 (by omega), con_2 (hl2 (by omega)), hg25_7, hg25_13]; rfl) | (rw [rul4 (by omega), con_2 (hl2 (by omega)), hg25_7]; rfl) | (rw [rul5 (by omega), all_2 (hl2 (by omega)), hg28_4]; rfl) | (rw [rul6 (by omega), hg30_4]; rfl), hF.pick (.cons (k := 6) rfl <| .cons (k := 7) rfl <| .nil), hS⟩
                        · have hc61k := hc61
                          try simp only [decide_eq_true_eq, decide_eq_false_iff_not, Bool.not_eq_true', Bool.not_eq_false', Bool.not_eq_eq_eq_not, Bool.not_true, Bool.not_false] at hc61
                          refine c_seq ?_
                          refine c_seq ?_
                          refine c_reg ?_
                          refine s_pu hF (pu_ieq rfl rfl) rfl ?_; clear hF; intro a hF
                          refine s_pu hF (pu_assign rfl) rfl ?_; clear hF; intro a hF
                          refine c_nil ?_
                          refine n_then ?_
                          refine c_if hF rfl (fun hc85 => ?_) (fun hc85 => ?_)
                          · have hc85k := hc85
                            try simp only [decide_eq_true_eq, decide_eq_false_iff_not, Bool.not_eq_true', Bool.not_eq_false', Bool.not_eq_eq_eq_not, Bool.not_true, Bool.not_false] at hc85
                            have hll := hl2 (by omega)
                            refine c_skip ?_
                            refine n_then ?_
                            refine c_ift hF rfl hc85k ?_
                            refine c_reg ?_
                            refine s_pu hF (pu_move rfl) rfl ?_; clear hF; intro a hF
                            refine s_pu hF (pu_iaddr_sla (j := 0) ha slt81 rfl rfl (by omega) (by omega)) rfl ?_; clear hF; intro a hF
                            refine s_pu hF (pu_load1 one32 rfl (HH 0 (by omega) _ hS.base)) rfl ?_; clear hF; intro a hF
                            refine s_callv hF hS ok22 rfl (c_RFits _ _ _ _ hS.view) rfl ?_; clear hS hF; intro w a hS hF
                            refine s_pu hF (pu_move rfl) rfl ?_; clear hF; intro a hF
                            refine w_split hF ⟨_, _, (rfl : _[4]? = some _), rfl, rfl⟩ (fun hg28_4 => ?_) (fun hg28_4 => ?_)
                            · have hg28_4p := hg28_4
                              try simp only [decide_eq_true_eq, decide_eq_false_iff_not, Bool.not_eq_true', Bool.not_eq_false', Bool.not_eq_eq_eq_not, Bool.not_true, Bool.not_false] at hg28_4p
                              refine g_pu hF ⟨_, _, (rfl : _[4]? = some _), rfl, rfl⟩ hg28_4 (pu_move rfl) rfl ?_; clear hF; intro a hF
                              refine g_pu hF ⟨_, _, (rfl : _[4]? = some _), rfl, rfl⟩ hg28_4 (pu_iaddr_sla (j := 1) ha slt81 rfl rfl (by omega) (by omega)) rfl ?_; clear hF; intro a hF
                              refine g_pu hF ⟨_, _, (rfl : _[4]? = some _), rfl, rfl⟩ hg28_4 (pu_load1 one32 rfl (HH 1 (by omega) _ hS.base)) rfl ?_; clear hF; intro a hF
                              refine g_callv hF hS ⟨_, _, (rfl : _[4]? = some _), rfl, rfl⟩ hg28_4 ok22 rfl (c_RFits _ _ _ _ hS.view) rfl ?_; clear hS hF; intro w a hS hF
                              refine s_pu hF (pu_pick_t rfl hg28_4 rfl) rfl ?_; clear hF; intro a hF
                              refine s_pu hF (pu_assign rfl) rfl ?_; clear hF; intro a hF
                              refine c_nil ?_
                              refine n_block ?_
                              refine n_then ?_
                              exact ⟨_, _, by first | (rw [rul1 (by omega), all_1 (hl1 (by omega))]) | (rw [rul1 (by omega), all_2 (hl2 (by omega)), hg11_4]; rfl) | (rw [rul2 (by omega), all_2 (hl2 (by omega)), addK, if_pos hc38, hg17_5]; rfl) | (rw [rul2 (by omega), all_2 (hl2 (by omega)), addK, if_neg hc38, hg17_5]; rfl) | (rw [rul3 (by omega)]) | (rw [rul4 (by omega), con_2 (hl2 (by omega)), hg25_7, hg25_13]; rfl) | (rw [rul4 (by omega), con_2 (hl2 (by omega)), hg25_7]; rfl) | (rw [rul5 (by omega), all_2 (hl2 (by omega)), hg28_4]; rfl) | (rw [rul6 (by omega), hg30_4]; rfl), hF.pick (.cons (k := 6) rfl <| .cons (k := 7) rfl <| .nil), hS⟩
                            · have hg28_4p := hg28_4
                              try simp only [decide_eq_true_eq, decide_eq_false_iff_not, Bool.not_eq_true', Bool.not_eq_false', Bool.not_eq_eq_eq_not, Bool.not_true, Bool.not_false] at hg28_4p
                              refine g_no hF ⟨_, _, (rfl : _[4]? = some _), rfl, rfl⟩ hg28_4 rfl ?_; clear hF; intro a hF
                              refine g_no hF ⟨_, _, (rfl : _[4]? = some _), rfl, rfl⟩ hg28_4 rfl ?_; clear hF; intro a hF
                              refine g_no hF ⟨_, _, (rfl : _[4]? = some _), rfl, rfl⟩ hg28_4 rfl ?_; clear hF; intro a hF
                              refine g_no hF ⟨_, _, (rfl : _[4]? = some _), rfl, rfl⟩ hg28_4 rfl ?_; clear hF; intro a hF
                              refine s_pu hF (pu_pick_f rfl hg28_4 rfl) rfl ?_; clear hF; intro a hF
                              refine s_pu hF (pu_assign rfl) rfl ?_; clear hF; intro a hF
                              refine c_nil ?_
                              refine n_block ?_
                              refine n_then ?_
                              exact ⟨_, _, by first | (rw [rul1 (by omega), all_1 (hl1 (by omega))]) | (rw [rul1 (by omega), all_2 (hl2 (by omega)), hg11_4]; rfl) | (rw [rul2 (by omega), all_2 (hl2 (by omega)), addK, if_pos hc38, hg17_5]; rfl) | (rw [rul2 (by omega), all_2 (hl2 (by omega)), addK, if_neg hc38, hg17_5]; rfl) | (rw [rul3 (by omega)]) | (rw [rul4 (by omega), con_2 (hl2 (by omega)), hg25_7, hg25_13]; rfl) | (rw [rul4 (by omega), con_2 (hl2 (by omega)), hg25_7]; rfl) | (rw [rul5 (by omega), all_2 (hl2 (by omega)), hg28_4]; rfl) | (rw [rul6 (by omega), hg30_4]; rfl), hF.pick (.cons (k := 6) rfl <| .cons (k := 7) rfl <| .nil), hS⟩
                          · have hc85k := hc85
                            try simp only [decide_eq_true_eq, decide_eq_false_iff_not, Bool.not_eq_true', Bool.not_eq_false', Bool.not_eq_eq_eq_not, Bool.not_true, Bool.not_false] at hc85
                            refine c_reg ?_
                            refine s_pu hF (pu_ieq rfl rfl) rfl ?_; clear hF; intro a hF
                            refine s_pu hF (pu_assign rfl) rfl ?_; clear hF; intro a hF
                            refine c_nil ?_
                            refine n_then ?_
                            refine c_if hF rfl (fun hc85 => ?_) (fun hc85 => ?_)
                            · have hc85k := hc85
                              try simp only [decide_eq_true_eq, decide_eq_false_iff_not, Bool.not_eq_true', Bool.not_eq_false', Bool.not_eq_eq_eq_not, Bool.not_true, Bool.not_false] at hc85
                              have hll := hl2 (by omega)
                              refine c_reg ?_
                              refine s_pu hF (pu_move rfl) rfl ?_; clear hF; intro a hF
                              refine s_pu hF (pu_iaddr_sla (j := 0) ha slt81 rfl rfl (by omega) (by omega)) rfl ?_; clear hF; intro a hF
                              refine s_pu hF (pu_load1 one32 rfl (HH 0 (by omega) _ hS.base)) rfl ?_; clear hF; intro a hF
                              refine s_callv hF hS ok22 rfl (c_RFits _ _ _ _ hS.view) rfl ?_; clear hS hF; intro w a hS hF
                              refine s_pu hF (pu_move rfl) rfl ?_; clear hF; intro a hF
                              refine w_split hF ⟨_, _, (rfl : _[4]? = some _), rfl, rfl⟩ (fun hg28_4 => ?_) (fun hg28_4 => ?_)
                              · have hg28_4p := hg28_4
                                try simp only [decide_eq_true_eq, decide_eq_false_iff_not, Bool.not_eq_true', Bool.not_eq_false', Bool.not_eq_eq_eq_not, Bool.not_true, Bool.not_false] at hg28_4p
                                refine g_pu hF ⟨_, _, (rfl : _[4]? = some _), rfl, rfl⟩ hg28_4 (pu_move rfl) rfl ?_; clear hF; intro a hF
                                refine g_pu hF ⟨_, _, (rfl : _[4]? = some _), rfl, rfl⟩ hg28_4 (pu_iaddr_sla (j := 1) ha slt81 rfl rfl (by omega) (by omega)) rfl ?_; clear hF; intro a hF
                                refine g_pu hF ⟨_, _, (rfl : _[4]? = some _), rfl, rfl⟩ hg28_4 (pu_load1 one32 rfl (HH 1 (by omega) _ hS.base)) rfl ?_; clear hF; intro a hF
                                refine g_callv hF hS ⟨_, _, (rfl : _[4]? = some _), rfl, rfl⟩ hg28_4 ok22 rfl (c_RFits _ _ _ _ hS.view) rfl ?_; clear hS hF; intro w a hS hF
                                refine s_pu hF (pu_pick_t rfl hg28_4 rfl) rfl ?_; clear hF; intro a hF
                                refine s_pu hF (pu_assign rfl) rfl ?_; clear hF; intro a hF
                                refine c_nil ?_
                                refine n_block ?_
                                refine n_then ?_
                                exact ⟨_, _, by first | (rw [rul1 (by omega), all_1 (hl1 (by omega))]) | (rw [rul1 (by omega), all_2 (hl2 (by omega)), hg11_4]; rfl) | (rw [rul2 (by omega), all_2 (hl2 (by omega)), addK, if_pos hc38, hg17_5]; rfl) | (rw [rul2 (by omega), all_2 (hl2 (by omega)), addK, if_neg hc38, hg17_5]; rfl) | (rw [rul3 (by omega)]) | (rw [rul4 (by omega), con_2 (hl2 (by omega)), hg25_7, hg25_13]; rfl) | (rw [rul4 (by omega), con_2 (hl2 (by omega)), hg25_7]; rfl) | (rw [rul5 (by omega), all_2 (hl2 (by omega)), hg28_4]; rfl) | (rw [rul6 (by omega), hg30_4]; rfl), hF.pick (.cons (k := 6) rfl <| .cons (k := 7) rfl <| .nil), hS⟩
                              · have hg28_4p := hg28_4
                                try simp only [decide_eq_true_eq, decide_eq_false_iff_not, Bool.not_eq_true', Bool.not_eq_false', Bool.not_eq_eq_eq_not, Bool.not_true, Bool.not_false] at hg28_4p
                                refine g_no hF ⟨_, _, (rfl : _[4]? = some _), rfl, rfl⟩ hg28_4 rfl ?_; clear hF; intro a hF
                                refine g_no hF ⟨_, _, (rfl : _[4]? = some _), rfl, rfl⟩ hg28_4 rfl ?_; clear hF; intro a hF
                                refine g_no hF ⟨_, _, (rfl : _[4]? = some _), rfl, rfl⟩ hg28_4 rfl ?_; clear hF; intro a hF
                                refine g_no hF ⟨_, _, (rfl : _[4]? = some _), rfl, rfl⟩ hg28_4 rfl ?_; clear hF; intro a hF
                                refine s_pu hF (pu_pick_f rfl hg28_4 rfl) rfl ?_; clear hF; intro a hF
                                refine s_pu hF (pu_assign rfl) rfl ?_; clear hF; intro a hF
                                refine c_nil ?_
                                refine n_block ?_
                                refine n_then ?_
                                exact ⟨_, _, by first | (rw [rul1 (by omega), all_1 (hl1 (by omega))]) | (rw [rul1 (by omega), all_2 (hl2 (by omega)), hg11_4]; rfl) | (rw [rul2 (by omega), all_2 (hl2 (by omega)), addK, if_pos hc38, hg17_5]; rfl) | (rw [rul2 (by omega), all_2 (hl2 (by omega)), addK, if_neg hc38, hg17_5]; rfl) | (rw [rul3 (by omega)]) | (rw [rul4 (by omega), con_2 (hl2 (by omega)), hg25_7, hg25_13]; rfl) | (rw [rul4 (by omega), con_2 (hl2 (by omega)), hg25_7]; rfl) | (rw [rul5 (by omega), all_2 (hl2 (by omega)), hg28_4]; rfl) | (rw [rul6 (by omega), hg30_4]; rfl), hF.pick (.cons (k := 6) rfl <| .cons (k := 7) rfl <| .nil), hS⟩
                            · have hc85k := hc85
                              try simp only [decide_eq_true_eq, decide_eq_false_iff_not, Bool.not_eq_true', Bool.not_eq_false', Bool.not_eq_eq_eq_not, Bool.not_true, Bool.not_false] at hc85
                              refine c_seq ?_
                              refine c_reg ?_
                              refine s_pu hF (pu_ieq rfl rfl) rfl ?_; clear hF; intro a hF
                              refine s_pu hF (pu_assign rfl) rfl ?_; clear hF; intro a hF
                              refine c_nil ?_
                              refine n_then ?_
                              refine c_if hF rfl (fun hc98 => ?_) (fun hc98 => ?_)
                              · try simp only [decide_eq_true_eq, decide_eq_false_iff_not, Bool.not_eq_true', Bool.not_eq_false', Bool.not_eq_eq_eq_not, Bool.not_true, Bool.not_false] at hc98
                                have hll := hl3 (by omega)
                                refine c_seq ?_
                                refine region_st 14 hF hS (allV_ne rfl) mix (by kernel_rfl) fun Γ hG => ?_
                                refine t_pu hG (fun w hC => pu_move rfl) ?_; clear hG; intro Γ hG
                                refine t_pu hG (fun w hC => pu_iaddr_sla (j := 0) ha slt81 rfl rfl (by omega) (by omega)) ?_; clear hG; intro Γ hG
                                refine t_pu hG (fun w hC => pu_load1 one32 rfl (HH 0 (by omega) _ hC.st.base)) ?_; clear hG; intro Γ hG
                                refine t_callv hG ok22 rfl (fun w hS => (c_RFits _ _ _ _ hS.view)) ?_; clear hG; intro Γ hG
                                refine t_pu hG (fun w hC => pu_move rfl) ?_; clear hG; intro Γ hG
                                refine t_split hG ⟨_, _, (rfl : _[4]? = some _), rfl, rfl⟩ (fun hg30_4 => ?_) (fun hg30_4 => ?_)
                                · have hg30_4p := hg30_4
                                  try simp only [decide_eq_true_eq, decide_eq_false_iff_not, Bool.not_eq_true', Bool.not_eq_false', Bool.not_eq_eq_eq_not, Bool.not_true, Bool.not_false] at hg30_4p
                                  refine tg_pu hG ⟨_, _, (rfl : _[4]? = some _), rfl, rfl⟩ hg30_4 (fun w hC => pu_move rfl) ?_; clear hG; intro Γ hG
                                  refine tg_pu hG ⟨_, _, (rfl : _[4]? = some _), rfl, rfl⟩ hg30_4 (fun w hC => pu_iaddr_sla (j := 1) ha slt81 rfl rfl (by omega) (by omega)) ?_; clear hG; intro Γ hG
                                  refine tg_pu hG ⟨_, _, (rfl : _[4]? = some _), rfl, rfl⟩ hg30_4 (fun w hC => pu_load1 one32 rfl (HH 1 (by omega) _ hC.st.base)) ?_; clear hG; intro Γ hG
                                  refine tg_pu hG ⟨_, _, (rfl : _[4]? = some _), rfl, rfl⟩ hg30_4 (fun w hC => pu_move rfl) ?_; clear hG; intro Γ hG
                                  refine tg_pu hG ⟨_, _, (rfl : _[4]? = some _), rfl, rfl⟩ hg30_4 (fun w hC => pu_iaddr_sla (j := 2) ha slt81 rfl rfl (by omega) (by omega)) ?_; clear hG; intro Γ hG
                                  refine tg_pu hG ⟨_, _, (rfl : _[4]? = some _), rfl, rfl⟩ hg30_4 (fun w hC => pu_load1 one32 rfl (HH 2 (by omega) _ hC.st.base)) ?_; clear hG; intro Γ hG
                                  refine tg_callv hG ⟨_, _, (rfl : _[4]? = some _), rfl, rfl⟩ hg30_4 ok22 rfl (fun w hS => (c_RFits _ _ _ _ hS.view)) ?_; clear hG; intro Γ hG
                                  refine t_pu hG (fun w hC => pu_pick_t rfl hg30_4 rfl) ?_; clear hG; intro Γ hG
                                  refine t_pu hG (fun w hC => pu_assign rfl) ?_; clear hG; intro Γ hG
                                  refine t_end hG ?_; clear hG hF; intro a w hC hE hF hP; replace hS := hC.st; clear hC
                                  clear hE
                                  clear hP
                                  refine c_nil ?_
                                  refine n_then ?_
                                  refine region_st 8 hF hS (allV_ne rfl) mix (by kernel_rfl) fun Γ hG => ?_
                                  refine t_pu hG (fun w hC => pu_move rfl) ?_; clear hG; intro Γ hG
                                  refine t_pu hG (fun w hC => pu_iaddr_sla (j := 1) ha slt81 rfl rfl (by omega) (by omega)) ?_; clear hG; intro Γ hG
                                  refine t_pu hG (fun w hC => pu_load1 one32 rfl (HH 1 (by omega) _ hC.st.base)) ?_; clear hG; intro Γ hG
                                  refine t_pu hG (fun w hC => pu_move rfl) ?_; clear hG; intro Γ hG
                                  refine t_pu hG (fun w hC => pu_iaddr_sla (j := 2) ha slt81 rfl rfl (by omega) (by omega)) ?_; clear hG; intro Γ hG
                                  refine t_pu hG (fun w hC => pu_load1 one32 rfl (HH 2 (by omega) _ hC.st.base)) ?_; clear hG; intro Γ hG
                                  refine t_callv hG ok81 rfl (fun w hS => (c_Ror _ _ _ _ hS.view)) ?_; clear hG; intro Γ hG
                                  refine t_pu hG (fun w hC => pu_assign rfl) ?_; clear hG; intro Γ hG
                                  refine t_end hG ?_; clear hG hF; intro a w hC hE hF hP; replace hS := hC.st; clear hC
                                  clear hE
                                  clear hP
                                  refine c_nil ?_
                                  refine n_block ?_
                                  refine n_then ?_
                                  exact ⟨_, _, by first | (rw [rul1 (by omega), all_1 (hl1 (by omega))]) | (rw [rul1 (by omega), all_2 (hl2 (by omega)), hg11_4]; rfl) | (rw [rul2 (by omega), all_2 (hl2 (by omega)), addK, if_pos hc38, hg17_5]; rfl) | (rw [rul2 (by omega), all_2 (hl2 (by omega)), addK, if_neg hc38, hg17_5]; rfl) | (rw [rul3 (by omega)]) | (rw [rul4 (by omega), con_2 (hl2 (by omega)), hg25_7, hg25_13]; rfl) | (rw [rul4 (by omega), con_2 (hl2 (by omega)), hg25_7]; rfl) | (rw [rul5 (by omega), all_2 (hl2 (by omega)), hg28_4]; rfl) | (rw [rul6 (by omega), hg30_4]; rfl), hF.pick (.cons (k := 6) rfl <| .cons (k := 7) rfl <| .nil), hS⟩
                                · have hg30_4p := hg30_4
                                  try simp only [decide_eq_true_eq, decide_eq_false_iff_not, Bool.not_eq_true', Bool.not_eq_false', Bool.not_eq_eq_eq_not, Bool.not_true, Bool.not_false] at hg30_4p
                                  refine tg_no hG ⟨_, _, (rfl : _[4]? = some _), rfl, rfl⟩ hg30_4 ?_; clear hG; intro Γ hG
                                  refine tg_no hG ⟨_, _, (rfl : _[4]? = some _), rfl, rfl⟩ hg30_4 ?_; clear hG; intro Γ hG
                                  refine tg_no hG ⟨_, _, (rfl : _[4]? = some _), rfl, rfl⟩ hg30_4 ?_; clear hG; intro Γ hG
                                  refine tg_no hG ⟨_, _, (rfl : _[4]? = some _), rfl, rfl⟩ hg30_4 ?_; clear hG; intro Γ hG
                                  refine tg_no hG ⟨_, _, (rfl : _[4]? = some _), rfl, rfl⟩ hg30_4 ?_; clear hG; intro Γ hG
                                  refine tg_no hG ⟨_, _, (rfl : _[4]? = some _), rfl, rfl⟩ hg30_4 ?_; clear hG; intro Γ hG
                                  refine tg_no hG ⟨_, _, (rfl : _[4]? = some _), rfl, rfl⟩ hg30_4 ?_; clear hG; intro Γ hG
                                  refine t_pu hG (fun w hC => pu_pick_f rfl hg30_4 rfl) ?_; clear hG; intro Γ hG
                                  refine t_pu hG (fun w hC => pu_assign rfl) ?_; clear hG; intro Γ hG
                                  refine t_end hG ?_; clear hG hF; intro a w hC hE hF hP; replace hS := hC.st; clear hC
                                  clear hE
                                  clear hP
                                  refine c_nil ?_
                                  refine n_then ?_
                                  refine region_st 8 hF hS (allV_ne rfl) mix (by kernel_rfl) fun Γ hG => ?_
                                  refine t_pu hG (fun w hC => pu_move rfl) ?_; clear hG; intro Γ hG
                                  refine t_pu hG (fun w hC => pu_iaddr_sla (j := 1) ha slt81 rfl rfl (by omega) (by omega)) ?_; clear hG; intro Γ hG
                                  refine t_pu hG (fun w hC => pu_load1 one32 rfl (HH 1 (by omega) _ hC.st.base)) ?_; clear hG; intro Γ hG
                                  refine t_pu hG (fun w hC => pu_move rfl) ?_; clear hG; intro Γ hG
                                  refine t_pu hG (fun w hC => pu_iaddr_sla (j := 2) ha slt81 rfl rfl (by omega) (by omega)) ?_; clear hG; intro Γ hG
                                  refine t_pu hG (fun w hC => pu_load1 one32 rfl (HH 2 (by omega) _ hC.st.base)) ?_; clear hG; intro Γ hG
                                  refine t_callv hG ok81 rfl (fun w hS => (c_Ror _ _ _ _ hS.view)) ?_; clear hG; intro Γ hG
                                  refine t_pu hG (fun w hC => pu_assign rfl) ?_; clear hG; intro Γ hG
                                  refine t_end hG ?_; clear hG hF; intro a w hC hE hF hP; replace hS := hC.st; clear hC
                                  clear hE
                                  clear hP
                                  refine c_nil ?_
                                  refine n_block ?_
                                  refine n_then ?_
                                  exact ⟨_, _, by first | (rw [rul1 (by omega), all_1 (hl1 (by omega))]) | (rw [rul1 (by omega), all_2 (hl2 (by omega)), hg11_4]; rfl) | (rw [rul2 (by omega), all_2 (hl2 (by omega)), addK, if_pos hc38, hg17_5]; rfl) | (rw [rul2 (by omega), all_2 (hl2 (by omega)), addK, if_neg hc38, hg17_5]; rfl) | (rw [rul3 (by omega)]) | (rw [rul4 (by omega), con_2 (hl2 (by omega)), hg25_7, hg25_13]; rfl) | (rw [rul4 (by omega), con_2 (hl2 (by omega)), hg25_7]; rfl) | (rw [rul5 (by omega), all_2 (hl2 (by omega)), hg28_4]; rfl) | (rw [rul6 (by omega), hg30_4]; rfl), hF.pick (.cons (k := 6) rfl <| .cons (k := 7) rfl <| .nil), hS⟩
                              · try simp only [decide_eq_true_eq, decide_eq_false_iff_not, Bool.not_eq_true', Bool.not_eq_false', Bool.not_eq_eq_eq_not, Bool.not_true, Bool.not_false] at hc98
                                exact absurd hop (by omega)
  · subst hOK32 hFK32 hLK32
    rintro a w ⟨r, o, hro, hF, hS⟩
    refine c_seq ?_
    refine c_seq ?_
    refine c_reg ?_
    refine s_pu hF (pu_move rfl) rfl ?_; clear hF; intro a hF
    refine s_pu hF (pu_not rfl) rfl ?_; clear hF; intro a hF
    refine c_nil ?_
    refine n_then ?_
    refine c_if hF rfl (fun hc121 => ?_) (fun hc121 => ?_)
    · try simp only [decide_eq_true_eq, decide_eq_false_iff_not, Bool.not_eq_true', Bool.not_eq_false', Bool.not_eq_eq_eq_not, Bool.not_true, Bool.not_false] at hc121
      refine c_seq ?_
      refine c_reg ?_
      refine s_pu hF (pu_assign rfl) rfl ?_; clear hF; intro a hF
      refine s_pu hF (pu_assign rfl) rfl ?_; clear hF; intro a hF
      refine c_nil ?_
      refine n_then ?_
      refine c_ret (r_then ?_)
      exact f_ret hF rfl (.tmp rfl (.tmp rfl (.nil))) (hS.retv (by rw [← hro, ofK, if_neg (by simp [hc121])]; rfl))
    · try simp only [decide_eq_true_eq, decide_eq_false_iff_not, Bool.not_eq_true', Bool.not_eq_false', Bool.not_eq_eq_eq_not, Bool.not_true, Bool.not_false] at hc121
      refine c_skip ?_
      refine n_then ?_
      refine c_seq ?_
      refine c_reg ?_
      refine s_pu hF (pu_move rfl) rfl ?_; clear hF; intro a hF
      refine s_pu hF (pu_assign rfl) rfl ?_; clear hF; intro a hF
      refine s_pu hF (pu_assign rfl) rfl ?_; clear hF; intro a hF
      refine c_nil ?_
      refine n_then ?_
      refine c_ret ?_
      exact f_ret hF rfl (.tmp rfl (.tmp rfl (.nil))) (hS.retv (by rw [← hro, ofK, if_pos (by simpa using hc121)]; rfl))
end Go.Proofs.Ytjidmighkphmkaa
