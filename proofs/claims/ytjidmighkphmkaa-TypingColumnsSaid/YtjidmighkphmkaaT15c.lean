/- What the functions of the program compute, each with its conditions. -/
import Derived.Test.YtjidmighkphmkaaT15b
set_option linter.unusedSimpArgs false
set_option linter.unusedVariables false
namespace Go.Proofs.Ytjidmighkphmkaa
open Go Go.Dx Go.RowKit
set_option maxHeartbeats 2000000 in
theorem c_kind_ (adc : Option Addr) (capc : Nat) (cl : List Col) (hfew : ∀ j, j < cl.length → (cl.getD j c0).name.length ≤ 300) (x : Ex) (ad : Option Addr) (cap : Nat) (ih : ∀ y ∈ x.l, ∀ (ad : Option Addr) (cap : Nat) (w : World) (h0 : View), VLe h0 (Full w) → GX h0 ad cap y → rightS y = true → SlC 0 3 (flatR colC) h0 (.slice adc cl.length capc) cl → Calls Try.prog 37 #[Value.agg (exC y.op y.v y.s (.slice ad y.l.length cap)).toArray, .slice adc cl.length capc] w (Ret w h0 fun u _ => u = .tuple #[.int .i64 (kindS cl y).1, .int .i64 (kindS cl y).2])) (w0 : World) (h0 : View) (hv : VLe h0 (Full w0)) (hx : GX h0 ad cap x) (hr : rightS x = true) (hcl : SlC 0 3 (flatR colC) h0 (.slice adc cl.length capc) cl) : Calls Try.prog 37 #[Value.agg (exC x.op x.v x.s (.slice ad x.l.length cap)).toArray, .slice adc cl.length capc] w0 (Ret w0 h0 fun u _ => u = .tuple #[.int .i64 (kindS cl x).1, .int .i64 (kindS cl x).2]) := by
  refine f_enter (args := [Value.agg (exC x.op x.v x.s (.slice ad x.l.length cap)).toArray, .slice adc cl.length capc]) Try.func37 rfl Try.ntmps37 rfl fun a hF => ?_
  have hS := St.init w0 h0 hv
  have hlm := hx.xl.lm
  have hcm := hcl.lm
  have hsm := hx.sm.parts.2.2.1
  refine c_seq ?_
  refine c_reg ?_
  refine s_box hF hS rfl rfl rfl ?_; clear hS hF; intro b0 w a hS hF
  refine s_pu hF (pu_assign rfl) rfl ?_; clear hF; intro a hF
  refine s_pu hF (pu_assign rfl) rfl ?_; clear hF; intro a hF
  refine c_nil ?_
  refine n_then ?_
  refine c_seq ?_
  refine c_seq ?_
  refine c_reg ?_
  refine s_pu hF (pu_faddr fld37_0 rfl) rfl ?_; clear hF; intro a hF
  refine s_pu hF (o_load1 (i := 0) hS rfl one31 rfl rfl) rfl ?_; clear hF; intro a hF
  refine c_nil ?_
  refine n_then ?_
  refine c_block ?_
  refine c_seq ?_
  refine c_reg ?_
  refine s_pu hF (pu_ieq rfl rfl) rfl ?_; clear hF; intro a hF
  refine s_pu hF (pu_assign rfl) rfl ?_; clear hF; intro a hF
  refine c_nil ?_
  refine n_then ?_
  refine c_if hF rfl (fun hc16 => ?_) (fun hc16 => ?_)
  · try simp only [decide_eq_true_eq, decide_eq_false_iff_not, Bool.not_eq_true', Bool.not_eq_false', Bool.not_eq_eq_eq_not, Bool.not_true, Bool.not_false] at hc16
    refine c_seq ?_
    refine c_reg ?_
    refine s_pu hF (pu_faddr fld37_1 rfl) rfl ?_; clear hF; intro a hF
    refine s_pu hF (pu_faddr fld34_0 rfl) rfl ?_; clear hF; intro a hF
    refine s_pu hF (o_load1 (i := 0) hS rfl one32 rfl rfl) rfl ?_; clear hF; intro a hF
    refine s_pu hF (pu_assign rfl) rfl ?_; clear hF; intro a hF
    refine s_pu hF (pu_assign rfl) rfl ?_; clear hF; intro a hF
    refine c_nil ?_
    refine n_then ?_
    refine c_ret (r_block (r_then ?_))
    exact f_ret hF rfl (.tmp rfl (.tmp rfl (.nil))) (hS.retv (by rw [kind_eq cl x, if_pos hc16]; rfl))
  · try simp only [decide_eq_true_eq, decide_eq_false_iff_not, Bool.not_eq_true', Bool.not_eq_false', Bool.not_eq_eq_eq_not, Bool.not_true, Bool.not_false] at hc16
    refine c_seq ?_
    refine c_reg ?_
    refine s_pu hF (pu_ieq rfl rfl) rfl ?_; clear hF; intro a hF
    refine s_pu hF (pu_assign rfl) rfl ?_; clear hF; intro a hF
    refine c_nil ?_
    refine n_then ?_
    refine c_if hF rfl (fun hc21 => ?_) (fun hc21 => ?_)
    · try simp only [decide_eq_true_eq, decide_eq_false_iff_not, Bool.not_eq_true', Bool.not_eq_false', Bool.not_eq_eq_eq_not, Bool.not_true, Bool.not_false] at hc21
      refine c_seq ?_
      refine c_reg ?_
      refine s_pu hF (pu_move rfl) rfl ?_; clear hF; intro a hF
      refine s_pu hF (pu_faddr fld37_2 rfl) rfl ?_; clear hF; intro a hF
      refine s_pu hF (o_load1 (i := 0) hS rfl one9 rfl rfl) rfl ?_; clear hF; intro a hF
      refine s_calld hF hS ok40 rfl (c_at_ adc capc cl x.s _ h0 hS.base hcl) rfl ?_; clear hS hF; intro w a hS hF
      refine s_pu hF (pu_assign rfl) rfl ?_; clear hF; intro a hF
      refine c_nil ?_
      refine n_then ?_
      refine c_seq ?_
      refine c_seq ?_
      refine c_reg ?_
      refine s_pu hF (pu_move rfl) rfl ?_; clear hF; intro a hF
      refine s_pu hF (pu_ilt rfl rfl) rfl ?_; clear hF; intro a hF
      refine c_nil ?_
      refine n_then ?_
      refine c_if hF rfl (fun hc28 => ?_) (fun hc28 => ?_)
      · try simp only [decide_eq_true_eq, decide_eq_false_iff_not, Bool.not_eq_true', Bool.not_eq_false', Bool.not_eq_eq_eq_not, Bool.not_true, Bool.not_false] at hc28
        refine c_seq ?_
        refine c_reg ?_
        refine s_pu hF (pu_assign rfl) rfl ?_; clear hF; intro a hF
        refine s_pu hF (pu_assign rfl) rfl ?_; clear hF; intro a hF
        refine c_nil ?_
        refine n_then ?_
        refine c_ret (r_then (r_block (r_then ?_)))
        exact f_ret hF rfl (.tmp rfl (.tmp rfl (.nil))) (hS.retv (by rw [kind_eq cl x, if_neg hc16, if_pos hc21, if_pos hc28]; rfl))
      · try simp only [decide_eq_true_eq, decide_eq_false_iff_not, Bool.not_eq_true', Bool.not_eq_false', Bool.not_eq_eq_eq_not, Bool.not_true, Bool.not_false] at hc28
        obtain ⟨m, hm, hml⟩ := at_get hc28
        obtain ⟨g2, oc, hac, HC⟩ := hcl.at (i := m) (x := cl.getD m c0) (by rw [getD_lt cl m c0 hml]; exact List.getElem?_eq_getElem hml)
        rw [hm] at hF
        refine c_skip ?_
        refine n_then ?_
        refine c_seq ?_
        refine c_reg ?_
        refine s_pu hF (pu_move rfl) rfl ?_; clear hF; intro a hF
        refine s_pu hF (pu_move rfl) rfl ?_; clear hF; intro a hF
        refine s_pu hF (pu_iaddr_sla (j := m) hac slt38 rfl rfl (by omega) (by omega)) rfl ?_; clear hF; intro a hF
        refine s_pu hF (pu_faddr fld58_1 rfl) rfl ?_; clear hF; intro a hF
        refine s_pu hF (pu_load1 one32 rfl (HC _ hS.base 1 _ rfl)) rfl ?_; clear hF; intro a hF
        refine s_pu hF (pu_assign rfl) rfl ?_; clear hF; intro a hF
        refine s_pu hF (pu_assign rfl) rfl ?_; clear hF; intro a hF
        refine c_nil ?_
        refine n_then ?_
        refine c_ret (r_block (r_then ?_))
        exact f_ret hF rfl (.tmp rfl (.tmp rfl (.nil))) (hS.retv (by rw [kind_eq cl x, if_neg hc16, if_pos hc21, if_neg hc28, hm]; rfl))
    · try simp only [decide_eq_true_eq, decide_eq_false_iff_not, Bool.not_eq_true', Bool.not_eq_false', Bool.not_eq_eq_eq_not, Bool.not_true, Bool.not_false] at hc21
      obtain ⟨hop, hlen, hch⟩ := right_sub hr hc16 hc21
      refine c_skip ?_
      refine n_block ?_
      refine n_then ?_
      refine c_seq ?_
      refine c_reg ?_
      refine s_pu hF (pu_assign rfl) rfl ?_; clear hF; intro a hF
      replace hS := hS.newNil 32 1
      refine c_nil ?_
      refine n_then ?_
      refine c_seq ?_
      refine c_seq ?_
      refine c_reg ?_
      refine s_pu hF (pu_faddr fld37_3 rfl) rfl ?_; clear hF; intro a hF
      refine s_pu hF (o_load1 (i := 1) hS rfl one35 rfl rfl) rfl ?_; clear hF; intro a hF
      refine s_pu hF (pu_len_sl tyL35 rfl rfl) rfl ?_; clear hF; intro a hF
      refine s_pu hF (pu_move rfl) rfl ?_; clear hF; intro a hF
      refine c_nil ?_
      refine n_then ?_
      refine c_block ?_
      refine hS.cut fun O0 F0 hO0 hF0 hS => ?_
      subst hO0
      refine hF.cut (.cons (k := 7) rfl <| .cons (k := 37) rfl <| .nil) (.cons (k := 1) rfl <| .cons (k := 2) rfl <| .cons (k := 35) rfl <| .cons (k := 36) rfl <| .nil) fun L0 hL0 hF => ?_
      refine c_loop (α := Nat) (fun k a w => ∃ a0 c, k ≤ x.l.length ∧ (∀ j, j < k → (kindS cl (x.l.getD j ex0)).2 = 0) ∧ Fr a 65 ([(7, .val (.slice a0 k c)), (37, .val (.int .i64 (k : Nat)))] ++ L0) ∧ St w0 h0 [] w [bufE 32 1 (.slice a0 k c) (((x.l.take k).map fun y => (kindS cl y).1).map fun n => [Value.int .i64 n]).flatten, (some b0, CellsC 37 (exC x.op x.v x.s (.slice ad x.l.length cap)))] F0) (fun k => x.l.length - k) 0 (⟨none, 0, Nat.zero_le _, fun j hj => absurd hj (Nat.not_lt_zero j), hF, hS⟩) ?_
      subst hF0 hL0
      rintro k a w ⟨a0, c, hk, hn, hF, hS⟩
      refine c_seq ?_
      refine c_reg ?_
      refine s_pu hF (pu_ilt rfl rfl) rfl ?_; clear hF; intro a hF
      refine c_nil ?_
      refine n_then ?_
      refine c_seq ?_
      refine c_if hF rfl (fun hc38 => ?_) (fun hc38 => ?_)
      · try simp only [decide_eq_true_eq, decide_eq_false_iff_not, Bool.not_eq_true', Bool.not_eq_false', Bool.not_eq_eq_eq_not, Bool.not_true, Bool.not_false] at hc38
        obtain ⟨g1, o, ad2, cap2, ha, hgx, HX⟩ := hx.gl.at (i := k) (by omega)
        refine c_skip ?_
        refine n_then ?_
        refine c_seq ?_
        refine c_block ?_
        refine c_seq ?_
        refine c_reg ?_
        refine s_pu hF (pu_iaddr_sla (j := k) ha slt35 rfl rfl (by omega) (by omega)) rfl ?_; clear hF; intro a hF
        refine s_pu hF (pu_loadA (cs := (exC (x.l.getD k ex0).op (x.l.getD k ex0).v (x.l.getD k ex0).s (.slice ad2 (x.l.getD k ex0).l.length cap2))) agg37 rfl (fun j v hj => by rw [add_mk]; exact HX _ hS.base j v hj)) rfl ?_; clear hF; intro a hF
        refine s_alloc hF hS zero37 rfl ?_; clear hS hF; intro b2 w a hS hF
        refine s_store (i := 0) (new := exC (x.l.getD k ex0).op (x.l.getD k ex0).v (x.l.getD k ex0).s (.slice ad2 (x.l.getD k ex0).l.length cap2)) hF hS rfl rfl rfl rfl (by exact sz37) rfl (by simp [exC]) ?_; clear hS hF; intro w a hS hF
        rw [spl_all (by simp [exC])] at hS
        refine c_nil ?_
        refine n_then ?_
        refine c_seq ?_
        refine c_reg ?_
        refine s_pu hF (o_loadA (i := 0) (new := exC (x.l.getD k ex0).op (x.l.getD k ex0).v (x.l.getD k ex0).s (.slice ad2 (x.l.getD k ex0).l.length cap2)) hS rfl agg37 rfl (rfl)) rfl ?_; clear hF; intro a hF
        refine s_pu hF (pu_move rfl) rfl ?_; clear hF; intro a hF
        refine s_calld hF hS ok37 rfl (ih (x.l.getD k ex0) (getD_mem x.l k ex0 (by omega)) ad2 cap2 _ h0 hS.base hgx (hch _ (getD_mem x.l k ex0 (by omega))) hcl) rfl ?_; clear hS hF; intro w a hS hF
        refine s_pu hF (pu_move rfl) rfl ?_; clear hF; intro a hF
        refine s_pu hF (pu_extract rfl rfl) rfl ?_; clear hF; intro a hF
        refine s_pu hF (pu_extract rfl rfl) rfl ?_; clear hF; intro a hF
        refine s_pu hF (pu_assign rfl) rfl ?_; clear hF; intro a hF
        refine s_pu hF (pu_assign rfl) rfl ?_; clear hF; intro a hF
        refine c_nil ?_
        refine n_then ?_
        refine c_seq ?_
        refine c_seq ?_
        refine c_reg ?_
        refine s_pu hF (pu_move rfl) rfl ?_; clear hF; intro a hF
        refine s_pu hF (pu_ine rfl rfl) rfl ?_; clear hF; intro a hF
        refine c_nil ?_
        refine n_then ?_
        refine c_if hF rfl (fun hc48 => ?_) (fun hc48 => ?_)
        · try simp only [decide_eq_true_eq, decide_eq_false_iff_not, Bool.not_eq_true', Bool.not_eq_false', Bool.not_eq_eq_eq_not, Bool.not_true, Bool.not_false] at hc48
          refine c_seq ?_
          refine c_reg ?_
          refine s_pu hF (pu_move rfl) rfl ?_; clear hF; intro a hF
          refine s_pu hF (pu_assign rfl) rfl ?_; clear hF; intro a hF
          refine s_pu hF (pu_assign rfl) rfl ?_; clear hF; intro a hF
          refine c_nil ?_
          refine n_then ?_
          refine c_ret (r_then (r_block (r_then (r_then (r_block (r_then ?_))))))
          exact f_ret hF rfl (.tmp rfl (.tmp rfl (.nil))) (hS.retv (by rw [kind_er hc16 hc21 (by omega) hn hc48]; rfl))
        · try simp only [decide_eq_true_eq, decide_eq_false_iff_not, Bool.not_eq_true', Bool.not_eq_false', Bool.not_eq_eq_eq_not, Bool.not_true, Bool.not_false] at hc48
          refine c_skip ?_
          refine n_then ?_
          refine c_reg ?_
          refine s_pu hF (pu_move rfl) rfl ?_; clear hF; intro a hF
          refine s_pu hF (pu_move rfl) rfl ?_; clear hF; intro a hF
          refine s_build (xs := [.tmp 51]) hF hS slt_b81 rfl rfl (by simp [Value.cells]) (by decide) rfl ?_; clear hS hF; intro b3 w a hS hF
          refine s_append (i := 2) hF hS rfl slt_a81_81 rfl rfl (Src.own (hS.at (i := 0) rfl) rfl rfl) (by rw [flat1_len, List.length_map, List.length_take]; simp [cellsL, Value.cells]; omega) rfl ?_; clear hS hF; intro a0 nn c0 w a hnn hS hF
          refine s_pu hF (pu_assign rfl) rfl ?_; clear hF; intro a hF
          refine c_nil ?_
          refine n_block ?_
          refine n_then ?_
          refine c_reg ?_
          refine s_pu hF (pu_add rfl rfl (by first | exact wrap_i64 (by omega) (by omega) | rfl)) rfl ?_; clear hF; intro a hF
          refine s_pu hF (pu_move rfl) rfl ?_; clear hF; intro a hF
          refine c_nil ?_
          have hnn2 : nn = k + 1 := by (rw [flat1_len, List.length_map, List.length_take] at hnn; simp [cellsL, Value.cells] at hnn; omega)
          subst hnn2
          replace hS := (hS.forget 0).forget 0
          refine ⟨k + 1, ⟨a0, c0, by omega, upto_snoc hn hc48, hF.pick (.cons (k := 7) rfl <| .cons (k := 37) rfl <| .cons (k := 1) rfl <| .cons (k := 2) rfl <| .cons (k := 35) rfl <| .cons (k := 36) rfl <| .nil), ?_⟩, by omega⟩
          rw [take_snocD x.l k ex0 (by omega), List.map_append, List.map_append, List.flatten_append]
          exact hS
      · try simp only [decide_eq_true_eq, decide_eq_false_iff_not, Bool.not_eq_true', Bool.not_eq_false', Bool.not_eq_eq_eq_not, Bool.not_true, Bool.not_false] at hc38
        obtain rfl : k = x.l.length := by omega
        rw [List.take_length] at hS
        refine c_exit (x_then (x_then (x_here ?_)))
        refine n_then ?_
        refine c_seq ?_
        refine c_reg ?_
        refine s_pu hF (pu_faddr fld37_0 rfl) rfl ?_; clear hF; intro a hF
        refine s_pu hF (o_load1 (i := 1) hS rfl one31 rfl rfl) rfl ?_; clear hF; intro a hF
        refine s_pu hF (pu_move rfl) rfl ?_; clear hF; intro a hF
        have hbs := hS.bufSl (i := 0) rfl (fun _ _ => rfl) (by simp)
        refine s_calld hF hS ok59 rfl (c_rule x.op a0 c x.l.length (x.l.map fun y => (kindS cl y).1) (by simp) hop (by simpa using hlen) _ (Full _) (VLe.refl _) hbs) rfl ?_; clear hS hF hbs; intro w a hS hF
        refine s_pu hF (pu_move rfl) rfl ?_; clear hF; intro a hF
        refine s_pu hF (pu_extract rfl rfl) rfl ?_; clear hF; intro a hF
        refine s_pu hF (pu_extract rfl rfl) rfl ?_; clear hF; intro a hF
        refine s_pu hF (pu_assign rfl) rfl ?_; clear hF; intro a hF
        refine s_pu hF (pu_assign rfl) rfl ?_; clear hF; intro a hF
        refine c_nil ?_
        refine n_then ?_
        refine c_seq ?_
        refine c_seq ?_
        refine c_reg ?_
        refine s_pu hF (pu_move rfl) rfl ?_; clear hF; intro a hF
        refine s_pu hF (pu_not rfl) rfl ?_; clear hF; intro a hF
        refine c_nil ?_
        refine n_then ?_
        refine c_if hF rfl (fun hc63 => ?_) (fun hc63 => ?_)
        · try simp only [decide_eq_true_eq, decide_eq_false_iff_not, Bool.not_eq_true', Bool.not_eq_false', Bool.not_eq_eq_eq_not, Bool.not_true, Bool.not_false] at hc63
          refine c_seq ?_
          refine c_reg ?_
          refine s_pu hF (pu_assign rfl) rfl ?_; clear hF; intro a hF
          refine s_pu hF (pu_assign rfl) rfl ?_; clear hF; intro a hF
          refine c_nil ?_
          refine n_then ?_
          refine c_ret (r_then ?_)
          exact f_ret hF rfl (.tmp rfl (.tmp rfl (.nil))) (hS.retv (by rw [kind_ok hc16 hc21 (fun j hj => hn j (by omega)), ofK, if_neg (by simp [hc63])]; rfl))
        · try simp only [decide_eq_true_eq, decide_eq_false_iff_not, Bool.not_eq_true', Bool.not_eq_false', Bool.not_eq_eq_eq_not, Bool.not_true, Bool.not_false] at hc63
          refine c_skip ?_
          refine n_then ?_
          refine c_seq ?_
          refine c_reg ?_
          refine s_pu hF (pu_move rfl) rfl ?_; clear hF; intro a hF
          refine s_pu hF (pu_assign rfl) rfl ?_; clear hF; intro a hF
          refine s_pu hF (pu_assign rfl) rfl ?_; clear hF; intro a hF
          refine c_nil ?_
          refine n_then ?_
          refine c_ret ?_
          exact f_ret hF rfl (.tmp rfl (.tmp rfl (.nil))) (hS.retv (by rw [kind_ok hc16 hc21 (fun j hj => hn j (by omega)), ofK, if_pos (by simpa using hc63)]; rfl))
theorem c_kind (adc : Option Addr) (capc : Nat) (cl : List Col) (hfew : ∀ j, j < cl.length → (cl.getD j c0).name.length ≤ 300) : ∀ (x : Ex) (ad : Option Addr) (cap : Nat) (w : World) (h0 : View), VLe h0 (Full w) → GX h0 ad cap x → rightS x = true → SlC 0 3 (flatR colC) h0 (.slice adc cl.length capc) cl → Calls Try.prog 37 #[Value.agg (exC x.op x.v x.s (.slice ad x.l.length cap)).toArray, .slice adc cl.length capc] w (Ret w h0 fun u _ => u = .tuple #[.int .i64 (kindS cl x).1, .int .i64 (kindS cl x).2])
  | x, ad, cap, w, h0, hv, hx, hr, hcl => c_kind_ adc capc cl hfew x ad cap (fun y hy ad cap w h0 hv hx hr hcl => c_kind adc capc cl hfew y ad cap w h0 hv hx hr hcl) w h0 hv hx hr hcl
termination_by x => SizeOf.sizeOf x
decreasing_by exact Ex.lt hy

set_option maxHeartbeats 2000000 in
theorem c_Rkind_ (adc : Option Addr) (capc : Nat) (cl : List Col) (hfew : ∀ j, j < cl.length → (cl.getD j c0).name.length ≤ 300) (x : Ex) (ad : Option Addr) (cap : Nat) (ih : ∀ y ∈ x.l, ∀ (ad : Option Addr) (cap : Nat) (w : World) (h0 : View), VLe h0 (Full w) → GX h0 ad cap y → rightS y = true → SlC 0 3 (flatR colC) h0 (.slice adc cl.length capc) cl → Calls Try.prog 39 #[Value.agg (exC y.op y.v y.s (.slice ad y.l.length cap)).toArray, .slice adc cl.length capc] w (Ret w h0 fun u _ => u = .tuple #[.int .i64 (kindS cl y).1, .int .i64 (kindS cl y).2])) (w0 : World) (h0 : View) (hv : VLe h0 (Full w0)) (hx : GX h0 ad cap x) (hr : rightS x = true) (hcl : SlC 0 3 (flatR colC) h0 (.slice adc cl.length capc) cl) : Calls Try.prog 39 #[Value.agg (exC x.op x.v x.s (.slice ad x.l.length cap)).toArray, .slice adc cl.length capc] w0 (Ret w0 h0 fun u _ => u = .tuple #[.int .i64 (kindS cl x).1, .int .i64 (kindS cl x).2]) := by
  refine f_enter (args := [Value.agg (exC x.op x.v x.s (.slice ad x.l.length cap)).toArray, .slice adc cl.length capc]) Try.func39 rfl Try.ntmps39 rfl fun a hF => ?_
  have hS := St.init w0 h0 hv
  have hlm := hx.xl.lm
  have hcm := hcl.lm
  have hsm := hx.sm.parts.2.2.1
  refine c_seq ?_
  refine c_reg ?_
  refine s_box hF hS rfl rfl rfl ?_; clear hS hF; intro b0 w a hS hF
  refine s_pu hF (pu_assign rfl) rfl ?_; clear hF; intro a hF
  refine s_pu hF (pu_assign rfl) rfl ?_; clear hF; intro a hF
  refine c_nil ?_
  refine n_then ?_
  refine c_seq ?_
  refine c_seq ?_
  refine c_reg ?_
  refine s_pu hF (pu_faddr fld37_0 rfl) rfl ?_; clear hF; intro a hF
  refine s_pu hF (o_load1 (i := 0) hS rfl one31 rfl rfl) rfl ?_; clear hF; intro a hF
  refine c_nil ?_
  refine n_then ?_
  refine c_block ?_
  refine c_seq ?_
  refine c_reg ?_
  refine s_pu hF (pu_ieq rfl rfl) rfl ?_; clear hF; intro a hF
  refine s_pu hF (pu_assign rfl) rfl ?_; clear hF; intro a hF
  refine c_nil ?_
  refine n_then ?_
  refine c_if hF rfl (fun hc13 => ?_) (fun hc13 => ?_)
  · try simp only [decide_eq_true_eq, decide_eq_false_iff_not, Bool.not_eq_true', Bool.not_eq_false', Bool.not_eq_eq_eq_not, Bool.not_true, Bool.not_false] at hc13
    refine c_seq ?_
    refine c_reg ?_
    refine s_pu hF (pu_faddr fld37_1 rfl) rfl ?_; clear hF; intro a hF
    refine s_pu hF (pu_faddr fld34_0 rfl) rfl ?_; clear hF; intro a hF
    refine s_pu hF (o_load1 (i := 0) hS rfl one32 rfl rfl) rfl ?_; clear hF; intro a hF
    refine s_pu hF (pu_assign rfl) rfl ?_; clear hF; intro a hF
    refine s_pu hF (pu_assign rfl) rfl ?_; clear hF; intro a hF
    refine c_nil ?_
    refine n_then ?_
    refine c_ret (r_block (r_then ?_))
    exact f_ret hF rfl (.tmp rfl (.tmp rfl (.nil))) (hS.retv (by rw [kind_eq cl x, if_pos hc13]; rfl))
  · try simp only [decide_eq_true_eq, decide_eq_false_iff_not, Bool.not_eq_true', Bool.not_eq_false', Bool.not_eq_eq_eq_not, Bool.not_true, Bool.not_false] at hc13
    refine c_seq ?_
    refine c_reg ?_
    refine s_pu hF (pu_ieq rfl rfl) rfl ?_; clear hF; intro a hF
    refine s_pu hF (pu_assign rfl) rfl ?_; clear hF; intro a hF
    refine c_nil ?_
    refine n_then ?_
    refine c_if hF rfl (fun hc18 => ?_) (fun hc18 => ?_)
    · try simp only [decide_eq_true_eq, decide_eq_false_iff_not, Bool.not_eq_true', Bool.not_eq_false', Bool.not_eq_eq_eq_not, Bool.not_true, Bool.not_false] at hc18
      refine c_seq ?_
      refine c_reg ?_
      refine s_pu hF (pu_move rfl) rfl ?_; clear hF; intro a hF
      refine s_pu hF (pu_faddr fld37_2 rfl) rfl ?_; clear hF; intro a hF
      refine s_pu hF (o_load1 (i := 0) hS rfl one9 rfl rfl) rfl ?_; clear hF; intro a hF
      refine s_calld hF hS ok41 rfl (c_RAt adc capc cl x.s _ h0 hS.base hcl) rfl ?_; clear hS hF; intro w a hS hF
      refine s_pu hF (pu_assign rfl) rfl ?_; clear hF; intro a hF
      refine c_nil ?_
      refine n_then ?_
      refine c_seq ?_
      refine c_seq ?_
      refine c_reg ?_
      refine s_pu hF (pu_move rfl) rfl ?_; clear hF; intro a hF
      refine s_pu hF (pu_ilt rfl rfl) rfl ?_; clear hF; intro a hF
      refine c_nil ?_
      refine n_then ?_
      refine c_if hF rfl (fun hc25 => ?_) (fun hc25 => ?_)
      · try simp only [decide_eq_true_eq, decide_eq_false_iff_not, Bool.not_eq_true', Bool.not_eq_false', Bool.not_eq_eq_eq_not, Bool.not_true, Bool.not_false] at hc25
        refine c_seq ?_
        refine c_reg ?_
        refine s_pu hF (pu_assign rfl) rfl ?_; clear hF; intro a hF
        refine s_pu hF (pu_assign rfl) rfl ?_; clear hF; intro a hF
        refine c_nil ?_
        refine n_then ?_
        refine c_ret (r_then (r_block (r_then ?_)))
        exact f_ret hF rfl (.tmp rfl (.tmp rfl (.nil))) (hS.retv (by rw [kind_eq cl x, if_neg hc13, if_pos hc18, if_pos hc25]; rfl))
      · try simp only [decide_eq_true_eq, decide_eq_false_iff_not, Bool.not_eq_true', Bool.not_eq_false', Bool.not_eq_eq_eq_not, Bool.not_true, Bool.not_false] at hc25
        obtain ⟨m, hm, hml⟩ := at_get hc25
        obtain ⟨g2, oc, hac, HC⟩ := hcl.at (i := m) (x := cl.getD m c0) (by rw [getD_lt cl m c0 hml]; exact List.getElem?_eq_getElem hml)
        rw [hm] at hF
        refine c_skip ?_
        refine n_then ?_
        refine c_seq ?_
        refine c_reg ?_
        refine s_pu hF (pu_move rfl) rfl ?_; clear hF; intro a hF
        refine s_pu hF (pu_move rfl) rfl ?_; clear hF; intro a hF
        refine s_pu hF (pu_iaddr_sla (j := m) hac slt38 rfl rfl (by omega) (by omega)) rfl ?_; clear hF; intro a hF
        refine s_pu hF (pu_faddr fld58_1 rfl) rfl ?_; clear hF; intro a hF
        refine s_pu hF (pu_load1 one32 rfl (HC _ hS.base 1 _ rfl)) rfl ?_; clear hF; intro a hF
        refine s_pu hF (pu_assign rfl) rfl ?_; clear hF; intro a hF
        refine s_pu hF (pu_assign rfl) rfl ?_; clear hF; intro a hF
        refine c_nil ?_
        refine n_then ?_
        refine c_ret (r_block (r_then ?_))
        exact f_ret hF rfl (.tmp rfl (.tmp rfl (.nil))) (hS.retv (by rw [kind_eq cl x, if_neg hc13, if_pos hc18, if_neg hc25, hm]; rfl))
    · try simp only [decide_eq_true_eq, decide_eq_false_iff_not, Bool.not_eq_true', Bool.not_eq_false', Bool.not_eq_eq_eq_not, Bool.not_true, Bool.not_false] at hc18
      obtain ⟨hop, hlen, hch⟩ := right_sub hr hc13 hc18
      refine c_skip ?_
      refine n_block ?_
      refine n_then ?_
      refine c_seq ?_
      refine c_reg ?_
      refine s_pu hF (pu_assign rfl) rfl ?_; clear hF; intro a hF
      replace hS := hS.newNil 32 1
      refine c_nil ?_
      refine n_then ?_
      refine c_seq ?_
      refine c_seq ?_
      refine c_reg ?_
      refine s_pu hF (pu_assign rfl) rfl ?_; clear hF; intro a hF
      refine c_nil ?_
      refine n_then ?_
      refine c_block ?_
      refine hS.cut fun O0 F0 hO0 hF0 hS => ?_
      subst hO0
      refine hF.cut (.cons (k := 7) rfl <| .cons (k := 8) rfl <| .nil) (.cons (k := 1) rfl <| .cons (k := 2) rfl <| .nil) fun L0 hL0 hF => ?_
      refine c_loop (α := Nat) (fun k a w => ∃ a0 c, k ≤ x.l.length ∧ (∀ j, j < k → (kindS cl (x.l.getD j ex0)).2 = 0) ∧ Fr a 61 ([(7, .val (.slice a0 k c)), (8, .val (.int .i64 (k : Nat)))] ++ L0) ∧ St w0 h0 [] w [bufE 32 1 (.slice a0 k c) (((x.l.take k).map fun y => (kindS cl y).1).map fun n => [Value.int .i64 n]).flatten, (some b0, CellsC 37 (exC x.op x.v x.s (.slice ad x.l.length cap)))] F0) (fun k => x.l.length - k) 0 (⟨none, 0, Nat.zero_le _, fun j hj => absurd hj (Nat.not_lt_zero j), hF, hS⟩) ?_
      subst hF0 hL0
      rintro k a w ⟨a0, c, hk, hn, hF, hS⟩
      refine c_seq ?_
      refine c_seq ?_
      refine c_reg ?_
      refine s_pu hF (pu_move rfl) rfl ?_; clear hF; intro a hF
      refine s_pu hF (pu_faddr fld37_3 rfl) rfl ?_; clear hF; intro a hF
      refine s_pu hF (o_load1 (i := 1) hS rfl one35 rfl rfl) rfl ?_; clear hF; intro a hF
      refine s_pu hF (pu_len_sl tyL35 rfl rfl) rfl ?_; clear hF; intro a hF
      refine s_pu hF (pu_ilt rfl rfl) rfl ?_; clear hF; intro a hF
      refine c_nil ?_
      refine n_then ?_
      refine c_if hF rfl (fun hc35 => ?_) (fun hc35 => ?_)
      · try simp only [decide_eq_true_eq, decide_eq_false_iff_not, Bool.not_eq_true', Bool.not_eq_false', Bool.not_eq_eq_eq_not, Bool.not_true, Bool.not_false] at hc35
        obtain ⟨g1, o, ad2, cap2, ha, hgx, HX⟩ := hx.gl.at (i := k) (by omega)
        refine c_skip ?_
        refine n_then ?_
        refine c_seq ?_
        refine c_block ?_
        refine c_seq ?_
        refine c_reg ?_
        refine s_pu hF (pu_faddr fld37_3 rfl) rfl ?_; clear hF; intro a hF
        refine s_pu hF (o_load1 (i := 1) hS rfl one35 rfl rfl) rfl ?_; clear hF; intro a hF
        refine s_pu hF (pu_move rfl) rfl ?_; clear hF; intro a hF
        refine s_pu hF (pu_iaddr_sla (j := k) ha slt35 rfl rfl (by omega) (by omega)) rfl ?_; clear hF; intro a hF
        refine s_pu hF (pu_loadA (cs := (exC (x.l.getD k ex0).op (x.l.getD k ex0).v (x.l.getD k ex0).s (.slice ad2 (x.l.getD k ex0).l.length cap2))) agg37 rfl (fun j v hj => by rw [add_mk]; exact HX _ hS.base j v hj)) rfl ?_; clear hF; intro a hF
        refine s_pu hF (pu_move rfl) rfl ?_; clear hF; intro a hF
        refine s_calld hF hS ok39 rfl (ih (x.l.getD k ex0) (getD_mem x.l k ex0 (by omega)) ad2 cap2 _ h0 hS.base hgx (hch _ (getD_mem x.l k ex0 (by omega))) hcl) rfl ?_; clear hS hF; intro w a hS hF
        refine s_pu hF (pu_move rfl) rfl ?_; clear hF; intro a hF
        refine s_pu hF (pu_extract rfl rfl) rfl ?_; clear hF; intro a hF
        refine s_pu hF (pu_extract rfl rfl) rfl ?_; clear hF; intro a hF
        refine s_pu hF (pu_assign rfl) rfl ?_; clear hF; intro a hF
        refine s_pu hF (pu_assign rfl) rfl ?_; clear hF; intro a hF
        refine c_nil ?_
        refine n_then ?_
        refine c_seq ?_
        refine c_seq ?_
        refine c_reg ?_
        refine s_pu hF (pu_move rfl) rfl ?_; clear hF; intro a hF
        refine s_pu hF (pu_ine rfl rfl) rfl ?_; clear hF; intro a hF
        refine c_nil ?_
        refine n_then ?_
        refine c_if hF rfl (fun hc49 => ?_) (fun hc49 => ?_)
        · try simp only [decide_eq_true_eq, decide_eq_false_iff_not, Bool.not_eq_true', Bool.not_eq_false', Bool.not_eq_eq_eq_not, Bool.not_true, Bool.not_false] at hc49
          refine c_seq ?_
          refine c_reg ?_
          refine s_pu hF (pu_move rfl) rfl ?_; clear hF; intro a hF
          refine s_pu hF (pu_assign rfl) rfl ?_; clear hF; intro a hF
          refine s_pu hF (pu_assign rfl) rfl ?_; clear hF; intro a hF
          refine c_nil ?_
          refine n_then ?_
          refine c_ret (r_then (r_block (r_then (r_then (r_block (r_then ?_))))))
          exact f_ret hF rfl (.tmp rfl (.tmp rfl (.nil))) (hS.retv (by rw [kind_er hc13 hc18 (by omega) hn hc49]; rfl))
        · try simp only [decide_eq_true_eq, decide_eq_false_iff_not, Bool.not_eq_true', Bool.not_eq_false', Bool.not_eq_eq_eq_not, Bool.not_true, Bool.not_false] at hc49
          refine c_skip ?_
          refine n_then ?_
          refine c_reg ?_
          refine s_pu hF (pu_move rfl) rfl ?_; clear hF; intro a hF
          refine s_pu hF (pu_move rfl) rfl ?_; clear hF; intro a hF
          refine s_build (xs := [.tmp 52]) hF hS slt_b81 rfl rfl (by simp [Value.cells]) (by decide) rfl ?_; clear hS hF; intro b2 w a hS hF
          refine s_append (i := 1) hF hS rfl slt_a81_81 rfl rfl (Src.own (hS.at (i := 0) rfl) rfl rfl) (by rw [flat1_len, List.length_map, List.length_take]; simp [cellsL, Value.cells]; omega) rfl ?_; clear hS hF; intro a0 nn c0 w a hnn hS hF
          refine s_pu hF (pu_assign rfl) rfl ?_; clear hF; intro a hF
          refine c_nil ?_
          refine n_block ?_
          refine n_then ?_
          refine c_reg ?_
          refine s_pu hF (pu_move rfl) rfl ?_; clear hF; intro a hF
          refine s_pu hF (pu_add rfl rfl (by first | exact wrap_i64 (by omega) (by omega) | rfl)) rfl ?_; clear hF; intro a hF
          refine s_pu hF (pu_assign rfl) rfl ?_; clear hF; intro a hF
          refine c_nil ?_
          have hnn2 : nn = k + 1 := by (rw [flat1_len, List.length_map, List.length_take] at hnn; simp [cellsL, Value.cells] at hnn; omega)
          subst hnn2
          replace hS := hS.forget 0
          refine ⟨k + 1, ⟨a0, c0, by omega, upto_snoc hn hc49, hF.pick (.cons (k := 7) rfl <| .cons (k := 8) rfl <| .cons (k := 1) rfl <| .cons (k := 2) rfl <| .nil), ?_⟩, by omega⟩
          rw [take_snocD x.l k ex0 (by omega), List.map_append, List.map_append, List.flatten_append]
          exact hS
      · try simp only [decide_eq_true_eq, decide_eq_false_iff_not, Bool.not_eq_true', Bool.not_eq_false', Bool.not_eq_eq_eq_not, Bool.not_true, Bool.not_false] at hc35
        obtain rfl : k = x.l.length := by omega
        rw [List.take_length] at hS
        refine c_exit (x_then (x_then (x_here ?_)))
        refine n_then ?_
        refine c_seq ?_
        refine c_reg ?_
        refine s_pu hF (pu_faddr fld37_0 rfl) rfl ?_; clear hF; intro a hF
        refine s_pu hF (o_load1 (i := 1) hS rfl one31 rfl rfl) rfl ?_; clear hF; intro a hF
        refine s_pu hF (pu_move rfl) rfl ?_; clear hF; intro a hF
        have hbs := hS.bufSl (i := 0) rfl (fun _ _ => rfl) (by simp)
        refine s_calld hF hS ok62 rfl (c_Rof x.op a0 c x.l.length (x.l.map fun y => (kindS cl y).1) (by simp) hop (by simpa using hlen) _ (Full _) (VLe.refl _) hbs) rfl ?_; clear hS hF hbs; intro w a hS hF
        refine s_pu hF (pu_extract rfl rfl) rfl ?_; clear hF; intro a hF
        refine s_pu hF (pu_extract rfl rfl) rfl ?_; clear hF; intro a hF
        refine s_pu hF (pu_assign rfl) rfl ?_; clear hF; intro a hF
        refine s_pu hF (pu_assign rfl) rfl ?_; clear hF; intro a hF
        refine c_nil ?_
        refine n_then ?_
        refine c_ret ?_
        exact f_ret hF rfl (.tmp rfl (.tmp rfl (.nil))) (hS.retv (by rw [kind_ok hc13 hc18 (fun j hj => hn j (by omega))]; rfl))
theorem c_Rkind (adc : Option Addr) (capc : Nat) (cl : List Col) (hfew : ∀ j, j < cl.length → (cl.getD j c0).name.length ≤ 300) : ∀ (x : Ex) (ad : Option Addr) (cap : Nat) (w : World) (h0 : View), VLe h0 (Full w) → GX h0 ad cap x → rightS x = true → SlC 0 3 (flatR colC) h0 (.slice adc cl.length capc) cl → Calls Try.prog 39 #[Value.agg (exC x.op x.v x.s (.slice ad x.l.length cap)).toArray, .slice adc cl.length capc] w (Ret w h0 fun u _ => u = .tuple #[.int .i64 (kindS cl x).1, .int .i64 (kindS cl x).2])
  | x, ad, cap, w, h0, hv, hx, hr, hcl => c_Rkind_ adc capc cl hfew x ad cap (fun y hy ad cap w h0 hv hx hr hcl => c_Rkind adc capc cl hfew y ad cap w h0 hv hx hr hcl) w h0 hv hx hr hcl
termination_by x => SizeOf.sizeOf x
decreasing_by exact Ex.lt hy

theorem c_Kind (adc : Option Addr) (capc : Nat) (cl : List Col) (hfew : ∀ j, j < cl.length → (cl.getD j c0).name.length ≤ 300) (x : Ex) (ad : Option Addr) (cap : Nat) (w0 : World) (h0 : View) (hv : VLe h0 (Full w0)) (hx : GX h0 ad cap x) (hcl : SlC 0 3 (flatR colC) h0 (.slice adc cl.length capc) cl) : Calls Try.prog 17 #[Value.agg (exC x.op x.v x.s (.slice ad x.l.length cap)).toArray, .slice adc cl.length capc] w0 (Ret w0 h0 fun u _ => u = .tuple #[.int .i64 (kindT cl x).1, .int .i64 (kindT cl x).2]) := by
  refine f_enter (args := [Value.agg (exC x.op x.v x.s (.slice ad x.l.length cap)).toArray, .slice adc cl.length capc]) Try.func17 rfl Try.ntmps17 rfl fun a hF => ?_
  have hS := St.init w0 h0 hv
  refine c_seq ?_
  refine c_reg ?_
  refine s_box hF hS rfl rfl rfl ?_; clear hS hF; intro b0 w a hS hF
  refine s_pu hF (pu_assign rfl) rfl ?_; clear hF; intro a hF
  refine s_pu hF (pu_assign rfl) rfl ?_; clear hF; intro a hF
  refine c_nil ?_
  refine n_then ?_
  refine c_seq ?_
  refine c_seq ?_
  refine c_reg ?_
  refine s_pu hF (o_loadA (i := 0) (new := exC x.op x.v x.s (.slice ad x.l.length cap)) hS rfl agg37 rfl (rfl)) rfl ?_; clear hF; intro a hF
  refine s_calld hF hS ok23 rfl (c_Check x ad cap _ h0 hS.base hx) rfl ?_; clear hS hF; intro w a hS hF
  refine s_pu hF (pu_assign rfl) rfl ?_; clear hF; intro a hF
  refine c_nil ?_
  refine n_then ?_
  refine c_seq ?_
  refine c_reg ?_
  refine s_pu hF (pu_move rfl) rfl ?_; clear hF; intro a hF
  refine s_pu hF (pu_ine rfl rfl) rfl ?_; clear hF; intro a hF
  refine c_nil ?_
  refine n_then ?_
  refine c_if hF rfl (fun hc10 => ?_) (fun hc10 => ?_)
  · try simp only [decide_eq_true_eq, decide_eq_false_iff_not, Bool.not_eq_true', Bool.not_eq_false', Bool.not_eq_eq_eq_not, Bool.not_true, Bool.not_false] at hc10
    refine c_seq ?_
    refine c_reg ?_
    refine s_pu hF (pu_move rfl) rfl ?_; clear hF; intro a hF
    refine s_pu hF (pu_assign rfl) rfl ?_; clear hF; intro a hF
    refine s_pu hF (pu_assign rfl) rfl ?_; clear hF; intro a hF
    refine c_nil ?_
    refine n_then ?_
    refine c_ret (r_then ?_)
    exact f_ret hF rfl (.tmp rfl (.tmp rfl (.nil))) (hS.retv (by rw [kindT, if_neg (right_not hc10), if_neg (right_not hc10)]; rfl))
  · try simp only [decide_eq_true_eq, decide_eq_false_iff_not, Bool.not_eq_true', Bool.not_eq_false', Bool.not_eq_eq_eq_not, Bool.not_true, Bool.not_false] at hc10
    have hr := right_only (by omega)
    refine c_skip ?_
    refine n_then ?_
    refine c_seq ?_
    refine c_reg ?_
    refine s_pu hF (o_loadA (i := 0) (new := exC x.op x.v x.s (.slice ad x.l.length cap)) hS rfl agg37 rfl (rfl)) rfl ?_; clear hF; intro a hF
    refine s_pu hF (pu_move rfl) rfl ?_; clear hF; intro a hF
    refine s_calld hF hS ok37 rfl (c_kind adc capc cl hfew x ad cap _ h0 hS.base hx hr hcl) rfl ?_; clear hS hF; intro w a hS hF
    refine s_pu hF (pu_extract rfl rfl) rfl ?_; clear hF; intro a hF
    refine s_pu hF (pu_extract rfl rfl) rfl ?_; clear hF; intro a hF
    refine s_pu hF (pu_assign rfl) rfl ?_; clear hF; intro a hF
    refine s_pu hF (pu_assign rfl) rfl ?_; clear hF; intro a hF
    refine c_nil ?_
    refine n_then ?_
    refine c_ret ?_
    exact f_ret hF rfl (.tmp rfl (.tmp rfl (.nil))) (hS.retv (by rw [kindT, if_pos hr]; rfl))
theorem c_RKind (adc : Option Addr) (capc : Nat) (cl : List Col) (hfew : ∀ j, j < cl.length → (cl.getD j c0).name.length ≤ 300) (x : Ex) (ad : Option Addr) (cap : Nat) (w0 : World) (h0 : View) (hv : VLe h0 (Full w0)) (hx : GX h0 ad cap x) (hcl : SlC 0 3 (flatR colC) h0 (.slice adc cl.length capc) cl) : Calls Try.prog 18 #[Value.agg (exC x.op x.v x.s (.slice ad x.l.length cap)).toArray, .slice adc cl.length capc] w0 (Ret w0 h0 fun u _ => u = .tuple #[.int .i64 (kindT cl x).1, .int .i64 (kindT cl x).2]) := by
  refine f_enter (args := [Value.agg (exC x.op x.v x.s (.slice ad x.l.length cap)).toArray, .slice adc cl.length capc]) Try.func18 rfl Try.ntmps18 rfl fun a hF => ?_
  have hS := St.init w0 h0 hv
  refine c_seq ?_
  refine c_reg ?_
  refine s_box hF hS rfl rfl rfl ?_; clear hS hF; intro b0 w a hS hF
  refine s_pu hF (pu_assign rfl) rfl ?_; clear hF; intro a hF
  refine s_pu hF (pu_assign rfl) rfl ?_; clear hF; intro a hF
  refine c_nil ?_
  refine n_then ?_
  refine c_seq ?_
  refine c_seq ?_
  refine c_reg ?_
  refine s_pu hF (o_loadA (i := 0) (new := exC x.op x.v x.s (.slice ad x.l.length cap)) hS rfl agg37 rfl (rfl)) rfl ?_; clear hF; intro a hF
  refine s_calld hF hS ok38 rfl (c_RRightX x ad cap _ h0 hS.base hx) rfl ?_; clear hS hF; intro w a hS hF
  refine s_pu hF (pu_not rfl) rfl ?_; clear hF; intro a hF
  refine c_nil ?_
  refine n_then ?_
  refine c_if hF rfl (fun hc8 => ?_) (fun hc8 => ?_)
  · try simp only [decide_eq_true_eq, decide_eq_false_iff_not, Bool.not_eq_true', Bool.not_eq_false', Bool.not_eq_eq_eq_not, Bool.not_true, Bool.not_false] at hc8
    refine c_seq ?_
    refine c_reg ?_
    refine s_pu hF (pu_assign rfl) rfl ?_; clear hF; intro a hF
    refine s_pu hF (pu_assign rfl) rfl ?_; clear hF; intro a hF
    refine c_nil ?_
    refine n_then ?_
    refine c_ret (r_then ?_)
    exact f_ret hF rfl (.tmp rfl (.tmp rfl (.nil))) (hS.retv (by rw [kindT, if_neg (by simp [hc8])]; rfl))
  · try simp only [decide_eq_true_eq, decide_eq_false_iff_not, Bool.not_eq_true', Bool.not_eq_false', Bool.not_eq_eq_eq_not, Bool.not_true, Bool.not_false] at hc8
    refine c_skip ?_
    refine n_then ?_
    refine c_seq ?_
    refine c_reg ?_
    refine s_pu hF (o_loadA (i := 0) (new := exC x.op x.v x.s (.slice ad x.l.length cap)) hS rfl agg37 rfl (rfl)) rfl ?_; clear hF; intro a hF
    refine s_pu hF (pu_move rfl) rfl ?_; clear hF; intro a hF
    refine s_calld hF hS ok39 rfl (c_Rkind adc capc cl hfew x ad cap _ h0 hS.base hx hc8 hcl) rfl ?_; clear hS hF; intro w a hS hF
    refine s_pu hF (pu_extract rfl rfl) rfl ?_; clear hF; intro a hF
    refine s_pu hF (pu_extract rfl rfl) rfl ?_; clear hF; intro a hF
    refine s_pu hF (pu_assign rfl) rfl ?_; clear hF; intro a hF
    refine s_pu hF (pu_assign rfl) rfl ?_; clear hF; intro a hF
    refine c_nil ?_
    refine n_then ?_
    refine c_ret ?_
    exact f_ret hF rfl (.tmp rfl (.tmp rfl (.nil))) (hS.retv (by rw [kindT, if_pos hc8]; rfl))
theorem c_lname (s : List UInt8) (w0 : World) (h0 : View) (hv : VLe h0 (Full w0))  : Calls Try.prog 36 #[vs s] w0 (Ret w0 h0 fun u _ => u = .agg (leafC 2 v0 s).toArray) := by
  refine f_enter (args := [vs s]) Try.func36 rfl Try.ntmps36 rfl fun a hF => ?_
  have hS := St.init w0 h0 hv
  refine c_seq ?_
  refine c_reg ?_
  refine s_alloc hF hS zero37 rfl ?_; clear hS hF; intro b0 w a hS hF
  refine c_nil ?_
  refine n_then ?_
  refine c_seq ?_
  refine c_reg ?_
  refine s_pu hF (pu_move rfl) rfl ?_; clear hF; intro a hF
  refine s_pu hF (pu_build_st (cs := leafC 2 v0 s) strb37 rfl rfl) rfl ?_; clear hF; intro a hF
  refine s_store (i := 0) (new := leafC 2 v0 s) hF hS rfl rfl rfl rfl (by exact sz37) rfl (by simp [leafC, exC]) ?_; clear hS hF; intro w a hS hF
  rw [spl_all (by simp [leafC, exC])] at hS
  refine c_nil ?_
  refine n_then ?_
  refine c_ret ?_
  exact f_ret hF rfl (.cell rfl (o_lvA (i := 0) hS rfl agg37) (.nil)) (hS.retv rfl)
theorem c_lval (v : Val) (w0 : World) (h0 : View) (hv : VLe h0 (Full w0))  : Calls Try.prog 24 #[.agg (valC v).toArray] w0 (Ret w0 h0 fun u _ => u = .agg (leafC 1 v []).toArray) := by
  refine f_enter (args := [.agg (valC v).toArray]) Try.func24 rfl Try.ntmps24 rfl fun a hF => ?_
  have hS := St.init w0 h0 hv
  refine c_seq ?_
  refine c_reg ?_
  refine s_box hF hS rfl rfl rfl ?_; clear hS hF; intro b0 w a hS hF
  refine s_alloc hF hS zero37 rfl ?_; clear hS hF; intro b1 w a hS hF
  refine c_nil ?_
  refine n_then ?_
  refine c_seq ?_
  refine c_reg ?_
  refine s_pu hF (o_loadA (i := 1) (new := valC v) hS rfl agg34 rfl (rfl)) rfl ?_; clear hF; intro a hF
  refine s_pu hF (pu_build_st (cs := leafC 1 v []) strb37 rfl rfl) rfl ?_; clear hF; intro a hF
  refine s_store (i := 0) (new := leafC 1 v []) hF hS rfl rfl rfl rfl (by exact sz37) rfl (by simp [leafC, exC]) ?_; clear hS hF; intro w a hS hF
  rw [spl_all (by simp [leafC, exC])] at hS
  refine c_nil ?_
  refine n_then ?_
  refine c_ret ?_
  exact f_ret hF rfl (.cell rfl (o_lvA (i := 0) hS rfl agg37) (.nil)) (hS.retv rfl)
theorem c_lplus (o1 o2 : Int) (u1 u2 : Val) (s1 s2 : List UInt8) (w0 : World) (h0 : View) (hv : VLe h0 (Full w0)) : Calls Try.prog 35 #[.agg (leafC o1 u1 s1).toArray, .agg (leafC o2 u2 s2).toArray] w0 (RetM [] w0 fun v w' => ∃ b, v = .agg (exC 4 v0 [] (.slice (some ⟨b, 0, none⟩) 2 2)).toArray ∧ NewRow w0 37 (leafC o1 u1 s1 ++ leafC o2 u2 s2) b w') := by
  refine f_enter (args := [.agg (leafC o1 u1 s1).toArray, .agg (leafC o2 u2 s2).toArray]) Try.func35 rfl Try.ntmps35 rfl fun a hF => ?_
  have hS := St.init w0 h0 hv
  refine c_seq ?_
  refine c_reg ?_
  refine s_box (cs := leafC o1 u1 s1) hF hS rfl rfl rfl ?_; clear hS hF; intro b0 w a hS hF
  refine s_box (cs := leafC o2 u2 s2) hF hS rfl rfl rfl ?_; clear hS hF; intro b1 w a hS hF
  refine s_alloc hF hS zero37 rfl ?_; clear hS hF; intro b2 w a hS hF
  refine c_nil ?_
  refine n_then ?_
  refine c_seq ?_
  refine c_reg ?_
  refine s_pu hF (o_loadA (i := 2) (new := leafC o1 u1 s1) hS rfl agg37 rfl (rfl)) rfl ?_; clear hF; intro a hF
  refine s_pu hF (o_loadA (i := 1) (new := leafC o2 u2 s2) hS rfl agg37 rfl (rfl)) rfl ?_; clear hF; intro a hF
  refine s_build (xs := [.tmp 5, .tmp 6]) hF hS slt_b35 rfl rfl (by simp [Value.cells, leafC, exC]) (by decide) rfl ?_; clear hS hF; intro b3 w a hS hF
  refine s_pu hF (pu_build_st (cs := exC 4 v0 [] (.slice (some ⟨b3, 0, none⟩) 2 2)) strb37 rfl rfl) rfl ?_; clear hF; intro a hF
  refine s_store (i := 1) (new := exC 4 v0 [] (.slice (some ⟨b3, 0, none⟩) 2 2)) hF hS rfl rfl rfl rfl (by exact sz37) rfl (by simp [leafC, exC]) ?_; clear hS hF; intro w a hS hF
  rw [spl_all (by simp [leafC, exC])] at hS
  refine c_nil ?_
  refine n_then ?_
  refine c_ret ?_
  refine f_ret hF rfl (.cell rfl (o_lvA (i := 1) hS rfl agg37) (.nil)) ?_
  refine hS.retM ⟨_, rfl, (hS.fresh _ (by simp [ids])).1.resolve_right (by simp), hS.at (i := 0) rfl⟩
set_option maxHeartbeats 1000000 in
theorem c_lives15  (w0 : World) (h0 : View) (hv : VLe h0 (Full w0))  : Calls Try.prog 16 #[] w0 (Ret w0 h0 fun u _ => u = .bool true) := by
  refine f_enter (args := []) Try.func16 rfl Try.ntmps16 rfl fun a hF => ?_
  have hS := St.init w0 h0 hv
  refine c_seq ?_
  refine c_reg ?_
  refine s_pu hF (pu_assign rfl) rfl ?_; clear hF; intro a hF
  refine c_nil ?_
  refine n_then ?_
  refine c_seq ?_
  refine c_reg ?_
  refine s_pu hF (pu_build_st (cs := colC ⟨[97], 1, none, 0, 0⟩) strb58 rfl rfl) rfl ?_; clear hF; intro a hF
  refine s_build (xs := [.tmp 6]) hF hS slt_b38 rfl rfl (by simp [Value.cells, colC]) (by decide) rfl ?_; clear hS hF; intro b0 w a hS hF
  refine s_pu hF (pu_assign rfl) rfl ?_; clear hF; intro a hF
  refine c_nil ?_
  refine n_then ?_
  refine c_seq ?_
  refine c_reg ?_
  refine s_callv hF hS ok36 rfl (c_lname [97] _ _ hS.view) rfl ?_; clear hS hF; intro w a hS hF
  refine s_pu hF (pu_build_st (cs := valC ⟨1, 1, []⟩) strb34 rfl rfl) rfl ?_; clear hF; intro a hF
  refine s_callv hF hS ok24 rfl (c_lval ⟨1, 1, []⟩ _ _ hS.view) rfl ?_; clear hS hF; intro w a hS hF
  refine s_callG hF ok35 rfl (c_lplus 2 1 v0 ⟨1, 1, []⟩ [97] [] _ _ (VLe.refl _)) rfl ?_; clear hF; rintro _ w1 a hk1 ⟨mb, rfl, hmb⟩ hF; replace hS := hS.addRow hk1 hmb; clear hk1 hmb
  refine s_pu hF (pu_move rfl) rfl ?_; clear hF; intro a hF
  have hrow := hS.at (i := 0) rfl
  have hcr := hS.at (i := 1) rfl
  refine s_calld hF hS ok17 rfl (c_Kind _ 1 [⟨[97], 1, none, 0, 0⟩] (by intro j hj; match j, hj with | 0, _ => decide) (plusX (KX 2 v0 [97]) (KX 1 ⟨1, 1, []⟩ [])) _ 2 _ (Full _) (VLe.refl _) ⟨xl_two hrow rfl rfl (rx_leaf (by unfold i64; decide) (by unfold valB i64; decide)) (rx_leaf (by unfold i64; decide) (by unfold valB i64; decide)), by unfold i64; decide, by unfold valB i64; decide, ⟨5, by decide⟩⟩ (SlC.ofRow (T := 58) (f := colC) (fun _ _ => rfl) (h := Full _) hcr rfl (by decide) (by decide) rfl)) rfl ?_; clear hS hF hrow hcr; intro w a hS hF
  rw [show kindT [⟨[97], 1, none, 0, 0⟩] (plusX (KX 2 v0 [97]) (KX 1 ⟨1, 1, []⟩ [])) = (1, 0) by decide +kernel] at hF
  refine s_pu hF (pu_move rfl) rfl ?_; clear hF; intro a hF
  refine s_pu hF (pu_extract rfl rfl) rfl ?_; clear hF; intro a hF
  refine s_pu hF (pu_extract rfl rfl) rfl ?_; clear hF; intro a hF
  refine s_pu hF (pu_assign rfl) rfl ?_; clear hF; intro a hF
  refine s_pu hF (pu_assign rfl) rfl ?_; clear hF; intro a hF
  refine c_nil ?_
  refine n_then ?_
  refine c_seq ?_
  refine c_reg ?_
  refine s_callv hF hS ok36 rfl (c_lname [97] _ _ hS.view) rfl ?_; clear hS hF; intro w a hS hF
  refine s_pu hF (pu_build_st (cs := valC ⟨2, 0, [120]⟩) strb34 rfl rfl) rfl ?_; clear hF; intro a hF
  refine s_callv hF hS ok24 rfl (c_lval ⟨2, 0, [120]⟩ _ _ hS.view) rfl ?_; clear hS hF; intro w a hS hF
  refine s_callG hF ok35 rfl (c_lplus 2 1 v0 ⟨2, 0, [120]⟩ [97] [] _ _ (VLe.refl _)) rfl ?_; clear hF; rintro _ w1 a hk1 ⟨mb, rfl, hmb⟩ hF; replace hS := hS.addRow hk1 hmb; clear hk1 hmb
  refine s_pu hF (pu_move rfl) rfl ?_; clear hF; intro a hF
  have hrow := hS.at (i := 0) rfl
  have hcr := hS.at (i := 2) rfl
  refine s_calld hF hS ok17 rfl (c_Kind _ 1 [⟨[97], 1, none, 0, 0⟩] (by intro j hj; match j, hj with | 0, _ => decide) (plusX (KX 2 v0 [97]) (KX 1 ⟨2, 0, [120]⟩ [])) _ 2 _ (Full _) (VLe.refl _) ⟨xl_two hrow rfl rfl (rx_leaf (by unfold i64; decide) (by unfold valB i64; decide)) (rx_leaf (by unfold i64; decide) (by unfold valB i64; decide)), by unfold i64; decide, by unfold valB i64; decide, ⟨5, by decide⟩⟩ (SlC.ofRow (T := 58) (f := colC) (fun _ _ => rfl) (h := Full _) hcr rfl (by decide) (by decide) rfl)) rfl ?_; clear hS hF hrow hcr; intro w a hS hF
  rw [show kindT [⟨[97], 1, none, 0, 0⟩] (plusX (KX 2 v0 [97]) (KX 1 ⟨2, 0, [120]⟩ [])) = (0, 14) by decide +kernel] at hF
  refine s_pu hF (pu_move rfl) rfl ?_; clear hF; intro a hF
  refine s_pu hF (pu_extract rfl rfl) rfl ?_; clear hF; intro a hF
  refine s_pu hF (pu_extract rfl rfl) rfl ?_; clear hF; intro a hF
  refine s_pu hF (pu_assign rfl) rfl ?_; clear hF; intro a hF
  refine s_pu hF (pu_assign rfl) rfl ?_; clear hF; intro a hF
  refine c_nil ?_
  refine n_then ?_
  refine c_seq ?_
  refine c_reg ?_
  refine s_pu hF (pu_move rfl) rfl ?_; clear hF; intro a hF
  refine s_pu hF (pu_ieq rfl rfl) rfl ?_; clear hF; intro a hF
  refine s_pu hF (pu_move rfl) rfl ?_; clear hF; intro a hF
  refine g_pu hF ⟨_, _, (rfl : _[2]? = some _), rfl, rfl⟩ rfl (pu_move rfl) rfl ?_; clear hF; intro a hF
  refine g_pu hF ⟨_, _, (rfl : _[2]? = some _), rfl, rfl⟩ rfl (pu_ieq rfl rfl) rfl ?_; clear hF; intro a hF
  refine s_pu hF (pu_pick_t rfl rfl rfl) rfl ?_; clear hF; intro a hF
  refine s_pu hF (pu_move rfl) rfl ?_; clear hF; intro a hF
  refine g_pu hF ⟨_, _, (rfl : _[6]? = some _), rfl, rfl⟩ rfl (pu_move rfl) rfl ?_; clear hF; intro a hF
  refine g_pu hF ⟨_, _, (rfl : _[6]? = some _), rfl, rfl⟩ rfl (pu_ieq rfl rfl) rfl ?_; clear hF; intro a hF
  refine s_pu hF (pu_pick_t rfl rfl rfl) rfl ?_; clear hF; intro a hF
  refine s_pu hF (pu_move rfl) rfl ?_; clear hF; intro a hF
  refine g_pu hF ⟨_, _, (rfl : _[10]? = some _), rfl, rfl⟩ rfl (pu_move rfl) rfl ?_; clear hF; intro a hF
  have hcr := hS.at (i := 2) rfl
  refine g_calld hF hS ⟨_, _, (rfl : _[10]? = some _), rfl, rfl⟩ rfl ok19 rfl (c_Columns _ 1 [⟨[97], 1, none, 0, 0⟩] (by intro j hj; match j, hj with | 0, _ => decide) _ (Full _) (VLe.refl _) (SlC.ofRow (T := 58) (f := colC) (fun _ _ => rfl) (h := Full _) hcr rfl (by decide) (by decide) rfl)) rfl ?_; clear hS hF hcr; intro w a hS hF
  rw [show colsS [⟨[97], 1, none, 0, 0⟩] = 0 by decide +kernel] at hF
  refine g_pu hF ⟨_, _, (rfl : _[10]? = some _), rfl, rfl⟩ rfl (pu_ieq rfl rfl) rfl ?_; clear hF; intro a hF
  refine s_pu hF (pu_pick_t rfl rfl rfl) rfl ?_; clear hF; intro a hF
  refine s_pu hF (pu_move rfl) rfl ?_; clear hF; intro a hF
  refine g_callv hF hS ⟨_, _, (rfl : _[15]? = some _), rfl, rfl⟩ rfl ok21 rfl (c_Fits 0 2 _ _ hS.view) rfl ?_; clear hS hF; intro w a hS hF
  refine s_pu hF (pu_pick_t rfl rfl rfl) rfl ?_; clear hF; intro a hF
  refine s_pu hF (pu_assign rfl) rfl ?_; clear hF; intro a hF
  refine c_nil ?_
  refine n_then ?_
  refine c_ret ?_
  exact f_ret hF rfl (.tmp rfl (.nil)) (hS.retv rfl)
theorem c_TypingKinds (x : Ex) (ad : Option Addr) (cap : Nat) (adc : Option Addr) (capc : Nat) (cl : List Col) (w0 : World) (h0 : View) (hv : VLe h0 (Full w0)) (hx : XL h0 ad cap x.l) (hop : i64 x.op) (hvb : valB x.v) (hcl : SlC 0 3 (flatR colC) h0 (.slice adc cl.length capc) cl) : Calls Try.prog 4 #[Value.agg (exC x.op x.v x.s (.slice ad x.l.length cap)).toArray, .slice adc cl.length capc] w0 (Ret w0 h0 fun u _ => u = .bool true) := by
  refine f_enter (args := [Value.agg (exC x.op x.v x.s (.slice ad x.l.length cap)).toArray, .slice adc cl.length capc]) Try.func4 rfl Try.ntmps4 rfl fun a hF => ?_
  have hS := St.init w0 h0 hv
  refine c_seq ?_
  refine c_reg ?_
  refine s_box hF hS rfl rfl rfl ?_; clear hS hF; intro b0 w a hS hF
  refine s_pu hF (pu_assign rfl) rfl ?_; clear hF; intro a hF
  refine c_nil ?_
  refine n_then ?_
  refine c_seq ?_
  refine c_seq ?_
  refine c_reg ?_
  refine s_pu hF (o_loadA (i := 0) (new := exC x.op x.v x.s (.slice ad x.l.length cap)) hS rfl agg37 rfl (rfl)) rfl ?_; clear hF; intro a hF
  refine s_calld hF hS ok14 rfl (c_XSmall x ad cap _ h0 hS.base hx) rfl ?_; clear hS hF; intro w a hS hF
  refine s_pu hF (pu_not rfl) rfl ?_; clear hF; intro a hF
  refine s_pu hF (pu_move rfl) rfl ?_; clear hF; intro a hF
  refine w_split hF ⟨_, _, (rfl : _[3]? = some _), rfl, rfl⟩ (fun hg1_3 => ?_) (fun hg1_3 => ?_)
  · have hg1_3p := hg1_3
    try simp only [decide_eq_true_eq, decide_eq_false_iff_not, Bool.not_eq_true', Bool.not_eq_false', Bool.not_eq_eq_eq_not, Bool.not_true, Bool.not_false] at hg1_3p
    refine g_no hF ⟨_, _, (rfl : _[3]? = some _), rfl, rfl⟩ hg1_3 rfl ?_; clear hF; intro a hF
    refine g_no hF ⟨_, _, (rfl : _[3]? = some _), rfl, rfl⟩ hg1_3 rfl ?_; clear hF; intro a hF
    refine g_no hF ⟨_, _, (rfl : _[3]? = some _), rfl, rfl⟩ hg1_3 rfl ?_; clear hF; intro a hF
    refine s_pu hF (pu_pick_t rfl hg1_3 rfl) rfl ?_; clear hF; intro a hF
    refine c_nil ?_
    refine n_then ?_
    refine c_ift hF rfl rfl ?_
    refine c_seq ?_
    refine c_reg ?_
    refine s_callv hF hS ok16 rfl (c_lives15 _ _ hS.view) rfl ?_; clear hS hF; intro w a hS hF
    refine s_pu hF (pu_assign rfl) rfl ?_; clear hF; intro a hF
    refine c_nil ?_
    refine n_then ?_
    refine c_ret (r_then ?_)
    exact f_ret hF rfl (.tmp rfl (.nil)) (hS.retv rfl)
  · have hg1_3p := hg1_3
    try simp only [decide_eq_true_eq, decide_eq_false_iff_not, Bool.not_eq_true', Bool.not_eq_false', Bool.not_eq_eq_eq_not, Bool.not_true, Bool.not_false] at hg1_3p
    refine g_pu hF ⟨_, _, (rfl : _[3]? = some _), rfl, rfl⟩ hg1_3 (pu_move rfl) rfl ?_; clear hF; intro a hF
    refine g_calld hF hS ⟨_, _, (rfl : _[3]? = some _), rfl, rfl⟩ hg1_3 ok15 rfl (c_Few adc capc cl _ h0 hS.base hcl) rfl ?_; clear hS hF; intro w a hS hF
    refine g_pu hF ⟨_, _, (rfl : _[3]? = some _), rfl, rfl⟩ hg1_3 (pu_not rfl) rfl ?_; clear hF; intro a hF
    refine s_pu hF (pu_pick_f rfl hg1_3 rfl) rfl ?_; clear hF; intro a hF
    refine c_nil ?_
    refine n_then ?_
    refine c_if hF rfl (fun hc16 => ?_) (fun hc16 => ?_)
    · try simp only [decide_eq_true_eq, decide_eq_false_iff_not, Bool.not_eq_true', Bool.not_eq_false', Bool.not_eq_eq_eq_not, Bool.not_true, Bool.not_false] at hc16
      refine c_seq ?_
      refine c_reg ?_
      refine s_callv hF hS ok16 rfl (c_lives15 _ _ hS.view) rfl ?_; clear hS hF; intro w a hS hF
      refine s_pu hF (pu_assign rfl) rfl ?_; clear hF; intro a hF
      refine c_nil ?_
      refine n_then ?_
      refine c_ret (r_then ?_)
      exact f_ret hF rfl (.tmp rfl (.nil)) (hS.retv rfl)
    · try simp only [decide_eq_true_eq, decide_eq_false_iff_not, Bool.not_eq_true', Bool.not_eq_false', Bool.not_eq_eq_eq_not, Bool.not_true, Bool.not_false] at hc16
      have hgx : GX h0 ad cap x := ⟨hx, hop, hvb, sm_of hg1_3p⟩
      have hfew := few_of hc16
      refine c_skip ?_
      refine n_then ?_
      refine c_seq ?_
      refine c_reg ?_
      refine s_pu hF (o_loadA (i := 0) (new := exC x.op x.v x.s (.slice ad x.l.length cap)) hS rfl agg37 rfl (rfl)) rfl ?_; clear hF; intro a hF
      refine s_pu hF (pu_move rfl) rfl ?_; clear hF; intro a hF
      refine s_calld hF hS ok17 rfl (c_Kind adc capc cl hfew x ad cap _ h0 hS.base hgx hcl) rfl ?_; clear hS hF; intro w a hS hF
      refine s_pu hF (pu_move rfl) rfl ?_; clear hF; intro a hF
      refine s_pu hF (pu_extract rfl rfl) rfl ?_; clear hF; intro a hF
      refine s_pu hF (pu_extract rfl rfl) rfl ?_; clear hF; intro a hF
      refine s_pu hF (pu_assign rfl) rfl ?_; clear hF; intro a hF
      refine s_pu hF (pu_assign rfl) rfl ?_; clear hF; intro a hF
      refine c_nil ?_
      refine n_then ?_
      refine c_seq ?_
      refine c_reg ?_
      refine s_pu hF (o_loadA (i := 0) (new := exC x.op x.v x.s (.slice ad x.l.length cap)) hS rfl agg37 rfl (rfl)) rfl ?_; clear hF; intro a hF
      refine s_pu hF (pu_move rfl) rfl ?_; clear hF; intro a hF
      refine s_calld hF hS ok18 rfl (c_RKind adc capc cl hfew x ad cap _ h0 hS.base hgx hcl) rfl ?_; clear hS hF; intro w a hS hF
      refine s_pu hF (pu_move rfl) rfl ?_; clear hF; intro a hF
      refine s_pu hF (pu_extract rfl rfl) rfl ?_; clear hF; intro a hF
      refine s_pu hF (pu_extract rfl rfl) rfl ?_; clear hF; intro a hF
      refine s_pu hF (pu_assign rfl) rfl ?_; clear hF; intro a hF
      refine s_pu hF (pu_assign rfl) rfl ?_; clear hF; intro a hF
      refine c_nil ?_
      refine n_then ?_
      refine c_seq ?_
      refine c_reg ?_
      refine s_pu hF (pu_move rfl) rfl ?_; clear hF; intro a hF
      refine s_pu hF (pu_move rfl) rfl ?_; clear hF; intro a hF
      refine s_pu hF (pu_ieq rfl rfl) rfl ?_; clear hF; intro a hF
      refine s_pu hF (pu_move rfl) rfl ?_; clear hF; intro a hF
      refine g_pu hF ⟨_, _, (rfl : _[3]? = some _), rfl, rfl⟩ (decide_eq_true rfl) (pu_move rfl) rfl ?_; clear hF; intro a hF
      refine g_pu hF ⟨_, _, (rfl : _[3]? = some _), rfl, rfl⟩ (decide_eq_true rfl) (pu_move rfl) rfl ?_; clear hF; intro a hF
      refine g_pu hF ⟨_, _, (rfl : _[3]? = some _), rfl, rfl⟩ (decide_eq_true rfl) (pu_ieq rfl rfl) rfl ?_; clear hF; intro a hF
      refine s_pu hF (pu_pick_t rfl (decide_eq_true rfl) rfl) rfl ?_; clear hF; intro a hF
      refine s_pu hF (pu_move rfl) rfl ?_; clear hF; intro a hF
      refine g_callv hF hS ⟨_, _, (rfl : _[8]? = some _), rfl, rfl⟩ (decide_eq_true rfl) ok16 rfl (c_lives15 _ _ hS.view) rfl ?_; clear hS hF; intro w a hS hF
      refine s_pu hF (pu_pick_t rfl (decide_eq_true rfl) rfl) rfl ?_; clear hF; intro a hF
      refine s_pu hF (pu_assign rfl) rfl ?_; clear hF; intro a hF
      refine c_nil ?_
      refine n_then ?_
      refine c_ret ?_
      exact f_ret hF rfl (.tmp rfl (.nil)) (hS.retv rfl)
theorem c_TypingColumns (adc : Option Addr) (capc : Nat) (cl : List Col) (p q : Int) (w0 : World) (h0 : View) (hv : VLe h0 (Full w0)) (hcl : SlC 0 3 (flatR colC) h0 (.slice adc cl.length capc) cl) : Calls Try.prog 5 #[.slice adc cl.length capc, .int .i64 p, .int .i64 q] w0 (Ret w0 h0 fun u _ => u = .bool true) := by
  refine f_enter (args := [.slice adc cl.length capc, .int .i64 p, .int .i64 q]) Try.func5 rfl Try.ntmps5 rfl fun a hF => ?_
  have hS := St.init w0 h0 hv
  refine c_seq ?_
  refine c_reg ?_
  refine s_pu hF (pu_assign rfl) rfl ?_; clear hF; intro a hF
  refine c_nil ?_
  refine n_then ?_
  refine c_seq ?_
  refine c_seq ?_
  refine c_reg ?_
  refine s_pu hF (pu_move rfl) rfl ?_; clear hF; intro a hF
  refine s_calld hF hS ok15 rfl (c_Few adc capc cl _ h0 hS.base hcl) rfl ?_; clear hS hF; intro w a hS hF
  refine s_pu hF (pu_not rfl) rfl ?_; clear hF; intro a hF
  refine c_nil ?_
  refine n_then ?_
  refine c_if hF rfl (fun hc9 => ?_) (fun hc9 => ?_)
  · try simp only [decide_eq_true_eq, decide_eq_false_iff_not, Bool.not_eq_true', Bool.not_eq_false', Bool.not_eq_eq_eq_not, Bool.not_true, Bool.not_false] at hc9
    refine c_seq ?_
    refine c_reg ?_
    refine s_callv hF hS ok16 rfl (c_lives15 _ _ hS.view) rfl ?_; clear hS hF; intro w a hS hF
    refine s_pu hF (pu_assign rfl) rfl ?_; clear hF; intro a hF
    refine c_nil ?_
    refine n_then ?_
    refine c_ret (r_then ?_)
    exact f_ret hF rfl (.tmp rfl (.nil)) (hS.retv rfl)
  · try simp only [decide_eq_true_eq, decide_eq_false_iff_not, Bool.not_eq_true', Bool.not_eq_false', Bool.not_eq_eq_eq_not, Bool.not_true, Bool.not_false] at hc9
    have hfew := few_of hc9
    refine c_skip ?_
    refine n_then ?_
    refine c_seq ?_
    refine c_reg ?_
    refine s_pu hF (pu_move rfl) rfl ?_; clear hF; intro a hF
    refine s_calld hF hS ok19 rfl (c_Columns adc capc cl hfew _ h0 hS.base hcl) rfl ?_; clear hS hF; intro w a hS hF
    refine s_pu hF (pu_move rfl) rfl ?_; clear hF; intro a hF
    refine s_calld hF hS ok20 rfl (c_RColumns adc capc cl hfew _ h0 hS.base hcl) rfl ?_; clear hS hF; intro w a hS hF
    refine s_pu hF (pu_ieq rfl rfl) rfl ?_; clear hF; intro a hF
    refine s_pu hF (pu_move rfl) rfl ?_; clear hF; intro a hF
    refine g_pu hF ⟨_, _, (rfl : _[5]? = some _), rfl, rfl⟩ (decide_eq_true rfl) (pu_move rfl) rfl ?_; clear hF; intro a hF
    refine g_pu hF ⟨_, _, (rfl : _[5]? = some _), rfl, rfl⟩ (decide_eq_true rfl) (pu_move rfl) rfl ?_; clear hF; intro a hF
    refine g_callv hF hS ⟨_, _, (rfl : _[5]? = some _), rfl, rfl⟩ (decide_eq_true rfl) ok21 rfl (c_Fits p q _ _ hS.view) rfl ?_; clear hS hF; intro w a hS hF
    refine g_pu hF ⟨_, _, (rfl : _[5]? = some _), rfl, rfl⟩ (decide_eq_true rfl) (pu_move rfl) rfl ?_; clear hF; intro a hF
    refine g_pu hF ⟨_, _, (rfl : _[5]? = some _), rfl, rfl⟩ (decide_eq_true rfl) (pu_move rfl) rfl ?_; clear hF; intro a hF
    refine g_callv hF hS ⟨_, _, (rfl : _[5]? = some _), rfl, rfl⟩ (decide_eq_true rfl) ok22 rfl (c_RFits p q _ _ hS.view) rfl ?_; clear hS hF; intro w a hS hF
    refine g_pu hF ⟨_, _, (rfl : _[5]? = some _), rfl, rfl⟩ (decide_eq_true rfl) (pu_beq tyB4 rfl rfl) rfl ?_; clear hF; intro a hF
    refine s_pu hF (pu_pick_t rfl (decide_eq_true rfl) rfl) rfl ?_; clear hF; intro a hF
    refine s_pu hF (pu_move rfl) rfl ?_; clear hF; intro a hF
    refine g_callv hF hS ⟨_, _, (rfl : _[14]? = some _), rfl, rfl⟩ (by simp) ok16 rfl (c_lives15 _ _ hS.view) rfl ?_; clear hS hF; intro w a hS hF
    refine s_pu hF (pu_pick_t rfl (by simp) rfl) rfl ?_; clear hF; intro a hF
    refine s_pu hF (pu_assign rfl) rfl ?_; clear hF; intro a hF
    refine c_nil ?_
    refine n_then ?_
    refine c_ret ?_
    exact f_ret hF rfl (.tmp rfl (.nil)) (hS.retv rfl)
end Go.Proofs.Ytjidmighkphmkaa
