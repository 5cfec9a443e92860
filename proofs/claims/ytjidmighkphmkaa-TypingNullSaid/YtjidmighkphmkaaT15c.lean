/- What the functions of the program compute, each with its conditions. -/
import Derived.Test.YtjidmighkphmkaaT15b
set_option linter.unusedSimpArgs false
set_option linter.unusedVariables false
namespace Go.Proofs.Ytjidmighkphmkaa
open Go Go.Dx Go.RowKit
set_option maxHeartbeats 2000000 in
theorem c_kind_ (adc : Option Addr) (capc : Nat) (cl : List Col) (hfew : ∀ j, j < cl.length → (cl.getD j c0).name.length ≤ 300) (x : Ex) (ad : Option Addr) (cap : Nat) (ih : ∀ y ∈ x.l, ∀ (ad : Option Addr) (cap : Nat) (w : World) (h0 : View), VLe h0 (Full w) → GX h0 ad cap y → rightS y = true → SlC 0 3 (flatR colC) h0 (.slice adc cl.length capc) cl → Calls Try.prog 37 #[Value.agg (exC y.op y.v y.s (.slice ad y.l.length cap)).toArray, .slice adc cl.length capc] w (Ret w h0 fun u _ => u = .tuple #[.int .i64 (kindS cl y).1, .int .i64 (kindS cl y).2])) (w0 : World) (h0 : View) (hv : VLe h0 (Full w0)) (hx : GX h0 ad cap x) (hr : rightS x = true) (hcl : SlC 0 3 (flatR colC) h0 (.slice adc cl.length capc) cl) : Calls Try.prog 37 #[Value.agg (exC x.op x.v x.s (.slice ad x.l.length cap)).toArray, .slice adc cl.length capc] w0 (Ret w0 h0 fun u _ => u = .tuple #[.int .i64 (kindS cl x).1, .int .i64 (kindS cl x).2]) := by
  refine f_enter (args := [Value.agg (exC x.op x.v x.s (.slice ad x.l.length cap)).toArray, .slice adc cl.length capc]) Try.func37 rfl Try.ntmps37 rfl fun a hF => ?_
  have hS := St.init w0 h0 hv
  have hlm := hx.xl.lm
  have hcm := hcl.lm
  have hsm := hx.sm.parts.2.2.1
  refine c_seq ?_
  refine c_reg ?_
  refine s_box hF hS rfl rfl rfl ?_; clear hS hF; intro b0 w a hS hF
  refine s_pu hF (pu_assign rfl) rfl ?_; clear hF; intro a hF
  refine s_pu hF (pu_assign rfl) rfl ?_; clear hF; intro a hF
  refine c_nil ?_
  refine n_then ?_
  refine c_seq ?_
  refine c_seq ?_
  refine c_reg ?_
  refine s_pu hF (pu_faddr fld37_0 rfl) rfl ?_; clear hF; intro a hF
  refine s_pu hF (o_load1 (i := 0) hS rfl one31 rfl rfl) rfl ?_; clear hF; intro a hF
  refine c_nil ?_
  refine n_then ?_
  refine c_block ?_
  refine c_seq ?_
  refine c_reg ?_
  refine s_pu hF (pu_ieq rfl rfl) rfl ?_; clear hF; intro a hF
  refine s_pu hF (pu_assign rfl) rfl ?_; clear hF; intro a hF
  refine c_nil ?_
  refine n_then ?_
  refine c_if hF rfl (fun hc16 => ?_) (fun hc16 => ?_)
  · try simp only [decide_eq_true_eq, decide_eq_false_iff_not, Bool.not_eq_true', Bool.not_eq_false', Bool.not_eq_eq_eq_not, Bool.not_true, Bool.not_false] at hc16
    refine c_seq ?_
    refine c_reg ?_
    refine s_pu hF (pu_faddr fld37_1 rfl) rfl ?_; clear hF; intro a hF
    refine s_pu hF (pu_faddr fld34_0 rfl) rfl ?_; clear hF; intro a hF
    refine s_pu hF (o_load1 (i := 0) hS rfl one32 rfl rfl) rfl ?_; clear hF; intro a hF
    refine s_pu hF (pu_assign rfl) rfl ?_; clear hF; intro a hF
    refine s_pu hF (pu_assign rfl) rfl ?_; clear hF; intro a hF
    refine c_nil ?_
    refine n_then ?_
    refine c_ret (r_block (r_then ?_))
    exact f_ret hF rfl (.tmp rfl (.tmp rfl (.nil))) (hS.retv (by rw [kind_eq cl x, if_pos hc16]; rfl))
  · try simp only [decide_eq_true_eq, decide_eq_false_iff_not, Bool.not_eq_true', Bool.not_eq_false', Bool.not_eq_eq_eq_not, Bool.not_true, Bool.not_false] at hc16
    refine c_seq ?_
    refine c_reg ?_
    refine s_pu hF (pu_ieq rfl rfl) rfl ?_; clear hF; intro a hF
    refine s_pu hF (pu_assign rfl) rfl ?_; clear hF; intro a hF
    refine c_nil ?_
    refine n_then ?_
    refine c_if hF rfl (fun hc21 => ?_) (fun hc21 => ?_)
    · try simp only [decide_eq_true_eq, decide_eq_false_iff_not, Bool.not_eq_true', Bool.not_eq_false', Bool.not_eq_eq_eq_not, Bool.not_true, Bool.not_false] at hc21
      refine c_seq ?_
      refine c_reg ?_
      refine s_pu hF (pu_move rfl) rfl ?_; clear hF; intro a hF
      refine s_pu hF (pu_faddr fld37_2 rfl) rfl ?_; clear hF; intro a hF
      refine s_pu hF (o_load1 (i := 0) hS rfl one9 rfl rfl) rfl ?_; clear hF; intro a hF
      refine s_calld hF hS ok40 rfl (c_at_ adc capc cl x.s _ h0 hS.base hcl) rfl ?_; clear hS hF; intro w a hS hF
      refine s_pu hF (pu_assign rfl) rfl ?_; clear hF; intro a hF
      refine c_nil ?_
      refine n_then ?_
      refine c_seq ?_
      refine c_seq ?_
      refine c_reg ?_
      refine s_pu hF (pu_move rfl) rfl ?_; clear hF; intro a hF
      refine s_pu hF (pu_ilt rfl rfl) rfl ?_; clear hF; intro a hF
      refine c_nil ?_
      refine n_then ?_
      refine c_if hF rfl (fun hc28 => ?_) (fun hc28 => ?_)
      · try simp only [decide_eq_true_eq, decide_eq_false_iff_not, Bool.not_eq_true', Bool.not_eq_false', Bool.not_eq_eq_eq_not, Bool.not_true, Bool.not_false] at hc28
        refine c_seq ?_
        refine c_reg ?_
        refine s_pu hF (pu_assign rfl) rfl ?_; clear hF; intro a hF
        refine s_pu hF (pu_assign rfl) rfl ?_; clear hF; intro a hF
        refine c_nil ?_
        refine n_then ?_
        refine c_ret (r_then (r_block (r_then ?_)))
        exact f_ret hF rfl (.tmp rfl (.tmp rfl (.nil))) (hS.retv (by rw [kind_eq cl x, if_neg hc16, if_pos hc21, if_pos hc28]; rfl))
      · try simp only [decide_eq_true_eq, decide_eq_false_iff_not, Bool.not_eq_true', Bool.not_eq_false', Bool.not_eq_eq_eq_not, Bool.not_true, Bool.not_false] at hc28
        obtain ⟨m, hm, hml⟩ := at_get hc28
        obtain ⟨g2, oc, hac, HC⟩ := hcl.at (i := m) (x := cl.getD m c0) (by rw [getD_lt cl m c0 hml]; exact List.getElem?_eq_getElem hml)
        rw [hm] at hF
        refine c_skip ?_
        refine n_then ?_
        refine c_seq ?_
        refine c_reg ?_
        refine s_pu hF (pu_move rfl) rfl ?_; clear hF; intro a hF
        refine s_pu hF (pu_move rfl) rfl ?_; clear hF; intro a hF
        refine s_pu hF (pu_iaddr_sla (j := m) hac slt38 rfl rfl (by omega) (by omega)) rfl ?_; clear hF; intro a hF
        refine s_pu hF (pu_faddr fld58_1 rfl) rfl ?_; clear hF; intro a hF
        refine s_pu hF (pu_load1 one32 rfl (HC _ hS.base 1 _ rfl)) rfl ?_; clear hF; intro a hF
        refine s_pu hF (pu_assign rfl) rfl ?_; clear hF; intro a hF
        refine s_pu hF (pu_assign rfl) rfl ?_; clear hF; intro a hF
        refine c_nil ?_
        refine n_then ?_
        refine c_ret (r_block (r_then ?_))
        exact f_ret hF rfl (.tmp rfl (.tmp rfl (.nil))) (hS.retv (by rw [kind_eq cl x, if_neg hc16, if_pos hc21, if_neg hc28, hm]; rfl))
    · try simp only [decide_eq_true_eq, decide_eq_false_iff_not, Bool.not_eq_true', Bool.not_eq_false', Bool.not_eq_eq_eq_not, Bool.not_true, Bool.not_false] at hc21
      obtain ⟨hop, hlen, hch⟩ := right_sub hr hc16 hc21
      refine c_skip ?_
      refine n_block ?_
      refine n_then ?_
      refine c_seq ?_
      refine c_reg ?_
      refine s_pu hF (pu_assign rfl) rfl ?_; clear hF; intro a hF
      replace hS := hS.newNil 32 1
      refine c_nil ?_
      refine n_then ?_
      refine c_seq ?_
      refine c_seq ?_
      refine c_reg ?_
      refine s_pu hF (pu_faddr fld37_3 rfl) rfl ?_; clear hF; intro a hF
      refine s_pu hF (o_load1 (i := 1) hS rfl one35 rfl rfl) rfl ?_; clear hF; intro a hF
      refine s_pu hF (pu_len_sl tyL35 rfl rfl) rfl ?_; clear hF; intro a hF
      refine s_pu hF (pu_move rfl) rfl ?_; clear hF; intro a hF
      refine c_nil ?_
      refine n_then ?_
      refine c_block ?_
      refine hS.cut fun O0 F0 hO0 hF0 hS => ?_
      subst hO0
      refine hF.cut (.cons (k := 7) rfl <| .cons (k := 37) rfl <| .nil) (.cons (k := 1) rfl <| .cons (k := 2) rfl <| .cons (k := 35) rfl <| .cons (k := 36) rfl <| .nil) fun L0 hL0 hF => ?_
      refine c_loop (α := Nat) (fun k a w => ∃ a0 c, k ≤ x.l.length ∧ (∀ j, j < k → (kindS cl (x.l.getD j ex0)).2 = 0) ∧ Fr a 65 ([(7, .val (.slice a0 k c)), (37, .val (.int .i64 (k : Nat)))] ++ L0) ∧ St w0 h0 [] w [bufE 32 1 (.slice a0 k c) (((x.l.take k).map fun y => (kindS cl y).1).map fun n => [Value.int .i64 n]).flatten, (some b0, CellsC 37 (exC x.op x.v x.s (.slice ad x.l.length cap)))] F0) (fun k => x.l.length - k) 0 (⟨none, 0, Nat.zero_le _, fun j hj => absurd hj (Nat.not_lt_zero j), hF, hS⟩) ?_
      subst hF0 hL0
      rintro k a w ⟨a0, c, hk, hn, hF, hS⟩
      refine c_seq ?_
      refine c_reg ?_
      refine s_pu hF (pu_ilt rfl rfl) rfl ?_; clear hF; intro a hF
      refine c_nil ?_
      refine n_then ?_
      refine c_seq ?_
      refine c_if hF rfl (fun hc38 => ?_) (fun hc38 => ?_)
      · try simp only [decide_eq_true_eq, decide_eq_false_iff_not, Bool.not_eq_true', Bool.not_eq_false', Bool.not_eq_eq_eq_not, Bool.not_true, Bool.not_false] at hc38
        obtain ⟨g1, o, ad2, cap2, ha, hgx, HX⟩ := hx.gl.at (i := k) (by omega)
        refine c_skip ?_
        refine n_then ?_
        refine c_seq ?_
        refine c_block ?_
        refine c_seq ?_
        refine c_reg ?_
        refine s_pu hF (pu_iaddr_sla (j := k) ha slt35 rfl rfl (by omega) (by omega)) rfl ?_; clear hF; intro a hF
        refine s_pu hF (pu_loadA (cs := (exC (x.l.getD k ex0).op (x.l.getD k ex0).v (x.l.getD k ex0).s (.slice ad2 (x.l.getD k ex0).l.length cap2))) agg37 rfl (fun j v hj => by rw [add_mk]; exact HX _ hS.base j v hj)) rfl ?_; clear hF; intro a hF
        refine s_alloc hF hS zero37 rfl ?_; clear hS hF; intro b2 w a hS hF
        refine s_store (i := 0) (new := exC (x.l.getD k ex0).op (x.l.getD k ex0).v (x.l.getD k ex0).s (.slice ad2 (x.l.getD k ex0).l.length cap2)) hF hS rfl rfl rfl rfl (by exact sz37) rfl (by simp [exC]) ?_; clear hS hF; intro w a hS hF
        rw [spl_all (by simp [exC])] at hS
        refine c_nil ?_
        refine n_then ?_
        refine c_seq ?_
        refine c_reg ?_
        refine s_pu hF (o_loadA (i := 0) (new := exC (x.l.getD k ex0).op (x.l.getD k ex0).v (x.l.getD k ex0).s (.slice ad2 (x.l.getD k ex0).l.length cap2)) hS rfl agg37 rfl (rfl)) rfl ?_; clear hF; intro a hF
        refine s_pu hF (pu_move rfl) rfl ?_; clear hF; intro a hF
        refine s_calld hF hS ok37 rfl (ih (x.l.getD k ex0) (getD_mem x.l k ex0 (by omega)) ad2 cap2 _ h0 hS.base hgx (hch _ (getD_mem x.l k ex0 (by omega))) hcl) rfl ?_; clear hS hF; intro w a hS hF
        refine s_pu hF (pu_move rfl) rfl ?_; clear hF; intro a hF
        refine s_pu hF (pu_extract rfl rfl) rfl ?_; clear hF; intro a hF
        refine s_pu hF (pu_extract rfl rfl) rfl ?_; clear hF; intro a hF
        refine s_pu hF (pu_assign rfl) rfl ?_; clear hF; intro a hF
        refine s_pu hF (pu_assign rfl) rfl ?_; clear hF; intro a hF
        refine c_nil ?_
        refine n_then ?_
        refine c_seq ?_
        refine c_seq ?_
        refine c_reg ?_
        refine s_pu hF (pu_move rfl) rfl ?_; clear hF; intro a hF
        refine s_pu hF (pu_ine rfl rfl) rfl ?_; clear hF; intro a hF
        refine c_nil ?_
        refine n_then ?_
        refine c_if hF rfl (fun hc48 => ?_) (fun hc48 => ?_)
        · try simp only [decide_eq_true_eq, decide_eq_false_iff_not, Bool.not_eq_true', Bool.not_eq_false', Bool.not_eq_eq_eq_not, Bool.not_true, Bool.not_false] at hc48
          refine c_seq ?_
          refine c_reg ?_
          refine s_pu hF (pu_move rfl) rfl ?_; clear hF; intro a hF
          refine s_pu hF (pu_assign rfl) rfl ?_; clear hF; intro a hF
          refine s_pu hF (pu_assign rfl) rfl ?_; clear hF; intro a hF
          refine c_nil ?_
          refine n_then ?_
          refine c_ret (r_then (r_block (r_then (r_then (r_block (r_then ?_))))))
          exact f_ret hF rfl (.tmp rfl (.tmp rfl (.nil))) (hS.retv (by rw [kind_er hc16 hc21 (by omega) hn hc48]; rfl))
        · try simp only [decide_eq_true_eq, decide_eq_false_iff_not, Bool.not_eq_true', Bool.not_eq_false', Bool.not_eq_eq_eq_not, Bool.not_true, Bool.not_false] at hc48
          refine c_skip ?_
          refine n_then ?_
          refine c_reg ?_
          refine s_pu hF (pu_move rfl) rfl ?_; clear hF; intro a hF
          refine s_pu hF (pu_move rfl) rfl ?_; clear hF; intro a hF
          refine s_build (xs := [.tmp 51]) hF hS slt_b81 rfl rfl (by simp [Value.cells]) (by decide) rfl ?_; clear hS hF; intro b3 w a hS hF
          refine s_append (i := 2) hF hS rfl slt_a81_81 rfl rfl (Src.own (hS.at (i := 0) rfl) rfl rfl) (by rw [flat1_len, List.length_map, List.length_take]; simp [cellsL, Value.cells]; omega) rfl ?_; clear hS hF; intro a0 nn c0 w a hnn hS hF
          refine s_pu hF (pu_assign rfl) rfl ?_; clear hF; intro a hF
          refine c_nil ?_
          refine n_block ?_
          refine n_then ?_
          refine c_reg ?_
          refine s_pu hF (pu_add rfl rfl (by first | exact wrap_i64 (by omega) (by omega) | rfl)) rfl ?_; clear hF; intro a hF
          refine s_pu hF (pu_move rfl) rfl ?_; clear hF; intro a hF
          refine c_nil ?_
          have hnn2 : nn = k + 1 := by (rw [flat1_len, List.length_map, List.length_take] at hnn; simp [cellsL, Value.cells] at hnn; omega)
          subst hnn2
          replace hS := (hS.forget 0).forget 0
          refine ⟨k + 1, ⟨a0, c0, by omega, upto_snoc hn hc48, hF.pick (.cons (k := 7) rfl <| .cons (k := 37) rfl <| .cons (k := 1) rfl <| .cons (k := 2) rfl <| .cons (k := 35) rfl <| .cons (k := 36) rfl <| .nil), ?_⟩, by omega⟩
          rw [take_snocD x.l k ex0 (by omega), List.map_append, List.map_append, List.flatten_append]
          exact hS
      · try simp only [decide_eq_true_eq, decide_eq_false_iff_not, Bool.not_eq_true', Bool.not_eq_false', Bool.not_eq_eq_eq_not, Bool.not_true, Bool.not_false] at hc38
        obtain rfl : k = x.l.length := by omega
        rw [List.take_length] at hS
        refine c_exit (x_then (x_then (x_here ?_)))
        refine n_then ?_
        refine c_seq ?_
        refine c_reg ?_
        refine s_pu hF (pu_faddr fld37_0 rfl) rfl ?_; clear hF; intro a hF
        refine s_pu hF (o_load1 (i := 1) hS rfl one31 rfl rfl) rfl ?_; clear hF; intro a hF
        refine s_pu hF (pu_move rfl) rfl ?_; clear hF; intro a hF
        have hbs := hS.bufSl (i := 0) rfl (fun _ _ => rfl) (by simp)
        refine s_calld hF hS ok59 rfl (c_rule x.op a0 c x.l.length (x.l.map fun y => (kindS cl y).1) (by simp) hop (by simpa using hlen) _ (Full _) (VLe.refl _) hbs) rfl ?_; clear hS hF hbs; intro w a hS hF
        refine s_pu hF (pu_move rfl) rfl ?_; clear hF; intro a hF
        refine s_pu hF (pu_extract rfl rfl) rfl ?_; clear hF; intro a hF
        refine s_pu hF (pu_extract rfl rfl) rfl ?_; clear hF; intro a hF
        refine s_pu hF (pu_assign rfl) rfl ?_; clear hF; intro a hF
        refine s_pu hF (pu_assign rfl) rfl ?_; clear hF; intro a hF
        refine c_nil ?_
        refine n_then ?_
        refine c_seq ?_
        refine c_seq ?_
        refine c_reg ?_
        refine s_pu hF (pu_move rfl) rfl ?_; clear hF; intro a hF
        refine s_pu hF (pu_not rfl) rfl ?_; clear hF; intro a hF
        refine c_nil ?_
        refine n_then ?_
        refine c_if hF rfl (fun hc63 => ?_) (fun hc63 => ?_)
        · try simp only [decide_eq_true_eq, decide_eq_false_iff_not, Bool.not_eq_true', Bool.not_eq_false', Bool.not_eq_eq_eq_not, Bool.not_true, Bool.not_false] at hc63
          refine c_seq ?_
          refine c_reg ?_
          refine s_pu hF (pu_assign rfl) rfl ?_; clear hF; intro a hF
          refine s_pu hF (pu_assign rfl) rfl ?_; clear hF; intro a hF
          refine c_nil ?_
          refine n_then ?_
          refine c_ret (r_then ?_)
          exact f_ret hF rfl (.tmp rfl (.tmp rfl (.nil))) (hS.retv (by rw [kind_ok hc16 hc21 (fun j hj => hn j (by omega)), ofK, if_neg (by simp [hc63])]; rfl))
        · try simp only [decide_eq_true_eq, decide_eq_false_iff_not, Bool.not_eq_true', Bool.not_eq_false', Bool.not_eq_eq_eq_not, Bool.not_true, Bool.not_false] at hc63
          refine c_skip ?_
          refine n_then ?_
          refine c_seq ?_
          refine c_reg ?_
          refine s_pu hF (pu_move rfl) rfl ?_; clear hF; intro a hF
          refine s_pu hF (pu_assign rfl) rfl ?_; clear hF; intro a hF
          refine s_pu hF (pu_assign rfl) rfl ?_; clear hF; intro a hF
          refine c_nil ?_
          refine n_then ?_
          refine c_ret ?_
          exact f_ret hF rfl (.tmp rfl (.tmp rfl (.nil))) (hS.retv (by rw [kind_ok hc16 hc21 (fun j hj => hn j (by omega)), ofK, if_pos (by simpa using hc63)]; rfl))
theorem c_kind (adc : Option Addr) (capc : Nat) (cl : List Col) (hfew : ∀ j, j < cl.length → (cl.getD j c0).name.length ≤ 300) : ∀ (x : Ex) (ad : Option Addr) (cap : Nat) (w : World) (h0 : View), VLe h0 (Full w) → GX h0 ad cap x → rightS x = true → SlC 0 3 (flatR colC) h0 (.slice adc cl.length capc) cl → Calls Try.prog 37 #[Value.agg (exC x.op x.v x.s (.slice ad x.l.length cap)).toArray, .slice adc cl.length capc] w (Ret w h0 fun u _ => u = .tuple #[.int .i64 (kindS cl x).1, .int .i64 (kindS cl x).2])
  | x, ad, cap, w, h0, hv, hx, hr, hcl => c_kind_ adc capc cl hfew x ad cap (fun y hy ad cap w h0 hv hx hr hcl => c_kind adc capc cl hfew y ad cap w h0 hv hx hr hcl) w h0 hv hx hr hcl
termination_by x => SizeOf.sizeOf x
decreasing_by exact Ex.lt hy

set_option maxHeartbeats 2000000 in
theorem c_Rkind_ (adc : Option Addr) (capc : Nat) (cl : List Col) (hfew : ∀ j, j < cl.length → (cl.getD j c0).name.length ≤ 300) (x : Ex) (ad : Option Addr) (cap : Nat) (ih : ∀ y ∈ x.l, ∀ (ad : Option Addr) (cap : Nat) (w : World) (h0 : View), VLe h0 (Full w) → GX h0 ad cap y → rightS y = true → SlC 0 3 (flatR colC) h0 (.slice adc cl.length capc) cl → Calls Try.prog 39 #[Value.agg (exC y.op y.v y.s (.slice ad y.l.length cap)).toArray, .slice adc cl.length capc] w (Ret w h0 fun u _ => u = .tuple #[.int .i64 (kindS cl y).1, .int .i64 (kindS cl y).2])) (w0 : World) (h0 : View) (hv : VLe h0 (Full w0)) (hx : GX h0 ad cap x) (hr : rightS x = true) (hcl : SlC 0 3 (flatR colC) h0 (.slice adc cl.length capc) cl) : Calls Try.prog 39 #[Value.agg (exC x.op x.v x.s (.slice ad x.l.length cap)).toArray, .slice adc cl.length capc] w0 (Ret w0 h0 fun u _ => u = .tuple #[.int .i64 (kindS cl x).1, .int .i64 (kindS cl x).2]) := by
  refine f_enter (args := [Value.agg (exC x.op x.v x.s (.slice ad x.l.length cap)).toArray, .slice adc cl.length capc]) Try.func39 rfl Try.ntmps39 rfl fun a hF => ?_
  have hS := St.init w0 h0 hv
  have hlm := hx.xl.lm
  have hcm := hcl.lm
  have hsm := hx.sm.parts.2.2.1
  refine c_seq ?_
  refine c_reg ?_
  refine s_box hF hS rfl rfl rfl ?_; clear hS hF; intro b0 w a hS hF
  refine s_pu hF (pu_assign rfl) rfl ?_; clear hF; intro a hF
  refine s_pu hF (pu_assign rfl) rfl ?_; clear hF; intro a hF
  refine c_nil ?_
  refine n_then ?_
  refine c_seq ?_
  refine c_seq ?_
  refine c_reg ?_
  refine s_pu hF (pu_faddr fld37_0 rfl) rfl ?_; clear hF; intro a hF
  refine s_pu hF (o_load1 (i := 0) hS rfl one31 rfl rfl) rfl ?_; clear hF; intro a hF
  refine c_nil ?_
  refine n_then ?_
  refine c_block ?_
  refine c_seq ?_
  refine c_reg ?_
  refine s_pu hF (pu_ieq rfl rfl) rfl ?_; clear hF; intro a hF
  refine s_pu hF (pu_assign rfl) rfl ?_; clear hF; intro a hF
  refine c_nil ?_
  refine n_then ?_
  refine c_if hF rfl (fun hc13 => ?_) (fun hc13 => ?_)
  · try simp only [decide_eq_true_eq, decide_eq_false_iff_not, Bool.not_eq_true', Bool.not_eq_false', Bool.not_eq_eq_eq_not, Bool.not_true, Bool.not_false] at hc13
    refine c_seq ?_
    refine c_reg ?_
    refine s_pu hF (pu_faddr fld37_1 rfl) rfl ?_; clear hF; intro a hF
    refine s_pu hF (pu_faddr fld34_0 rfl) rfl ?_; clear hF; intro a hF
    refine s_pu hF (o_load1 (i := 0) hS rfl one32 rfl rfl) rfl ?_; clear hF; intro a hF
    refine s_pu hF (pu_assign rfl) rfl ?_; clear hF; intro a hF
    refine s_pu hF (pu_assign rfl) rfl ?_; clear hF; intro a hF
    refine c_nil ?_
    refine n_then ?_
    refine c_ret (r_block (r_then ?_))
    exact f_ret hF rfl (.tmp rfl (.tmp rfl (.nil))) (hS.retv (by rw [kind_eq cl x, if_pos hc13]; rfl))
  · try simp only [decide_eq_true_eq, decide_eq_false_iff_not, Bool.not_eq_true', Bool.not_eq_false', Bool.not_eq_eq_eq_not, Bool.not_true, Bool.not_false] at hc13
    refine c_seq ?_
    refine c_reg ?_
    refine s_pu hF (pu_ieq rfl rfl) rfl ?_; clear hF; intro a hF
    refine s_pu hF (pu_assign rfl) rfl ?_; clear hF; intro a hF
    refine c_nil ?_
    refine n_then ?_
    refine c_if hF rfl (fun hc18 => ?_) (fun hc18 => ?_)
    · try simp only [decide_eq_true_eq, decide_eq_false_iff_not, Bool.not_eq_true', Bool.not_eq_false', Bool.not_eq_eq_eq_not, Bool.not_true, Bool.not_false] at hc18
      refine c_seq ?_
      refine c_reg ?_
      refine s_pu hF (pu_move rfl) rfl ?_; clear hF; intro a hF
      refine s_pu hF (pu_faddr fld37_2 rfl) rfl ?_; clear hF; intro a hF
      refine s_pu hF (o_load1 (i := 0) hS rfl one9 rfl rfl) rfl ?_; clear hF; intro a hF
      refine s_calld hF hS ok41 rfl (c_RAt adc capc cl x.s _ h0 hS.base hcl) rfl ?_; clear hS hF; intro w a hS hF
      refine s_pu hF (pu_assign rfl) rfl ?_; clear hF; intro a hF
      refine c_nil ?_
      refine n_then ?_
      refine c_seq ?_
      refine c_seq ?_
      refine c_reg ?_
      refine s_pu hF (pu_move rfl) rfl ?_; clear hF; intro a hF
      refine s_pu hF (pu_ilt rfl rfl) rfl ?_; clear hF; intro a hF
      refine c_nil ?_
      refine n_then ?_
      refine c_if hF rfl (fun hc25 => ?_) (fun hc25 => ?_)
      · try simp only [decide_eq_true_eq, decide_eq_false_iff_not, Bool.not_eq_true', Bool.not_eq_false', Bool.not_eq_eq_eq_not, Bool.not_true, Bool.not_false] at hc25
        refine c_seq ?_
        refine c_reg ?_
        refine s_pu hF (pu_assign rfl) rfl ?_; clear hF; intro a hF
        refine s_pu hF (pu_assign rfl) rfl ?_; clear hF; intro a hF
        refine c_nil ?_
        refine n_then ?_
        refine c_ret (r_then (r_block (r_then ?_)))
        exact f_ret hF rfl (.tmp rfl (.tmp rfl (.nil))) (hS.retv (by rw [kind_eq cl x, if_neg hc13, if_pos hc18, if_pos hc25]; rfl))
      · try simp only [decide_eq_true_eq, decide_eq_false_iff_not, Bool.not_eq_true', Bool.not_eq_false', Bool.not_eq_eq_eq_not, Bool.not_true, Bool.not_false] at hc25
        obtain ⟨m, hm, hml⟩ := at_get hc25
        obtain ⟨g2, oc, hac, HC⟩ := hcl.at (i := m) (x := cl.getD m c0) (by rw [getD_lt cl m c0 hml]; exact List.getElem?_eq_getElem hml)
        rw [hm] at hF
        refine c_skip ?_
        refine n_then ?_
        refine c_seq ?_
        refine c_reg ?_
        refine s_pu hF (pu_move rfl) rfl ?_; clear hF; intro a hF
        refine s_pu hF (pu_move rfl) rfl ?_; clear hF; intro a hF
        refine s_pu hF (pu_iaddr_sla (j := m) hac slt38 rfl rfl (by omega) (by omega)) rfl ?_; clear hF; intro a hF
        refine s_pu hF (pu_faddr fld58_1 rfl) rfl ?_; clear hF; intro a hF
        refine s_pu hF (pu_load1 one32 rfl (HC _ hS.base 1 _ rfl)) rfl ?_; clear hF; intro a hF
        refine s_pu hF (pu_assign rfl) rfl ?_; clear hF; intro a hF
        refine s_pu hF (pu_assign rfl) rfl ?_; clear hF; intro a hF
        refine c_nil ?_
        refine n_then ?_
        refine c_ret (r_block (r_then ?_))
        exact f_ret hF rfl (.tmp rfl (.tmp rfl (.nil))) (hS.retv (by rw [kind_eq cl x, if_neg hc13, if_pos hc18, if_neg hc25, hm]; rfl))
    · try simp only [decide_eq_true_eq, decide_eq_false_iff_not, Bool.not_eq_true', Bool.not_eq_false', Bool.not_eq_eq_eq_not, Bool.not_true, Bool.not_false] at hc18
      obtain ⟨hop, hlen, hch⟩ := right_sub hr hc13 hc18
      refine c_skip ?_
      refine n_block ?_
      refine n_then ?_
      refine c_seq ?_
      refine c_reg ?_
      refine s_pu hF (pu_assign rfl) rfl ?_; clear hF; intro a hF
      replace hS := hS.newNil 32 1
      refine c_nil ?_
      refine n_then ?_
      refine c_seq ?_
      refine c_seq ?_
      refine c_reg ?_
      refine s_pu hF (pu_assign rfl) rfl ?_; clear hF; intro a hF
      refine c_nil ?_
      refine n_then ?_
      refine c_block ?_
      refine hS.cut fun O0 F0 hO0 hF0 hS => ?_
      subst hO0
      refine hF.cut (.cons (k := 7) rfl <| .cons (k := 8) rfl <| .nil) (.cons (k := 1) rfl <| .cons (k := 2) rfl <| .nil) fun L0 hL0 hF => ?_
      refine c_loop (α := Nat) (fun k a w => ∃ a0 c, k ≤ x.l.length ∧ (∀ j, j < k → (kindS cl (x.l.getD j ex0)).2 = 0) ∧ Fr a 61 ([(7, .val (.slice a0 k c)), (8, .val (.int .i64 (k : Nat)))] ++ L0) ∧ St w0 h0 [] w [bufE 32 1 (.slice a0 k c) (((x.l.take k).map fun y => (kindS cl y).1).map fun n => [Value.int .i64 n]).flatten, (some b0, CellsC 37 (exC x.op x.v x.s (.slice ad x.l.length cap)))] F0) (fun k => x.l.length - k) 0 (⟨none, 0, Nat.zero_le _, fun j hj => absurd hj (Nat.not_lt_zero j), hF, hS⟩) ?_
      subst hF0 hL0
      rintro k a w ⟨a0, c, hk, hn, hF, hS⟩
      refine c_seq ?_
      refine c_seq ?_
      refine c_reg ?_
      refine s_pu hF (pu_move rfl) rfl ?_; clear hF; intro a hF
      refine s_pu hF (pu_faddr fld37_3 rfl) rfl ?_; clear hF; intro a hF
      refine s_pu hF (o_load1 (i := 1) hS rfl one35 rfl rfl) rfl ?_; clear hF; intro a hF
      refine s_pu hF (pu_len_sl tyL35 rfl rfl) rfl ?_; clear hF; intro a hF
      refine s_pu hF (pu_ilt rfl rfl) rfl ?_; clear hF; intro a hF
      refine c_nil ?_
      refine n_then ?_
      refine c_if hF rfl (fun hc35 => ?_) (fun hc35 => ?_)
      · try simp only [decide_eq_true_eq, decide_eq_false_iff_not, Bool.not_eq_true', Bool.not_eq_false', Bool.not_eq_eq_eq_not, Bool.not_true, Bool.not_false] at hc35
        obtain ⟨g1, o, ad2, cap2, ha, hgx, HX⟩ := hx.gl.at (i := k) (by omega)
        refine c_skip ?_
        refine n_then ?_
        refine c_seq ?_
        refine c_block ?_
        refine c_seq ?_
        refine c_reg ?_
        refine s_pu hF (pu_faddr fld37_3 rfl) rfl ?_; clear hF; intro a hF
        refine s_pu hF (o_load1 (i := 1) hS rfl one35 rfl rfl) rfl ?_; clear hF; intro a hF
        refine s_pu hF (pu_move rfl) rfl ?_; clear hF; intro a hF
        refine s_pu hF (pu_iaddr_sla (j := k) ha slt35 rfl rfl (by omega) (by omega)) rfl ?_; clear hF; intro a hF
        refine s_pu hF (pu_loadA (cs := (exC (x.l.getD k ex0).op (x.l.getD k ex0).v (x.l.getD k ex0).s (.slice ad2 (x.l.getD k ex0).l.length cap2))) agg37 rfl (fun j v hj => by rw [add_mk]; exact HX _ hS.base j v hj)) rfl ?_; clear hF; intro a hF
        refine s_pu hF (pu_move rfl) rfl ?_; clear hF; intro a hF
        refine s_calld hF hS ok39 rfl (ih (x.l.getD k ex0) (getD_mem x.l k ex0 (by omega)) ad2 cap2 _ h0 hS.base hgx (hch _ (getD_mem x.l k ex0 (by omega))) hcl) rfl ?_; clear hS hF; intro w a hS hF
        refine s_pu hF (pu_move rfl) rfl ?_; clear hF; intro a hF
        refine s_pu hF (pu_extract rfl rfl) rfl ?_; clear hF; intro a hF
        refine s_pu hF (pu_extract rfl rfl) rfl ?_; clear hF; intro a hF
        refine s_pu hF (pu_assign rfl) rfl ?_; clear hF; intro a hF
        refine s_pu hF (pu_assign rfl) rfl ?_; clear hF; intro a hF
        refine c_nil ?_
        refine n_then ?_
        refine c_seq ?_
        refine c_seq ?_
        refine c_reg ?_
        refine s_pu hF (pu_move rfl) rfl ?_; clear hF; intro a hF
        refine s_pu hF (pu_ine rfl rfl) rfl ?_; clear hF; intro a hF
        refine c_nil ?_
        refine n_then ?_
        refine c_if hF rfl (fun hc49 => ?_) (fun hc49 => ?_)
        · try simp only [decide_eq_true_eq, decide_eq_false_iff_not, Bool.not_eq_true', Bool.not_eq_false', Bool.not_eq_eq_eq_not, Bool.not_true, Bool.not_false] at hc49
          refine c_seq ?_
          refine c_reg ?_
          refine s_pu hF (pu_move rfl) rfl ?_; clear hF; intro a hF
          refine s_pu hF (pu_assign rfl) rfl ?_; clear hF; intro a hF
          refine s_pu hF (pu_assign rfl) rfl ?_; clear hF; intro a hF
          refine c_nil ?_
          refine n_then ?_
          refine c_ret (r_then (r_block (r_then (r_then (r_block (r_then ?_))))))
          exact f_ret hF rfl (.tmp rfl (.tmp rfl (.nil))) (hS.retv (by rw [kind_er hc13 hc18 (by omega) hn hc49]; rfl))
        · try simp only [decide_eq_true_eq, decide_eq_false_iff_not, Bool.not_eq_true', Bool.not_eq_false', Bool.not_eq_eq_eq_not, Bool.not_true, Bool.not_false] at hc49
          refine c_skip ?_
          refine n_then ?_
          refine c_reg ?_
          refine s_pu hF (pu_move rfl) rfl ?_; clear hF; intro a hF
          refine s_pu hF (pu_move rfl) rfl ?_; clear hF; intro a hF
          refine s_build (xs := [.tmp 52]) hF hS slt_b81 rfl rfl (by simp [Value.cells]) (by decide) rfl ?_; clear hS hF; intro b2 w a hS hF
          refine s_append (i := 1) hF hS rfl slt_a81_81 rfl rfl (Src.own (hS.at (i := 0) rfl) rfl rfl) (by rw [flat1_len, List.length_map, List.length_take]; simp [cellsL, Value.cells]; omega) rfl ?_; clear hS hF; intro a0 nn c0 w a hnn hS hF
          refine s_pu hF (pu_assign rfl) rfl ?_; clear hF; intro a hF
          refine c_nil ?_
          refine n_block ?_
          refine n_then ?_
          refine c_reg ?_
          refine s_pu hF (pu_move rfl) rfl ?_; clear hF; intro a hF
          refine s_pu hF (pu_add rfl rfl (by first | exact wrap_i64 (by omega) (by omega) | rfl)) rfl ?_; clear hF; intro a hF
          refine s_pu hF (pu_assign rfl) rfl ?_; clear hF; intro a hF
          refine c_nil ?_
          have hnn2 : nn = k + 1 := by (rw [flat1_len, List.length_map, List.length_take] at hnn; simp [cellsL, Value.cells] at hnn; omega)
          subst hnn2
          replace hS := hS.forget 0
          refine ⟨k + 1, ⟨a0, c0, by omega, upto_snoc hn hc49, hF.pick (.cons (k := 7) rfl <| .cons (k := 8) rfl <| .cons (k := 1) rfl <| .cons (k := 2) rfl <| .nil), ?_⟩, by omega⟩
          rw [take_snocD x.l k ex0 (by omega), List.map_append, List.map_append, List.flatten_append]
          exact hS
      · try simp only [decide_eq_true_eq, decide_eq_false_iff_not, Bool.not_eq_true', Bool.not_eq_false', Bool.not_eq_eq_eq_not, Bool.not_true, Bool.not_false] at hc35
        obtain rfl : k = x.l.length := by omega
        rw [List.take_length] at hS
        refine c_exit (x_then (x_then (x_here ?_)))
        refine n_then ?_
        refine c_seq ?_
        refine c_reg ?_
        refine s_pu hF (pu_faddr fld37_0 rfl) rfl ?_; clear hF; intro a hF
        refine s_pu hF (o_load1 (i := 1) hS rfl one31 rfl rfl) rfl ?_; clear hF; intro a hF
        refine s_pu hF (pu_move rfl) rfl ?_; clear hF; intro a hF
        have hbs := hS.bufSl (i := 0) rfl (fun _ _ => rfl) (by simp)
        refine s_calld hF hS ok62 rfl (c_Rof x.op a0 c x.l.length (x.l.map fun y => (kindS cl y).1) (by simp) hop (by simpa using hlen) _ (Full _) (VLe.refl _) hbs) rfl ?_; clear hS hF hbs; intro w a hS hF
        refine s_pu hF (pu_extract rfl rfl) rfl ?_; clear hF; intro a hF
        refine s_pu hF (pu_extract rfl rfl) rfl ?_; clear hF; intro a hF
        refine s_pu hF (pu_assign rfl) rfl ?_; clear hF; intro a hF
        refine s_pu hF (pu_assign rfl) rfl ?_; clear hF; intro a hF
        refine c_nil ?_
        refine n_then ?_
        refine c_ret ?_
        exact f_ret hF rfl (.tmp rfl (.tmp rfl (.nil))) (hS.retv (by rw [kind_ok hc13 hc18 (fun j hj => hn j (by omega))]; rfl))
theorem c_Rkind (adc : Option Addr) (capc : Nat) (cl : List Col) (hfew : ∀ j, j < cl.length → (cl.getD j c0).name.length ≤ 300) : ∀ (x : Ex) (ad : Option Addr) (cap : Nat) (w : World) (h0 : View), VLe h0 (Full w) → GX h0 ad cap x → rightS x = true → SlC 0 3 (flatR colC) h0 (.slice adc cl.length capc) cl → Calls Try.prog 39 #[Value.agg (exC x.op x.v x.s (.slice ad x.l.length cap)).toArray, .slice adc cl.length capc] w (Ret w h0 fun u _ => u = .tuple #[.int .i64 (kindS cl x).1, .int .i64 (kindS cl x).2])
  | x, ad, cap, w, h0, hv, hx, hr, hcl => c_Rkind_ adc capc cl hfew x ad cap (fun y hy ad cap w h0 hv hx hr hcl => c_Rkind adc capc cl hfew y ad cap w h0 hv hx hr hcl) w h0 hv hx hr hcl
termination_by x => SizeOf.sizeOf x
decreasing_by exact Ex.lt hy

theorem c_Kind (adc : Option Addr) (capc : Nat) (cl : List Col) (hfew : ∀ j, j < cl.length → (cl.getD j c0).name.length ≤ 300) (x : Ex) (ad : Option Addr) (cap : Nat) (w0 : World) (h0 : View) (hv : VLe h0 (Full w0)) (hx : GX h0 ad cap x) (hcl : SlC 0 3 (flatR colC) h0 (.slice adc cl.length capc) cl) : Calls Try.prog 17 #[Value.agg (exC x.op x.v x.s (.slice ad x.l.length cap)).toArray, .slice adc cl.length capc] w0 (Ret w0 h0 fun u _ => u = .tuple #[.int .i64 (kindT cl x).1, .int .i64 (kindT cl x).2]) := by
  refine f_enter (args := [Value.agg (exC x.op x.v x.s (.slice ad x.l.length cap)).toArray, .slice adc cl.length capc]) Try.func17 rfl Try.ntmps17 rfl fun a hF => ?_
  have hS := St.init w0 h0 hv
  refine c_seq ?_
  refine c_reg ?_
  refine s_box hF hS rfl rfl rfl ?_; clear hS hF; intro b0 w a hS hF
  refine s_pu hF (pu_assign rfl) rfl ?_; clear hF; intro a hF
  refine s_pu hF (pu_assign rfl) rfl ?_; clear hF; intro a hF
  refine c_nil ?_
  refine n_then ?_
  refine c_seq ?_
  refine c_seq ?_
  refine c_reg ?_
  refine s_pu hF (o_loadA (i := 0) (new := exC x.op x.v x.s (.slice ad x.l.length cap)) hS rfl agg37 rfl (rfl)) rfl ?_; clear hF; intro a hF
  refine s_calld hF hS ok23 rfl (c_Check x ad cap _ h0 hS.base hx) rfl ?_; clear hS hF; intro w a hS hF
  refine s_pu hF (pu_assign rfl) rfl ?_; clear hF; intro a hF
  refine c_nil ?_
  refine n_then ?_
  refine c_seq ?_
  refine c_reg ?_
  refine s_pu hF (pu_move rfl) rfl ?_; clear hF; intro a hF
  refine s_pu hF (pu_ine rfl rfl) rfl ?_; clear hF; intro a hF
  refine c_nil ?_
  refine n_then ?_
  refine c_if hF rfl (fun hc10 => ?_) (fun hc10 => ?_)
  · try simp only [decide_eq_true_eq, decide_eq_false_iff_not, Bool.not_eq_true', Bool.not_eq_false', Bool.not_eq_eq_eq_not, Bool.not_true, Bool.not_false] at hc10
    refine c_seq ?_
    refine c_reg ?_
    refine s_pu hF (pu_move rfl) rfl ?_; clear hF; intro a hF
    refine s_pu hF (pu_assign rfl) rfl ?_; clear hF; intro a hF
    refine s_pu hF (pu_assign rfl) rfl ?_; clear hF; intro a hF
    refine c_nil ?_
    refine n_then ?_
    refine c_ret (r_then ?_)
    exact f_ret hF rfl (.tmp rfl (.tmp rfl (.nil))) (hS.retv (by rw [kindT, if_neg (right_not hc10), if_neg (right_not hc10)]; rfl))
  · try simp only [decide_eq_true_eq, decide_eq_false_iff_not, Bool.not_eq_true', Bool.not_eq_false', Bool.not_eq_eq_eq_not, Bool.not_true, Bool.not_false] at hc10
    have hr := right_only (by omega)
    refine c_skip ?_
    refine n_then ?_
    refine c_seq ?_
    refine c_reg ?_
    refine s_pu hF (o_loadA (i := 0) (new := exC x.op x.v x.s (.slice ad x.l.length cap)) hS rfl agg37 rfl (rfl)) rfl ?_; clear hF; intro a hF
    refine s_pu hF (pu_move rfl) rfl ?_; clear hF; intro a hF
    refine s_calld hF hS ok37 rfl (c_kind adc capc cl hfew x ad cap _ h0 hS.base hx hr hcl) rfl ?_; clear hS hF; intro w a hS hF
    refine s_pu hF (pu_extract rfl rfl) rfl ?_; clear hF; intro a hF
    refine s_pu hF (pu_extract rfl rfl) rfl ?_; clear hF; intro a hF
    refine s_pu hF (pu_assign rfl) rfl ?_; clear hF; intro a hF
    refine s_pu hF (pu_assign rfl) rfl ?_; clear hF; intro a hF
    refine c_nil ?_
    refine n_then ?_
    refine c_ret ?_
    exact f_ret hF rfl (.tmp rfl (.tmp rfl (.nil))) (hS.retv (by rw [kindT, if_pos hr]; rfl))
theorem c_RKind (adc : Option Addr) (capc : Nat) (cl : List Col) (hfew : ∀ j, j < cl.length → (cl.getD j c0).name.length ≤ 300) (x : Ex) (ad : Option Addr) (cap : Nat) (w0 : World) (h0 : View) (hv : VLe h0 (Full w0)) (hx : GX h0 ad cap x) (hcl : SlC 0 3 (flatR colC) h0 (.slice adc cl.length capc) cl) : Calls Try.prog 18 #[Value.agg (exC x.op x.v x.s (.slice ad x.l.length cap)).toArray, .slice adc cl.length capc] w0 (Ret w0 h0 fun u _ => u = .tuple #[.int .i64 (kindT cl x).1, .int .i64 (kindT cl x).2]) := by
  refine f_enter (args := [Value.agg (exC x.op x.v x.s (.slice ad x.l.length cap)).toArray, .slice adc cl.length capc]) Try.func18 rfl Try.ntmps18 rfl fun a hF => ?_
  have hS := St.init w0 h0 hv
  refine c_seq ?_
  refine c_reg ?_
  refine s_box hF hS rfl rfl rfl ?_; clear hS hF; intro b0 w a hS hF
  refine s_pu hF (pu_assign rfl) rfl ?_; clear hF; intro a hF
  refine s_pu hF (pu_assign rfl) rfl ?_; clear hF; intro a hF
  refine c_nil ?_
  refine n_then ?_
  refine c_seq ?_
  refine c_seq ?_
  refine c_reg ?_
  refine s_pu hF (o_loadA (i := 0) (new := exC x.op x.v x.s (.slice ad x.l.length cap)) hS rfl agg37 rfl (rfl)) rfl ?_; clear hF; intro a hF
  refine s_calld hF hS ok38 rfl (c_RRightX x ad cap _ h0 hS.base hx) rfl ?_; clear hS hF; intro w a hS hF
  refine s_pu hF (pu_not rfl) rfl ?_; clear hF; intro a hF
  refine c_nil ?_
  refine n_then ?_
  refine c_if hF rfl (fun hc8 => ?_) (fun hc8 => ?_)
  · try simp only [decide_eq_true_eq, decide_eq_false_iff_not, Bool.not_eq_true', Bool.not_eq_false', Bool.not_eq_eq_eq_not, Bool.not_true, Bool.not_false] at hc8
    refine c_seq ?_
    refine c_reg ?_
    refine s_pu hF (pu_assign rfl) rfl ?_; clear hF; intro a hF
    refine s_pu hF (pu_assign rfl) rfl ?_; clear hF; intro a hF
    refine c_nil ?_
    refine n_then ?_
    refine c_ret (r_then ?_)
    exact f_ret hF rfl (.tmp rfl (.tmp rfl (.nil))) (hS.retv (by rw [kindT, if_neg (by simp [hc8])]; rfl))
  · try simp only [decide_eq_true_eq, decide_eq_false_iff_not, Bool.not_eq_true', Bool.not_eq_false', Bool.not_eq_eq_eq_not, Bool.not_true, Bool.not_false] at hc8
    refine c_skip ?_
    refine n_then ?_
    refine c_seq ?_
    refine c_reg ?_
    refine s_pu hF (o_loadA (i := 0) (new := exC x.op x.v x.s (.slice ad x.l.length cap)) hS rfl agg37 rfl (rfl)) rfl ?_; clear hF; intro a hF
    refine s_pu hF (pu_move rfl) rfl ?_; clear hF; intro a hF
    refine s_calld hF hS ok39 rfl (c_Rkind adc capc cl hfew x ad cap _ h0 hS.base hx hc8 hcl) rfl ?_; clear hS hF; intro w a hS hF
    refine s_pu hF (pu_extract rfl rfl) rfl ?_; clear hF; intro a hF
    refine s_pu hF (pu_extract rfl rfl) rfl ?_; clear hF; intro a hF
    refine s_pu hF (pu_assign rfl) rfl ?_; clear hF; intro a hF
    refine s_pu hF (pu_assign rfl) rfl ?_; clear hF; intro a hF
    refine c_nil ?_
    refine n_then ?_
    refine c_ret ?_
    exact f_ret hF rfl (.tmp rfl (.tmp rfl (.nil))) (hS.retv (by rw [kindT, if_pos hc8]; rfl))
theorem c_lname (s : List UInt8) (w0 : World) (h0 : View) (hv : VLe h0 (Full w0))  : Calls Try.prog 36 #[vs s] w0 (Ret w0 h0 fun u _ => u = .agg (leafC 2 v0 s).toArray) := by
  refine f_enter (args := [vs s]) Try.func36 rfl Try.ntmps36 rfl fun a hF => ?_
  have hS := St.init w0 h0 hv
  refine c_seq ?_
  refine c_reg ?_
  refine s_alloc hF hS zero37 rfl ?_; clear hS hF; intro b0 w a hS hF
  refine c_nil ?_
  refine n_then ?_
  refine c_seq ?_
  refine c_reg ?_
  refine s_pu hF (pu_move rfl) rfl ?_; clear hF; intro a hF
  refine s_pu hF (pu_build_st (cs := leafC 2 v0 s) strb37 rfl rfl) rfl ?_; clear hF; intro a hF
  refine s_store (i := 0) (new := leafC 2 v0 s) hF hS rfl rfl rfl rfl (by exact sz37) rfl (by simp [leafC, exC]) ?_; clear hS hF; intro w a hS hF
  rw [spl_all (by simp [leafC, exC])] at hS
  refine c_nil ?_
  refine n_then ?_
  refine c_ret ?_
  exact f_ret hF rfl (.cell rfl (o_lvA (i := 0) hS rfl agg37) (.nil)) (hS.retv rfl)
theorem c_lval (v : Val) (w0 : World) (h0 : View) (hv : VLe h0 (Full w0))  : Calls Try.prog 24 #[.agg (valC v).toArray] w0 (Ret w0 h0 fun u _ => u = .agg (leafC 1 v []).toArray) := by
  refine f_enter (args := [.agg (valC v).toArray]) Try.func24 rfl Try.ntmps24 rfl fun a hF => ?_
  have hS := St.init w0 h0 hv
  refine c_seq ?_
  refine c_reg ?_
  refine s_box hF hS rfl rfl rfl ?_; clear hS hF; intro b0 w a hS hF
  refine s_alloc hF hS zero37 rfl ?_; clear hS hF; intro b1 w a hS hF
  refine c_nil ?_
  refine n_then ?_
  refine c_seq ?_
  refine c_reg ?_
  refine s_pu hF (o_loadA (i := 1) (new := valC v) hS rfl agg34 rfl (rfl)) rfl ?_; clear hF; intro a hF
  refine s_pu hF (pu_build_st (cs := leafC 1 v []) strb37 rfl rfl) rfl ?_; clear hF; intro a hF
  refine s_store (i := 0) (new := leafC 1 v []) hF hS rfl rfl rfl rfl (by exact sz37) rfl (by simp [leafC, exC]) ?_; clear hS hF; intro w a hS hF
  rw [spl_all (by simp [leafC, exC])] at hS
  refine c_nil ?_
  refine n_then ?_
  refine c_ret ?_
  exact f_ret hF rfl (.cell rfl (o_lvA (i := 0) hS rfl agg37) (.nil)) (hS.retv rfl)
theorem c_lplus (o1 o2 : Int) (u1 u2 : Val) (s1 s2 : List UInt8) (w0 : World) (h0 : View) (hv : VLe h0 (Full w0)) : Calls Try.prog 35 #[.agg (leafC o1 u1 s1).toArray, .agg (leafC o2 u2 s2).toArray] w0 (RetM [] w0 fun v w' => ∃ b, v = .agg (exC 4 v0 [] (.slice (some ⟨b, 0, none⟩) 2 2)).toArray ∧ NewRow w0 37 (leafC o1 u1 s1 ++ leafC o2 u2 s2) b w') := by
  refine f_enter (args := [.agg (leafC o1 u1 s1).toArray, .agg (leafC o2 u2 s2).toArray]) Try.func35 rfl Try.ntmps35 rfl fun a hF => ?_
  have hS := St.init w0 h0 hv
  refine c_seq ?_
  refine c_reg ?_
  refine s_box (cs := leafC o1 u1 s1) hF hS rfl rfl rfl ?_; clear hS hF; intro b0 w a hS hF
  refine s_box (cs := leafC o2 u2 s2) hF hS rfl rfl rfl ?_; clear hS hF; intro b1 w a hS hF
  refine s_alloc hF hS zero37 rfl ?_; clear hS hF; intro b2 w a hS hF
  refine c_nil ?_
  refine n_then ?_
  refine c_seq ?_
  refine c_reg ?_
  refine s_pu hF (o_loadA (i := 2) (new := leafC o1 u1 s1) hS rfl agg37 rfl (rfl)) rfl ?_; clear hF; intro a hF
  refine s_pu hF (o_loadA (i := 1) (new := leafC o2 u2 s2) hS rfl agg37 rfl (rfl)) rfl ?_; clear hF; intro a hF
  refine s_build (xs := [.tmp 5, .tmp 6]) hF hS slt_b35 rfl rfl (by simp [Value.cells, leafC, exC]) (by decide) rfl ?_; clear hS hF; intro b3 w a hS hF
  refine s_pu hF (pu_build_st (cs := exC 4 v0 [] (.slice (some ⟨b3, 0, none⟩) 2 2)) strb37 rfl rfl) rfl ?_; clear hF; intro a hF
  refine s_store (i := 1) (new := exC 4 v0 [] (.slice (some ⟨b3, 0, none⟩) 2 2)) hF hS rfl rfl rfl rfl (by exact sz37) rfl (by simp [leafC, exC]) ?_; clear hS hF; intro w a hS hF
  rw [spl_all (by simp [leafC, exC])] at hS
  refine c_nil ?_
  refine n_then ?_
  refine c_ret ?_
  refine f_ret hF rfl (.cell rfl (o_lvA (i := 1) hS rfl agg37) (.nil)) ?_
  refine hS.retM ⟨_, rfl, (hS.fresh _ (by simp [ids])).1.resolve_right (by simp), hS.at (i := 0) rfl⟩
set_option maxHeartbeats 1000000 in
theorem c_lives15  (w0 : World) (h0 : View) (hv : VLe h0 (Full w0))  : Calls Try.prog 16 #[] w0 (Ret w0 h0 fun u _ => u = .bool true) := by
  refine f_enter (args := []) Try.func16 rfl Try.ntmps16 rfl fun a hF => ?_
  have hS := St.init w0 h0 hv
  refine c_seq ?_
  refine c_reg ?_
  refine s_pu hF (pu_assign rfl) rfl ?_; clear hF; intro a hF
  refine c_nil ?_
  refine n_then ?_
  refine c_seq ?_
  refine c_reg ?_
  refine s_pu hF (pu_build_st (cs := colC ⟨[97], 1, none, 0, 0⟩) strb58 rfl rfl) rfl ?_; clear hF; intro a hF
  refine s_build (xs := [.tmp 6]) hF hS slt_b38 rfl rfl (by simp [Value.cells, colC]) (by decide) rfl ?_; clear hS hF; intro b0 w a hS hF
  refine s_pu hF (pu_assign rfl) rfl ?_; clear hF; intro a hF
  refine c_nil ?_
  refine n_then ?_
  refine c_seq ?_
  refine c_reg ?_
  refine s_callv hF hS ok36 rfl (c_lname [97] _ _ hS.view) rfl ?_; clear hS hF; intro w a hS hF
  refine s_pu hF (pu_build_st (cs := valC ⟨1, 1, []⟩) strb34 rfl rfl) rfl ?_; clear hF; intro a hF
  refine s_callv hF hS ok24 rfl (c_lval ⟨1, 1, []⟩ _ _ hS.view) rfl ?_; clear hS hF; intro w a hS hF
  refine s_callG hF ok35 rfl (c_lplus 2 1 v0 ⟨1, 1, []⟩ [97] [] _ _ (VLe.refl _)) rfl ?_; clear hF; rintro _ w1 a hk1 ⟨mb, rfl, hmb⟩ hF; replace hS := hS.addRow hk1 hmb; clear hk1 hmb
  refine s_pu hF (pu_move rfl) rfl ?_; clear hF; intro a hF
  have hrow := hS.at (i := 0) rfl
  have hcr := hS.at (i := 1) rfl
  refine s_calld hF hS ok17 rfl (c_Kind _ 1 [⟨[97], 1, none, 0, 0⟩] (by intro j hj; match j, hj with | 0, _ => decide) (plusX (KX 2 v0 [97]) (KX 1 ⟨1, 1, []⟩ [])) _ 2 _ (Full _) (VLe.refl _) ⟨xl_two hrow rfl rfl (rx_leaf (by unfold i64; decide) (by unfold valB i64; decide)) (rx_leaf (by unfold i64; decide) (by unfold valB i64; decide)), by unfold i64; decide, by unfold valB i64; decide, ⟨5, by decide⟩⟩ (SlC.ofRow (T := 58) (f := colC) (fun _ _ => rfl) (h := Full _) hcr rfl (by decide) (by decide) rfl)) rfl ?_; clear hS hF hrow hcr; intro w a hS hF
  rw [show kindT [⟨[97], 1, none, 0, 0⟩] (plusX (KX 2 v0 [97]) (KX 1 ⟨1, 1, []⟩ [])) = (1, 0) by decide +kernel] at hF
  refine s_pu hF (pu_move rfl) rfl ?_; clear hF; intro a hF
  refine s_pu hF (pu_extract rfl rfl) rfl ?_; clear hF; intro a hF
  refine s_pu hF (pu_extract rfl rfl) rfl ?_; clear hF; intro a hF
  refine s_pu hF (pu_assign rfl) rfl ?_; clear hF; intro a hF
  refine s_pu hF (pu_assign rfl) rfl ?_; clear hF; intro a hF
  refine c_nil ?_
  refine n_then ?_
  refine c_seq ?_
  refine c_reg ?_
  refine s_callv hF hS ok36 rfl (c_lname [97] _ _ hS.view) rfl ?_; clear hS hF; intro w a hS hF
  refine s_pu hF (pu_build_st (cs := valC ⟨2, 0, [120]⟩) strb34 rfl rfl) rfl ?_; clear hF; intro a hF
  refine s_callv hF hS ok24 rfl (c_lval ⟨2, 0, [120]⟩ _ _ hS.view) rfl ?_; clear hS hF; intro w a hS hF
  refine s_callG hF ok35 rfl (c_lplus 2 1 v0 ⟨2, 0, [120]⟩ [97] [] _ _ (VLe.refl _)) rfl ?_; clear hF; rintro _ w1 a hk1 ⟨mb, rfl, hmb⟩ hF; replace hS := hS.addRow hk1 hmb; clear hk1 hmb
  refine s_pu hF (pu_move rfl) rfl ?_; clear hF; intro a hF
  have hrow := hS.at (i := 0) rfl
  have hcr := hS.at (i := 2) rfl
  refine s_calld hF hS ok17 rfl (c_Kind _ 1 [⟨[97], 1, none, 0, 0⟩] (by intro j hj; match j, hj with | 0, _ => decide) (plusX (KX 2 v0 [97]) (KX 1 ⟨2, 0, [120]⟩ [])) _ 2 _ (Full _) (VLe.refl _) ⟨xl_two hrow rfl rfl (rx_leaf (by unfold i64; decide) (by unfold valB i64; decide)) (rx_leaf (by unfold i64; decide) (by unfold valB i64; decide)), by unfold i64; decide, by unfold valB i64; decide, ⟨5, by decide⟩⟩ (SlC.ofRow (T := 58) (f := colC) (fun _ _ => rfl) (h := Full _) hcr rfl (by decide) (by decide) rfl)) rfl ?_; clear hS hF hrow hcr; intro w a hS hF
  rw [show kindT [⟨[97], 1, none, 0, 0⟩] (plusX (KX 2 v0 [97]) (KX 1 ⟨2, 0, [120]⟩ [])) = (0, 14) by decide +kernel] at hF
  refine s_pu hF (pu_move rfl) rfl ?_; clear hF; intro a hF
  refine s_pu hF (pu_extract rfl rfl) rfl ?_; clear hF; intro a hF
  refine s_pu hF (pu_extract rfl rfl) rfl ?_; clear hF; intro a hF
  refine s_pu hF (pu_assign rfl) rfl ?_; clear hF; intro a hF
  refine s_pu hF (pu_assign rfl) rfl ?_; clear hF; intro a hF
  refine c_nil ?_
  refine n_then ?_
  refine c_seq ?_
  refine c_reg ?_
  refine s_pu hF (pu_move rfl) rfl ?_; clear hF; intro a hF
  refine s_pu hF (pu_ieq rfl rfl) rfl ?_; clear hF; intro a hF
  refine s_pu hF (pu_move rfl) rfl ?_; clear hF; intro a hF
  refine g_pu hF ⟨_, _, (rfl : _[2]? = some _), rfl, rfl⟩ rfl (pu_move rfl) rfl ?_; clear hF; intro a hF
  refine g_pu hF ⟨_, _, (rfl : _[2]? = some _), rfl, rfl⟩ rfl (pu_ieq rfl rfl) rfl ?_; clear hF; intro a hF
  refine s_pu hF (pu_pick_t rfl rfl rfl) rfl ?_; clear hF; intro a hF
  refine s_pu hF (pu_move rfl) rfl ?_; clear hF; intro a hF
  refine g_pu hF ⟨_, _, (rfl : _[6]? = some _), rfl, rfl⟩ rfl (pu_move rfl) rfl ?_; clear hF; intro a hF
  refine g_pu hF ⟨_, _, (rfl : _[6]? = some _), rfl, rfl⟩ rfl (pu_ieq rfl rfl) rfl ?_; clear hF; intro a hF
  refine s_pu hF (pu_pick_t rfl rfl rfl) rfl ?_; clear hF; intro a hF
  refine s_pu hF (pu_move rfl) rfl ?_; clear hF; intro a hF
  refine g_pu hF ⟨_, _, (rfl : _[10]? = some _), rfl, rfl⟩ rfl (pu_move rfl) rfl ?_; clear hF; intro a hF
  have hcr := hS.at (i := 2) rfl
  refine g_calld hF hS ⟨_, _, (rfl : _[10]? = some _), rfl, rfl⟩ rfl ok19 rfl (c_Columns _ 1 [⟨[97], 1, none, 0, 0⟩] (by intro j hj; match j, hj with | 0, _ => decide) _ (Full _) (VLe.refl _) (SlC.ofRow (T := 58) (f := colC) (fun _ _ => rfl) (h := Full _) hcr rfl (by decide) (by decide) rfl)) rfl ?_; clear hS hF hcr; intro w a hS hF
  rw [show colsS [⟨[97], 1, none, 0, 0⟩] = 0 by decide +kernel] at hF
  refine g_pu hF ⟨_, _, (rfl : _[10]? = some _), rfl, rfl⟩ rfl (pu_ieq rfl rfl) rfl ?_; clear hF; intro a hF
  refine s_pu hF (pu_pick_t rfl rfl rfl) rfl ?_; clear hF; intro a hF
  refine s_pu hF (pu_move rfl) rfl ?_; clear hF; intro a hF
  refine g_callv hF hS ⟨_, _, (rfl : _[15]? = some _), rfl, rfl⟩ rfl ok21 rfl (c_Fits 0 2 _ _ hS.view) rfl ?_; clear hS hF; intro w a hS hF
  refine s_pu hF (pu_pick_t rfl rfl rfl) rfl ?_; clear hF; intro a hF
  refine s_pu hF (pu_assign rfl) rfl ?_; clear hF; intro a hF
  refine c_nil ?_
  refine n_then ?_
  refine c_ret ?_
  exact f_ret hF rfl (.tmp rfl (.nil)) (hS.retv rfl)
theorem c_TypingKinds (x : Ex) (ad : Option Addr) (cap : Nat) (adc : Option Addr) (capc : Nat) (cl : List Col) (w0 : World) (h0 : View) (hv : VLe h0 (Full w0)) (hx : XL h0 ad cap x.l) (hop : i64 x.op) (hvb : valB x.v) (hcl : SlC 0 3 (flatR colC) h0 (.slice adc cl.length capc) cl) : Calls Try.prog 4 #[Value.agg (exC x.op x.v x.s (.slice ad x.l.length cap)).toArray, .slice adc cl.length capc] w0 (Ret w0 h0 fun u _ => u = .bool true) := by
  refine f_enter (args := [Value.agg (exC x.op x.v x.s (.slice ad x.l.length cap)).toArray, .slice adc cl.length capc]) Try.func4 rfl Try.ntmps4 rfl fun a hF => ?_
  have hS := St.init w0 h0 hv
  refine c_seq ?_
  refine c_reg ?_
  refine s_box hF hS rfl rfl rfl ?_; clear hS hF; intro b0 w a hS hF
  refine s_pu hF (pu_assign rfl) rfl ?_; clear hF; intro a hF
  refine c_nil ?_
  refine n_then ?_
  refine c_seq ?_
  refine c_seq ?_
  refine c_reg ?_
  refine s_pu hF (o_loadA (i := 0) (new := exC x.op x.v x.s (.slice ad x.l.length cap)) hS rfl agg37 rfl (rfl)) rfl ?_; clear hF; intro a hF
  refine s_calld hF hS ok14 rfl (c_XSmall x ad cap _ h0 hS.base hx) rfl ?_; clear hS hF; intro w a hS hF
  refine s_pu hF (pu_not rfl) rfl ?_; clear hF; intro a hF
  refine s_pu hF (pu_move rfl) rfl ?_; clear hF; intro a hF
  refine w_split hF ⟨_, _, (rfl : _[3]? = some _), rfl, rfl⟩ (fun hg1_3 => ?_) (fun hg1_3 => ?_)
  · have hg1_3p := hg1_3
    try simp only [decide_eq_true_eq, decide_eq_false_iff_not, Bool.not_eq_true', Bool.not_eq_false', Bool.not_eq_eq_eq_not, Bool.not_true, Bool.not_false] at hg1_3p
    refine g_no hF ⟨_, _, (rfl : _[3]? = some _), rfl, rfl⟩ hg1_3 rfl ?_; clear hF; intro a hF
    refine g_no hF ⟨_, _, (rfl : _[3]? = some _), rfl, rfl⟩ hg1_3 rfl ?_; clear hF; intro a hF
    refine g_no hF ⟨_, _, (rfl : _[3]? = some _), rfl, rfl⟩ hg1_3 rfl ?_; clear hF; intro a hF
    refine s_pu hF (pu_pick_t rfl hg1_3 rfl) rfl ?_; clear hF; intro a hF
    refine c_nil ?_
    refine n_then ?_
    refine c_ift hF rfl rfl ?_
    refine c_seq ?_
    refine c_reg ?_
    refine s_callv hF hS ok16 rfl (c_lives15 _ _ hS.view) rfl ?_; clear hS hF; intro w a hS hF
    refine s_pu hF (pu_assign rfl) rfl ?_; clear hF; intro a hF
    refine c_nil ?_
    refine n_then ?_
    refine c_ret (r_then ?_)
    exact f_ret hF rfl (.tmp rfl (.nil)) (hS.retv rfl)
  · have hg1_3p := hg1_3
    try simp only [decide_eq_true_eq, decide_eq_false_iff_not, Bool.not_eq_true', Bool.not_eq_false', Bool.not_eq_eq_eq_not, Bool.not_true, Bool.not_false] at hg1_3p
    refine g_pu hF ⟨_, _, (rfl : _[3]? = some _), rfl, rfl⟩ hg1_3 (pu_move rfl) rfl ?_; clear hF; intro a hF
    refine g_calld hF hS ⟨_, _, (rfl : _[3]? = some _), rfl, rfl⟩ hg1_3 ok15 rfl (c_Few adc capc cl _ h0 hS.base hcl) rfl ?_; clear hS hF; intro w a hS hF
    refine g_pu hF ⟨_, _, (rfl : _[3]? = some _), rfl, rfl⟩ hg1_3 (pu_not rfl) rfl ?_; clear hF; intro a hF
    refine s_pu hF (pu_pick_f rfl hg1_3 rfl) rfl ?_; clear hF; intro a hF
    refine c_nil ?_
    refine n_then ?_
    refine c_if hF rfl (fun hc16 => ?_) (fun hc16 => ?_)
    · try simp only [decide_eq_true_eq, decide_eq_false_iff_not, Bool.not_eq_true', Bool.not_eq_false', Bool.not_eq_eq_eq_not, Bool.not_true, Bool.not_false] at hc16
      refine c_seq ?_
      refine c_reg ?_
      refine s_callv hF hS ok16 rfl (c_lives15 _ _ hS.view) rfl ?_; clear hS hF; intro w a hS hF
      refine s_pu hF (pu_assign rfl) rfl ?_; clear hF; intro a hF
      refine c_nil ?_
      refine n_then ?_
      refine c_ret (r_then ?_)
      exact f_ret hF rfl (.tmp rfl (.nil)) (hS.retv rfl)
    · try simp only [decide_eq_true_eq, decide_eq_false_iff_not, Bool.not_eq_true', Bool.not_eq_false', Bool.not_eq_eq_eq_not, Bool.not_true, Bool.not_false] at hc16
      have hgx : GX h0 ad cap x := ⟨hx, hop, hvb, sm_of hg1_3p⟩
      have hfew := few_of hc16
      refine c_skip ?_
      refine n_then ?_
      refine c_seq ?_
      refine c_reg ?_
      refine s_pu hF (o_loadA (i := 0) (new := exC x.op x.v x.s (.slice ad x.l.length cap)) hS rfl agg37 rfl (rfl)) rfl ?_; clear hF; intro a hF
      refine s_pu hF (pu_move rfl) rfl ?_; clear hF; intro a hF
      refine s_calld hF hS ok17 rfl (c_Kind adc capc cl hfew x ad cap _ h0 hS.base hgx hcl) rfl ?_; clear hS hF; intro w a hS hF
      refine s_pu hF (pu_move rfl) rfl ?_; clear hF; intro a hF
      refine s_pu hF (pu_extract rfl rfl) rfl ?_; clear hF; intro a hF
      refine s_pu hF (pu_extract rfl rfl) rfl ?_; clear hF; intro a hF
      refine s_pu hF (pu_assign rfl) rfl ?_; clear hF; intro a hF
      refine s_pu hF (pu_assign rfl) rfl ?_; clear hF; intro a hF
      refine c_nil ?_
      refine n_then ?_
      refine c_seq ?_
      refine c_reg ?_
      refine s_pu hF (o_loadA (i := 0) (new := exC x.op x.v x.s (.slice ad x.l.length cap)) hS rfl agg37 rfl (rfl)) rfl ?_; clear hF; intro a hF
      refine s_pu hF (pu_move rfl) rfl ?_; clear hF; intro a hF
      refine s_calld hF hS ok18 rfl (c_RKind adc capc cl hfew x ad cap _ h0 hS.base hgx hcl) rfl ?_; clear hS hF; intro w a hS hF
      refine s_pu hF (pu_move rfl) rfl ?_; clear hF; intro a hF
      refine s_pu hF (pu_extract rfl rfl) rfl ?_; clear hF; intro a hF
      refine s_pu hF (pu_extract rfl rfl) rfl ?_; clear hF; intro a hF
      refine s_pu hF (pu_assign rfl) rfl ?_; clear hF; intro a hF
      refine s_pu hF (pu_assign rfl) rfl ?_; clear hF; intro a hF
      refine c_nil ?_
      refine n_then ?_
      refine c_seq ?_
      refine c_reg ?_
      refine s_pu hF (pu_move rfl) rfl ?_; clear hF; intro a hF
      refine s_pu hF (pu_move rfl) rfl ?_; clear hF; intro a hF
      refine s_pu hF (pu_ieq rfl rfl) rfl ?_; clear hF; intro a hF
      refine s_pu hF (pu_move rfl) rfl ?_; clear hF; intro a hF
      refine g_pu hF ⟨_, _, (rfl : _[3]? = some _), rfl, rfl⟩ (decide_eq_true rfl) (pu_move rfl) rfl ?_; clear hF; intro a hF
      refine g_pu hF ⟨_, _, (rfl : _[3]? = some _), rfl, rfl⟩ (decide_eq_true rfl) (pu_move rfl) rfl ?_; clear hF; intro a hF
      refine g_pu hF ⟨_, _, (rfl : _[3]? = some _), rfl, rfl⟩ (decide_eq_true rfl) (pu_ieq rfl rfl) rfl ?_; clear hF; intro a hF
      refine s_pu hF (pu_pick_t rfl (decide_eq_true rfl) rfl) rfl ?_; clear hF; intro a hF
      refine s_pu hF (pu_move rfl) rfl ?_; clear hF; intro a hF
      refine g_callv hF hS ⟨_, _, (rfl : _[8]? = some _), rfl, rfl⟩ (decide_eq_true rfl) ok16 rfl (c_lives15 _ _ hS.view) rfl ?_; clear hS hF; intro w a hS hF
      refine s_pu hF (pu_pick_t rfl (decide_eq_true rfl) rfl) rfl ?_; clear hF; intro a hF
      refine s_pu hF (pu_assign rfl) rfl ?_; clear hF; intro a hF
      refine c_nil ?_
      refine n_then ?_
      refine c_ret ?_
      exact f_ret hF rfl (.tmp rfl (.nil)) (hS.retv rfl)
theorem c_TypingColumns (adc : Option Addr) (capc : Nat) (cl : List Col) (p q : Int) (w0 : World) (h0 : View) (hv : VLe h0 (Full w0)) (hcl : SlC 0 3 (flatR colC) h0 (.slice adc cl.length capc) cl) : Calls Try.prog 5 #[.slice adc cl.length capc, .int .i64 p, .int .i64 q] w0 (Ret w0 h0 fun u _ => u = .bool true) := by
  refine f_enter (args := [.slice adc cl.length capc, .int .i64 p, .int .i64 q]) Try.func5 rfl Try.ntmps5 rfl fun a hF => ?_
  have hS := St.init w0 h0 hv
  refine c_seq ?_
  refine c_reg ?_
  refine s_pu hF (pu_assign rfl) rfl ?_; clear hF; intro a hF
  refine c_nil ?_
  refine n_then ?_
  refine c_seq ?_
  refine c_seq ?_
  refine c_reg ?_
  refine s_pu hF (pu_move rfl) rfl ?_; clear hF; intro a hF
  refine s_calld hF hS ok15 rfl (c_Few adc capc cl _ h0 hS.base hcl) rfl ?_; clear hS hF; intro w a hS hF
  refine s_pu hF (pu_not rfl) rfl ?_; clear hF; intro a hF
  refine c_nil ?_
  refine n_then ?_
  refine c_if hF rfl (fun hc9 => ?_) (fun hc9 => ?_)
  · try simp only [decide_eq_true_eq, decide_eq_false_iff_not, Bool.not_eq_true', Bool.not_eq_false', Bool.not_eq_eq_eq_not, Bool.not_true, Bool.not_false] at hc9
    refine c_seq ?_
    refine c_reg ?_
    refine s_callv hF hS ok16 rfl (c_lives15 _ _ hS.view) rfl ?_; clear hS hF; intro w a hS hF
    refine s_pu hF (pu_assign rfl) rfl ?_; clear hF; intro a hF
    refine c_nil ?_
    refine n_then ?_
    refine c_ret (r_then ?_)
    exact f_ret hF rfl (.tmp rfl (.nil)) (hS.retv rfl)
  · try simp only [decide_eq_true_eq, decide_eq_false_iff_not, Bool.not_eq_true', Bool.not_eq_false', Bool.not_eq_eq_eq_not, Bool.not_true, Bool.not_false] at hc9
    have hfew := few_of hc9
    refine c_skip ?_
    refine n_then ?_
    refine c_seq ?_
    refine c_reg ?_
    refine s_pu hF (pu_move rfl) rfl ?_; clear hF; intro a hF
    refine s_calld hF hS ok19 rfl (c_Columns adc capc cl hfew _ h0 hS.base hcl) rfl ?_; clear hS hF; intro w a hS hF
    refine s_pu hF (pu_move rfl) rfl ?_; clear hF; intro a hF
    refine s_calld hF hS ok20 rfl (c_RColumns adc capc cl hfew _ h0 hS.base hcl) rfl ?_; clear hS hF; intro w a hS hF
    refine s_pu hF (pu_ieq rfl rfl) rfl ?_; clear hF; intro a hF
    refine s_pu hF (pu_move rfl) rfl ?_; clear hF; intro a hF
    refine g_pu hF ⟨_, _, (rfl : _[5]? = some _), rfl, rfl⟩ (decide_eq_true rfl) (pu_move rfl) rfl ?_; clear hF; intro a hF
    refine g_pu hF ⟨_, _, (rfl : _[5]? = some _), rfl, rfl⟩ (decide_eq_true rfl) (pu_move rfl) rfl ?_; clear hF; intro a hF
    refine g_callv hF hS ⟨_, _, (rfl : _[5]? = some _), rfl, rfl⟩ (decide_eq_true rfl) ok21 rfl (c_Fits p q _ _ hS.view) rfl ?_; clear hS hF; intro w a hS hF
    refine g_pu hF ⟨_, _, (rfl : _[5]? = some _), rfl, rfl⟩ (decide_eq_true rfl) (pu_move rfl) rfl ?_; clear hF; intro a hF
    refine g_pu hF ⟨_, _, (rfl : _[5]? = some _), rfl, rfl⟩ (decide_eq_true rfl) (pu_move rfl) rfl ?_; clear hF; intro a hF
    refine g_callv hF hS ⟨_, _, (rfl : _[5]? = some _), rfl, rfl⟩ (decide_eq_true rfl) ok22 rfl (c_RFits p q _ _ hS.view) rfl ?_; clear hS hF; intro w a hS hF
    refine g_pu hF ⟨_, _, (rfl : _[5]? = some _), rfl, rfl⟩ (decide_eq_true rfl) (pu_beq tyB4 rfl rfl) rfl ?_; clear hF; intro a hF
    refine s_pu hF (pu_pick_t rfl (decide_eq_true rfl) rfl) rfl ?_; clear hF; intro a hF
    refine s_pu hF (pu_move rfl) rfl ?_; clear hF; intro a hF
    refine g_callv hF hS ⟨_, _, (rfl : _[14]? = some _), rfl, rfl⟩ (by simp) ok16 rfl (c_lives15 _ _ hS.view) rfl ?_; clear hS hF; intro w a hS hF
    refine s_pu hF (pu_pick_t rfl (by simp) rfl) rfl ?_; clear hF; intro a hF
    refine s_pu hF (pu_assign rfl) rfl ?_; clear hF; intro a hF
    refine c_nil ?_
    refine n_then ?_
    refine c_ret ?_
    exact f_ret hF rfl (.tmp rfl (.nil)) (hS.retv rfl)
set_option maxHeartbeats 2000000 in
theorem c_with_ (y : Ex) (ady : Option Addr) (capy : Nat) (x : Ex) (ad : Option Addr) (cap : Nat) (ih : ∀ z ∈ x.l, ∀ (ad : Option Addr) (cap : Nat) (w : World) (h0 : View), VLe h0 (Full w) → i64 z.op → valB z.v → XL h0 ad cap z.l → RX h0 (exC y.op y.v y.s (.slice ady y.l.length capy)) y → SmX z → Calls Try.prog 25 #[Value.agg (exC z.op z.v z.s (.slice ad z.l.length cap)).toArray, Value.agg (exC y.op y.v y.s (.slice ady y.l.length capy)).toArray] w (Ret w h0 (fun u h => XV (withS y z) u h))) (w0 : World) (h0 : View) (hv : VLe h0 (Full w0)) (hop : i64 x.op) (hvb : valB x.v) (hx : XL h0 ad cap x.l) (hy : RX h0 (exC y.op y.v y.s (.slice ady y.l.length capy)) y) (hsm : SmX x) : Calls Try.prog 25 #[Value.agg (exC x.op x.v x.s (.slice ad x.l.length cap)).toArray, Value.agg (exC y.op y.v y.s (.slice ady y.l.length capy)).toArray] w0 (Ret w0 h0 (fun u h => XV (withS y x) u h)) := by
  refine f_enter (args := [Value.agg (exC x.op x.v x.s (.slice ad x.l.length cap)).toArray, Value.agg (exC y.op y.v y.s (.slice ady y.l.length capy)).toArray]) Try.func25 rfl Try.ntmps25 rfl fun a hF => ?_
  have hS := St.init w0 h0 hv
  have hlm := hx.lm
  have hl5 := hsm.parts.2.2.1
  refine c_seq ?_
  refine c_reg ?_
  refine s_box hF hS rfl rfl rfl ?_; clear hS hF; intro b0 w a hS hF
  refine s_box hF hS rfl rfl rfl ?_; clear hS hF; intro b1 w a hS hF
  refine s_alloc hF hS zero37 rfl ?_; clear hS hF; intro b2 w a hS hF
  refine c_nil ?_
  refine n_then ?_
  refine c_seq ?_
  refine c_seq ?_
  refine c_reg ?_
  refine s_pu hF (pu_faddr fld37_0 rfl) rfl ?_; clear hF; intro a hF
  refine s_pu hF (o_load1 (i := 2) hS rfl one31 rfl rfl) rfl ?_; clear hF; intro a hF
  refine s_pu hF (pu_ieq rfl rfl) rfl ?_; clear hF; intro a hF
  refine s_pu hF (pu_move rfl) rfl ?_; clear hF; intro a hF
  refine w_split hF ⟨_, _, (rfl : _[3]? = some _), rfl, rfl⟩ (fun hg1_3 => ?_) (fun hg1_3 => ?_)
  · have hg1_3p := hg1_3
    try simp only [decide_eq_true_eq, decide_eq_false_iff_not, Bool.not_eq_true', Bool.not_eq_false', Bool.not_eq_eq_eq_not, Bool.not_true, Bool.not_false] at hg1_3p
    refine g_pu hF ⟨_, _, (rfl : _[3]? = some _), rfl, rfl⟩ hg1_3 (pu_faddr fld37_1 rfl) rfl ?_; clear hF; intro a hF
    refine g_pu hF ⟨_, _, (rfl : _[3]? = some _), rfl, rfl⟩ hg1_3 (o_loadA (i := 2) (new := valC x.v) hS rfl agg34 rfl (rfl)) rfl ?_; clear hF; intro a hF
    refine g_pu hF ⟨_, _, (rfl : _[3]? = some _), rfl, rfl⟩ hg1_3 (pu_build_st (cs := valC v0) strb34 rfl rfl) rfl ?_; clear hF; intro a hF
    refine g_pu hF ⟨_, _, (rfl : _[3]? = some _), rfl, rfl⟩ hg1_3 (pu_aeq (a := x.v) (b := v0) eqV rfl rfl) rfl ?_; clear hF; intro a hF
    refine s_pu hF (pu_pick_t rfl hg1_3 rfl) rfl ?_; clear hF; intro a hF
    refine c_nil ?_
    refine n_then ?_
    refine c_if hF rfl (fun hc15 => ?_) (fun hc15 => ?_)
    · try simp only [decide_eq_true_eq, decide_eq_false_iff_not, Bool.not_eq_true', Bool.not_eq_false', Bool.not_eq_eq_eq_not, Bool.not_true, Bool.not_false] at hc15
      refine c_seq ?_
      refine c_reg ?_
      refine s_pu hF (o_loadA (i := 1) (new := exC y.op y.v y.s (.slice ady y.l.length capy)) hS rfl agg37 rfl (rfl)) rfl ?_; clear hF; intro a hF
      refine s_store (i := 0) (new := exC y.op y.v y.s (.slice ady y.l.length capy)) hF hS rfl rfl rfl rfl (by exact sz37) rfl (by simp [exC]) ?_; clear hS hF; intro w a hS hF
      rw [spl_all (by simp [exC])] at hS
      refine c_nil ?_
      refine n_then ?_
      refine c_ret (r_then ?_)
      refine f_ret hF rfl (.cell rfl (o_lvA (i := 0) hS rfl agg37) (.nil)) ?_
      exact ⟨_, rfl, hS.keep, exC y.op y.v y.s (.slice ady y.l.length capy), rfl, by rw [with_null hg1_3p hc15]; exact hy.mono hS.baseNv⟩
    · try simp only [decide_eq_true_eq, decide_eq_false_iff_not, Bool.not_eq_true', Bool.not_eq_false', Bool.not_eq_eq_eq_not, Bool.not_true, Bool.not_false] at hc15
      refine c_skip ?_
      refine n_then ?_
      refine c_seq ?_
      refine c_reg ?_
      refine s_pu hF (pu_faddr fld37_0 rfl) rfl ?_; clear hF; intro a hF
      refine s_pu hF (o_load1 (i := 2) hS rfl one31 rfl rfl) rfl ?_; clear hF; intro a hF
      refine s_pu hF (pu_faddr fld37_1 rfl) rfl ?_; clear hF; intro a hF
      refine s_pu hF (o_loadA (i := 2) (new := valC x.v) hS rfl agg34 rfl (rfl)) rfl ?_; clear hF; intro a hF
      refine s_pu hF (pu_faddr fld37_2 rfl) rfl ?_; clear hF; intro a hF
      refine s_pu hF (o_load1 (i := 2) hS rfl one9 rfl rfl) rfl ?_; clear hF; intro a hF
      refine s_pu hF (pu_build_st (cs := exC x.op x.v x.s (.slice none 0 0)) strb37 rfl rfl) rfl ?_; clear hF; intro a hF
      refine s_alloc hF hS zero37 rfl ?_; clear hS hF; intro b3 w a hS hF
      refine s_store (i := 0) (new := exC x.op x.v x.s (.slice none 0 0)) hF hS rfl rfl rfl rfl (by exact sz37) rfl (by simp [exC]) ?_; clear hS hF; intro w a hS hF
      rw [spl_all (by simp [exC])] at hS
      refine c_nil ?_
      refine n_then ?_
      refine c_seq ?_
      refine c_seq ?_
      refine c_reg ?_
      refine s_pu hF (pu_assign rfl) rfl ?_; clear hF; intro a hF
      refine c_nil ?_
      refine n_then ?_
      refine c_block ?_
      have hn : ¬ (x.op = 1 ∧ x.v = v0) := by first | exact fun h => hg1_3p h.1 | exact fun h => hc15 h.2
      replace hS := hS.newNil 37 6
      refine hS.cut fun O0 F0 hO0 hF0 hS => ?_
      subst hO0
      subst hF0
      refine hF.cut (.cons (k := 6) rfl <| .nil) (.cons (k := 2) rfl <| .cons (k := 3) rfl <| .cons (k := 4) rfl <| .cons (k := 5) rfl <| .nil) fun L0 hL0 hF => ?_
      refine c_loop (α := Nat) (fun k a w => ∃ (c : Nat → List Value) (a1 : Option Addr) (cc : Nat), k ≤ x.l.length ∧ (∀ j, j < k → (c j).length = 6) ∧ Fr a 44 ([(6, .val (.int .i64 (k : Nat)))] ++ L0) ∧ St w0 h0 [] w [bufE 37 6 (.slice a1 k cc) ((List.range k).map c).flatten, (some b3, CellsC 37 (exC x.op x.v x.s (.slice a1 k cc))), (some b2, CellsC 37 (leafC 0 v0 [])), (some b1, CellsC 37 (exC y.op y.v y.s (.slice ady y.l.length capy))), (some b0, CellsC 37 (exC x.op x.v x.s (.slice ad x.l.length cap)))] (fun h => ∀ j, j < k → RX h (c j) (withS y (x.l.getD j ex0)))) (fun k => x.l.length - k) 0 (⟨fun _ => [], none, 0, Nat.zero_le _, fun j hj => absurd hj (Nat.not_lt_zero j), hF, hS.weak (kids_mono 0 (fun _ => []) fun j => withS y (x.l.getD j ex0)) (fun _ _ j hj => absurd hj (Nat.not_lt_zero j))⟩) ?_
      subst hL0
      rintro k a w ⟨c, a1, cc, hk, hcl, hF, hS⟩
      refine c_seq ?_
      refine c_seq ?_
      refine c_reg ?_
      refine s_pu hF (pu_move rfl) rfl ?_; clear hF; intro a hF
      refine s_pu hF (pu_faddr fld37_3 rfl) rfl ?_; clear hF; intro a hF
      refine s_pu hF (o_load1 (i := 4) hS rfl one35 rfl rfl) rfl ?_; clear hF; intro a hF
      refine s_pu hF (pu_len_sl tyL35 rfl rfl) rfl ?_; clear hF; intro a hF
      refine s_pu hF (pu_ilt rfl rfl) rfl ?_; clear hF; intro a hF
      refine c_nil ?_
      refine n_then ?_
      refine c_if hF rfl (fun hc28 => ?_) (fun hc28 => ?_)
      · try simp only [decide_eq_true_eq, decide_eq_false_iff_not, Bool.not_eq_true', Bool.not_eq_false', Bool.not_eq_eq_eq_not, Bool.not_true, Bool.not_false] at hc28
        obtain ⟨g1, o, ad2, cap2, ha, hxl, hop2, hvb2, HX⟩ := hx.at2 (i := k) (by omega)
        refine c_skip ?_
        refine n_then ?_
        refine c_seq ?_
        refine c_block ?_
        refine region_st 10 hF hS (allV_ne rfl) mix (by kernel_rfl) fun Γ hG => ?_
        refine t_pu hG (fun w hC => pu_faddr fld37_3 rfl) ?_; clear hG; intro Γ hG
        refine t_pu hG (fun w hC => o_load1 (i := 1) hC.st rfl one35 rfl rfl) ?_; clear hG; intro Γ hG
        refine t_pu hG (fun w hC => pu_faddr fld37_3 rfl) ?_; clear hG; intro Γ hG
        refine t_pu hG (fun w hC => o_load1 (i := 4) hC.st rfl one35 rfl rfl) ?_; clear hG; intro Γ hG
        refine t_pu hG (fun w hC => pu_move rfl) ?_; clear hG; intro Γ hG
        refine t_pu hG (fun w hC => pu_iaddr_sla (j := k) ha slt35 rfl rfl (by omega) (by omega)) ?_; clear hG; intro Γ hG
        refine t_pu hG (fun w hC => pu_loadA (cs := (exC (x.l.getD k ex0).op (x.l.getD k ex0).v (x.l.getD k ex0).s (.slice ad2 (x.l.getD k ex0).l.length cap2))) agg37 rfl (fun j v hj => by rw [add_mk]; exact HX _ hC.st.base j v hj)) ?_; clear hG; intro Γ hG
        refine t_pu hG (fun w hC => o_loadA (i := 3) (new := exC y.op y.v y.s (.slice ady y.l.length capy)) hC.st rfl agg37 rfl (rfl)) ?_; clear hG; intro Γ hG
        refine t_callQ (Φ := XV (withS y (x.l.getD k ex0))) XV.mono hG ok25 rfl (fun w1 hS1 => ih (x.l.getD k ex0) (getD_mem x.l k ex0 (by omega)) ad2 cap2 w1 _ hS1.view hop2 hvb2 (hxl.mono hS1.base_cv) (hy.mono hS1.base_cv) (hsm.parts.2.2.2 _ (getD_mem x.l k ex0 (by omega)))) ?_; clear hG; intro Γ hG
        refine t_build1 (k := 39) hG slt_b35 rfl (fun u w1 w2 hC hk hu => XV.mono u _ _ (cv_le _ _ hk (by simp) (fun b hb => .inl hb) hC.st.keep.size) hu) (fun u w1 hu => by obtain ⟨cs, rfl, hcs⟩ := hu; simpa [Value.cells] using hcs.len) (by decide) ?_; clear hG; intro Γ hG
        refine t_end hG ?_; clear hG hF; intro a w hC hE hF hP; replace hS := hC.st; clear hC
        clear hE
        obtain ⟨br40, u40, hv40, ⟨c9, rfl, hc9⟩, hrow40⟩ := hP 40 _ rfl
        replace hF := hF.openP hv40
        clear hv40
        replace hS := hS.add (Φ := fun h => RX h c9 (withS y (x.l.getD k ex0))) (fun h h2 hle hx => hx.mono hle) hc9
        clear hP
        refine s_append (i := 0) hF hS rfl slt_a35_35 rfl rfl (Src.own hrow40.2 (by simp [cellsL, Value.cells, hc9.len]) hc9.one) (by rw [rangeC_len c k 6 hcl]; simp [cellsL, Value.cells, hc9.len]; omega) rfl ?_; clear hS hF; intro a0 nn c0 w a hnn hS hF
        refine s_pu hF (pu_faddr fld37_3 rfl) rfl ?_; clear hF; intro a hF
        refine s_store (i := 1) hF hS rfl rfl rfl rfl sz35 rfl (by simp [exC]) ?_; clear hS hF; intro w a hS hF
        rw [show spl (exC x.op x.v x.s (.slice a1 k cc)) (0 + 5) [.slice a0 nn c0] = exC x.op x.v x.s (.slice a0 nn c0) from rfl] at hS
        refine c_nil ?_
        refine n_block ?_
        refine n_then ?_
        refine c_reg ?_
        refine s_pu hF (pu_move rfl) rfl ?_; clear hF; intro a hF
        refine s_pu hF (pu_add rfl rfl (by first | exact wrap_i64 (by omega) (by omega) | rfl)) rfl ?_; clear hF; intro a hF
        refine s_pu hF (pu_assign rfl) rfl ?_; clear hF; intro a hF
        refine c_nil ?_
        have hnn2 : nn = k + 1 := by (first | rw [List.length_append, rangeC_len c k 6 hcl] at hnn | rw [rangeC_len c k 6 hcl] at hnn); simp [cellsL, Value.cells, hc9.len] at hnn; omega
        subst hnn2
        rw [show cellsL [Value.agg c9.toArray] = c9 by simp [cellsL, Value.cells], ← rangeC_snoc] at hS
        refine ⟨k + 1, ⟨upd c k c9, a0, c0, by omega, ?_, hF.pick (.cons (k := 6) rfl <| .cons (k := 2) rfl <| .cons (k := 3) rfl <| .cons (k := 4) rfl <| .cons (k := 5) rfl <| .nil), hS.weak (kids_mono (k + 1) (upd c k c9) fun j => withS y (x.l.getD j ex0)) ?_⟩, by omega⟩
        · intro j hj
          unfold upd
          split
          · exact hc9.len
          · exact hcl j (by omega)
        · intro hh hf j hj
          unfold upd
          split
          · rename_i e; subst e; exact hf.2
          · exact hf.1 j (by omega)
      · try simp only [decide_eq_true_eq, decide_eq_false_iff_not, Bool.not_eq_true', Bool.not_eq_false', Bool.not_eq_eq_eq_not, Bool.not_true, Bool.not_false] at hc28
        obtain rfl : k = x.l.length := by omega
        refine c_exit (x_then (x_then (x_here ?_)))
        refine n_then ?_
        refine c_seq ?_
        refine c_reg ?_
        refine s_pu hF (o_loadA (i := 1) (new := exC x.op x.v x.s (.slice a1 x.l.length cc)) hS rfl agg37 rfl (rfl)) rfl ?_; clear hF; intro a hF
        refine s_store (i := 2) (new := exC x.op x.v x.s (.slice a1 x.l.length cc)) hF hS rfl rfl rfl rfl (by exact sz37) rfl (by simp [leafC, exC]) ?_; clear hS hF; intro w a hS hF
        rw [spl_all (by simp [leafC, exC])] at hS
        refine c_nil ?_
        refine n_then ?_
        refine c_ret ?_
        refine f_ret hF rfl (.cell rfl (o_lvA (i := 2) hS rfl agg37) (.nil)) ?_
        have h1 := hS.bufNv (i := 0) (l := List.range x.l.length) (f := c) rfl (fun j hj => hcl j (List.mem_range.1 hj)) (by simp)
        have h2 := hS.factsNv
        have h3 := RX.mk (h := nv h0 w0 w) x.op x.v x.s (x.l.map (withS y)) a1 cc c ⟨hop, hvb⟩ (by simp only [List.length_map, List.length_range]; exact h1) (fun i z hi => by
          have hlt : i < x.l.length := by have := (List.getElem?_eq_some_iff.1 hi).1; simpa using this
          have hz : z = withS y (x.l.getD i ex0) := by simp [List.getD, hlt] at hi ⊢; exact hi.symm
          rw [hz]; exact h2 i hlt)
        rw [List.length_map] at h3
        exact ⟨_, rfl, hS.keep, exC x.op x.v x.s (.slice a1 x.l.length cc), rfl, by rw [with_other hn]; exact h3⟩
  · have hg1_3p := hg1_3
    try simp only [decide_eq_true_eq, decide_eq_false_iff_not, Bool.not_eq_true', Bool.not_eq_false', Bool.not_eq_eq_eq_not, Bool.not_true, Bool.not_false] at hg1_3p
    refine g_no hF ⟨_, _, (rfl : _[3]? = some _), rfl, rfl⟩ hg1_3 rfl ?_; clear hF; intro a hF
    refine g_no hF ⟨_, _, (rfl : _[3]? = some _), rfl, rfl⟩ hg1_3 rfl ?_; clear hF; intro a hF
    refine g_no hF ⟨_, _, (rfl : _[3]? = some _), rfl, rfl⟩ hg1_3 rfl ?_; clear hF; intro a hF
    refine g_no hF ⟨_, _, (rfl : _[3]? = some _), rfl, rfl⟩ hg1_3 rfl ?_; clear hF; intro a hF
    refine s_pu hF (pu_pick_f rfl hg1_3 rfl) rfl ?_; clear hF; intro a hF
    refine c_nil ?_
    refine n_then ?_
    refine c_iff hF rfl rfl ?_
    refine c_skip ?_
    refine n_then ?_
    refine c_seq ?_
    refine c_reg ?_
    refine s_pu hF (pu_faddr fld37_0 rfl) rfl ?_; clear hF; intro a hF
    refine s_pu hF (o_load1 (i := 2) hS rfl one31 rfl rfl) rfl ?_; clear hF; intro a hF
    refine s_pu hF (pu_faddr fld37_1 rfl) rfl ?_; clear hF; intro a hF
    refine s_pu hF (o_loadA (i := 2) (new := valC x.v) hS rfl agg34 rfl (rfl)) rfl ?_; clear hF; intro a hF
    refine s_pu hF (pu_faddr fld37_2 rfl) rfl ?_; clear hF; intro a hF
    refine s_pu hF (o_load1 (i := 2) hS rfl one9 rfl rfl) rfl ?_; clear hF; intro a hF
    refine s_pu hF (pu_build_st (cs := exC x.op x.v x.s (.slice none 0 0)) strb37 rfl rfl) rfl ?_; clear hF; intro a hF
    refine s_alloc hF hS zero37 rfl ?_; clear hS hF; intro b3 w a hS hF
    refine s_store (i := 0) (new := exC x.op x.v x.s (.slice none 0 0)) hF hS rfl rfl rfl rfl (by exact sz37) rfl (by simp [exC]) ?_; clear hS hF; intro w a hS hF
    rw [spl_all (by simp [exC])] at hS
    refine c_nil ?_
    refine n_then ?_
    refine c_seq ?_
    refine c_seq ?_
    refine c_reg ?_
    refine s_pu hF (pu_assign rfl) rfl ?_; clear hF; intro a hF
    refine c_nil ?_
    refine n_then ?_
    refine c_block ?_
    have hn : ¬ (x.op = 1 ∧ x.v = v0) := by first | exact fun h => hg1_3p h.1 | exact fun h => hc15 h.2
    replace hS := hS.newNil 37 6
    refine hS.cut fun O1 F1 hO1 hF1 hS => ?_
    subst hO1
    subst hF1
    refine hF.cut (.cons (k := 6) rfl <| .nil) (.cons (k := 2) rfl <| .cons (k := 3) rfl <| .cons (k := 4) rfl <| .cons (k := 5) rfl <| .nil) fun L1 hL1 hF => ?_
    refine c_loop (α := Nat) (fun k a w => ∃ (c : Nat → List Value) (a1 : Option Addr) (cc : Nat), k ≤ x.l.length ∧ (∀ j, j < k → (c j).length = 6) ∧ Fr a 44 ([(6, .val (.int .i64 (k : Nat)))] ++ L1) ∧ St w0 h0 [] w [bufE 37 6 (.slice a1 k cc) ((List.range k).map c).flatten, (some b3, CellsC 37 (exC x.op x.v x.s (.slice a1 k cc))), (some b2, CellsC 37 (leafC 0 v0 [])), (some b1, CellsC 37 (exC y.op y.v y.s (.slice ady y.l.length capy))), (some b0, CellsC 37 (exC x.op x.v x.s (.slice ad x.l.length cap)))] (fun h => ∀ j, j < k → RX h (c j) (withS y (x.l.getD j ex0)))) (fun k => x.l.length - k) 0 (⟨fun _ => [], none, 0, Nat.zero_le _, fun j hj => absurd hj (Nat.not_lt_zero j), hF, hS.weak (kids_mono 0 (fun _ => []) fun j => withS y (x.l.getD j ex0)) (fun _ _ j hj => absurd hj (Nat.not_lt_zero j))⟩) ?_
    subst hL1
    rintro k a w ⟨c, a1, cc, hk, hcl, hF, hS⟩
    refine c_seq ?_
    refine c_seq ?_
    refine c_reg ?_
    refine s_pu hF (pu_move rfl) rfl ?_; clear hF; intro a hF
    refine s_pu hF (pu_faddr fld37_3 rfl) rfl ?_; clear hF; intro a hF
    refine s_pu hF (o_load1 (i := 4) hS rfl one35 rfl rfl) rfl ?_; clear hF; intro a hF
    refine s_pu hF (pu_len_sl tyL35 rfl rfl) rfl ?_; clear hF; intro a hF
    refine s_pu hF (pu_ilt rfl rfl) rfl ?_; clear hF; intro a hF
    refine c_nil ?_
    refine n_then ?_
    refine c_if hF rfl (fun hc28 => ?_) (fun hc28 => ?_)
    · try simp only [decide_eq_true_eq, decide_eq_false_iff_not, Bool.not_eq_true', Bool.not_eq_false', Bool.not_eq_eq_eq_not, Bool.not_true, Bool.not_false] at hc28
      obtain ⟨g1, o, ad2, cap2, ha, hxl, hop2, hvb2, HX⟩ := hx.at2 (i := k) (by omega)
      refine c_skip ?_
      refine n_then ?_
      refine c_seq ?_
      refine c_block ?_
      refine region_st 10 hF hS (allV_ne rfl) mix (by kernel_rfl) fun Γ hG => ?_
      refine t_pu hG (fun w hC => pu_faddr fld37_3 rfl) ?_; clear hG; intro Γ hG
      refine t_pu hG (fun w hC => o_load1 (i := 1) hC.st rfl one35 rfl rfl) ?_; clear hG; intro Γ hG
      refine t_pu hG (fun w hC => pu_faddr fld37_3 rfl) ?_; clear hG; intro Γ hG
      refine t_pu hG (fun w hC => o_load1 (i := 4) hC.st rfl one35 rfl rfl) ?_; clear hG; intro Γ hG
      refine t_pu hG (fun w hC => pu_move rfl) ?_; clear hG; intro Γ hG
      refine t_pu hG (fun w hC => pu_iaddr_sla (j := k) ha slt35 rfl rfl (by omega) (by omega)) ?_; clear hG; intro Γ hG
      refine t_pu hG (fun w hC => pu_loadA (cs := (exC (x.l.getD k ex0).op (x.l.getD k ex0).v (x.l.getD k ex0).s (.slice ad2 (x.l.getD k ex0).l.length cap2))) agg37 rfl (fun j v hj => by rw [add_mk]; exact HX _ hC.st.base j v hj)) ?_; clear hG; intro Γ hG
      refine t_pu hG (fun w hC => o_loadA (i := 3) (new := exC y.op y.v y.s (.slice ady y.l.length capy)) hC.st rfl agg37 rfl (rfl)) ?_; clear hG; intro Γ hG
      refine t_callQ (Φ := XV (withS y (x.l.getD k ex0))) XV.mono hG ok25 rfl (fun w1 hS1 => ih (x.l.getD k ex0) (getD_mem x.l k ex0 (by omega)) ad2 cap2 w1 _ hS1.view hop2 hvb2 (hxl.mono hS1.base_cv) (hy.mono hS1.base_cv) (hsm.parts.2.2.2 _ (getD_mem x.l k ex0 (by omega)))) ?_; clear hG; intro Γ hG
      refine t_build1 (k := 39) hG slt_b35 rfl (fun u w1 w2 hC hk hu => XV.mono u _ _ (cv_le _ _ hk (by simp) (fun b hb => .inl hb) hC.st.keep.size) hu) (fun u w1 hu => by obtain ⟨cs, rfl, hcs⟩ := hu; simpa [Value.cells] using hcs.len) (by decide) ?_; clear hG; intro Γ hG
      refine t_end hG ?_; clear hG hF; intro a w hC hE hF hP; replace hS := hC.st; clear hC
      clear hE
      obtain ⟨br40, u40, hv40, ⟨c9, rfl, hc9⟩, hrow40⟩ := hP 40 _ rfl
      replace hF := hF.openP hv40
      clear hv40
      replace hS := hS.add (Φ := fun h => RX h c9 (withS y (x.l.getD k ex0))) (fun h h2 hle hx => hx.mono hle) hc9
      clear hP
      refine s_append (i := 0) hF hS rfl slt_a35_35 rfl rfl (Src.own hrow40.2 (by simp [cellsL, Value.cells, hc9.len]) hc9.one) (by rw [rangeC_len c k 6 hcl]; simp [cellsL, Value.cells, hc9.len]; omega) rfl ?_; clear hS hF; intro a0 nn c0 w a hnn hS hF
      refine s_pu hF (pu_faddr fld37_3 rfl) rfl ?_; clear hF; intro a hF
      refine s_store (i := 1) hF hS rfl rfl rfl rfl sz35 rfl (by simp [exC]) ?_; clear hS hF; intro w a hS hF
      rw [show spl (exC x.op x.v x.s (.slice a1 k cc)) (0 + 5) [.slice a0 nn c0] = exC x.op x.v x.s (.slice a0 nn c0) from rfl] at hS
      refine c_nil ?_
      refine n_block ?_
      refine n_then ?_
      refine c_reg ?_
      refine s_pu hF (pu_move rfl) rfl ?_; clear hF; intro a hF
      refine s_pu hF (pu_add rfl rfl (by first | exact wrap_i64 (by omega) (by omega) | rfl)) rfl ?_; clear hF; intro a hF
      refine s_pu hF (pu_assign rfl) rfl ?_; clear hF; intro a hF
      refine c_nil ?_
      have hnn2 : nn = k + 1 := by (first | rw [List.length_append, rangeC_len c k 6 hcl] at hnn | rw [rangeC_len c k 6 hcl] at hnn); simp [cellsL, Value.cells, hc9.len] at hnn; omega
      subst hnn2
      rw [show cellsL [Value.agg c9.toArray] = c9 by simp [cellsL, Value.cells], ← rangeC_snoc] at hS
      refine ⟨k + 1, ⟨upd c k c9, a0, c0, by omega, ?_, hF.pick (.cons (k := 6) rfl <| .cons (k := 2) rfl <| .cons (k := 3) rfl <| .cons (k := 4) rfl <| .cons (k := 5) rfl <| .nil), hS.weak (kids_mono (k + 1) (upd c k c9) fun j => withS y (x.l.getD j ex0)) ?_⟩, by omega⟩
      · intro j hj
        unfold upd
        split
        · exact hc9.len
        · exact hcl j (by omega)
      · intro hh hf j hj
        unfold upd
        split
        · rename_i e; subst e; exact hf.2
        · exact hf.1 j (by omega)
    · try simp only [decide_eq_true_eq, decide_eq_false_iff_not, Bool.not_eq_true', Bool.not_eq_false', Bool.not_eq_eq_eq_not, Bool.not_true, Bool.not_false] at hc28
      obtain rfl : k = x.l.length := by omega
      refine c_exit (x_then (x_then (x_here ?_)))
      refine n_then ?_
      refine c_seq ?_
      refine c_reg ?_
      refine s_pu hF (o_loadA (i := 1) (new := exC x.op x.v x.s (.slice a1 x.l.length cc)) hS rfl agg37 rfl (rfl)) rfl ?_; clear hF; intro a hF
      refine s_store (i := 2) (new := exC x.op x.v x.s (.slice a1 x.l.length cc)) hF hS rfl rfl rfl rfl (by exact sz37) rfl (by simp [leafC, exC]) ?_; clear hS hF; intro w a hS hF
      rw [spl_all (by simp [leafC, exC])] at hS
      refine c_nil ?_
      refine n_then ?_
      refine c_ret ?_
      refine f_ret hF rfl (.cell rfl (o_lvA (i := 2) hS rfl agg37) (.nil)) ?_
      have h1 := hS.bufNv (i := 0) (l := List.range x.l.length) (f := c) rfl (fun j hj => hcl j (List.mem_range.1 hj)) (by simp)
      have h2 := hS.factsNv
      have h3 := RX.mk (h := nv h0 w0 w) x.op x.v x.s (x.l.map (withS y)) a1 cc c ⟨hop, hvb⟩ (by simp only [List.length_map, List.length_range]; exact h1) (fun i z hi => by
        have hlt : i < x.l.length := by have := (List.getElem?_eq_some_iff.1 hi).1; simpa using this
        have hz : z = withS y (x.l.getD i ex0) := by simp [List.getD, hlt] at hi ⊢; exact hi.symm
        rw [hz]; exact h2 i hlt)
      rw [List.length_map] at h3
      exact ⟨_, rfl, hS.keep, exC x.op x.v x.s (.slice a1 x.l.length cc), rfl, by rw [with_other hn]; exact h3⟩
theorem c_with (y : Ex) (ady : Option Addr) (capy : Nat) : ∀ (x : Ex) (ad : Option Addr) (cap : Nat) (w : World) (h0 : View), VLe h0 (Full w) → i64 x.op → valB x.v → XL h0 ad cap x.l → RX h0 (exC y.op y.v y.s (.slice ady y.l.length capy)) y → SmX x → Calls Try.prog 25 #[Value.agg (exC x.op x.v x.s (.slice ad x.l.length cap)).toArray, Value.agg (exC y.op y.v y.s (.slice ady y.l.length capy)).toArray] w (Ret w h0 (fun u h => XV (withS y x) u h))
  | x, ad, cap, w, h0, hv, h1, h2, h3, h4, h5 => c_with_ y ady capy x ad cap (fun z hz ad cap w h0 hv h1 h2 h3 h4 h5 => c_with y ady capy z ad cap w h0 hv h1 h2 h3 h4 h5) w h0 hv h1 h2 h3 h4 h5
termination_by x => SizeOf.sizeOf x
decreasing_by exact Ex.lt hz

set_option maxHeartbeats 4000000 in
theorem c_TypingNull (x : Ex) (ad : Option Addr) (cap : Nat) (adc : Option Addr) (capc : Nat) (cl : List Col) (v : Val) (w0 : World) (h0 : View) (hv : VLe h0 (Full w0)) (hx : XL h0 ad cap x.l) (hop : i64 x.op) (hvb : valB x.v) (hcl : SlC 0 3 (flatR colC) h0 (.slice adc cl.length capc) cl) (hvb3 : valB v) (hvs : v.s.length ≤ 9223372036854775807) : Calls Try.prog 6 #[Value.agg (exC x.op x.v x.s (.slice ad x.l.length cap)).toArray, .slice adc cl.length capc, .agg (valC v).toArray] w0 (Ret w0 h0 fun u _ => u = .bool true) := by
  refine f_enter (args := [Value.agg (exC x.op x.v x.s (.slice ad x.l.length cap)).toArray, .slice adc cl.length capc, .agg (valC v).toArray]) Try.func6 rfl Try.ntmps6 rfl fun a hF => ?_
  have hS := St.init w0 h0 hv
  refine c_seq ?_
  refine c_reg ?_
  refine s_box hF hS rfl rfl rfl ?_; clear hS hF; intro b0 w a hS hF
  refine s_box hF hS rfl rfl rfl ?_; clear hS hF; intro b1 w a hS hF
  refine s_pu hF (pu_assign rfl) rfl ?_; clear hF; intro a hF
  refine c_nil ?_
  refine n_then ?_
  refine c_seq ?_
  refine c_seq ?_
  refine c_reg ?_
  refine s_pu hF (o_loadA (i := 1) (new := exC x.op x.v x.s (.slice ad x.l.length cap)) hS rfl agg37 rfl (rfl)) rfl ?_; clear hF; intro a hF
  refine s_calld hF hS ok14 rfl (c_XSmall x ad cap _ h0 hS.base hx) rfl ?_; clear hS hF; intro w a hS hF
  refine s_pu hF (pu_not rfl) rfl ?_; clear hF; intro a hF
  refine s_pu hF (pu_move rfl) rfl ?_; clear hF; intro a hF
  refine w_split hF ⟨_, _, (rfl : _[3]? = some _), rfl, rfl⟩ (fun hg1_3 => ?_) (fun hg1_3 => ?_)
  · have hg1_3p := hg1_3
    try simp only [decide_eq_true_eq, decide_eq_false_iff_not, Bool.not_eq_true', Bool.not_eq_false', Bool.not_eq_eq_eq_not, Bool.not_true, Bool.not_false] at hg1_3p
    refine g_no hF ⟨_, _, (rfl : _[3]? = some _), rfl, rfl⟩ hg1_3 rfl ?_; clear hF; intro a hF
    refine g_no hF ⟨_, _, (rfl : _[3]? = some _), rfl, rfl⟩ hg1_3 rfl ?_; clear hF; intro a hF
    refine g_no hF ⟨_, _, (rfl : _[3]? = some _), rfl, rfl⟩ hg1_3 rfl ?_; clear hF; intro a hF
    refine s_pu hF (pu_pick_t rfl hg1_3 rfl) rfl ?_; clear hF; intro a hF
    refine s_pu hF (pu_move rfl) rfl ?_; clear hF; intro a hF
    refine g_no hF ⟨_, _, (rfl : _[8]? = some _), rfl, rfl⟩ rfl rfl ?_; clear hF; intro a hF
    refine g_no hF ⟨_, _, (rfl : _[8]? = some _), rfl, rfl⟩ rfl rfl ?_; clear hF; intro a hF
    refine g_no hF ⟨_, _, (rfl : _[8]? = some _), rfl, rfl⟩ rfl rfl ?_; clear hF; intro a hF
    refine g_no hF ⟨_, _, (rfl : _[8]? = some _), rfl, rfl⟩ rfl rfl ?_; clear hF; intro a hF
    refine s_pu hF (pu_pick_t rfl rfl rfl) rfl ?_; clear hF; intro a hF
    refine c_nil ?_
    refine n_then ?_
    refine c_ift hF rfl rfl ?_
    refine c_seq ?_
    refine c_reg ?_
    refine s_callv hF hS ok16 rfl (c_lives15 _ _ hS.view) rfl ?_; clear hS hF; intro w a hS hF
    refine s_pu hF (pu_assign rfl) rfl ?_; clear hF; intro a hF
    refine c_nil ?_
    refine n_then ?_
    refine c_ret (r_then ?_)
    exact f_ret hF rfl (.tmp rfl (.nil)) (hS.retv rfl)
  · have hg1_3p := hg1_3
    try simp only [decide_eq_true_eq, decide_eq_false_iff_not, Bool.not_eq_true', Bool.not_eq_false', Bool.not_eq_eq_eq_not, Bool.not_true, Bool.not_false] at hg1_3p
    refine g_pu hF ⟨_, _, (rfl : _[3]? = some _), rfl, rfl⟩ hg1_3 (pu_move rfl) rfl ?_; clear hF; intro a hF
    refine g_calld hF hS ⟨_, _, (rfl : _[3]? = some _), rfl, rfl⟩ hg1_3 ok15 rfl (c_Few adc capc cl _ h0 hS.base hcl) rfl ?_; clear hS hF; intro w a hS hF
    refine g_pu hF ⟨_, _, (rfl : _[3]? = some _), rfl, rfl⟩ hg1_3 (pu_not rfl) rfl ?_; clear hF; intro a hF
    refine s_pu hF (pu_pick_f rfl hg1_3 rfl) rfl ?_; clear hF; intro a hF
    refine s_pu hF (pu_move rfl) rfl ?_; clear hF; intro a hF
    refine w_split hF ⟨_, _, (rfl : _[8]? = some _), rfl, rfl⟩ (fun hg1_8 => ?_) (fun hg1_8 => ?_)
    · have hg1_8p := hg1_8
      try simp only [decide_eq_true_eq, decide_eq_false_iff_not, Bool.not_eq_true', Bool.not_eq_false', Bool.not_eq_eq_eq_not, Bool.not_true, Bool.not_false] at hg1_8p
      refine g_no hF ⟨_, _, (rfl : _[8]? = some _), rfl, rfl⟩ hg1_8 rfl ?_; clear hF; intro a hF
      refine g_no hF ⟨_, _, (rfl : _[8]? = some _), rfl, rfl⟩ hg1_8 rfl ?_; clear hF; intro a hF
      refine g_no hF ⟨_, _, (rfl : _[8]? = some _), rfl, rfl⟩ hg1_8 rfl ?_; clear hF; intro a hF
      refine g_no hF ⟨_, _, (rfl : _[8]? = some _), rfl, rfl⟩ hg1_8 rfl ?_; clear hF; intro a hF
      refine s_pu hF (pu_pick_t rfl hg1_8 rfl) rfl ?_; clear hF; intro a hF
      refine c_nil ?_
      refine n_then ?_
      refine c_ift hF rfl rfl ?_
      refine c_seq ?_
      refine c_reg ?_
      refine s_callv hF hS ok16 rfl (c_lives15 _ _ hS.view) rfl ?_; clear hS hF; intro w a hS hF
      refine s_pu hF (pu_assign rfl) rfl ?_; clear hF; intro a hF
      refine c_nil ?_
      refine n_then ?_
      refine c_ret (r_then ?_)
      exact f_ret hF rfl (.tmp rfl (.nil)) (hS.retv rfl)
    · have hg1_8p := hg1_8
      try simp only [decide_eq_true_eq, decide_eq_false_iff_not, Bool.not_eq_true', Bool.not_eq_false', Bool.not_eq_eq_eq_not, Bool.not_true, Bool.not_false] at hg1_8p
      refine g_pu hF ⟨_, _, (rfl : _[8]? = some _), rfl, rfl⟩ hg1_8 (o_loadA (i := 0) (new := valC v) hS rfl agg34 rfl (rfl)) rfl ?_; clear hF; intro a hF
      refine g_callv hF hS ⟨_, _, (rfl : _[8]? = some _), rfl, rfl⟩ hg1_8 ok24 rfl (c_lval v _ _ hS.view) rfl ?_; clear hS hF; intro w a hS hF
      refine g_calld hF hS ⟨_, _, (rfl : _[8]? = some _), rfl, rfl⟩ hg1_8 ok23 rfl (c_Check (valX v) none 0 _ h0 hS.base ⟨xl_nil _, by show i64 1; unfold i64; decide, hvb3, ⟨1, loose_val hvs⟩⟩) rfl ?_; clear hS hF; intro w a hS hF
      refine g_pu hF ⟨_, _, (rfl : _[8]? = some _), rfl, rfl⟩ hg1_8 (pu_ine rfl rfl) rfl ?_; clear hF; intro a hF
      refine s_pu hF (pu_pick_f rfl hg1_8 rfl) rfl ?_; clear hF; intro a hF
      refine c_nil ?_
      refine n_then ?_
      refine c_if hF rfl (fun hc24 => ?_) (fun hc24 => ?_)
      · try simp only [decide_eq_true_eq, decide_eq_false_iff_not, Bool.not_eq_true', Bool.not_eq_false', Bool.not_eq_eq_eq_not, Bool.not_true, Bool.not_false] at hc24
        refine c_seq ?_
        refine c_reg ?_
        refine s_callv hF hS ok16 rfl (c_lives15 _ _ hS.view) rfl ?_; clear hS hF; intro w a hS hF
        refine s_pu hF (pu_assign rfl) rfl ?_; clear hF; intro a hF
        refine c_nil ?_
        refine n_then ?_
        refine c_ret (r_then ?_)
        exact f_ret hF rfl (.tmp rfl (.nil)) (hS.retv rfl)
      · try simp only [decide_eq_true_eq, decide_eq_false_iff_not, Bool.not_eq_true', Bool.not_eq_false', Bool.not_eq_eq_eq_not, Bool.not_true, Bool.not_false] at hc24
        have hrv := right_only (by omega)
        have hgx : GX h0 ad cap x := ⟨hx, hop, hvb, sm_of hg1_3p⟩
        have hfew := few_of hg1_8p
        have hnr := null_kindT (cl := cl) hrv x
        refine c_skip ?_
        refine n_then ?_
        refine c_seq ?_
        refine c_reg ?_
        refine s_pu hF (o_loadA (i := 1) (new := exC x.op x.v x.s (.slice ad x.l.length cap)) hS rfl agg37 rfl (rfl)) rfl ?_; clear hF; intro a hF
        refine s_pu hF (pu_move rfl) rfl ?_; clear hF; intro a hF
        refine s_calld hF hS ok17 rfl (c_Kind adc capc cl hfew x ad cap _ h0 hS.base hgx hcl) rfl ?_; clear hS hF; intro w a hS hF
        refine s_pu hF (pu_move rfl) rfl ?_; clear hF; intro a hF
        refine s_pu hF (pu_extract rfl rfl) rfl ?_; clear hF; intro a hF
        refine s_pu hF (pu_extract rfl rfl) rfl ?_; clear hF; intro a hF
        refine s_pu hF (pu_assign rfl) rfl ?_; clear hF; intro a hF
        refine s_pu hF (pu_assign rfl) rfl ?_; clear hF; intro a hF
        refine c_nil ?_
        refine n_then ?_
        refine c_seq ?_
        refine region_st 11 hF hS (allV_ne rfl) mix (by kernel_rfl) fun Γ hG => ?_
        refine t_pu hG (fun w hC => o_loadA (i := 1) (new := exC x.op x.v x.s (.slice ad x.l.length cap)) hC.st rfl agg37 rfl (rfl)) ?_; clear hG; intro Γ hG
        refine t_pu hG (fun w hC => o_loadA (i := 0) (new := valC v) hC.st rfl agg34 rfl (rfl)) ?_; clear hG; intro Γ hG
        refine t_callv hG ok24 rfl (fun w hS => (c_lval v _ _ hS.view)) ?_; clear hG; intro Γ hG
        refine t_callQ (Φ := XV (withS (valX v) x)) XV.mono hG ok25 rfl (fun w1 hS1 => c_with (valX v) none 0 x ad cap w1 _ hS1.view hop hvb (hx.mono hS1.base_cv) (rx_leaf (by show i64 1; unfold i64; decide) hvb3) hgx.sm) ?_; clear hG; intro Γ hG
        refine t_pu hG (fun w hC => pu_move rfl) ?_; clear hG; intro Γ hG
        refine t_callP (k := 36) hG ok17 rfl (by simp) (fun u => rfl) (fun w1 u hS1 hu => ⟨_, by obtain ⟨cs, rfl, hcs⟩ := hu; obtain ⟨ad2, cap2, rfl, h1, h2, h3⟩ := hcs.inv; exact c_Kind adc capc cl hfew (withS (valX v) x) ad2 cap2 w1 _ hS1.view ⟨h3, h1, h2, let ⟨dd, hd⟩ := hgx.sm; ⟨dd, loose_with (loose_val hvs) dd x hd⟩⟩ (hcl.monoF hS1.base_cv)⟩) ?_; clear hG; intro Γ hG
        refine t_pu hG (fun w hC => pu_move rfl) ?_; clear hG; intro Γ hG
        refine t_pu hG (fun w hC => pu_extract rfl rfl) ?_; clear hG; intro Γ hG
        refine t_pu hG (fun w hC => pu_extract rfl rfl) ?_; clear hG; intro Γ hG
        refine t_pu hG (fun w hC => pu_assign rfl) ?_; clear hG; intro Γ hG
        refine t_pu hG (fun w hC => pu_assign rfl) ?_; clear hG; intro Γ hG
        refine t_end hG ?_; clear hG hF; intro a w hC hE hF hP; replace hS := hC.st; clear hC
        clear hE
        clear hP
        refine c_nil ?_
        refine n_then ?_
        refine c_seq ?_
        refine c_seq ?_
        refine c_reg ?_
        refine s_pu hF (pu_move rfl) rfl ?_; clear hF; intro a hF
        refine s_pu hF (pu_ieq rfl rfl) rfl ?_; clear hF; intro a hF
        refine c_nil ?_
        refine n_then ?_
        refine c_if hF rfl (fun hc42 => ?_) (fun hc42 => ?_)
        · try simp only [decide_eq_true_eq, decide_eq_false_iff_not, Bool.not_eq_true', Bool.not_eq_false', Bool.not_eq_eq_eq_not, Bool.not_true, Bool.not_false] at hc42
          refine c_seq ?_
          refine c_reg ?_
          refine s_pu hF (pu_move rfl) rfl ?_; clear hF; intro a hF
          refine s_pu hF (pu_ieq rfl rfl) rfl ?_; clear hF; intro a hF
          refine s_pu hF (pu_move rfl) rfl ?_; clear hF; intro a hF
          refine w_split hF ⟨_, _, (rfl : _[2]? = some _), rfl, rfl⟩ (fun hg6_2 => ?_) (fun hg6_2 => ?_)
          · have hg6_2p := hg6_2
            try simp only [decide_eq_true_eq, decide_eq_false_iff_not, Bool.not_eq_true', Bool.not_eq_false', Bool.not_eq_eq_eq_not, Bool.not_true, Bool.not_false] at hg6_2p
            refine g_no hF ⟨_, _, (rfl : _[2]? = some _), rfl, rfl⟩ hg6_2 rfl ?_; clear hF; intro a hF
            refine g_no hF ⟨_, _, (rfl : _[2]? = some _), rfl, rfl⟩ hg6_2 rfl ?_; clear hF; intro a hF
            refine s_pu hF (pu_pick_t rfl hg6_2 rfl) rfl ?_; clear hF; intro a hF
            refine s_pu hF (pu_move rfl) rfl ?_; clear hF; intro a hF
            refine g_callv hF hS ⟨_, _, (rfl : _[6]? = some _), rfl, rfl⟩ (by first | rfl | exact decide_eq_true ((hnr.1 hc42).resolve_left hg6_2p)) ok16 rfl (c_lives15 _ _ hS.view) rfl ?_; clear hS hF; intro w a hS hF
            refine s_pu hF (pu_pick_t rfl (by first | rfl | exact decide_eq_true ((hnr.1 hc42).resolve_left hg6_2p)) rfl) rfl ?_; clear hF; intro a hF
            refine s_pu hF (pu_assign rfl) rfl ?_; clear hF; intro a hF
            refine c_nil ?_
            refine n_then ?_
            refine c_ret (r_then ?_)
            exact f_ret hF rfl (.tmp rfl (.nil)) (hS.retv rfl)
          · have hg6_2p := hg6_2
            try simp only [decide_eq_true_eq, decide_eq_false_iff_not, Bool.not_eq_true', Bool.not_eq_false', Bool.not_eq_eq_eq_not, Bool.not_true, Bool.not_false] at hg6_2p
            refine g_pu hF ⟨_, _, (rfl : _[2]? = some _), rfl, rfl⟩ hg6_2 (pu_move rfl) rfl ?_; clear hF; intro a hF
            refine g_pu hF ⟨_, _, (rfl : _[2]? = some _), rfl, rfl⟩ hg6_2 (pu_ieq rfl rfl) rfl ?_; clear hF; intro a hF
            refine s_pu hF (pu_pick_f rfl hg6_2 rfl) rfl ?_; clear hF; intro a hF
            refine s_pu hF (pu_move rfl) rfl ?_; clear hF; intro a hF
            refine g_callv hF hS ⟨_, _, (rfl : _[6]? = some _), rfl, rfl⟩ (by first | rfl | exact decide_eq_true ((hnr.1 hc42).resolve_left hg6_2p)) ok16 rfl (c_lives15 _ _ hS.view) rfl ?_; clear hS hF; intro w a hS hF
            refine s_pu hF (pu_pick_t rfl (by first | rfl | exact decide_eq_true ((hnr.1 hc42).resolve_left hg6_2p)) rfl) rfl ?_; clear hF; intro a hF
            refine s_pu hF (pu_assign rfl) rfl ?_; clear hF; intro a hF
            refine c_nil ?_
            refine n_then ?_
            refine c_ret (r_then ?_)
            exact f_ret hF rfl (.tmp rfl (.nil)) (hS.retv rfl)
        · try simp only [decide_eq_true_eq, decide_eq_false_iff_not, Bool.not_eq_true', Bool.not_eq_false', Bool.not_eq_eq_eq_not, Bool.not_true, Bool.not_false] at hc42
          refine c_skip ?_
          refine n_then ?_
          refine c_seq ?_
          refine c_seq ?_
          refine c_reg ?_
          refine s_pu hF (pu_move rfl) rfl ?_; clear hF; intro a hF
          refine s_pu hF (pu_ine rfl rfl) rfl ?_; clear hF; intro a hF
          refine c_nil ?_
          refine n_then ?_
          refine c_if hF rfl (fun hc53 => ?_) (fun hc53 => ?_)
          · try simp only [decide_eq_true_eq, decide_eq_false_iff_not, Bool.not_eq_true', Bool.not_eq_false', Bool.not_eq_eq_eq_not, Bool.not_true, Bool.not_false] at hc53
            refine c_seq ?_
            refine c_reg ?_
            refine s_callv hF hS ok16 rfl (c_lives15 _ _ hS.view) rfl ?_; clear hS hF; intro w a hS hF
            refine s_pu hF (pu_assign rfl) rfl ?_; clear hF; intro a hF
            refine c_nil ?_
            refine n_then ?_
            refine c_ret (r_then ?_)
            exact f_ret hF rfl (.tmp rfl (.nil)) (hS.retv rfl)
          · try simp only [decide_eq_true_eq, decide_eq_false_iff_not, Bool.not_eq_true', Bool.not_eq_false', Bool.not_eq_eq_eq_not, Bool.not_true, Bool.not_false] at hc53
            refine c_skip ?_
            refine n_then ?_
            refine c_seq ?_
            refine c_reg ?_
            refine s_pu hF (pu_move rfl) rfl ?_; clear hF; intro a hF
            refine s_pu hF (pu_ieq rfl rfl) rfl ?_; clear hF; intro a hF
            refine s_pu hF (pu_move rfl) rfl ?_; clear hF; intro a hF
            refine w_split hF ⟨_, _, (rfl : _[2]? = some _), rfl, rfl⟩ (fun hg9_2 => ?_) (fun hg9_2 => ?_)
            · have hg9_2p := hg9_2
              try simp only [decide_eq_true_eq, decide_eq_false_iff_not, Bool.not_eq_true', Bool.not_eq_false', Bool.not_eq_eq_eq_not, Bool.not_true, Bool.not_false] at hg9_2p
              refine g_no hF ⟨_, _, (rfl : _[2]? = some _), rfl, rfl⟩ hg9_2 rfl ?_; clear hF; intro a hF
              refine g_no hF ⟨_, _, (rfl : _[2]? = some _), rfl, rfl⟩ hg9_2 rfl ?_; clear hF; intro a hF
              refine g_no hF ⟨_, _, (rfl : _[2]? = some _), rfl, rfl⟩ hg9_2 rfl ?_; clear hF; intro a hF
              refine g_noU hF ⟨_, _, (rfl : _[5]? = some _), rfl, rfl⟩ rfl ?_; clear hF; intro a hF
              refine g_noU hF ⟨_, _, (rfl : _[5]? = some _), rfl, rfl⟩ rfl ?_; clear hF; intro a hF
              refine g_noU hF ⟨_, _, (rfl : _[5]? = some _), rfl, rfl⟩ rfl ?_; clear hF; intro a hF
              refine g_noU hF ⟨_, _, (rfl : _[5]? = some _), rfl, rfl⟩ rfl ?_; clear hF; intro a hF
              refine g_noU hF ⟨_, _, (rfl : _[9]? = some _), rfl, rfl⟩ rfl ?_; clear hF; intro a hF
              refine g_noU hF ⟨_, _, (rfl : _[9]? = some _), rfl, rfl⟩ rfl ?_; clear hF; intro a hF
              refine g_noU hF ⟨_, _, (rfl : _[9]? = some _), rfl, rfl⟩ rfl ?_; clear hF; intro a hF
              refine g_noU hF ⟨_, _, (rfl : _[12]? = some _), rfl, rfl⟩ rfl ?_; clear hF; intro a hF
              refine g_noU hF ⟨_, _, (rfl : _[12]? = some _), rfl, rfl⟩ rfl ?_; clear hF; intro a hF
              refine g_noU hF ⟨_, _, (rfl : _[12]? = some _), rfl, rfl⟩ rfl ?_; clear hF; intro a hF
              refine g_noU hF ⟨_, _, (rfl : _[12]? = some _), rfl, rfl⟩ rfl ?_; clear hF; intro a hF
              refine g_noU hF ⟨_, _, (rfl : _[9]? = some _), rfl, rfl⟩ rfl ?_; clear hF; intro a hF
              refine g_noU hF ⟨_, _, (rfl : _[5]? = some _), rfl, rfl⟩ rfl ?_; clear hF; intro a hF
              refine g_noU hF ⟨_, _, (rfl : _[5]? = some _), rfl, rfl⟩ rfl ?_; clear hF; intro a hF
              refine g_noU hF ⟨_, _, (rfl : _[19]? = some _), rfl, rfl⟩ rfl ?_; clear hF; intro a hF
              refine g_noU hF ⟨_, _, (rfl : _[19]? = some _), rfl, rfl⟩ rfl ?_; clear hF; intro a hF
              refine g_noU hF ⟨_, _, (rfl : _[19]? = some _), rfl, rfl⟩ rfl ?_; clear hF; intro a hF
              refine g_noU hF ⟨_, _, (rfl : _[22]? = some _), rfl, rfl⟩ rfl ?_; clear hF; intro a hF
              refine g_noU hF ⟨_, _, (rfl : _[22]? = some _), rfl, rfl⟩ rfl ?_; clear hF; intro a hF
              refine g_noU hF ⟨_, _, (rfl : _[19]? = some _), rfl, rfl⟩ rfl ?_; clear hF; intro a hF
              refine g_noU hF ⟨_, _, (rfl : _[5]? = some _), rfl, rfl⟩ rfl ?_; clear hF; intro a hF
              refine g_no hF ⟨_, _, (rfl : _[2]? = some _), rfl, rfl⟩ hg9_2 rfl ?_; clear hF; intro a hF
              refine s_pu hF (pu_pick_t rfl hg9_2 rfl) rfl ?_; clear hF; intro a hF
              refine s_pu hF (pu_move rfl) rfl ?_; clear hF; intro a hF
              refine g_callv hF hS ⟨_, _, (rfl : _[29]? = some _), rfl, rfl⟩ (by first | rfl | (have hq := hnr.2 (by omega); simp only [relK] at hq; first | (exfalso; omega) | (apply decide_eq_true; omega))) ok16 rfl (c_lives15 _ _ hS.view) rfl ?_; clear hS hF; intro w a hS hF
              refine s_pu hF (pu_pick_t rfl (by first | rfl | (have hq := hnr.2 (by omega); simp only [relK] at hq; first | (exfalso; omega) | (apply decide_eq_true; omega))) rfl) rfl ?_; clear hF; intro a hF
              refine s_pu hF (pu_assign rfl) rfl ?_; clear hF; intro a hF
              refine c_nil ?_
              refine n_then ?_
              refine c_ret ?_
              exact f_ret hF rfl (.tmp rfl (.nil)) (hS.retv rfl)
            · have hg9_2p := hg9_2
              try simp only [decide_eq_true_eq, decide_eq_false_iff_not, Bool.not_eq_true', Bool.not_eq_false', Bool.not_eq_eq_eq_not, Bool.not_true, Bool.not_false] at hg9_2p
              refine g_pu hF ⟨_, _, (rfl : _[2]? = some _), rfl, rfl⟩ hg9_2 (pu_move rfl) rfl ?_; clear hF; intro a hF
              refine g_pu hF ⟨_, _, (rfl : _[2]? = some _), rfl, rfl⟩ hg9_2 (pu_ieq rfl rfl) rfl ?_; clear hF; intro a hF
              refine g_pu hF ⟨_, _, (rfl : _[2]? = some _), rfl, rfl⟩ hg9_2 (pu_move rfl) rfl ?_; clear hF; intro a hF
              refine w_split hF ⟨_, _, (rfl : _[5]? = some _), rfl, rfl⟩ (fun hg9_5 => ?_) (fun hg9_5 => ?_)
              · have hg9_5p := hg9_5
                try simp only [decide_eq_true_eq, decide_eq_false_iff_not, Bool.not_eq_true', Bool.not_eq_false', Bool.not_eq_eq_eq_not, Bool.not_true, Bool.not_false] at hg9_5p
                refine g_pu hF ⟨_, _, (rfl : _[5]? = some _), rfl, rfl⟩ hg9_5 (pu_move rfl) rfl ?_; clear hF; intro a hF
                refine g_pu hF ⟨_, _, (rfl : _[5]? = some _), rfl, rfl⟩ hg9_5 (pu_move rfl) rfl ?_; clear hF; intro a hF
                refine g_pu hF ⟨_, _, (rfl : _[5]? = some _), rfl, rfl⟩ hg9_5 (pu_ieq rfl rfl) rfl ?_; clear hF; intro a hF
                refine g_pu hF ⟨_, _, (rfl : _[5]? = some _), rfl, rfl⟩ hg9_5 (pu_move rfl) rfl ?_; clear hF; intro a hF
                refine w_split hF ⟨_, _, (rfl : _[9]? = some _), rfl, rfl⟩ (fun hg9_9 => ?_) (fun hg9_9 => ?_)
                · have hg9_9p := hg9_9
                  try simp only [decide_eq_true_eq, decide_eq_false_iff_not, Bool.not_eq_true', Bool.not_eq_false', Bool.not_eq_eq_eq_not, Bool.not_true, Bool.not_false] at hg9_9p
                  refine g_no hF ⟨_, _, (rfl : _[9]? = some _), rfl, rfl⟩ hg9_9 rfl ?_; clear hF; intro a hF
                  refine g_no hF ⟨_, _, (rfl : _[9]? = some _), rfl, rfl⟩ hg9_9 rfl ?_; clear hF; intro a hF
                  refine g_no hF ⟨_, _, (rfl : _[9]? = some _), rfl, rfl⟩ hg9_9 rfl ?_; clear hF; intro a hF
                  refine g_noU hF ⟨_, _, (rfl : _[12]? = some _), rfl, rfl⟩ rfl ?_; clear hF; intro a hF
                  refine g_noU hF ⟨_, _, (rfl : _[12]? = some _), rfl, rfl⟩ rfl ?_; clear hF; intro a hF
                  refine g_noU hF ⟨_, _, (rfl : _[12]? = some _), rfl, rfl⟩ rfl ?_; clear hF; intro a hF
                  refine g_noU hF ⟨_, _, (rfl : _[12]? = some _), rfl, rfl⟩ rfl ?_; clear hF; intro a hF
                  refine g_no hF ⟨_, _, (rfl : _[9]? = some _), rfl, rfl⟩ hg9_9 rfl ?_; clear hF; intro a hF
                  refine g_pu hF ⟨_, _, (rfl : _[5]? = some _), rfl, rfl⟩ hg9_5 (pu_pick_t rfl hg9_9 rfl) rfl ?_; clear hF; intro a hF
                  refine g_pu hF ⟨_, _, (rfl : _[5]? = some _), rfl, rfl⟩ hg9_5 (pu_move rfl) rfl ?_; clear hF; intro a hF
                  refine g_no hF ⟨_, _, (rfl : _[19]? = some _), rfl, rfl⟩ rfl rfl ?_; clear hF; intro a hF
                  refine g_no hF ⟨_, _, (rfl : _[19]? = some _), rfl, rfl⟩ rfl rfl ?_; clear hF; intro a hF
                  refine g_no hF ⟨_, _, (rfl : _[19]? = some _), rfl, rfl⟩ rfl rfl ?_; clear hF; intro a hF
                  refine g_noU hF ⟨_, _, (rfl : _[22]? = some _), rfl, rfl⟩ rfl ?_; clear hF; intro a hF
                  refine g_noU hF ⟨_, _, (rfl : _[22]? = some _), rfl, rfl⟩ rfl ?_; clear hF; intro a hF
                  refine g_no hF ⟨_, _, (rfl : _[19]? = some _), rfl, rfl⟩ rfl rfl ?_; clear hF; intro a hF
                  refine g_pu hF ⟨_, _, (rfl : _[5]? = some _), rfl, rfl⟩ hg9_5 (pu_pick_t rfl rfl rfl) rfl ?_; clear hF; intro a hF
                  refine g_pu hF ⟨_, _, (rfl : _[2]? = some _), rfl, rfl⟩ hg9_2 (pu_pick_t rfl hg9_5 rfl) rfl ?_; clear hF; intro a hF
                  refine s_pu hF (pu_pick_f rfl hg9_2 rfl) rfl ?_; clear hF; intro a hF
                  refine s_pu hF (pu_move rfl) rfl ?_; clear hF; intro a hF
                  refine g_callv hF hS ⟨_, _, (rfl : _[29]? = some _), rfl, rfl⟩ (by first | rfl | (have hq := hnr.2 (by omega); simp only [relK] at hq; first | (exfalso; omega) | (apply decide_eq_true; omega))) ok16 rfl (c_lives15 _ _ hS.view) rfl ?_; clear hS hF; intro w a hS hF
                  refine s_pu hF (pu_pick_t rfl (by first | rfl | (have hq := hnr.2 (by omega); simp only [relK] at hq; first | (exfalso; omega) | (apply decide_eq_true; omega))) rfl) rfl ?_; clear hF; intro a hF
                  refine s_pu hF (pu_assign rfl) rfl ?_; clear hF; intro a hF
                  refine c_nil ?_
                  refine n_then ?_
                  refine c_ret ?_
                  exact f_ret hF rfl (.tmp rfl (.nil)) (hS.retv rfl)
                · have hg9_9p := hg9_9
                  try simp only [decide_eq_true_eq, decide_eq_false_iff_not, Bool.not_eq_true', Bool.not_eq_false', Bool.not_eq_eq_eq_not, Bool.not_true, Bool.not_false] at hg9_9p
                  refine g_pu hF ⟨_, _, (rfl : _[9]? = some _), rfl, rfl⟩ hg9_9 (pu_move rfl) rfl ?_; clear hF; intro a hF
                  refine g_pu hF ⟨_, _, (rfl : _[9]? = some _), rfl, rfl⟩ hg9_9 (pu_ieq rfl rfl) rfl ?_; clear hF; intro a hF
                  refine g_pu hF ⟨_, _, (rfl : _[9]? = some _), rfl, rfl⟩ hg9_9 (pu_move rfl) rfl ?_; clear hF; intro a hF
                  refine w_split hF ⟨_, _, (rfl : _[12]? = some _), rfl, rfl⟩ (fun hg9_12 => ?_) (fun hg9_12 => ?_)
                  · have hg9_12p := hg9_12
                    try simp only [decide_eq_true_eq, decide_eq_false_iff_not, Bool.not_eq_true', Bool.not_eq_false', Bool.not_eq_eq_eq_not, Bool.not_true, Bool.not_false] at hg9_12p
                    refine g_pu hF ⟨_, _, (rfl : _[12]? = some _), rfl, rfl⟩ hg9_12 (pu_move rfl) rfl ?_; clear hF; intro a hF
                    refine g_pu hF ⟨_, _, (rfl : _[12]? = some _), rfl, rfl⟩ hg9_12 (pu_faddr fld34_0 rfl) rfl ?_; clear hF; intro a hF
                    refine g_pu hF ⟨_, _, (rfl : _[12]? = some _), rfl, rfl⟩ hg9_12 (o_load1 (i := 0) hS rfl one32 rfl rfl) rfl ?_; clear hF; intro a hF
                    refine g_pu hF ⟨_, _, (rfl : _[12]? = some _), rfl, rfl⟩ hg9_12 (pu_ieq rfl rfl) rfl ?_; clear hF; intro a hF
                    refine g_pu hF ⟨_, _, (rfl : _[9]? = some _), rfl, rfl⟩ hg9_9 (pu_pick_t rfl hg9_12 rfl) rfl ?_; clear hF; intro a hF
                    refine g_pu hF ⟨_, _, (rfl : _[5]? = some _), rfl, rfl⟩ hg9_5 (pu_pick_f rfl hg9_9 rfl) rfl ?_; clear hF; intro a hF
                    refine g_pu hF ⟨_, _, (rfl : _[5]? = some _), rfl, rfl⟩ hg9_5 (pu_move rfl) rfl ?_; clear hF; intro a hF
                    refine w_split hF ⟨_, _, (rfl : _[19]? = some _), rfl, rfl⟩ (fun hg9_19 => ?_) (fun hg9_19 => ?_)
                    · have hg9_19p := hg9_19
                      try simp only [decide_eq_true_eq, decide_eq_false_iff_not, Bool.not_eq_true', Bool.not_eq_false', Bool.not_eq_eq_eq_not, Bool.not_true, Bool.not_false] at hg9_19p
                      refine g_no hF ⟨_, _, (rfl : _[19]? = some _), rfl, rfl⟩ hg9_19 rfl ?_; clear hF; intro a hF
                      refine g_no hF ⟨_, _, (rfl : _[19]? = some _), rfl, rfl⟩ hg9_19 rfl ?_; clear hF; intro a hF
                      refine g_no hF ⟨_, _, (rfl : _[19]? = some _), rfl, rfl⟩ hg9_19 rfl ?_; clear hF; intro a hF
                      refine g_noU hF ⟨_, _, (rfl : _[22]? = some _), rfl, rfl⟩ rfl ?_; clear hF; intro a hF
                      refine g_noU hF ⟨_, _, (rfl : _[22]? = some _), rfl, rfl⟩ rfl ?_; clear hF; intro a hF
                      refine g_no hF ⟨_, _, (rfl : _[19]? = some _), rfl, rfl⟩ hg9_19 rfl ?_; clear hF; intro a hF
                      refine g_pu hF ⟨_, _, (rfl : _[5]? = some _), rfl, rfl⟩ hg9_5 (pu_pick_t rfl hg9_19 rfl) rfl ?_; clear hF; intro a hF
                      refine g_pu hF ⟨_, _, (rfl : _[2]? = some _), rfl, rfl⟩ hg9_2 (pu_pick_t rfl hg9_5 rfl) rfl ?_; clear hF; intro a hF
                      refine s_pu hF (pu_pick_f rfl hg9_2 rfl) rfl ?_; clear hF; intro a hF
                      refine s_pu hF (pu_move rfl) rfl ?_; clear hF; intro a hF
                      refine g_callv hF hS ⟨_, _, (rfl : _[29]? = some _), rfl, rfl⟩ (by first | rfl | (have hq := hnr.2 (by omega); simp only [relK] at hq; first | (exfalso; omega) | (apply decide_eq_true; omega))) ok16 rfl (c_lives15 _ _ hS.view) rfl ?_; clear hS hF; intro w a hS hF
                      refine s_pu hF (pu_pick_t rfl (by first | rfl | (have hq := hnr.2 (by omega); simp only [relK] at hq; first | (exfalso; omega) | (apply decide_eq_true; omega))) rfl) rfl ?_; clear hF; intro a hF
                      refine s_pu hF (pu_assign rfl) rfl ?_; clear hF; intro a hF
                      refine c_nil ?_
                      refine n_then ?_
                      refine c_ret ?_
                      exact f_ret hF rfl (.tmp rfl (.nil)) (hS.retv rfl)
                    · have hg9_19p := hg9_19
                      try simp only [decide_eq_true_eq, decide_eq_false_iff_not, Bool.not_eq_true', Bool.not_eq_false', Bool.not_eq_eq_eq_not, Bool.not_true, Bool.not_false] at hg9_19p
                      refine g_pu hF ⟨_, _, (rfl : _[19]? = some _), rfl, rfl⟩ hg9_19 (pu_move rfl) rfl ?_; clear hF; intro a hF
                      refine g_pu hF ⟨_, _, (rfl : _[19]? = some _), rfl, rfl⟩ hg9_19 (pu_ieq rfl rfl) rfl ?_; clear hF; intro a hF
                      refine g_pu hF ⟨_, _, (rfl : _[19]? = some _), rfl, rfl⟩ hg9_19 (pu_move rfl) rfl ?_; clear hF; intro a hF
                      refine w_split hF ⟨_, _, (rfl : _[22]? = some _), rfl, rfl⟩ (fun hg9_22 => ?_) (fun hg9_22 => ?_)
                      · have hg9_22p := hg9_22
                        try simp only [decide_eq_true_eq, decide_eq_false_iff_not, Bool.not_eq_true', Bool.not_eq_false', Bool.not_eq_eq_eq_not, Bool.not_true, Bool.not_false] at hg9_22p
                        refine g_pu hF ⟨_, _, (rfl : _[22]? = some _), rfl, rfl⟩ hg9_22 (pu_move rfl) rfl ?_; clear hF; intro a hF
                        refine g_pu hF ⟨_, _, (rfl : _[22]? = some _), rfl, rfl⟩ hg9_22 (pu_ieq rfl rfl) rfl ?_; clear hF; intro a hF
                        refine g_pu hF ⟨_, _, (rfl : _[19]? = some _), rfl, rfl⟩ hg9_19 (pu_pick_t rfl hg9_22 rfl) rfl ?_; clear hF; intro a hF
                        refine g_pu hF ⟨_, _, (rfl : _[5]? = some _), rfl, rfl⟩ hg9_5 (pu_pick_f rfl hg9_19 rfl) rfl ?_; clear hF; intro a hF
                        refine g_pu hF ⟨_, _, (rfl : _[2]? = some _), rfl, rfl⟩ hg9_2 (pu_pick_t rfl hg9_5 rfl) rfl ?_; clear hF; intro a hF
                        refine s_pu hF (pu_pick_f rfl hg9_2 rfl) rfl ?_; clear hF; intro a hF
                        refine s_pu hF (pu_move rfl) rfl ?_; clear hF; intro a hF
                        refine g_callv hF hS ⟨_, _, (rfl : _[29]? = some _), rfl, rfl⟩ (by first | rfl | (have hq := hnr.2 (by omega); simp only [relK] at hq; first | (exfalso; omega) | (apply decide_eq_true; omega))) ok16 rfl (c_lives15 _ _ hS.view) rfl ?_; clear hS hF; intro w a hS hF
                        refine s_pu hF (pu_pick_t rfl (by first | rfl | (have hq := hnr.2 (by omega); simp only [relK] at hq; first | (exfalso; omega) | (apply decide_eq_true; omega))) rfl) rfl ?_; clear hF; intro a hF
                        refine s_pu hF (pu_assign rfl) rfl ?_; clear hF; intro a hF
                        refine c_nil ?_
                        refine n_then ?_
                        refine c_ret ?_
                        exact f_ret hF rfl (.tmp rfl (.nil)) (hS.retv rfl)
                      · have hg9_22p := hg9_22
                        try simp only [decide_eq_true_eq, decide_eq_false_iff_not, Bool.not_eq_true', Bool.not_eq_false', Bool.not_eq_eq_eq_not, Bool.not_true, Bool.not_false] at hg9_22p
                        refine g_no hF ⟨_, _, (rfl : _[22]? = some _), rfl, rfl⟩ hg9_22 rfl ?_; clear hF; intro a hF
                        refine g_no hF ⟨_, _, (rfl : _[22]? = some _), rfl, rfl⟩ hg9_22 rfl ?_; clear hF; intro a hF
                        refine g_pu hF ⟨_, _, (rfl : _[19]? = some _), rfl, rfl⟩ hg9_19 (pu_pick_f rfl hg9_22 rfl) rfl ?_; clear hF; intro a hF
                        refine g_pu hF ⟨_, _, (rfl : _[5]? = some _), rfl, rfl⟩ hg9_5 (pu_pick_f rfl hg9_19 rfl) rfl ?_; clear hF; intro a hF
                        refine g_pu hF ⟨_, _, (rfl : _[2]? = some _), rfl, rfl⟩ hg9_2 (pu_pick_t rfl hg9_5 rfl) rfl ?_; clear hF; intro a hF
                        refine s_pu hF (pu_pick_f rfl hg9_2 rfl) rfl ?_; clear hF; intro a hF
                        refine s_pu hF (pu_move rfl) rfl ?_; clear hF; intro a hF
                        refine g_callv hF hS ⟨_, _, (rfl : _[29]? = some _), rfl, rfl⟩ (by first | rfl | (have hq := hnr.2 (by omega); simp only [relK] at hq; first | (exfalso; omega) | (apply decide_eq_true; omega))) ok16 rfl (c_lives15 _ _ hS.view) rfl ?_; clear hS hF; intro w a hS hF
                        refine s_pu hF (pu_pick_t rfl (by first | rfl | (have hq := hnr.2 (by omega); simp only [relK] at hq; first | (exfalso; omega) | (apply decide_eq_true; omega))) rfl) rfl ?_; clear hF; intro a hF
                        refine s_pu hF (pu_assign rfl) rfl ?_; clear hF; intro a hF
                        refine c_nil ?_
                        refine n_then ?_
                        refine c_ret ?_
                        exact f_ret hF rfl (.tmp rfl (.nil)) (hS.retv rfl)
                  · have hg9_12p := hg9_12
                    try simp only [decide_eq_true_eq, decide_eq_false_iff_not, Bool.not_eq_true', Bool.not_eq_false', Bool.not_eq_eq_eq_not, Bool.not_true, Bool.not_false] at hg9_12p
                    refine g_no hF ⟨_, _, (rfl : _[12]? = some _), rfl, rfl⟩ hg9_12 rfl ?_; clear hF; intro a hF
                    refine g_no hF ⟨_, _, (rfl : _[12]? = some _), rfl, rfl⟩ hg9_12 rfl ?_; clear hF; intro a hF
                    refine g_no hF ⟨_, _, (rfl : _[12]? = some _), rfl, rfl⟩ hg9_12 rfl ?_; clear hF; intro a hF
                    refine g_no hF ⟨_, _, (rfl : _[12]? = some _), rfl, rfl⟩ hg9_12 rfl ?_; clear hF; intro a hF
                    refine g_pu hF ⟨_, _, (rfl : _[9]? = some _), rfl, rfl⟩ hg9_9 (pu_pick_f rfl hg9_12 rfl) rfl ?_; clear hF; intro a hF
                    refine g_pu hF ⟨_, _, (rfl : _[5]? = some _), rfl, rfl⟩ hg9_5 (pu_pick_f rfl hg9_9 rfl) rfl ?_; clear hF; intro a hF
                    refine g_pu hF ⟨_, _, (rfl : _[5]? = some _), rfl, rfl⟩ hg9_5 (pu_move rfl) rfl ?_; clear hF; intro a hF
                    refine g_pu hF ⟨_, _, (rfl : _[19]? = some _), rfl, rfl⟩ rfl (pu_move rfl) rfl ?_; clear hF; intro a hF
                    refine g_pu hF ⟨_, _, (rfl : _[19]? = some _), rfl, rfl⟩ rfl (pu_ieq rfl rfl) rfl ?_; clear hF; intro a hF
                    refine g_pu hF ⟨_, _, (rfl : _[19]? = some _), rfl, rfl⟩ rfl (pu_move rfl) rfl ?_; clear hF; intro a hF
                    refine w_split hF ⟨_, _, (rfl : _[22]? = some _), rfl, rfl⟩ (fun hg9_22 => ?_) (fun hg9_22 => ?_)
                    · have hg9_22p := hg9_22
                      try simp only [decide_eq_true_eq, decide_eq_false_iff_not, Bool.not_eq_true', Bool.not_eq_false', Bool.not_eq_eq_eq_not, Bool.not_true, Bool.not_false] at hg9_22p
                      refine g_pu hF ⟨_, _, (rfl : _[22]? = some _), rfl, rfl⟩ hg9_22 (pu_move rfl) rfl ?_; clear hF; intro a hF
                      refine g_pu hF ⟨_, _, (rfl : _[22]? = some _), rfl, rfl⟩ hg9_22 (pu_ieq rfl rfl) rfl ?_; clear hF; intro a hF
                      refine g_pu hF ⟨_, _, (rfl : _[19]? = some _), rfl, rfl⟩ rfl (pu_pick_t rfl hg9_22 rfl) rfl ?_; clear hF; intro a hF
                      refine g_pu hF ⟨_, _, (rfl : _[5]? = some _), rfl, rfl⟩ hg9_5 (pu_pick_f rfl rfl rfl) rfl ?_; clear hF; intro a hF
                      refine g_pu hF ⟨_, _, (rfl : _[2]? = some _), rfl, rfl⟩ hg9_2 (pu_pick_t rfl hg9_5 rfl) rfl ?_; clear hF; intro a hF
                      refine s_pu hF (pu_pick_f rfl hg9_2 rfl) rfl ?_; clear hF; intro a hF
                      refine s_pu hF (pu_move rfl) rfl ?_; clear hF; intro a hF
                      refine g_callv hF hS ⟨_, _, (rfl : _[29]? = some _), rfl, rfl⟩ (by first | rfl | (have hq := hnr.2 (by omega); simp only [relK] at hq; first | (exfalso; omega) | (apply decide_eq_true; omega))) ok16 rfl (c_lives15 _ _ hS.view) rfl ?_; clear hS hF; intro w a hS hF
                      refine s_pu hF (pu_pick_t rfl (by first | rfl | (have hq := hnr.2 (by omega); simp only [relK] at hq; first | (exfalso; omega) | (apply decide_eq_true; omega))) rfl) rfl ?_; clear hF; intro a hF
                      refine s_pu hF (pu_assign rfl) rfl ?_; clear hF; intro a hF
                      refine c_nil ?_
                      refine n_then ?_
                      refine c_ret ?_
                      exact f_ret hF rfl (.tmp rfl (.nil)) (hS.retv rfl)
                    · have hg9_22p := hg9_22
                      try simp only [decide_eq_true_eq, decide_eq_false_iff_not, Bool.not_eq_true', Bool.not_eq_false', Bool.not_eq_eq_eq_not, Bool.not_true, Bool.not_false] at hg9_22p
                      refine g_no hF ⟨_, _, (rfl : _[22]? = some _), rfl, rfl⟩ hg9_22 rfl ?_; clear hF; intro a hF
                      refine g_no hF ⟨_, _, (rfl : _[22]? = some _), rfl, rfl⟩ hg9_22 rfl ?_; clear hF; intro a hF
                      refine g_pu hF ⟨_, _, (rfl : _[19]? = some _), rfl, rfl⟩ rfl (pu_pick_f rfl hg9_22 rfl) rfl ?_; clear hF; intro a hF
                      refine g_pu hF ⟨_, _, (rfl : _[5]? = some _), rfl, rfl⟩ hg9_5 (pu_pick_f rfl rfl rfl) rfl ?_; clear hF; intro a hF
                      refine g_pu hF ⟨_, _, (rfl : _[2]? = some _), rfl, rfl⟩ hg9_2 (pu_pick_t rfl hg9_5 rfl) rfl ?_; clear hF; intro a hF
                      refine s_pu hF (pu_pick_f rfl hg9_2 rfl) rfl ?_; clear hF; intro a hF
                      refine s_pu hF (pu_move rfl) rfl ?_; clear hF; intro a hF
                      refine g_callv hF hS ⟨_, _, (rfl : _[29]? = some _), rfl, rfl⟩ (by first | rfl | (have hq := hnr.2 (by omega); simp only [relK] at hq; first | (exfalso; omega) | (apply decide_eq_true; omega))) ok16 rfl (c_lives15 _ _ hS.view) rfl ?_; clear hS hF; intro w a hS hF
                      refine s_pu hF (pu_pick_t rfl (by first | rfl | (have hq := hnr.2 (by omega); simp only [relK] at hq; first | (exfalso; omega) | (apply decide_eq_true; omega))) rfl) rfl ?_; clear hF; intro a hF
                      refine s_pu hF (pu_assign rfl) rfl ?_; clear hF; intro a hF
                      refine c_nil ?_
                      refine n_then ?_
                      refine c_ret ?_
                      exact f_ret hF rfl (.tmp rfl (.nil)) (hS.retv rfl)
              · have hg9_5p := hg9_5
                try simp only [decide_eq_true_eq, decide_eq_false_iff_not, Bool.not_eq_true', Bool.not_eq_false', Bool.not_eq_eq_eq_not, Bool.not_true, Bool.not_false] at hg9_5p
                refine g_no hF ⟨_, _, (rfl : _[5]? = some _), rfl, rfl⟩ hg9_5 rfl ?_; clear hF; intro a hF
                refine g_no hF ⟨_, _, (rfl : _[5]? = some _), rfl, rfl⟩ hg9_5 rfl ?_; clear hF; intro a hF
                refine g_no hF ⟨_, _, (rfl : _[5]? = some _), rfl, rfl⟩ hg9_5 rfl ?_; clear hF; intro a hF
                refine g_no hF ⟨_, _, (rfl : _[5]? = some _), rfl, rfl⟩ hg9_5 rfl ?_; clear hF; intro a hF
                refine g_noU hF ⟨_, _, (rfl : _[9]? = some _), rfl, rfl⟩ rfl ?_; clear hF; intro a hF
                refine g_noU hF ⟨_, _, (rfl : _[9]? = some _), rfl, rfl⟩ rfl ?_; clear hF; intro a hF
                refine g_noU hF ⟨_, _, (rfl : _[9]? = some _), rfl, rfl⟩ rfl ?_; clear hF; intro a hF
                refine g_noU hF ⟨_, _, (rfl : _[12]? = some _), rfl, rfl⟩ rfl ?_; clear hF; intro a hF
                refine g_noU hF ⟨_, _, (rfl : _[12]? = some _), rfl, rfl⟩ rfl ?_; clear hF; intro a hF
                refine g_noU hF ⟨_, _, (rfl : _[12]? = some _), rfl, rfl⟩ rfl ?_; clear hF; intro a hF
                refine g_noU hF ⟨_, _, (rfl : _[12]? = some _), rfl, rfl⟩ rfl ?_; clear hF; intro a hF
                refine g_noU hF ⟨_, _, (rfl : _[9]? = some _), rfl, rfl⟩ rfl ?_; clear hF; intro a hF
                refine g_no hF ⟨_, _, (rfl : _[5]? = some _), rfl, rfl⟩ hg9_5 rfl ?_; clear hF; intro a hF
                refine g_no hF ⟨_, _, (rfl : _[5]? = some _), rfl, rfl⟩ hg9_5 rfl ?_; clear hF; intro a hF
                refine g_noU hF ⟨_, _, (rfl : _[19]? = some _), rfl, rfl⟩ rfl ?_; clear hF; intro a hF
                refine g_noU hF ⟨_, _, (rfl : _[19]? = some _), rfl, rfl⟩ rfl ?_; clear hF; intro a hF
                refine g_noU hF ⟨_, _, (rfl : _[19]? = some _), rfl, rfl⟩ rfl ?_; clear hF; intro a hF
                refine g_noU hF ⟨_, _, (rfl : _[22]? = some _), rfl, rfl⟩ rfl ?_; clear hF; intro a hF
                refine g_noU hF ⟨_, _, (rfl : _[22]? = some _), rfl, rfl⟩ rfl ?_; clear hF; intro a hF
                refine g_noU hF ⟨_, _, (rfl : _[19]? = some _), rfl, rfl⟩ rfl ?_; clear hF; intro a hF
                refine g_no hF ⟨_, _, (rfl : _[5]? = some _), rfl, rfl⟩ hg9_5 rfl ?_; clear hF; intro a hF
                refine g_pu hF ⟨_, _, (rfl : _[2]? = some _), rfl, rfl⟩ hg9_2 (pu_pick_f rfl hg9_5 rfl) rfl ?_; clear hF; intro a hF
                refine s_pu hF (pu_pick_f rfl hg9_2 rfl) rfl ?_; clear hF; intro a hF
                refine s_pu hF (pu_move rfl) rfl ?_; clear hF; intro a hF
                refine g_callv hF hS ⟨_, _, (rfl : _[29]? = some _), rfl, rfl⟩ (by first | rfl | (have hq := hnr.2 (by omega); simp only [relK] at hq; first | (exfalso; omega) | (apply decide_eq_true; omega))) ok16 rfl (c_lives15 _ _ hS.view) rfl ?_; clear hS hF; intro w a hS hF
                refine s_pu hF (pu_pick_t rfl (by first | rfl | (have hq := hnr.2 (by omega); simp only [relK] at hq; first | (exfalso; omega) | (apply decide_eq_true; omega))) rfl) rfl ?_; clear hF; intro a hF
                refine s_pu hF (pu_assign rfl) rfl ?_; clear hF; intro a hF
                refine c_nil ?_
                refine n_then ?_
                refine c_ret ?_
                exact f_ret hF rfl (.tmp rfl (.nil)) (hS.retv rfl)
end Go.Proofs.Ytjidmighkphmkaa
