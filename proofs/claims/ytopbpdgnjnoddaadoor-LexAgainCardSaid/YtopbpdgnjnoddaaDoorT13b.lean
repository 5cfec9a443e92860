/- What the functions of the program compute, each with its conditions. -/
import Derived.Test.YtopbpdgnjnoddaaDoorT13
set_option linter.unusedSimpArgs false
set_option linter.unusedVariables false
namespace Go.Proofs.YtopbpdgnjnoddaaDoor
open Go Go.Dx Go.RowKit
set_option maxHeartbeats 1000000 in
theorem c_Same (ad1 : Option Addr) (cap1 : Nat) (l1 : List Tok) (ad2 : Option Addr) (cap2 : Nat) (l2 : List Tok) (pl : Bool) (hl : l1.length ≤ 1000000) (w0 : World) (h0 : View) (hv : VLe h0 (Full w0)) (hb1 : SlC 26 4 (flatR tokC) h0 (.slice ad1 l1.length cap1) l1) (hb2 : SlC 26 4 (flatR tokC) h0 (.slice ad2 l2.length cap2) l2) : Calls Tryd.prog 12 #[.slice ad1 l1.length cap1, .slice ad2 l2.length cap2, .bool pl] w0 (Ret w0 h0 fun u _ => u = .bool (sameS l1 l2 pl)) := by
  refine f_enter (args := [.slice ad1 l1.length cap1, .slice ad2 l2.length cap2, .bool pl]) Tryd.func12 rfl Tryd.ntmps12 rfl fun a hF => ?_
  have hS := St.init w0 h0 hv
  refine c_seq ?_
  refine c_reg ?_
  refine s_pu hF (pu_assign rfl) rfl ?_; clear hF; intro a hF
  refine c_nil ?_
  refine n_then ?_
  refine c_seq ?_
  refine c_seq ?_
  refine c_reg ?_
  refine s_pu hF (pu_move rfl) rfl ?_; clear hF; intro a hF
  refine s_pu hF (pu_len_sl tyL22 rfl rfl) rfl ?_; clear hF; intro a hF
  refine s_pu hF (pu_move rfl) rfl ?_; clear hF; intro a hF
  refine s_pu hF (pu_len_sl tyL22 rfl rfl) rfl ?_; clear hF; intro a hF
  refine s_pu hF (pu_ine rfl rfl) rfl ?_; clear hF; intro a hF
  refine c_nil ?_
  refine n_then ?_
  refine c_if hF rfl (fun hc12 => ?_) (fun hc12 => ?_)
  · try simp only [decide_eq_true_eq, decide_eq_false_iff_not, Bool.not_eq_true', Bool.not_eq_false', Bool.not_eq_eq_eq_not, Bool.not_true, Bool.not_false] at hc12
    refine c_seq ?_
    refine c_reg ?_
    refine s_pu hF (pu_assign rfl) rfl ?_; clear hF; intro a hF
    refine c_nil ?_
    refine n_then ?_
    refine c_ret (r_then ?_)
    exact f_ret hF rfl (.tmp rfl (.nil)) (hS.retv (by rw [same_len (by omega)]; rfl))
  · try simp only [decide_eq_true_eq, decide_eq_false_iff_not, Bool.not_eq_true', Bool.not_eq_false', Bool.not_eq_eq_eq_not, Bool.not_true, Bool.not_false] at hc12
    have hleq : l1.length = l2.length := by omega
    refine c_skip ?_
    refine n_then ?_
    refine c_seq ?_
    refine c_seq ?_
    refine c_reg ?_
    refine s_pu hF (pu_assign rfl) rfl ?_; clear hF; intro a hF
    refine c_nil ?_
    refine n_then ?_
    refine c_block ?_
    refine hS.cut fun O0 F0 hO0 hF0 hS => ?_
    refine hF.cut (.cons (k := 7) rfl <| .nil) (.cons (k := 0) rfl <| .cons (k := 1) rfl <| .cons (k := 2) rfl <| .nil) fun L0 hL0 hF => ?_
    refine c_loop (α := Nat) (fun k a w => k ≤ l1.length ∧ (l1.take k).map (key pl) = (l2.take k).map (key pl) ∧ Fr a 72 ([(7, .val (.int .i64 (k : Nat)))] ++ L0) ∧ St w0 h0 [] w O0 F0) (fun k => l1.length - k) 0 (⟨Nat.zero_le _, rfl, hF, hS⟩) ?_
    subst hO0 hF0 hL0
    rintro k a w ⟨hk, hm, hF, hS⟩
    refine c_seq ?_
    refine c_seq ?_
    refine c_reg ?_
    refine s_pu hF (pu_move rfl) rfl ?_; clear hF; intro a hF
    refine s_pu hF (pu_move rfl) rfl ?_; clear hF; intro a hF
    refine s_pu hF (pu_len_sl tyL22 rfl rfl) rfl ?_; clear hF; intro a hF
    refine s_pu hF (pu_ilt rfl rfl) rfl ?_; clear hF; intro a hF
    refine c_nil ?_
    refine n_then ?_
    refine c_if hF rfl (fun hc16 => ?_) (fun hc16 => ?_)
    · try simp only [decide_eq_true_eq, decide_eq_false_iff_not, Bool.not_eq_true', Bool.not_eq_false', Bool.not_eq_eq_eq_not, Bool.not_true, Bool.not_false] at hc16
      have hk1 : k < l1.length := by omega
      have hk2 : k < l2.length := by omega
      obtain ⟨g1, o1, ha1, hH1⟩ := hb1.at (i := k) (x := l1.getD k t0) (by rw [getD_lt l1 k t0 hk1]; exact List.getElem?_eq_getElem hk1)
      obtain ⟨g2, o2, ha2, hH2⟩ := hb2.at (i := k) (x := l2.getD k t0) (by rw [getD_lt l2 k t0 hk2]; exact List.getElem?_eq_getElem hk2)
      refine c_skip ?_
      refine n_then ?_
      refine c_seq ?_
      refine c_block ?_
      refine c_seq ?_
      refine region_st 53 hF hS (allV_ne rfl) mix (by kernel_rfl) fun Γ hG => ?_
      refine t_pu hG (fun w hC => pu_move rfl) ?_; clear hG; intro Γ hG
      refine t_pu hG (fun w hC => pu_move rfl) ?_; clear hG; intro Γ hG
      refine t_pu hG (fun w hC => pu_iaddr_sla (j := k) ha1 slt22 rfl rfl (by omega) (by omega)) ?_; clear hG; intro Γ hG
      refine t_pu hG (fun w hC => pu_faddr fld26_0 rfl) ?_; clear hG; intro Γ hG
      refine t_pu hG (fun w hC => pu_load1 one24 rfl (hH1 _ hC.st.base 0 _ rfl)) ?_; clear hG; intro Γ hG
      refine t_pu hG (fun w hC => pu_move rfl) ?_; clear hG; intro Γ hG
      refine t_pu hG (fun w hC => pu_move rfl) ?_; clear hG; intro Γ hG
      refine t_pu hG (fun w hC => pu_iaddr_sla (j := k) ha2 slt22 rfl rfl (by omega) (by omega)) ?_; clear hG; intro Γ hG
      refine t_pu hG (fun w hC => pu_faddr fld26_0 rfl) ?_; clear hG; intro Γ hG
      refine t_pu hG (fun w hC => pu_load1 one24 rfl (hH2 _ hC.st.base 0 _ rfl)) ?_; clear hG; intro Γ hG
      refine t_pu hG (fun w hC => pu_ine rfl rfl) ?_; clear hG; intro Γ hG
      refine t_pu hG (fun w hC => pu_move rfl) ?_; clear hG; intro Γ hG
      refine t_split hG ⟨_, _, (rfl : _[11]? = some _), rfl, rfl⟩ (fun hg6_11 => ?_) (fun hg6_11 => ?_)
      · have hg6_11p := hg6_11
        try simp only [decide_eq_true_eq, decide_eq_false_iff_not, Bool.not_eq_true', Bool.not_eq_false', Bool.not_eq_eq_eq_not, Bool.not_true, Bool.not_false] at hg6_11p
        refine tg_no hG ⟨_, _, (rfl : _[11]? = some _), rfl, rfl⟩ hg6_11 ?_; clear hG; intro Γ hG
        refine tg_no hG ⟨_, _, (rfl : _[11]? = some _), rfl, rfl⟩ hg6_11 ?_; clear hG; intro Γ hG
        refine tg_no hG ⟨_, _, (rfl : _[11]? = some _), rfl, rfl⟩ hg6_11 ?_; clear hG; intro Γ hG
        refine tg_no hG ⟨_, _, (rfl : _[11]? = some _), rfl, rfl⟩ hg6_11 ?_; clear hG; intro Γ hG
        refine tg_no hG ⟨_, _, (rfl : _[11]? = some _), rfl, rfl⟩ hg6_11 ?_; clear hG; intro Γ hG
        refine tg_no hG ⟨_, _, (rfl : _[11]? = some _), rfl, rfl⟩ hg6_11 ?_; clear hG; intro Γ hG
        refine tg_no hG ⟨_, _, (rfl : _[11]? = some _), rfl, rfl⟩ hg6_11 ?_; clear hG; intro Γ hG
        refine tg_no hG ⟨_, _, (rfl : _[11]? = some _), rfl, rfl⟩ hg6_11 ?_; clear hG; intro Γ hG
        refine tg_no hG ⟨_, _, (rfl : _[11]? = some _), rfl, rfl⟩ hg6_11 ?_; clear hG; intro Γ hG
        refine tg_no hG ⟨_, _, (rfl : _[11]? = some _), rfl, rfl⟩ hg6_11 ?_; clear hG; intro Γ hG
        refine tg_no hG ⟨_, _, (rfl : _[11]? = some _), rfl, rfl⟩ hg6_11 ?_; clear hG; intro Γ hG
        refine t_pu hG (fun w hC => pu_pick_t rfl hg6_11 rfl) ?_; clear hG; intro Γ hG
        refine t_pu hG (fun w hC => pu_move rfl) ?_; clear hG; intro Γ hG
        refine tg_no hG ⟨_, _, (rfl : _[24]? = some _), rfl, rfl⟩ rfl ?_; clear hG; intro Γ hG
        refine tg_no hG ⟨_, _, (rfl : _[24]? = some _), rfl, rfl⟩ rfl ?_; clear hG; intro Γ hG
        refine tg_no hG ⟨_, _, (rfl : _[24]? = some _), rfl, rfl⟩ rfl ?_; clear hG; intro Γ hG
        refine tg_no hG ⟨_, _, (rfl : _[24]? = some _), rfl, rfl⟩ rfl ?_; clear hG; intro Γ hG
        refine tg_no hG ⟨_, _, (rfl : _[24]? = some _), rfl, rfl⟩ rfl ?_; clear hG; intro Γ hG
        refine tg_no hG ⟨_, _, (rfl : _[24]? = some _), rfl, rfl⟩ rfl ?_; clear hG; intro Γ hG
        refine tg_no hG ⟨_, _, (rfl : _[24]? = some _), rfl, rfl⟩ rfl ?_; clear hG; intro Γ hG
        refine tg_no hG ⟨_, _, (rfl : _[24]? = some _), rfl, rfl⟩ rfl ?_; clear hG; intro Γ hG
        refine tg_no hG ⟨_, _, (rfl : _[24]? = some _), rfl, rfl⟩ rfl ?_; clear hG; intro Γ hG
        refine tg_no hG ⟨_, _, (rfl : _[24]? = some _), rfl, rfl⟩ rfl ?_; clear hG; intro Γ hG
        refine tg_no hG ⟨_, _, (rfl : _[24]? = some _), rfl, rfl⟩ rfl ?_; clear hG; intro Γ hG
        refine t_pu hG (fun w hC => pu_pick_t rfl rfl rfl) ?_; clear hG; intro Γ hG
        refine t_pu hG (fun w hC => pu_move rfl) ?_; clear hG; intro Γ hG
        refine tg_no hG ⟨_, _, (rfl : _[37]? = some _), rfl, rfl⟩ rfl ?_; clear hG; intro Γ hG
        refine tg_no hG ⟨_, _, (rfl : _[37]? = some _), rfl, rfl⟩ rfl ?_; clear hG; intro Γ hG
        refine tg_noU hG ⟨_, _, (rfl : _[39]? = some _), rfl, rfl⟩ ?_; clear hG; intro Γ hG
        refine tg_noU hG ⟨_, _, (rfl : _[39]? = some _), rfl, rfl⟩ ?_; clear hG; intro Γ hG
        refine tg_noU hG ⟨_, _, (rfl : _[39]? = some _), rfl, rfl⟩ ?_; clear hG; intro Γ hG
        refine tg_noU hG ⟨_, _, (rfl : _[39]? = some _), rfl, rfl⟩ ?_; clear hG; intro Γ hG
        refine tg_noU hG ⟨_, _, (rfl : _[39]? = some _), rfl, rfl⟩ ?_; clear hG; intro Γ hG
        refine tg_noU hG ⟨_, _, (rfl : _[39]? = some _), rfl, rfl⟩ ?_; clear hG; intro Γ hG
        refine tg_noU hG ⟨_, _, (rfl : _[39]? = some _), rfl, rfl⟩ ?_; clear hG; intro Γ hG
        refine tg_noU hG ⟨_, _, (rfl : _[39]? = some _), rfl, rfl⟩ ?_; clear hG; intro Γ hG
        refine tg_noU hG ⟨_, _, (rfl : _[39]? = some _), rfl, rfl⟩ ?_; clear hG; intro Γ hG
        refine tg_noU hG ⟨_, _, (rfl : _[39]? = some _), rfl, rfl⟩ ?_; clear hG; intro Γ hG
        refine tg_noU hG ⟨_, _, (rfl : _[39]? = some _), rfl, rfl⟩ ?_; clear hG; intro Γ hG
        refine tg_no hG ⟨_, _, (rfl : _[37]? = some _), rfl, rfl⟩ rfl ?_; clear hG; intro Γ hG
        refine t_pu hG (fun w hC => pu_pick_t rfl rfl rfl) ?_; clear hG; intro Γ hG
        refine t_end hG ?_; clear hG hF; intro a w hC hE hF hP; replace hS := hC.st; clear hC
        clear hE
        clear hP
        refine c_nil ?_
        refine n_then ?_
        refine c_ift hF rfl rfl ?_
        refine c_seq ?_
        refine c_reg ?_
        refine s_pu hF (pu_assign rfl) rfl ?_; clear hF; intro a hF
        refine c_nil ?_
        refine n_then ?_
        refine c_ret (r_block (r_then (r_then (r_block (r_then ?_)))))
        exact f_ret hF rfl (.tmp rfl (.nil)) (hS.retv (by rw [same_no k hk1 hk2 (fun e => by have e := (key_eq _ _ _).1 e; simp_all)]; rfl))
      · have hg6_11p := hg6_11
        try simp only [decide_eq_true_eq, decide_eq_false_iff_not, Bool.not_eq_true', Bool.not_eq_false', Bool.not_eq_eq_eq_not, Bool.not_true, Bool.not_false] at hg6_11p
        refine tg_pu hG ⟨_, _, (rfl : _[11]? = some _), rfl, rfl⟩ hg6_11 (fun w hC => pu_move rfl) ?_; clear hG; intro Γ hG
        refine tg_pu hG ⟨_, _, (rfl : _[11]? = some _), rfl, rfl⟩ hg6_11 (fun w hC => pu_move rfl) ?_; clear hG; intro Γ hG
        refine tg_pu hG ⟨_, _, (rfl : _[11]? = some _), rfl, rfl⟩ hg6_11 (fun w hC => pu_iaddr_sla (j := k) ha1 slt22 rfl rfl (by omega) (by omega)) ?_; clear hG; intro Γ hG
        refine tg_pu hG ⟨_, _, (rfl : _[11]? = some _), rfl, rfl⟩ hg6_11 (fun w hC => pu_faddr fld26_1 rfl) ?_; clear hG; intro Γ hG
        refine tg_pu hG ⟨_, _, (rfl : _[11]? = some _), rfl, rfl⟩ hg6_11 (fun w hC => pu_load1 one9 rfl (hH1 _ hC.st.base 1 _ rfl)) ?_; clear hG; intro Γ hG
        refine tg_pu hG ⟨_, _, (rfl : _[11]? = some _), rfl, rfl⟩ hg6_11 (fun w hC => pu_move rfl) ?_; clear hG; intro Γ hG
        refine tg_pu hG ⟨_, _, (rfl : _[11]? = some _), rfl, rfl⟩ hg6_11 (fun w hC => pu_move rfl) ?_; clear hG; intro Γ hG
        refine tg_pu hG ⟨_, _, (rfl : _[11]? = some _), rfl, rfl⟩ hg6_11 (fun w hC => pu_iaddr_sla (j := k) ha2 slt22 rfl rfl (by omega) (by omega)) ?_; clear hG; intro Γ hG
        refine tg_pu hG ⟨_, _, (rfl : _[11]? = some _), rfl, rfl⟩ hg6_11 (fun w hC => pu_faddr fld26_1 rfl) ?_; clear hG; intro Γ hG
        refine tg_pu hG ⟨_, _, (rfl : _[11]? = some _), rfl, rfl⟩ hg6_11 (fun w hC => pu_load1 one9 rfl (hH2 _ hC.st.base 1 _ rfl)) ?_; clear hG; intro Γ hG
        refine tg_pu hG ⟨_, _, (rfl : _[11]? = some _), rfl, rfl⟩ hg6_11 (fun w hC => pu_sne rfl rfl) ?_; clear hG; intro Γ hG
        refine t_pu hG (fun w hC => pu_pick_f rfl hg6_11 rfl) ?_; clear hG; intro Γ hG
        refine t_pu hG (fun w hC => pu_move rfl) ?_; clear hG; intro Γ hG
        refine t_split hG ⟨_, _, (rfl : _[24]? = some _), rfl, rfl⟩ (fun hg6_24 => ?_) (fun hg6_24 => ?_)
        · have hg6_24p := hg6_24
          try simp only [decide_eq_true_eq, decide_eq_false_iff_not, Bool.not_eq_true', Bool.not_eq_false', Bool.not_eq_eq_eq_not, Bool.not_true, Bool.not_false] at hg6_24p
          refine tg_no hG ⟨_, _, (rfl : _[24]? = some _), rfl, rfl⟩ hg6_24 ?_; clear hG; intro Γ hG
          refine tg_no hG ⟨_, _, (rfl : _[24]? = some _), rfl, rfl⟩ hg6_24 ?_; clear hG; intro Γ hG
          refine tg_no hG ⟨_, _, (rfl : _[24]? = some _), rfl, rfl⟩ hg6_24 ?_; clear hG; intro Γ hG
          refine tg_no hG ⟨_, _, (rfl : _[24]? = some _), rfl, rfl⟩ hg6_24 ?_; clear hG; intro Γ hG
          refine tg_no hG ⟨_, _, (rfl : _[24]? = some _), rfl, rfl⟩ hg6_24 ?_; clear hG; intro Γ hG
          refine tg_no hG ⟨_, _, (rfl : _[24]? = some _), rfl, rfl⟩ hg6_24 ?_; clear hG; intro Γ hG
          refine tg_no hG ⟨_, _, (rfl : _[24]? = some _), rfl, rfl⟩ hg6_24 ?_; clear hG; intro Γ hG
          refine tg_no hG ⟨_, _, (rfl : _[24]? = some _), rfl, rfl⟩ hg6_24 ?_; clear hG; intro Γ hG
          refine tg_no hG ⟨_, _, (rfl : _[24]? = some _), rfl, rfl⟩ hg6_24 ?_; clear hG; intro Γ hG
          refine tg_no hG ⟨_, _, (rfl : _[24]? = some _), rfl, rfl⟩ hg6_24 ?_; clear hG; intro Γ hG
          refine tg_no hG ⟨_, _, (rfl : _[24]? = some _), rfl, rfl⟩ hg6_24 ?_; clear hG; intro Γ hG
          refine t_pu hG (fun w hC => pu_pick_t rfl hg6_24 rfl) ?_; clear hG; intro Γ hG
          refine t_pu hG (fun w hC => pu_move rfl) ?_; clear hG; intro Γ hG
          refine tg_no hG ⟨_, _, (rfl : _[37]? = some _), rfl, rfl⟩ rfl ?_; clear hG; intro Γ hG
          refine tg_no hG ⟨_, _, (rfl : _[37]? = some _), rfl, rfl⟩ rfl ?_; clear hG; intro Γ hG
          refine tg_noU hG ⟨_, _, (rfl : _[39]? = some _), rfl, rfl⟩ ?_; clear hG; intro Γ hG
          refine tg_noU hG ⟨_, _, (rfl : _[39]? = some _), rfl, rfl⟩ ?_; clear hG; intro Γ hG
          refine tg_noU hG ⟨_, _, (rfl : _[39]? = some _), rfl, rfl⟩ ?_; clear hG; intro Γ hG
          refine tg_noU hG ⟨_, _, (rfl : _[39]? = some _), rfl, rfl⟩ ?_; clear hG; intro Γ hG
          refine tg_noU hG ⟨_, _, (rfl : _[39]? = some _), rfl, rfl⟩ ?_; clear hG; intro Γ hG
          refine tg_noU hG ⟨_, _, (rfl : _[39]? = some _), rfl, rfl⟩ ?_; clear hG; intro Γ hG
          refine tg_noU hG ⟨_, _, (rfl : _[39]? = some _), rfl, rfl⟩ ?_; clear hG; intro Γ hG
          refine tg_noU hG ⟨_, _, (rfl : _[39]? = some _), rfl, rfl⟩ ?_; clear hG; intro Γ hG
          refine tg_noU hG ⟨_, _, (rfl : _[39]? = some _), rfl, rfl⟩ ?_; clear hG; intro Γ hG
          refine tg_noU hG ⟨_, _, (rfl : _[39]? = some _), rfl, rfl⟩ ?_; clear hG; intro Γ hG
          refine tg_noU hG ⟨_, _, (rfl : _[39]? = some _), rfl, rfl⟩ ?_; clear hG; intro Γ hG
          refine tg_no hG ⟨_, _, (rfl : _[37]? = some _), rfl, rfl⟩ rfl ?_; clear hG; intro Γ hG
          refine t_pu hG (fun w hC => pu_pick_t rfl rfl rfl) ?_; clear hG; intro Γ hG
          refine t_end hG ?_; clear hG hF; intro a w hC hE hF hP; replace hS := hC.st; clear hC
          clear hE
          clear hP
          refine c_nil ?_
          refine n_then ?_
          refine c_ift hF rfl rfl ?_
          refine c_seq ?_
          refine c_reg ?_
          refine s_pu hF (pu_assign rfl) rfl ?_; clear hF; intro a hF
          refine c_nil ?_
          refine n_then ?_
          refine c_ret (r_block (r_then (r_then (r_block (r_then ?_)))))
          exact f_ret hF rfl (.tmp rfl (.nil)) (hS.retv (by rw [same_no k hk1 hk2 (fun e => by have e := (key_eq _ _ _).1 e; simp_all)]; rfl))
        · have hg6_24p := hg6_24
          try simp only [decide_eq_true_eq, decide_eq_false_iff_not, Bool.not_eq_true', Bool.not_eq_false', Bool.not_eq_eq_eq_not, Bool.not_true, Bool.not_false] at hg6_24p
          refine tg_pu hG ⟨_, _, (rfl : _[24]? = some _), rfl, rfl⟩ hg6_24 (fun w hC => pu_move rfl) ?_; clear hG; intro Γ hG
          refine tg_pu hG ⟨_, _, (rfl : _[24]? = some _), rfl, rfl⟩ hg6_24 (fun w hC => pu_move rfl) ?_; clear hG; intro Γ hG
          refine tg_pu hG ⟨_, _, (rfl : _[24]? = some _), rfl, rfl⟩ hg6_24 (fun w hC => pu_iaddr_sla (j := k) ha1 slt22 rfl rfl (by omega) (by omega)) ?_; clear hG; intro Γ hG
          refine tg_pu hG ⟨_, _, (rfl : _[24]? = some _), rfl, rfl⟩ hg6_24 (fun w hC => pu_faddr fld26_2 rfl) ?_; clear hG; intro Γ hG
          refine tg_pu hG ⟨_, _, (rfl : _[24]? = some _), rfl, rfl⟩ hg6_24 (fun w hC => pu_load1 one3 rfl (hH1 _ hC.st.base 2 _ rfl)) ?_; clear hG; intro Γ hG
          refine tg_pu hG ⟨_, _, (rfl : _[24]? = some _), rfl, rfl⟩ hg6_24 (fun w hC => pu_move rfl) ?_; clear hG; intro Γ hG
          refine tg_pu hG ⟨_, _, (rfl : _[24]? = some _), rfl, rfl⟩ hg6_24 (fun w hC => pu_move rfl) ?_; clear hG; intro Γ hG
          refine tg_pu hG ⟨_, _, (rfl : _[24]? = some _), rfl, rfl⟩ hg6_24 (fun w hC => pu_iaddr_sla (j := k) ha2 slt22 rfl rfl (by omega) (by omega)) ?_; clear hG; intro Γ hG
          refine tg_pu hG ⟨_, _, (rfl : _[24]? = some _), rfl, rfl⟩ hg6_24 (fun w hC => pu_faddr fld26_2 rfl) ?_; clear hG; intro Γ hG
          refine tg_pu hG ⟨_, _, (rfl : _[24]? = some _), rfl, rfl⟩ hg6_24 (fun w hC => pu_load1 one3 rfl (hH2 _ hC.st.base 2 _ rfl)) ?_; clear hG; intro Γ hG
          refine tg_pu hG ⟨_, _, (rfl : _[24]? = some _), rfl, rfl⟩ hg6_24 (fun w hC => pu_ine rfl rfl) ?_; clear hG; intro Γ hG
          refine t_pu hG (fun w hC => pu_pick_f rfl hg6_24 rfl) ?_; clear hG; intro Γ hG
          refine t_pu hG (fun w hC => pu_move rfl) ?_; clear hG; intro Γ hG
          refine t_split hG ⟨_, _, (rfl : _[37]? = some _), rfl, rfl⟩ (fun hg6_37 => ?_) (fun hg6_37 => ?_)
          · have hg6_37p := hg6_37
            try simp only [decide_eq_true_eq, decide_eq_false_iff_not, Bool.not_eq_true', Bool.not_eq_false', Bool.not_eq_eq_eq_not, Bool.not_true, Bool.not_false] at hg6_37p
            refine tg_no hG ⟨_, _, (rfl : _[37]? = some _), rfl, rfl⟩ hg6_37 ?_; clear hG; intro Γ hG
            refine tg_no hG ⟨_, _, (rfl : _[37]? = some _), rfl, rfl⟩ hg6_37 ?_; clear hG; intro Γ hG
            refine tg_noU hG ⟨_, _, (rfl : _[39]? = some _), rfl, rfl⟩ ?_; clear hG; intro Γ hG
            refine tg_noU hG ⟨_, _, (rfl : _[39]? = some _), rfl, rfl⟩ ?_; clear hG; intro Γ hG
            refine tg_noU hG ⟨_, _, (rfl : _[39]? = some _), rfl, rfl⟩ ?_; clear hG; intro Γ hG
            refine tg_noU hG ⟨_, _, (rfl : _[39]? = some _), rfl, rfl⟩ ?_; clear hG; intro Γ hG
            refine tg_noU hG ⟨_, _, (rfl : _[39]? = some _), rfl, rfl⟩ ?_; clear hG; intro Γ hG
            refine tg_noU hG ⟨_, _, (rfl : _[39]? = some _), rfl, rfl⟩ ?_; clear hG; intro Γ hG
            refine tg_noU hG ⟨_, _, (rfl : _[39]? = some _), rfl, rfl⟩ ?_; clear hG; intro Γ hG
            refine tg_noU hG ⟨_, _, (rfl : _[39]? = some _), rfl, rfl⟩ ?_; clear hG; intro Γ hG
            refine tg_noU hG ⟨_, _, (rfl : _[39]? = some _), rfl, rfl⟩ ?_; clear hG; intro Γ hG
            refine tg_noU hG ⟨_, _, (rfl : _[39]? = some _), rfl, rfl⟩ ?_; clear hG; intro Γ hG
            refine tg_noU hG ⟨_, _, (rfl : _[39]? = some _), rfl, rfl⟩ ?_; clear hG; intro Γ hG
            refine tg_no hG ⟨_, _, (rfl : _[37]? = some _), rfl, rfl⟩ hg6_37 ?_; clear hG; intro Γ hG
            refine t_pu hG (fun w hC => pu_pick_t rfl hg6_37 rfl) ?_; clear hG; intro Γ hG
            refine t_end hG ?_; clear hG hF; intro a w hC hE hF hP; replace hS := hC.st; clear hC
            clear hE
            clear hP
            refine c_nil ?_
            refine n_then ?_
            refine c_ift hF rfl rfl ?_
            refine c_seq ?_
            refine c_reg ?_
            refine s_pu hF (pu_assign rfl) rfl ?_; clear hF; intro a hF
            refine c_nil ?_
            refine n_then ?_
            refine c_ret (r_block (r_then (r_then (r_block (r_then ?_)))))
            exact f_ret hF rfl (.tmp rfl (.nil)) (hS.retv (by rw [same_no k hk1 hk2 (fun e => by have e := (key_eq _ _ _).1 e; simp_all)]; rfl))
          · have hg6_37p := hg6_37
            try simp only [decide_eq_true_eq, decide_eq_false_iff_not, Bool.not_eq_true', Bool.not_eq_false', Bool.not_eq_eq_eq_not, Bool.not_true, Bool.not_false] at hg6_37p
            refine tg_pu hG ⟨_, _, (rfl : _[37]? = some _), rfl, rfl⟩ hg6_37 (fun w hC => pu_move rfl) ?_; clear hG; intro Γ hG
            refine tg_pu hG ⟨_, _, (rfl : _[37]? = some _), rfl, rfl⟩ hg6_37 (fun w hC => pu_move rfl) ?_; clear hG; intro Γ hG
            refine t_split hG ⟨_, _, (rfl : _[39]? = some _), rfl, rfl⟩ (fun hg6_39 => ?_) (fun hg6_39 => ?_)
            · have hg6_39p := hg6_39
              try simp only [decide_eq_true_eq, decide_eq_false_iff_not, Bool.not_eq_true', Bool.not_eq_false', Bool.not_eq_eq_eq_not, Bool.not_true, Bool.not_false] at hg6_39p
              refine tg_pu hG ⟨_, _, (rfl : _[39]? = some _), rfl, rfl⟩ hg6_39 (fun w hC => pu_move rfl) ?_; clear hG; intro Γ hG
              refine tg_pu hG ⟨_, _, (rfl : _[39]? = some _), rfl, rfl⟩ hg6_39 (fun w hC => pu_move rfl) ?_; clear hG; intro Γ hG
              refine tg_pu hG ⟨_, _, (rfl : _[39]? = some _), rfl, rfl⟩ hg6_39 (fun w hC => pu_iaddr_sla (j := k) ha1 slt22 rfl rfl (by omega) (by omega)) ?_; clear hG; intro Γ hG
              refine tg_pu hG ⟨_, _, (rfl : _[39]? = some _), rfl, rfl⟩ hg6_39 (fun w hC => pu_faddr fld26_3 rfl) ?_; clear hG; intro Γ hG
              refine tg_pu hG ⟨_, _, (rfl : _[39]? = some _), rfl, rfl⟩ hg6_39 (fun w hC => pu_load1 one3 rfl (hH1 _ hC.st.base 3 _ rfl)) ?_; clear hG; intro Γ hG
              refine tg_pu hG ⟨_, _, (rfl : _[39]? = some _), rfl, rfl⟩ hg6_39 (fun w hC => pu_move rfl) ?_; clear hG; intro Γ hG
              refine tg_pu hG ⟨_, _, (rfl : _[39]? = some _), rfl, rfl⟩ hg6_39 (fun w hC => pu_move rfl) ?_; clear hG; intro Γ hG
              refine tg_pu hG ⟨_, _, (rfl : _[39]? = some _), rfl, rfl⟩ hg6_39 (fun w hC => pu_iaddr_sla (j := k) ha2 slt22 rfl rfl (by omega) (by omega)) ?_; clear hG; intro Γ hG
              refine tg_pu hG ⟨_, _, (rfl : _[39]? = some _), rfl, rfl⟩ hg6_39 (fun w hC => pu_faddr fld26_3 rfl) ?_; clear hG; intro Γ hG
              refine tg_pu hG ⟨_, _, (rfl : _[39]? = some _), rfl, rfl⟩ hg6_39 (fun w hC => pu_load1 one3 rfl (hH2 _ hC.st.base 3 _ rfl)) ?_; clear hG; intro Γ hG
              refine tg_pu hG ⟨_, _, (rfl : _[39]? = some _), rfl, rfl⟩ hg6_39 (fun w hC => pu_ine rfl rfl) ?_; clear hG; intro Γ hG
              refine tg_pu hG ⟨_, _, (rfl : _[37]? = some _), rfl, rfl⟩ hg6_37 (fun w hC => pu_pick_t rfl hg6_39 rfl) ?_; clear hG; intro Γ hG
              refine t_pu hG (fun w hC => pu_pick_f rfl hg6_37 rfl) ?_; clear hG; intro Γ hG
              refine t_end hG ?_; clear hG hF; intro a w hC hE hF hP; replace hS := hC.st; clear hC
              clear hE
              clear hP
              refine c_nil ?_
              refine n_then ?_
              refine c_if hF rfl (fun hc71 => ?_) (fun hc71 => ?_)
              · try simp only [decide_eq_true_eq, decide_eq_false_iff_not, Bool.not_eq_true', Bool.not_eq_false', Bool.not_eq_eq_eq_not, Bool.not_true, Bool.not_false] at hc71
                refine c_seq ?_
                refine c_reg ?_
                refine s_pu hF (pu_assign rfl) rfl ?_; clear hF; intro a hF
                refine c_nil ?_
                refine n_then ?_
                refine c_ret (r_block (r_then (r_then (r_block (r_then ?_)))))
                exact f_ret hF rfl (.tmp rfl (.nil)) (hS.retv (by rw [same_no k hk1 hk2 (fun e => by have e := (key_eq _ _ _).1 e; simp_all)]; rfl))
              · try simp only [decide_eq_true_eq, decide_eq_false_iff_not, Bool.not_eq_true', Bool.not_eq_false', Bool.not_eq_eq_eq_not, Bool.not_true, Bool.not_false] at hc71
                refine c_skip ?_
                refine n_block ?_
                refine n_then ?_
                refine c_reg ?_
                refine s_pu hF (pu_move rfl) rfl ?_; clear hF; intro a hF
                refine s_pu hF (pu_add rfl rfl (by first | exact wrap_i64 (by omega) (by omega) | rfl)) rfl ?_; clear hF; intro a hF
                refine s_pu hF (pu_assign rfl) rfl ?_; clear hF; intro a hF
                refine c_nil ?_
                exact ⟨k + 1, ⟨by omega, same_snoc k hk1 hk2 hm ((key_eq _ _ _).2 (by simp_all)), hF.pick (.cons (k := 7) rfl <| .cons (k := 0) rfl <| .cons (k := 1) rfl <| .cons (k := 2) rfl <| .nil), hS⟩, by omega⟩
            · have hg6_39p := hg6_39
              try simp only [decide_eq_true_eq, decide_eq_false_iff_not, Bool.not_eq_true', Bool.not_eq_false', Bool.not_eq_eq_eq_not, Bool.not_true, Bool.not_false] at hg6_39p
              refine tg_no hG ⟨_, _, (rfl : _[39]? = some _), rfl, rfl⟩ hg6_39 ?_; clear hG; intro Γ hG
              refine tg_no hG ⟨_, _, (rfl : _[39]? = some _), rfl, rfl⟩ hg6_39 ?_; clear hG; intro Γ hG
              refine tg_no hG ⟨_, _, (rfl : _[39]? = some _), rfl, rfl⟩ hg6_39 ?_; clear hG; intro Γ hG
              refine tg_no hG ⟨_, _, (rfl : _[39]? = some _), rfl, rfl⟩ hg6_39 ?_; clear hG; intro Γ hG
              refine tg_no hG ⟨_, _, (rfl : _[39]? = some _), rfl, rfl⟩ hg6_39 ?_; clear hG; intro Γ hG
              refine tg_no hG ⟨_, _, (rfl : _[39]? = some _), rfl, rfl⟩ hg6_39 ?_; clear hG; intro Γ hG
              refine tg_no hG ⟨_, _, (rfl : _[39]? = some _), rfl, rfl⟩ hg6_39 ?_; clear hG; intro Γ hG
              refine tg_no hG ⟨_, _, (rfl : _[39]? = some _), rfl, rfl⟩ hg6_39 ?_; clear hG; intro Γ hG
              refine tg_no hG ⟨_, _, (rfl : _[39]? = some _), rfl, rfl⟩ hg6_39 ?_; clear hG; intro Γ hG
              refine tg_no hG ⟨_, _, (rfl : _[39]? = some _), rfl, rfl⟩ hg6_39 ?_; clear hG; intro Γ hG
              refine tg_no hG ⟨_, _, (rfl : _[39]? = some _), rfl, rfl⟩ hg6_39 ?_; clear hG; intro Γ hG
              refine tg_pu hG ⟨_, _, (rfl : _[37]? = some _), rfl, rfl⟩ hg6_37 (fun w hC => pu_pick_f rfl hg6_39 rfl) ?_; clear hG; intro Γ hG
              refine t_pu hG (fun w hC => pu_pick_f rfl hg6_37 rfl) ?_; clear hG; intro Γ hG
              refine t_end hG ?_; clear hG hF; intro a w hC hE hF hP; replace hS := hC.st; clear hC
              clear hE
              clear hP
              refine c_nil ?_
              refine n_then ?_
              refine c_iff hF rfl rfl ?_
              refine c_skip ?_
              refine n_block ?_
              refine n_then ?_
              refine c_reg ?_
              refine s_pu hF (pu_move rfl) rfl ?_; clear hF; intro a hF
              refine s_pu hF (pu_add rfl rfl (by first | exact wrap_i64 (by omega) (by omega) | rfl)) rfl ?_; clear hF; intro a hF
              refine s_pu hF (pu_assign rfl) rfl ?_; clear hF; intro a hF
              refine c_nil ?_
              exact ⟨k + 1, ⟨by omega, same_snoc k hk1 hk2 hm ((key_eq _ _ _).2 (by simp_all)), hF.pick (.cons (k := 7) rfl <| .cons (k := 0) rfl <| .cons (k := 1) rfl <| .cons (k := 2) rfl <| .nil), hS⟩, by omega⟩
    · try simp only [decide_eq_true_eq, decide_eq_false_iff_not, Bool.not_eq_true', Bool.not_eq_false', Bool.not_eq_eq_eq_not, Bool.not_true, Bool.not_false] at hc16
      refine c_exit (x_then (x_then (x_here ?_)))
      refine n_then ?_
      refine c_seq ?_
      refine c_reg ?_
      refine s_pu hF (pu_assign rfl) rfl ?_; clear hF; intro a hF
      refine c_nil ?_
      refine n_then ?_
      refine c_ret ?_
      exact f_ret hF rfl (.tmp rfl (.nil)) (hS.retv (by rw [same_yes k (by omega) (by omega) hm]; rfl))
end Go.Proofs.YtopbpdgnjnoddaaDoor
