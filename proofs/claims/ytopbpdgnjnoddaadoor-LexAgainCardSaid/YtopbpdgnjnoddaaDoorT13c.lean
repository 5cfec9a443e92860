/- What the functions of the program compute, each with its conditions. -/
import Derived.Test.YtopbpdgnjnoddaaDoorVQ
import Derived.Test.YtopbpdgnjnoddaaDoorT13b
import Derived.Test.YtopbpdgnjnoddaaDoorLT
set_option linter.unusedSimpArgs false
set_option linter.unusedVariables false
namespace Go.Proofs.YtopbpdgnjnoddaaDoor
open Go Go.Dx Go.RowKit
theorem agg46 : AggT Tryd.prog 46 3 := AggT.of (by kernel_rfl) (by kernel_rfl)
theorem fld46_0 : FldAt Tryd.prog 46 0 0 := FldAt.of (n := 0) (by kernel_rfl)
theorem fld46_1 : FldAt Tryd.prog 46 1 1 := FldAt.of (n := 0) (by kernel_rfl)
theorem fld46_2 : FldAt Tryd.prog 46 2 2 := FldAt.of (n := 0) (by kernel_rfl)
theorem ok11 : CallOk Tryd.prog 11 := CallOk.of (by kernel_rfl)
theorem ok12 : CallOk Tryd.prog 12 := CallOk.of (by kernel_rfl)
theorem ok13 : CallOk Tryd.prog 13 := CallOk.of (by kernel_rfl)
theorem ok46 : CallOk Tryd.prog 46 := CallOk.of (by kernel_rfl)
theorem one44 : OneT Tryd.prog 44 := OneT.of (by kernel_rfl)
theorem strb46 : StrB Tryd.prog 46 [(0, 1), (1, 1), (2, 1)] [.int .i64 0, .int .i64 0, vs []] := StrB.of (by kernel_rfl) (by kernel_rfl)
theorem sz46 : SzIs Tryd.prog 46 3 := SzIs.of (by kernel_rfl)
theorem eqV : EqT Tryd.prog 46 valC := EqT.of [(0, .i .i64), (1, .i .i64), (2, .s)] (by kernel_rfl) (by kernel_rfl) (by kernel_rfl) (by kernel_rfl)
  (fun a b s hs => by
    simp only [List.mem_cons, List.mem_nil_iff, or_false] at hs
    rcases hs with rfl | rfl | rfl
    · exact ⟨_, _, rfl, rfl, ⟨_, rfl⟩, ⟨_, rfl⟩⟩
    · exact ⟨_, _, rfl, rfl, ⟨_, rfl⟩, ⟨_, rfl⟩⟩
    · exact ⟨_, _, rfl, rfl, ⟨_, rfl⟩, ⟨_, rfl⟩⟩)
  (fun a b => by
    obtain ⟨k, n, s⟩ := a
    obtain ⟨k', n', s'⟩ := b
    simp [valC, eqC, vs, Bool.and_assoc])
theorem _root_.Go.Dx.SlC.lm {α : Type} {T sz : Nat} {R : View → List Value → α → Prop} {h : View} {v : Value} {l : List α} (hs : SlC T sz R h v l) : l.length ≤ 9223372036854775807 := by
  obtain ⟨_, _, _, h1, h2⟩ := hs.parts
  simp only [maxLen] at h2; omega
theorem flat3 (l : List Val) : ((l.map valC).flatten).length = 3 * l.length := by
  induction l with
  | nil => rfl
  | cons v l ih => simp only [List.map_cons, List.flatten_cons, List.length_append, ih, List.length_cons]; show 3 + _ = _; omega
theorem take_bad {s : List UInt8} (h : ¬ (takeU s).2.2 = 0) : takeV s = (v0, [], (takeU s).2.2) := by rw [takeV, if_neg h]
theorem chk_ok {v : Val} (h : chkV v = 0) : valOk v = true := Decidable.not_not.1 fun h2 => by rw [chkV, if_neg h2] at h; cases h
theorem chk_no {v : Val} (h : ¬ chkV v = 0) : valOk v = false := by
  cases h2 : valOk v
  · rfl
  · exact absurd (by rw [chkV, if_pos h2]) h
theorem vbR_ok {v : Val} (h : (vbR v).2 = 0) : valOk v = true := Decidable.not_not.1 fun h2 => by rw [vbR, if_neg h2] at h; cases h
theorem vbR_no {v : Val} (h : ¬ (vbR v).2 = 0) : valOk v = false := by
  cases h2 : valOk v
  · rfl
  · exact absurd (by rw [vbR, if_pos h2]) h
theorem same_all {l m : List Val} (hl : l.length = m.length) (h : ∀ j, j < l.length → l.getD j v0 = m.getD j v0) : l = m := by
  apply List.ext_getElem hl
  intro i h1 h2
  have := h i h1
  simpa [List.getD, h1, h2] using this
theorem quote_from (s : List UInt8) (hp : ∀ b ∈ s, b.toNat < 128) : ∀ (f p : Nat), s.length ≤ p + f → quoteFrom ⟨s.toArray⟩ f p = (s.drop p).flatMap fun b => if b = 34 ∨ b = 92 then [92, b] else [b] := by
  intro f
  induction f with
  | zero => intro p h; rw [List.drop_of_length_le (by omega)]; rfl
  | succ f ih =>
    intro p h
    by_cases hlt : p < s.length
    · have hb := hp _ (getD_mem s p 0 hlt)
      have e := decode_lo hlt hb
      have hsz : p < (ByteArray.mk s.toArray).size := by rw [size_mk]; exact hlt
      rw [quoteFrom, if_pos hsz, e, ih (p + 1) (by omega), drop_getD s p hlt, List.flatMap_cons]
      congr 1
      generalize s.getD p 0 = b at *
      have h1 : Lib.encodeRune ((b.toNat : Nat) : Int) = [b] := by
        rw [Lib.encodeRune, Lib.encodeRuneZ_one (by omega) (by omega)]; simp
      rw [h1]
      have h34 : (b.toNat = 34) ↔ b = 34 := ⟨fun h => UInt8.toNat_inj.1 h, fun h => by rw [h]; rfl⟩
      have h92 : (b.toNat = 92) ↔ b = 92 := ⟨fun h => UInt8.toNat_inj.1 h, fun h => by rw [h]; rfl⟩
      simp only [h34, h92]
      split <;> rfl
    · rw [List.drop_of_length_le (by omega), quoteFrom, if_neg (by rw [size_mk]; exact hlt)]; rfl
theorem plain_128 {s : List UInt8} (hp : plainS s = true) : ∀ b ∈ s, b.toNat < 128 := by
  intro b hb
  simp only [plainS, Bool.and_eq_true, List.all_eq_true, decide_eq_true_eq] at hp
  have := (hp.2 b hb).2
  omega
theorem c_quote (s : List UInt8) (hp : plainS s = true) (w0 : World) (h0 : View) (hv : VLe h0 (Full w0)) : Calls Tryd.prog 31 #[vs s] w0 (Ret w0 h0 fun u _ => u = vs (quS s)) := by
  have h4 := plain_40 hp
  have h := quote_walk ⟨s.toArray⟩ w0 (by rw [size_mk]; omega)
  rw [quote_from s (plain_128 hp) _ 0 (by rw [size_mk]; omega)] at h
  exact calls_below h

theorem c_RPlain (s : List UInt8) (hs : s.length ≤ 9223372036854775807) (w0 : World) (h0 : View) (hv : VLe h0 (Full w0))  : Calls Tryd.prog 34 #[vs s] w0 (Ret w0 h0 fun u _ => u = .bool (plainS s)) := by
  refine f_enter (args := [vs s]) Tryd.func34 rfl Tryd.ntmps34 rfl fun a hF => ?_
  have hS := St.init w0 h0 hv
  refine c_seq ?_
  refine c_reg ?_
  refine s_pu hF (pu_assign rfl) rfl ?_; clear hF; intro a hF
  refine c_nil ?_
  refine n_then ?_
  refine c_seq ?_
  refine c_seq ?_
  refine c_reg ?_
  refine s_pu hF (pu_assign rfl) rfl ?_; clear hF; intro a hF
  refine c_nil ?_
  refine n_then ?_
  refine c_block ?_
  refine hS.cut fun O0 F0 hO0 hF0 hS => ?_
  refine hF.cut (.cons (k := 3) rfl <| .nil) (.cons (k := 0) rfl <| .nil) fun L0 hL0 hF => ?_
  refine c_loop (α := Nat) (fun k a w => k ≤ s.length ∧ (∀ j, j < k → plB (s.getD j 0) = true) ∧ Fr a 23 ([(3, .val (.int .i64 (k : Nat)))] ++ L0) ∧ St w0 h0 [] w O0 F0) (fun k => s.length - k) 0 (⟨Nat.zero_le _, fun j hj => absurd hj (Nat.not_lt_zero j), hF, hS⟩) ?_
  subst hO0 hF0 hL0
  rintro k a w ⟨hk, hn, hF, hS⟩
  refine c_seq ?_
  refine c_seq ?_
  refine c_reg ?_
  refine s_pu hF (pu_move rfl) rfl ?_; clear hF; intro a hF
  refine s_pu hF (pu_move rfl) rfl ?_; clear hF; intro a hF
  refine s_pu hF (pu_len_s tyS9 rfl rfl) rfl ?_; clear hF; intro a hF
  refine s_pu hF (pu_ilt rfl rfl) rfl ?_; clear hF; intro a hF
  refine c_nil ?_
  refine n_then ?_
  refine c_if hF rfl (fun hc7 => ?_) (fun hc7 => ?_)
  · try simp only [decide_eq_true_eq, decide_eq_false_iff_not, Bool.not_eq_true', Bool.not_eq_false', Bool.not_eq_eq_eq_not, Bool.not_true, Bool.not_false] at hc7
    refine c_skip ?_
    refine n_then ?_
    refine c_seq ?_
    refine c_block ?_
    refine c_seq ?_
    refine c_reg ?_
    refine s_pu hF (pu_move rfl) rfl ?_; clear hF; intro a hF
    refine s_pu hF (pu_move rfl) rfl ?_; clear hF; intro a hF
    refine s_pu hF (pu_idxn tyS9 rfl rfl rfl (by omega)) rfl ?_; clear hF; intro a hF
    refine s_pu hF (pu_ilt rfl rfl) rfl ?_; clear hF; intro a hF
    refine s_pu hF (pu_move rfl) rfl ?_; clear hF; intro a hF
    refine w_split hF ⟨_, _, (rfl : _[4]? = some _), rfl, rfl⟩ (fun hg4_4 => ?_) (fun hg4_4 => ?_)
    · have hg4_4p := hg4_4
      try simp only [decide_eq_true_eq, decide_eq_false_iff_not, Bool.not_eq_true', Bool.not_eq_false', Bool.not_eq_eq_eq_not, Bool.not_true, Bool.not_false] at hg4_4p
      refine g_no hF ⟨_, _, (rfl : _[4]? = some _), rfl, rfl⟩ hg4_4 rfl ?_; clear hF; intro a hF
      refine g_no hF ⟨_, _, (rfl : _[4]? = some _), rfl, rfl⟩ hg4_4 rfl ?_; clear hF; intro a hF
      refine g_no hF ⟨_, _, (rfl : _[4]? = some _), rfl, rfl⟩ hg4_4 rfl ?_; clear hF; intro a hF
      refine g_no hF ⟨_, _, (rfl : _[4]? = some _), rfl, rfl⟩ hg4_4 rfl ?_; clear hF; intro a hF
      refine s_pu hF (pu_pick_t rfl hg4_4 rfl) rfl ?_; clear hF; intro a hF
      refine c_nil ?_
      refine n_then ?_
      refine c_ift hF rfl rfl ?_
      refine c_seq ?_
      refine c_reg ?_
      refine s_pu hF (pu_assign rfl) rfl ?_; clear hF; intro a hF
      refine c_nil ?_
      refine n_then ?_
      refine c_ret (r_block (r_then (r_then (r_block (r_then ?_)))))
      exact f_ret hF rfl (.tmp rfl (.nil)) (hS.retv (congrArg Value.bool (plain_no (k := k) (by omega) (by first | exact .inl hg4_4p | (right; omega))).symm))
    · have hg4_4p := hg4_4
      try simp only [decide_eq_true_eq, decide_eq_false_iff_not, Bool.not_eq_true', Bool.not_eq_false', Bool.not_eq_eq_eq_not, Bool.not_true, Bool.not_false] at hg4_4p
      refine g_pu hF ⟨_, _, (rfl : _[4]? = some _), rfl, rfl⟩ hg4_4 (pu_move rfl) rfl ?_; clear hF; intro a hF
      refine g_pu hF ⟨_, _, (rfl : _[4]? = some _), rfl, rfl⟩ hg4_4 (pu_move rfl) rfl ?_; clear hF; intro a hF
      refine g_pu hF ⟨_, _, (rfl : _[4]? = some _), rfl, rfl⟩ hg4_4 (pu_idxn tyS9 rfl rfl rfl (by omega)) rfl ?_; clear hF; intro a hF
      refine g_pu hF ⟨_, _, (rfl : _[4]? = some _), rfl, rfl⟩ hg4_4 (pu_igt rfl rfl) rfl ?_; clear hF; intro a hF
      refine s_pu hF (pu_pick_f rfl hg4_4 rfl) rfl ?_; clear hF; intro a hF
      refine c_nil ?_
      refine n_then ?_
      refine c_if hF rfl (fun hc19 => ?_) (fun hc19 => ?_)
      · try simp only [decide_eq_true_eq, decide_eq_false_iff_not, Bool.not_eq_true', Bool.not_eq_false', Bool.not_eq_eq_eq_not, Bool.not_true, Bool.not_false] at hc19
        refine c_seq ?_
        refine c_reg ?_
        refine s_pu hF (pu_assign rfl) rfl ?_; clear hF; intro a hF
        refine c_nil ?_
        refine n_then ?_
        refine c_ret (r_block (r_then (r_then (r_block (r_then ?_)))))
        exact f_ret hF rfl (.tmp rfl (.nil)) (hS.retv (congrArg Value.bool (plain_no (k := k) (by omega) (by first | exact .inl hg4_4p | (right; omega))).symm))
      · try simp only [decide_eq_true_eq, decide_eq_false_iff_not, Bool.not_eq_true', Bool.not_eq_false', Bool.not_eq_eq_eq_not, Bool.not_true, Bool.not_false] at hc19
        refine c_skip ?_
        refine n_block ?_
        refine n_then ?_
        refine c_reg ?_
        refine s_pu hF (pu_move rfl) rfl ?_; clear hF; intro a hF
        refine s_pu hF (pu_add rfl rfl (by first | exact wrap_i64 (by omega) (by omega) | rfl)) rfl ?_; clear hF; intro a hF
        refine s_pu hF (pu_assign rfl) rfl ?_; clear hF; intro a hF
        refine c_nil ?_
        exact ⟨k + 1, ⟨by omega, upto_snoc hn (pl_yes (by omega) (by omega)), hF.pick (.cons (k := 3) rfl <| .cons (k := 0) rfl <| .nil), hS⟩, by omega⟩
  · try simp only [decide_eq_true_eq, decide_eq_false_iff_not, Bool.not_eq_true', Bool.not_eq_false', Bool.not_eq_eq_eq_not, Bool.not_true, Bool.not_false] at hc7
    refine c_exit (x_then (x_then (x_here ?_)))
    refine n_then ?_
    refine c_seq ?_
    refine c_reg ?_
    refine s_pu hF (pu_move rfl) rfl ?_; clear hF; intro a hF
    refine s_pu hF (pu_len_s tyS9 rfl rfl) rfl ?_; clear hF; intro a hF
    refine s_pu hF (pu_ile rfl rfl) rfl ?_; clear hF; intro a hF
    refine s_pu hF (pu_assign rfl) rfl ?_; clear hF; intro a hF
    refine c_nil ?_
    refine n_then ?_
    refine c_ret ?_
    exact f_ret hF rfl (.tmp rfl (.nil)) (hS.retv (congrArg Value.bool (plain_len s (fun j hj => hn j (by omega)))))
theorem c_plain (s : List UInt8) (w0 : World) (h0 : View) (hv : VLe h0 (Full w0))  : Calls Tryd.prog 46 #[vs s] w0 (Ret w0 h0 fun u _ => u = .bool (plainS s)) := by
  refine f_enter (args := [vs s]) Tryd.func46 rfl Tryd.ntmps46 rfl fun a hF => ?_
  have hS := St.init w0 h0 hv
  refine c_seq ?_
  refine c_reg ?_
  refine s_pu hF (pu_assign rfl) rfl ?_; clear hF; intro a hF
  refine c_nil ?_
  refine n_then ?_
  refine c_seq ?_
  refine c_seq ?_
  refine c_reg ?_
  refine s_pu hF (pu_move rfl) rfl ?_; clear hF; intro a hF
  refine s_pu hF (pu_len_s tyS9 rfl rfl) rfl ?_; clear hF; intro a hF
  refine s_pu hF (pu_igt rfl rfl) rfl ?_; clear hF; intro a hF
  refine c_nil ?_
  refine n_then ?_
  refine c_if hF rfl (fun hc7 => ?_) (fun hc7 => ?_)
  · try simp only [decide_eq_true_eq, decide_eq_false_iff_not, Bool.not_eq_true', Bool.not_eq_false', Bool.not_eq_eq_eq_not, Bool.not_true, Bool.not_false] at hc7
    have hlong := hc7
    refine c_seq ?_
    refine c_reg ?_
    refine s_pu hF (pu_assign rfl) rfl ?_; clear hF; intro a hF
    refine c_nil ?_
    refine n_then ?_
    refine c_ret (r_then ?_)
    exact f_ret hF rfl (.tmp rfl (.nil)) (hS.retv (congrArg Value.bool (plain_long (by omega)).symm))
  · try simp only [decide_eq_true_eq, decide_eq_false_iff_not, Bool.not_eq_true', Bool.not_eq_false', Bool.not_eq_eq_eq_not, Bool.not_true, Bool.not_false] at hc7
    refine c_skip ?_
    refine n_then ?_
    refine c_seq ?_
    refine c_seq ?_
    refine c_reg ?_
    refine s_pu hF (pu_move rfl) rfl ?_; clear hF; intro a hF
    refine s_range hF hS tyS9 rfl rfl ?_; clear hS hF; intro b0 w a hS hF
    refine c_nil ?_
    refine n_then ?_
    refine c_block ?_
    refine hS.cut fun O0 F0 hO0 hF0 hS => ?_
    subst hO0
    refine hF.cut (.nil) (.cons (k := 9) rfl <| .nil) fun L0 hL0 hF => ?_
    refine c_loop (α := Nat) (fun k a w => k ≤ s.length ∧ (∀ j, j < k → plB (s.getD j 0) = true) ∧ Fr a 19 ([] ++ L0) ∧ St w0 h0 [] w [(some b0, IterC s k)] F0) (fun k => s.length - k) 0 (⟨Nat.zero_le _, fun j hj => absurd hj (Nat.not_lt_zero j), hF, hS⟩) ?_
    subst hF0 hL0
    rintro k a w ⟨hk, hn, hF, hS⟩
    refine c_seq ?_
    refine c_reg ?_
    refine s_next (i := 0) hF hS rfl rfl rfl (fun hnx w a hS hF => ?_) (fun hnx a hF => ?_)
    · skip
      refine s_pu hF (pu_extract rfl rfl) rfl ?_; clear hF; intro a hF
      refine c_nil ?_
      refine n_then ?_
      refine c_seq ?_
      refine c_ift hF rfl rfl ?_
      refine c_skip ?_
      refine n_then ?_
      refine c_block ?_
      refine c_seq ?_
      refine c_reg ?_
      refine s_pu hF (pu_extract rfl rfl) rfl ?_; clear hF; intro a hF
      refine s_pu hF (pu_assign rfl) rfl ?_; clear hF; intro a hF
      refine c_nil ?_
      refine n_then ?_
      refine c_seq ?_
      refine c_reg ?_
      refine s_pu hF (pu_move rfl) rfl ?_; clear hF; intro a hF
      refine s_pu hF (pu_ilt rfl rfl) rfl ?_; clear hF; intro a hF
      refine s_pu hF (pu_move rfl) rfl ?_; clear hF; intro a hF
      refine w_split hF ⟨_, _, (rfl : _[2]? = some _), rfl, rfl⟩ (fun hg6_2 => ?_) (fun hg6_2 => ?_)
      · have hg6_2p := hg6_2
        try simp only [decide_eq_true_eq, decide_eq_false_iff_not, Bool.not_eq_true', Bool.not_eq_false', Bool.not_eq_eq_eq_not, Bool.not_true, Bool.not_false] at hg6_2p
        refine g_no hF ⟨_, _, (rfl : _[2]? = some _), rfl, rfl⟩ hg6_2 rfl ?_; clear hF; intro a hF
        refine g_no hF ⟨_, _, (rfl : _[2]? = some _), rfl, rfl⟩ hg6_2 rfl ?_; clear hF; intro a hF
        refine s_pu hF (pu_pick_t rfl hg6_2 rfl) rfl ?_; clear hF; intro a hF
        refine c_nil ?_
        refine n_then ?_
        refine c_ift hF rfl rfl ?_
        refine c_seq ?_
        refine c_reg ?_
        refine s_pu hF (pu_assign rfl) rfl ?_; clear hF; intro a hF
        refine c_nil ?_
        refine n_then ?_
        refine c_ret (r_block (r_then (r_block (r_then ?_))))
        exact f_ret hF rfl (.tmp rfl (.nil)) (hS.retv (congrArg Value.bool (plain_not (k := k) (by omega) (dec_bad (s := s) (k := k) hnx (by first | exact .inl hg6_2p | (right; omega)))).symm))
      · have hg6_2p := hg6_2
        try simp only [decide_eq_true_eq, decide_eq_false_iff_not, Bool.not_eq_true', Bool.not_eq_false', Bool.not_eq_eq_eq_not, Bool.not_true, Bool.not_false] at hg6_2p
        refine g_pu hF ⟨_, _, (rfl : _[2]? = some _), rfl, rfl⟩ hg6_2 (pu_move rfl) rfl ?_; clear hF; intro a hF
        refine g_pu hF ⟨_, _, (rfl : _[2]? = some _), rfl, rfl⟩ hg6_2 (pu_igt rfl rfl) rfl ?_; clear hF; intro a hF
        refine s_pu hF (pu_pick_f rfl hg6_2 rfl) rfl ?_; clear hF; intro a hF
        refine c_nil ?_
        refine n_then ?_
        refine c_if hF rfl (fun hc18 => ?_) (fun hc18 => ?_)
        · try simp only [decide_eq_true_eq, decide_eq_false_iff_not, Bool.not_eq_true', Bool.not_eq_false', Bool.not_eq_eq_eq_not, Bool.not_true, Bool.not_false] at hc18
          refine c_seq ?_
          refine c_reg ?_
          refine s_pu hF (pu_assign rfl) rfl ?_; clear hF; intro a hF
          refine c_nil ?_
          refine n_then ?_
          refine c_ret (r_block (r_then (r_block (r_then ?_))))
          exact f_ret hF rfl (.tmp rfl (.nil)) (hS.retv (congrArg Value.bool (plain_not (k := k) (by omega) (dec_bad (s := s) (k := k) hnx (by first | exact .inl hg6_2p | (right; omega)))).symm))
        · try simp only [decide_eq_true_eq, decide_eq_false_iff_not, Bool.not_eq_true', Bool.not_eq_false', Bool.not_eq_eq_eq_not, Bool.not_true, Bool.not_false] at hc18
          refine c_skip ?_
          refine n_block ?_
          obtain ⟨e1, e2⟩ := dec_plain (s := s) (k := k) hnx (by omega) (by omega)
          rw [e2] at hS
          exact ⟨k + 1, ⟨by omega, upto_snoc hn e1, hF.pick (.cons (k := 9) rfl <| .nil), hS⟩, by omega⟩
    · skip
      refine s_pu hF (pu_extract rfl rfl) rfl ?_; clear hF; intro a hF
      refine c_nil ?_
      refine n_then ?_
      refine c_seq ?_
      refine c_iff hF rfl rfl ?_
      refine c_exit (x_then (x_then (x_here ?_)))
      refine n_then ?_
      refine c_seq ?_
      refine c_reg ?_
      refine s_pu hF (pu_assign rfl) rfl ?_; clear hF; intro a hF
      refine c_nil ?_
      refine n_then ?_
      refine c_ret ?_
      exact f_ret hF rfl (.tmp rfl (.nil)) (hS.retv (congrArg Value.bool (plain_all (by omega) (fun j hj => hn j (by omega))).symm))
theorem c_VCheck (v : Val) (hvb : valB v) (w0 : World) (h0 : View) (hv : VLe h0 (Full w0))  : Calls Tryd.prog 27 #[.agg (valC v).toArray] w0 (Ret w0 h0 fun u _ => u = .int .i64 (chkV v)) := by
  refine f_enter (args := [.agg (valC v).toArray]) Tryd.func27 rfl Tryd.ntmps27 rfl fun a hF => ?_
  have hS := St.init w0 h0 hv
  refine c_seq ?_
  refine c_reg ?_
  refine s_box hF hS rfl rfl rfl ?_; clear hS hF; intro b0 w a hS hF
  refine s_pu hF (pu_assign rfl) rfl ?_; clear hF; intro a hF
  refine c_nil ?_
  refine n_then ?_
  refine c_seq ?_
  refine c_reg ?_
  refine s_pu hF (pu_assign rfl) rfl ?_; clear hF; intro a hF
  refine c_nil ?_
  refine n_then ?_
  refine hS.cut fun OK11 FK11 hOK11 hFK11 hS => ?_
  refine hF.cut .nil (.nil) fun LK11 hLK11 _ => ?_
  refine c_seq_cut (fun a w => ∃ (r : Bool), r = valOk v ∧ Fr a 39 ([(3, .val (.bool r))] ++ LK11) ∧ St w0 h0 [] w OK11 FK11) ?_ ?_
  · subst hOK11 hFK11 hLK11
    refine c_seq ?_
    refine c_reg ?_
    refine s_pu hF (pu_faddr fld46_0 rfl) rfl ?_; clear hF; intro a hF
    refine s_pu hF (o_load1 (i := 0) hS rfl one44 rfl rfl) rfl ?_; clear hF; intro a hF
    refine c_nil ?_
    refine n_then ?_
    refine c_block ?_
    refine c_seq ?_
    refine c_reg ?_
    refine s_pu hF (pu_ieq rfl rfl) rfl ?_; clear hF; intro a hF
    refine s_pu hF (pu_assign rfl) rfl ?_; clear hF; intro a hF
    refine c_nil ?_
    refine n_then ?_
    refine c_if hF rfl (fun hc6 => ?_) (fun hc6 => ?_)
    · try simp only [decide_eq_true_eq, decide_eq_false_iff_not, Bool.not_eq_true', Bool.not_eq_false', Bool.not_eq_eq_eq_not, Bool.not_true, Bool.not_false] at hc6
      refine c_reg ?_
      refine s_pu hF (o_loadA (i := 0) (new := valC v) hS rfl agg46 rfl (rfl)) rfl ?_; clear hF; intro a hF
      refine s_pu hF (pu_build_st (cs := valC v0) strb46 rfl rfl) rfl ?_; clear hF; intro a hF
      refine s_pu hF (pu_aeq (a := v) (b := v0) eqV rfl rfl) rfl ?_; clear hF; intro a hF
      refine s_pu hF (pu_assign rfl) rfl ?_; clear hF; intro a hF
      refine c_nil ?_
      refine n_block ?_
      refine n_then ?_
      exact ⟨_, by first | (obtain ⟨vk, vn, vt⟩ := v; simp_all [valOk, v0]; done) | (have e := andnot1 (h := hvb.2) (hr := rfl); simp_all [valOk]; done), hF.pick (.cons (k := 3) rfl <| .nil), hS⟩
    · try simp only [decide_eq_true_eq, decide_eq_false_iff_not, Bool.not_eq_true', Bool.not_eq_false', Bool.not_eq_eq_eq_not, Bool.not_true, Bool.not_false] at hc6
      refine c_seq ?_
      refine c_reg ?_
      refine s_pu hF (pu_ieq rfl rfl) rfl ?_; clear hF; intro a hF
      refine s_pu hF (pu_assign rfl) rfl ?_; clear hF; intro a hF
      refine c_nil ?_
      refine n_then ?_
      refine c_if hF rfl (fun hc11 => ?_) (fun hc11 => ?_)
      · try simp only [decide_eq_true_eq, decide_eq_false_iff_not, Bool.not_eq_true', Bool.not_eq_false', Bool.not_eq_eq_eq_not, Bool.not_true, Bool.not_false] at hc11
        refine c_reg ?_
        refine s_pu hF (pu_faddr fld46_2 rfl) rfl ?_; clear hF; intro a hF
        refine s_pu hF (o_load1 (i := 0) hS rfl one9 rfl rfl) rfl ?_; clear hF; intro a hF
        refine s_pu hF (pu_seq rfl rfl) rfl ?_; clear hF; intro a hF
        refine s_pu hF (pu_assign rfl) rfl ?_; clear hF; intro a hF
        refine c_nil ?_
        refine n_block ?_
        refine n_then ?_
        exact ⟨_, by first | (obtain ⟨vk, vn, vt⟩ := v; simp_all [valOk, v0]; done) | (have e := andnot1 (h := hvb.2) (hr := rfl); simp_all [valOk]; done), hF.pick (.cons (k := 3) rfl <| .nil), hS⟩
      · try simp only [decide_eq_true_eq, decide_eq_false_iff_not, Bool.not_eq_true', Bool.not_eq_false', Bool.not_eq_eq_eq_not, Bool.not_true, Bool.not_false] at hc11
        refine c_seq ?_
        refine c_reg ?_
        refine s_pu hF (pu_ieq rfl rfl) rfl ?_; clear hF; intro a hF
        refine s_pu hF (pu_assign rfl) rfl ?_; clear hF; intro a hF
        refine c_nil ?_
        refine n_then ?_
        refine c_if hF rfl (fun hc16 => ?_) (fun hc16 => ?_)
        · try simp only [decide_eq_true_eq, decide_eq_false_iff_not, Bool.not_eq_true', Bool.not_eq_false', Bool.not_eq_eq_eq_not, Bool.not_true, Bool.not_false] at hc16
          refine c_reg ?_
          refine s_pu hF (pu_faddr fld46_1 rfl) rfl ?_; clear hF; intro a hF
          refine s_pu hF (o_load1 (i := 0) hS rfl one3 rfl rfl) rfl ?_; clear hF; intro a hF
          refine s_pu hF (pu_ieq rfl rfl) rfl ?_; clear hF; intro a hF
          refine s_pu hF (pu_move rfl) rfl ?_; clear hF; intro a hF
          refine w_split hF ⟨_, _, (rfl : _[3]? = some _), rfl, rfl⟩ (fun hg8_3 => ?_) (fun hg8_3 => ?_)
          · have hg8_3p := hg8_3
            try simp only [decide_eq_true_eq, decide_eq_false_iff_not, Bool.not_eq_true', Bool.not_eq_false', Bool.not_eq_eq_eq_not, Bool.not_true, Bool.not_false] at hg8_3p
            refine g_pu hF ⟨_, _, (rfl : _[3]? = some _), rfl, rfl⟩ hg8_3 (pu_faddr fld46_2 rfl) rfl ?_; clear hF; intro a hF
            refine g_pu hF ⟨_, _, (rfl : _[3]? = some _), rfl, rfl⟩ hg8_3 (o_load1 (i := 0) hS rfl one9 rfl rfl) rfl ?_; clear hF; intro a hF
            refine g_callv hF hS ⟨_, _, (rfl : _[3]? = some _), rfl, rfl⟩ hg8_3 ok46 rfl (c_plain v.s _ _ hS.view) rfl ?_; clear hS hF; intro w a hS hF
            refine s_pu hF (pu_pick_t rfl hg8_3 rfl) rfl ?_; clear hF; intro a hF
            refine s_pu hF (pu_assign rfl) rfl ?_; clear hF; intro a hF
            refine c_nil ?_
            refine n_block ?_
            refine n_then ?_
            exact ⟨_, by first | (obtain ⟨vk, vn, vt⟩ := v; simp_all [valOk, v0]; done) | (have e := andnot1 (h := hvb.2) (hr := rfl); simp_all [valOk]; done), hF.pick (.cons (k := 3) rfl <| .nil), hS⟩
          · have hg8_3p := hg8_3
            try simp only [decide_eq_true_eq, decide_eq_false_iff_not, Bool.not_eq_true', Bool.not_eq_false', Bool.not_eq_eq_eq_not, Bool.not_true, Bool.not_false] at hg8_3p
            refine g_no hF ⟨_, _, (rfl : _[3]? = some _), rfl, rfl⟩ hg8_3 rfl ?_; clear hF; intro a hF
            refine g_no hF ⟨_, _, (rfl : _[3]? = some _), rfl, rfl⟩ hg8_3 rfl ?_; clear hF; intro a hF
            refine g_no hF ⟨_, _, (rfl : _[3]? = some _), rfl, rfl⟩ hg8_3 rfl ?_; clear hF; intro a hF
            refine s_pu hF (pu_pick_f rfl hg8_3 rfl) rfl ?_; clear hF; intro a hF
            refine s_pu hF (pu_assign rfl) rfl ?_; clear hF; intro a hF
            refine c_nil ?_
            refine n_block ?_
            refine n_then ?_
            exact ⟨_, by first | (obtain ⟨vk, vn, vt⟩ := v; simp_all [valOk, v0]; done) | (have e := andnot1 (h := hvb.2) (hr := rfl); simp_all [valOk]; done), hF.pick (.cons (k := 3) rfl <| .nil), hS⟩
        · try simp only [decide_eq_true_eq, decide_eq_false_iff_not, Bool.not_eq_true', Bool.not_eq_false', Bool.not_eq_eq_eq_not, Bool.not_true, Bool.not_false] at hc16
          refine c_seq ?_
          refine c_reg ?_
          refine s_pu hF (pu_ieq rfl rfl) rfl ?_; clear hF; intro a hF
          refine s_pu hF (pu_assign rfl) rfl ?_; clear hF; intro a hF
          refine c_nil ?_
          refine n_then ?_
          refine c_if hF rfl (fun hc26 => ?_) (fun hc26 => ?_)
          · try simp only [decide_eq_true_eq, decide_eq_false_iff_not, Bool.not_eq_true', Bool.not_eq_false', Bool.not_eq_eq_eq_not, Bool.not_true, Bool.not_false] at hc26
            refine c_reg ?_
            refine s_pu hF (pu_faddr fld46_2 rfl) rfl ?_; clear hF; intro a hF
            refine s_pu hF (o_load1 (i := 0) hS rfl one9 rfl rfl) rfl ?_; clear hF; intro a hF
            refine s_pu hF (pu_seq rfl rfl) rfl ?_; clear hF; intro a hF
            refine s_pu hF (pu_move rfl) rfl ?_; clear hF; intro a hF
            refine w_split hF ⟨_, _, (rfl : _[3]? = some _), rfl, rfl⟩ (fun hg10_3 => ?_) (fun hg10_3 => ?_)
            · have hg10_3p := hg10_3
              try simp only [decide_eq_true_eq, decide_eq_false_iff_not, Bool.not_eq_true', Bool.not_eq_false', Bool.not_eq_eq_eq_not, Bool.not_true, Bool.not_false] at hg10_3p
              refine g_pu hF ⟨_, _, (rfl : _[3]? = some _), rfl, rfl⟩ hg10_3 (pu_faddr fld46_1 rfl) rfl ?_; clear hF; intro a hF
              refine g_pu hF ⟨_, _, (rfl : _[3]? = some _), rfl, rfl⟩ hg10_3 (o_load1 (i := 0) hS rfl one3 rfl rfl) rfl ?_; clear hF; intro a hF
              refine g_pu hF ⟨_, _, (rfl : _[3]? = some _), rfl, rfl⟩ hg10_3 (pu_andnot rfl rfl rfl) rfl ?_; clear hF; intro a hF
              refine g_pu hF ⟨_, _, (rfl : _[3]? = some _), rfl, rfl⟩ hg10_3 (pu_ieq rfl rfl) rfl ?_; clear hF; intro a hF
              refine s_pu hF (pu_pick_t rfl hg10_3 rfl) rfl ?_; clear hF; intro a hF
              refine s_pu hF (pu_assign rfl) rfl ?_; clear hF; intro a hF
              refine c_nil ?_
              refine n_block ?_
              refine n_then ?_
              exact ⟨_, by first | (obtain ⟨vk, vn, vt⟩ := v; simp_all [valOk, v0]; done) | (have e := andnot1 (h := hvb.2) (hr := rfl); simp_all [valOk]; done), hF.pick (.cons (k := 3) rfl <| .nil), hS⟩
            · have hg10_3p := hg10_3
              try simp only [decide_eq_true_eq, decide_eq_false_iff_not, Bool.not_eq_true', Bool.not_eq_false', Bool.not_eq_eq_eq_not, Bool.not_true, Bool.not_false] at hg10_3p
              refine g_no hF ⟨_, _, (rfl : _[3]? = some _), rfl, rfl⟩ hg10_3 rfl ?_; clear hF; intro a hF
              refine g_no hF ⟨_, _, (rfl : _[3]? = some _), rfl, rfl⟩ hg10_3 rfl ?_; clear hF; intro a hF
              refine g_no hF ⟨_, _, (rfl : _[3]? = some _), rfl, rfl⟩ hg10_3 rfl ?_; clear hF; intro a hF
              refine g_no hF ⟨_, _, (rfl : _[3]? = some _), rfl, rfl⟩ hg10_3 rfl ?_; clear hF; intro a hF
              refine s_pu hF (pu_pick_f rfl hg10_3 rfl) rfl ?_; clear hF; intro a hF
              refine s_pu hF (pu_assign rfl) rfl ?_; clear hF; intro a hF
              refine c_nil ?_
              refine n_block ?_
              refine n_then ?_
              exact ⟨_, by first | (obtain ⟨vk, vn, vt⟩ := v; simp_all [valOk, v0]; done) | (have e := andnot1 (h := hvb.2) (hr := rfl); simp_all [valOk]; done), hF.pick (.cons (k := 3) rfl <| .nil), hS⟩
          · try simp only [decide_eq_true_eq, decide_eq_false_iff_not, Bool.not_eq_true', Bool.not_eq_false', Bool.not_eq_eq_eq_not, Bool.not_true, Bool.not_false] at hc26
            refine c_skip ?_
            refine n_block ?_
            refine n_then ?_
            exact ⟨_, by first | (obtain ⟨vk, vn, vt⟩ := v; simp_all [valOk, v0]; done) | (have e := andnot1 (h := hvb.2) (hr := rfl); simp_all [valOk]; done), hF.pick (.cons (k := 3) rfl <| .nil), hS⟩
  · subst hOK11 hFK11 hLK11
    rintro a w ⟨r, hr, hF, hS⟩
    refine c_seq ?_
    refine c_seq ?_
    refine c_reg ?_
    refine s_pu hF (pu_move rfl) rfl ?_; clear hF; intro a hF
    refine s_pu hF (pu_not rfl) rfl ?_; clear hF; intro a hF
    refine c_nil ?_
    refine n_then ?_
    refine c_if hF rfl (fun hc38 => ?_) (fun hc38 => ?_)
    · try simp only [decide_eq_true_eq, decide_eq_false_iff_not, Bool.not_eq_true', Bool.not_eq_false', Bool.not_eq_eq_eq_not, Bool.not_true, Bool.not_false] at hc38
      refine c_seq ?_
      refine c_reg ?_
      refine s_pu hF (pu_assign rfl) rfl ?_; clear hF; intro a hF
      refine c_nil ?_
      refine n_then ?_
      refine c_ret (r_then ?_)
      exact f_ret hF rfl (.tmp rfl (.nil)) (hS.retv (congrArg (Value.int .i64) (by rw [chkV, if_neg (by simp [← hr, hc38])])))
    · try simp only [decide_eq_true_eq, decide_eq_false_iff_not, Bool.not_eq_true', Bool.not_eq_false', Bool.not_eq_eq_eq_not, Bool.not_true, Bool.not_false] at hc38
      refine c_skip ?_
      refine n_then ?_
      refine c_seq ?_
      refine c_reg ?_
      refine s_pu hF (pu_assign rfl) rfl ?_; clear hF; intro a hF
      refine c_nil ?_
      refine n_then ?_
      refine c_ret ?_
      exact f_ret hF rfl (.tmp rfl (.nil)) (hS.retv (congrArg (Value.int .i64) (by rw [chkV, if_pos (by rw [← hr]; simpa using hc38)])))
theorem c_lives  (w0 : World) (h0 : View) (hv : VLe h0 (Full w0))  : Calls Tryd.prog 6 #[] w0 (Ret w0 h0 fun u _ => u = .bool true) := by
  refine f_enter (args := []) Tryd.func6 rfl Tryd.ntmps6 rfl fun a hF => ?_
  have hS := St.init w0 h0 hv
  refine c_seq ?_
  refine c_reg ?_
  refine s_pu hF (pu_assign rfl) rfl ?_; clear hF; intro a hF
  refine c_nil ?_
  refine n_then ?_
  refine c_seq ?_
  refine c_reg ?_
  refine s_callG hF ok11 rfl (c_Lex [97, 60, 61, 32, 49, 50] (by decide) _ _ (VLe.refl _)) rfl ?_; clear hF; rintro _ w1 a hk1 ⟨sl, rfl, hnb⟩ hF; replace hS := hS.addBuf hk1 hnb; obtain ⟨a1, n1, c1, rfl, hn1⟩ := hnb.form; clear hk1 hnb
  refine s_pu hF (pu_move rfl) rfl ?_; clear hF; intro a hF
  refine s_pu hF (pu_extract rfl rfl) rfl ?_; clear hF; intro a hF
  refine s_pu hF (pu_extract rfl rfl) rfl ?_; clear hF; intro a hF
  refine s_pu hF (pu_extract rfl rfl) rfl ?_; clear hF; intro a hF
  refine s_pu hF (pu_assign rfl) rfl ?_; clear hF; intro a hF
  refine s_pu hF (pu_assign rfl) rfl ?_; clear hF; intro a hF
  refine s_pu hF (pu_assign rfl) rfl ?_; clear hF; intro a hF
  refine c_nil ?_
  refine n_then ?_
  refine c_seq ?_
  refine c_reg ?_
  refine s_pu hF (pu_move rfl) rfl ?_; clear hF; intro a hF
  refine s_pu hF (pu_build_st (cs := tokC ⟨1, [97], 0, 0⟩) strb26 rfl rfl) rfl ?_; clear hF; intro a hF
  refine s_pu hF (pu_build_st (cs := tokC ⟨4, [60, 61], 0, 1⟩) strb26 rfl rfl) rfl ?_; clear hF; intro a hF
  refine s_pu hF (pu_build_st (cs := tokC ⟨2, [], 12, 4⟩) strb26 rfl rfl) rfl ?_; clear hF; intro a hF
  refine s_build (xs := [.tmp 10, .tmp 11, .tmp 12]) hF hS slt_b22 rfl rfl (by simp [Value.cells, tokC]) (by decide) rfl ?_; clear hS hF; intro b0 w a hS hF
  rw [lex_ex] at hS
  have hn1 : n1 = 3 := by (rw [lex_ex, flatC_len] at hn1; have hl : exL.length = 3 := rfl; simp only [hl] at hn1; omega)
  subst hn1
  have hrow := hS.at (i := 0) rfl
  have hbs := hS.bufSl (i := 1) rfl (fun _ _ => rfl) rfl
  refine s_calld hF hS ok12 rfl (c_Same _ _ exL _ 3 exL true (by decide) _ (Full w) (VLe.refl _) hbs (SlC.ofRow (f := tokC) (fun _ _ => rfl) (h := Full w) hrow rfl (by decide) (by decide) rfl)) rfl ?_; clear hS hF hrow hbs; intro w a hS hF
  rw [same_self] at hF
  refine s_pu hF (pu_move rfl) rfl ?_; clear hF; intro a hF
  refine g_pu hF ⟨_, _, (rfl : _[6]? = some _), rfl, rfl⟩ rfl (pu_move rfl) rfl ?_; clear hF; intro a hF
  refine g_pu hF ⟨_, _, (rfl : _[6]? = some _), rfl, rfl⟩ rfl (pu_ieq rfl rfl) rfl ?_; clear hF; intro a hF
  refine s_pu hF (pu_pick_t rfl rfl rfl) rfl ?_; clear hF; intro a hF
  refine s_pu hF (pu_move rfl) rfl ?_; clear hF; intro a hF
  refine g_pu hF ⟨_, _, (rfl : _[10]? = some _), rfl, rfl⟩ (by rw [lex_ex]; rfl) (pu_move rfl) rfl ?_; clear hF; intro a hF
  refine g_pu hF ⟨_, _, (rfl : _[10]? = some _), rfl, rfl⟩ (by rw [lex_ex]; rfl) (pu_ieq rfl rfl) rfl ?_; clear hF; intro a hF
  refine s_pu hF (pu_pick_t rfl (by rw [lex_ex]; rfl) rfl) rfl ?_; clear hF; intro a hF
  refine s_pu hF (pu_move rfl) rfl ?_; clear hF; intro a hF
  refine g_callv hF hS ⟨_, _, (rfl : _[14]? = some _), rfl, rfl⟩ (by rw [lex_ex]; rfl) ok13 rfl (c_Name [97] (by decide) _ _ hS.view) rfl ?_; clear hS hF; intro w a hS hF
  refine s_pu hF (pu_pick_t rfl (by rw [lex_ex]; rfl) rfl) rfl ?_; clear hF; intro a hF
  refine s_pu hF (pu_move rfl) rfl ?_; clear hF; intro a hF
  refine g_callv hF hS ⟨_, _, (rfl : _[17]? = some _), rfl, rfl⟩ name_a ok13 rfl (c_Name [97, 110, 100] (by decide) _ _ hS.view) rfl ?_; clear hS hF; intro w a hS hF
  refine g_pu hF ⟨_, _, (rfl : _[17]? = some _), rfl, rfl⟩ name_a (pu_not rfl) rfl ?_; clear hF; intro a hF
  refine s_pu hF (pu_pick_t rfl name_a rfl) rfl ?_; clear hF; intro a hF
  refine s_pu hF (pu_assign rfl) rfl ?_; clear hF; intro a hF
  refine c_nil ?_
  refine n_then ?_
  refine c_ret ?_
  exact f_ret hF rfl (.tmp rfl (.nil)) (hS.retv (by show Value.bool (!nameOk _) = _; rw [name_and]; rfl))
end Go.Proofs.YtopbpdgnjnoddaaDoor
