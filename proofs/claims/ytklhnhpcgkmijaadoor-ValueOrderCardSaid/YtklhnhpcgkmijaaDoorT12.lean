/- What the functions of the program compute, each with its conditions. -/
import Derived.Test.YtklhnhpcgkmijaaDoorVSpec
import Derived.Test.YtklhnhpcgkmijaaDoorVQ
import Derived.Test.YtklhnhpcgkmijaaDoorTO
set_option linter.unusedSimpArgs false
set_option linter.unusedVariables false
namespace Go.Proofs.YtklhnhpcgkmijaaDoor
open Go Go.Dx Go.RowKit
theorem agg24 : AggT Tryd.prog 24 3 := AggT.of (by kernel_rfl) (by kernel_rfl)
theorem fld24_0 : FldAt Tryd.prog 24 0 0 := FldAt.of (n := 0) (by kernel_rfl)
theorem fld24_1 : FldAt Tryd.prog 24 1 1 := FldAt.of (n := 0) (by kernel_rfl)
theorem fld24_2 : FldAt Tryd.prog 24 2 2 := FldAt.of (n := 0) (by kernel_rfl)
theorem ok10 : CallOk Tryd.prog 10 := CallOk.of (by kernel_rfl)
theorem ok11 : CallOk Tryd.prog 11 := CallOk.of (by kernel_rfl)
theorem ok12 : CallOk Tryd.prog 12 := CallOk.of (by kernel_rfl)
theorem ok14 : CallOk Tryd.prog 14 := CallOk.of (by kernel_rfl)
theorem ok15 : CallOk Tryd.prog 15 := CallOk.of (by kernel_rfl)
theorem ok16 : CallOk Tryd.prog 16 := CallOk.of (by kernel_rfl)
theorem ok17 : CallOk Tryd.prog 17 := CallOk.of (by kernel_rfl)
theorem ok18 : CallOk Tryd.prog 18 := CallOk.of (by kernel_rfl)
theorem ok19 : CallOk Tryd.prog 19 := CallOk.of (by kernel_rfl)
theorem ok20 : CallOk Tryd.prog 20 := CallOk.of (by kernel_rfl)
theorem ok21 : CallOk Tryd.prog 21 := CallOk.of (by kernel_rfl)
theorem ok22 : CallOk Tryd.prog 22 := CallOk.of (by kernel_rfl)
theorem ok23 : CallOk Tryd.prog 23 := CallOk.of (by kernel_rfl)
theorem ok24 : CallOk Tryd.prog 24 := CallOk.of (by kernel_rfl)
theorem ok26 : CallOk Tryd.prog 26 := CallOk.of (by kernel_rfl)
theorem ok29 : CallOk Tryd.prog 29 := CallOk.of (by kernel_rfl)
theorem ok30 : CallOk Tryd.prog 30 := CallOk.of (by kernel_rfl)
theorem ok31 : CallOk Tryd.prog 31 := CallOk.of (by kernel_rfl)
theorem ok35 : CallOk Tryd.prog 35 := CallOk.of (by kernel_rfl)
theorem ok36 : CallOk Tryd.prog 36 := CallOk.of (by kernel_rfl)
theorem ok37 : CallOk Tryd.prog 37 := CallOk.of (by kernel_rfl)
theorem ok38 : CallOk Tryd.prog 38 := CallOk.of (by kernel_rfl)
theorem ok39 : CallOk Tryd.prog 39 := CallOk.of (by kernel_rfl)
theorem ok41 : CallOk Tryd.prog 41 := CallOk.of (by kernel_rfl)
theorem ok43 : CallOk Tryd.prog 43 := CallOk.of (by kernel_rfl)
theorem ok52 : CallOk Tryd.prog 52 := CallOk.of (by kernel_rfl)
theorem ok53 : CallOk Tryd.prog 53 := CallOk.of (by kernel_rfl)
theorem ok8 : CallOk Tryd.prog 8 := CallOk.of (by kernel_rfl)
theorem ok9 : CallOk Tryd.prog 9 := CallOk.of (by kernel_rfl)
theorem one22 : OneT Tryd.prog 22 := OneT.of (by kernel_rfl)
theorem one3 : OneT Tryd.prog 3 := OneT.of (by kernel_rfl)
theorem one9 : OneT Tryd.prog 9 := OneT.of (by kernel_rfl)
theorem strb24 : StrB Tryd.prog 24 [(0, 1), (1, 1), (2, 1)] [.int .i64 0, .int .i64 0, vs []] := StrB.of (by kernel_rfl) (by kernel_rfl)
theorem sz24 : SzIs Tryd.prog 24 3 := SzIs.of (by kernel_rfl)
theorem sz3 : SzIs Tryd.prog 3 1 := SzIs.of (by kernel_rfl)
theorem sz9 : SzIs Tryd.prog 9 1 := SzIs.of (by kernel_rfl)
theorem tyL34 : Tryd.prog.underlying 34 = some (.slice 24) := by kernel_rfl
theorem tyL79 : Tryd.prog.underlying 79 = some (.slice 3) := by kernel_rfl
theorem zero24 : ZeroT Tryd.prog 24 [.int .i64 0, .int .i64 0, vs []] := ZeroT.of (by kernel_rfl)
theorem slt34 : SlT Tryd.prog 34 24 3 := ⟨tyL34, sz24⟩
theorem slt79 : SlT Tryd.prog 79 3 1 := ⟨tyL79, sz3⟩
theorem slt_a34_34 : AppT Tryd.prog 34 34 24 3 32 := AppT.of (sz := 2) tyL34 (by kernel_rfl) (by kernel_rfl)
theorem slt_b34 : BldT Tryd.prog 34 24 3 := BldT.of tyL34 (by kernel_rfl)
theorem slt_b79 : BldT Tryd.prog 79 3 1 := BldT.of tyL79 (by kernel_rfl)
theorem eqV : EqT Tryd.prog 24 valC := EqT.of [(0, .i .i64), (1, .i .i64), (2, .s)] (by kernel_rfl) (by kernel_rfl) (by kernel_rfl) (by kernel_rfl)
  (fun a b s hs => by
    simp only [List.mem_cons, List.mem_nil_iff, or_false] at hs
    rcases hs with rfl | rfl | rfl
    · exact ⟨_, _, rfl, rfl, ⟨_, rfl⟩, ⟨_, rfl⟩⟩
    · exact ⟨_, _, rfl, rfl, ⟨_, rfl⟩, ⟨_, rfl⟩⟩
    · exact ⟨_, _, rfl, rfl, ⟨_, rfl⟩, ⟨_, rfl⟩⟩)
  (fun a b => by
    obtain ⟨k, n, s⟩ := a
    obtain ⟨k', n', s'⟩ := b
    simp [valC, eqC, vs, Bool.and_assoc])
theorem _root_.Go.Dx.SlC.lm {α : Type} {T sz : Nat} {R : View → List Value → α → Prop} {h : View} {v : Value} {l : List α} (hs : SlC T sz R h v l) : l.length ≤ 9223372036854775807 := by
  obtain ⟨_, _, _, h1, h2⟩ := hs.parts
  simp only [maxLen] at h2; omega
theorem flat3 (l : List Val) : ((l.map valC).flatten).length = 3 * l.length := by
  induction l with
  | nil => rfl
  | cons v l ih => simp only [List.map_cons, List.flatten_cons, List.length_append, ih, List.length_cons]; show 3 + _ = _; omega
theorem c_sCmp (s t : List UInt8) (w0 : World) (h0 : View) (hv : VLe h0 (Full w0)) : Calls Tryd.prog 39 #[vs s, vs t] w0 (Ret w0 h0 fun u _ => u = .int .i64 (Lib.compareBytes s t)) := by
  have := calls_same (h := h0) (Tryd.strings_Compare ⟨s.toArray⟩ ⟨t.toArray⟩ w0)
  simpa using this
theorem take_bad {s : List UInt8} (h : ¬ (takeU s).2.2 = 0) : takeV s = (v0, [], (takeU s).2.2) := by rw [takeV, if_neg h]
theorem chk_ok {v : Val} (h : chkV v = 0) : valOk v = true := Decidable.not_not.1 fun h2 => by rw [chkV, if_neg h2] at h; cases h
theorem chk_no {v : Val} (h : ¬ chkV v = 0) : valOk v = false := by
  cases h2 : valOk v
  · rfl
  · exact absurd (by rw [chkV, if_pos h2]) h
theorem vbR_ok {v : Val} (h : (vbR v).2 = 0) : valOk v = true := Decidable.not_not.1 fun h2 => by rw [vbR, if_neg h2] at h; cases h
theorem vbR_no {v : Val} (h : ¬ (vbR v).2 = 0) : valOk v = false := by
  cases h2 : valOk v
  · rfl
  · exact absurd (by rw [vbR, if_pos h2]) h
theorem same_all {l m : List Val} (hl : l.length = m.length) (h : ∀ j, j < l.length → l.getD j v0 = m.getD j v0) : l = m := by
  apply List.ext_getElem hl
  intro i h1 h2
  have := h i h1
  simpa [List.getD, h1, h2] using this
theorem quote_from (s : List UInt8) (hp : ∀ b ∈ s, b.toNat < 128) : ∀ (f p : Nat), s.length ≤ p + f → quoteFrom ⟨s.toArray⟩ f p = (s.drop p).flatMap fun b => if b = 34 ∨ b = 92 then [92, b] else [b] := by
  intro f
  induction f with
  | zero => intro p h; rw [List.drop_of_length_le (by omega)]; rfl
  | succ f ih =>
    intro p h
    by_cases hlt : p < s.length
    · have hb := hp _ (getD_mem s p 0 hlt)
      have e := decode_lo hlt hb
      have hsz : p < (ByteArray.mk s.toArray).size := by rw [size_mk]; exact hlt
      rw [quoteFrom, if_pos hsz, e, ih (p + 1) (by omega), drop_getD s p hlt, List.flatMap_cons]
      congr 1
      generalize s.getD p 0 = b at *
      have h1 : Lib.encodeRune ((b.toNat : Nat) : Int) = [b] := by
        rw [Lib.encodeRune, Lib.encodeRuneZ_one (by omega) (by omega)]; simp
      rw [h1]
      have h34 : (b.toNat = 34) ↔ b = 34 := ⟨fun h => UInt8.toNat_inj.1 h, fun h => by rw [h]; rfl⟩
      have h92 : (b.toNat = 92) ↔ b = 92 := ⟨fun h => UInt8.toNat_inj.1 h, fun h => by rw [h]; rfl⟩
      simp only [h34, h92]
      split <;> rfl
    · rw [List.drop_of_length_le (by omega), quoteFrom, if_neg (by rw [size_mk]; exact hlt)]; rfl
theorem plain_128 {s : List UInt8} (hp : plainS s = true) : ∀ b ∈ s, b.toNat < 128 := by
  intro b hb
  simp only [plainS, Bool.and_eq_true, List.all_eq_true, decide_eq_true_eq] at hp
  have := (hp.2 b hb).2
  omega
theorem c_quote (s : List UInt8) (hp : plainS s = true) (w0 : World) (h0 : View) (hv : VLe h0 (Full w0)) : Calls Tryd.prog 26 #[vs s] w0 (Ret w0 h0 fun u _ => u = vs (quS s)) := by
  have h4 := plain_40 hp
  have h := quote_walk ⟨s.toArray⟩ w0 (by rw [size_mk]; omega)
  rw [quote_from s (plain_128 hp) _ 0 (by rw [size_mk]; omega)] at h
  exact calls_below h

theorem c_RPlain (s : List UInt8) (hs : s.length ≤ 9223372036854775807) (w0 : World) (h0 : View) (hv : VLe h0 (Full w0))  : Calls Tryd.prog 30 #[vs s] w0 (Ret w0 h0 fun u _ => u = .bool (plainS s)) := by
  refine f_enter (args := [vs s]) Tryd.func30 rfl Tryd.ntmps30 rfl fun a hF => ?_
  have hS := St.init w0 h0 hv
  refine c_seq ?_
  refine c_reg ?_
  refine s_pu hF (pu_assign rfl) rfl ?_; clear hF; intro a hF
  refine c_nil ?_
  refine n_then ?_
  refine c_seq ?_
  refine c_seq ?_
  refine c_reg ?_
  refine s_pu hF (pu_assign rfl) rfl ?_; clear hF; intro a hF
  refine c_nil ?_
  refine n_then ?_
  refine c_block ?_
  refine hS.cut fun O0 F0 hO0 hF0 hS => ?_
  refine hF.cut (.cons (k := 3) rfl <| .nil) (.cons (k := 0) rfl <| .nil) fun L0 hL0 hF => ?_
  refine c_loop (α := Nat) (fun k a w => k ≤ s.length ∧ (∀ j, j < k → plB (s.getD j 0) = true) ∧ Fr a 23 ([(3, .val (.int .i64 (k : Nat)))] ++ L0) ∧ St w0 h0 [] w O0 F0) (fun k => s.length - k) 0 (⟨Nat.zero_le _, fun j hj => absurd hj (Nat.not_lt_zero j), hF, hS⟩) ?_
  subst hO0 hF0 hL0
  rintro k a w ⟨hk, hn, hF, hS⟩
  refine c_seq ?_
  refine c_seq ?_
  refine c_reg ?_
  refine s_pu hF (pu_move rfl) rfl ?_; clear hF; intro a hF
  refine s_pu hF (pu_move rfl) rfl ?_; clear hF; intro a hF
  refine s_pu hF (pu_len_s tyS9 rfl rfl) rfl ?_; clear hF; intro a hF
  refine s_pu hF (pu_ilt rfl rfl) rfl ?_; clear hF; intro a hF
  refine c_nil ?_
  refine n_then ?_
  refine c_if hF rfl (fun hc7 => ?_) (fun hc7 => ?_)
  · try simp only [decide_eq_true_eq, decide_eq_false_iff_not, Bool.not_eq_true', Bool.not_eq_false', Bool.not_eq_eq_eq_not, Bool.not_true, Bool.not_false] at hc7
    refine c_skip ?_
    refine n_then ?_
    refine c_seq ?_
    refine c_block ?_
    refine c_seq ?_
    refine c_reg ?_
    refine s_pu hF (pu_move rfl) rfl ?_; clear hF; intro a hF
    refine s_pu hF (pu_move rfl) rfl ?_; clear hF; intro a hF
    refine s_pu hF (pu_idxn tyS9 rfl rfl rfl (by omega)) rfl ?_; clear hF; intro a hF
    refine s_pu hF (pu_ilt rfl rfl) rfl ?_; clear hF; intro a hF
    refine s_pu hF (pu_move rfl) rfl ?_; clear hF; intro a hF
    refine w_split hF ⟨_, _, (rfl : _[4]? = some _), rfl, rfl⟩ (fun hg4_4 => ?_) (fun hg4_4 => ?_)
    · have hg4_4p := hg4_4
      try simp only [decide_eq_true_eq, decide_eq_false_iff_not, Bool.not_eq_true', Bool.not_eq_false', Bool.not_eq_eq_eq_not, Bool.not_true, Bool.not_false] at hg4_4p
      refine g_no hF ⟨_, _, (rfl : _[4]? = some _), rfl, rfl⟩ hg4_4 rfl ?_; clear hF; intro a hF
      refine g_no hF ⟨_, _, (rfl : _[4]? = some _), rfl, rfl⟩ hg4_4 rfl ?_; clear hF; intro a hF
      refine g_no hF ⟨_, _, (rfl : _[4]? = some _), rfl, rfl⟩ hg4_4 rfl ?_; clear hF; intro a hF
      refine g_no hF ⟨_, _, (rfl : _[4]? = some _), rfl, rfl⟩ hg4_4 rfl ?_; clear hF; intro a hF
      refine s_pu hF (pu_pick_t rfl hg4_4 rfl) rfl ?_; clear hF; intro a hF
      refine c_nil ?_
      refine n_then ?_
      refine c_ift hF rfl rfl ?_
      refine c_seq ?_
      refine c_reg ?_
      refine s_pu hF (pu_assign rfl) rfl ?_; clear hF; intro a hF
      refine c_nil ?_
      refine n_then ?_
      refine c_ret (r_block (r_then (r_then (r_block (r_then ?_)))))
      exact f_ret hF rfl (.tmp rfl (.nil)) (hS.retv (congrArg Value.bool (plain_no (k := k) (by omega) (by first | exact .inl hg4_4p | (right; omega))).symm))
    · have hg4_4p := hg4_4
      try simp only [decide_eq_true_eq, decide_eq_false_iff_not, Bool.not_eq_true', Bool.not_eq_false', Bool.not_eq_eq_eq_not, Bool.not_true, Bool.not_false] at hg4_4p
      refine g_pu hF ⟨_, _, (rfl : _[4]? = some _), rfl, rfl⟩ hg4_4 (pu_move rfl) rfl ?_; clear hF; intro a hF
      refine g_pu hF ⟨_, _, (rfl : _[4]? = some _), rfl, rfl⟩ hg4_4 (pu_move rfl) rfl ?_; clear hF; intro a hF
      refine g_pu hF ⟨_, _, (rfl : _[4]? = some _), rfl, rfl⟩ hg4_4 (pu_idxn tyS9 rfl rfl rfl (by omega)) rfl ?_; clear hF; intro a hF
      refine g_pu hF ⟨_, _, (rfl : _[4]? = some _), rfl, rfl⟩ hg4_4 (pu_igt rfl rfl) rfl ?_; clear hF; intro a hF
      refine s_pu hF (pu_pick_f rfl hg4_4 rfl) rfl ?_; clear hF; intro a hF
      refine c_nil ?_
      refine n_then ?_
      refine c_if hF rfl (fun hc19 => ?_) (fun hc19 => ?_)
      · try simp only [decide_eq_true_eq, decide_eq_false_iff_not, Bool.not_eq_true', Bool.not_eq_false', Bool.not_eq_eq_eq_not, Bool.not_true, Bool.not_false] at hc19
        refine c_seq ?_
        refine c_reg ?_
        refine s_pu hF (pu_assign rfl) rfl ?_; clear hF; intro a hF
        refine c_nil ?_
        refine n_then ?_
        refine c_ret (r_block (r_then (r_then (r_block (r_then ?_)))))
        exact f_ret hF rfl (.tmp rfl (.nil)) (hS.retv (congrArg Value.bool (plain_no (k := k) (by omega) (by first | exact .inl hg4_4p | (right; omega))).symm))
      · try simp only [decide_eq_true_eq, decide_eq_false_iff_not, Bool.not_eq_true', Bool.not_eq_false', Bool.not_eq_eq_eq_not, Bool.not_true, Bool.not_false] at hc19
        refine c_skip ?_
        refine n_block ?_
        refine n_then ?_
        refine c_reg ?_
        refine s_pu hF (pu_move rfl) rfl ?_; clear hF; intro a hF
        refine s_pu hF (pu_add rfl rfl (by first | exact wrap_i64 (by omega) (by omega) | rfl)) rfl ?_; clear hF; intro a hF
        refine s_pu hF (pu_assign rfl) rfl ?_; clear hF; intro a hF
        refine c_nil ?_
        exact ⟨k + 1, ⟨by omega, upto_snoc hn (pl_yes (by omega) (by omega)), hF.pick (.cons (k := 3) rfl <| .cons (k := 0) rfl <| .nil), hS⟩, by omega⟩
  · try simp only [decide_eq_true_eq, decide_eq_false_iff_not, Bool.not_eq_true', Bool.not_eq_false', Bool.not_eq_eq_eq_not, Bool.not_true, Bool.not_false] at hc7
    refine c_exit (x_then (x_then (x_here ?_)))
    refine n_then ?_
    refine c_seq ?_
    refine c_reg ?_
    refine s_pu hF (pu_move rfl) rfl ?_; clear hF; intro a hF
    refine s_pu hF (pu_len_s tyS9 rfl rfl) rfl ?_; clear hF; intro a hF
    refine s_pu hF (pu_ile rfl rfl) rfl ?_; clear hF; intro a hF
    refine s_pu hF (pu_assign rfl) rfl ?_; clear hF; intro a hF
    refine c_nil ?_
    refine n_then ?_
    refine c_ret ?_
    exact f_ret hF rfl (.tmp rfl (.nil)) (hS.retv (congrArg Value.bool (plain_len s (fun j hj => hn j (by omega)))))
theorem c_plain (s : List UInt8) (w0 : World) (h0 : View) (hv : VLe h0 (Full w0))  : Calls Tryd.prog 31 #[vs s] w0 (Ret w0 h0 fun u _ => u = .bool (plainS s)) := by
  refine f_enter (args := [vs s]) Tryd.func31 rfl Tryd.ntmps31 rfl fun a hF => ?_
  have hS := St.init w0 h0 hv
  refine c_seq ?_
  refine c_reg ?_
  refine s_pu hF (pu_assign rfl) rfl ?_; clear hF; intro a hF
  refine c_nil ?_
  refine n_then ?_
  refine c_seq ?_
  refine c_seq ?_
  refine c_reg ?_
  refine s_pu hF (pu_move rfl) rfl ?_; clear hF; intro a hF
  refine s_pu hF (pu_len_s tyS9 rfl rfl) rfl ?_; clear hF; intro a hF
  refine s_pu hF (pu_igt rfl rfl) rfl ?_; clear hF; intro a hF
  refine c_nil ?_
  refine n_then ?_
  refine c_if hF rfl (fun hc7 => ?_) (fun hc7 => ?_)
  · try simp only [decide_eq_true_eq, decide_eq_false_iff_not, Bool.not_eq_true', Bool.not_eq_false', Bool.not_eq_eq_eq_not, Bool.not_true, Bool.not_false] at hc7
    have hlong := hc7
    refine c_seq ?_
    refine c_reg ?_
    refine s_pu hF (pu_assign rfl) rfl ?_; clear hF; intro a hF
    refine c_nil ?_
    refine n_then ?_
    refine c_ret (r_then ?_)
    exact f_ret hF rfl (.tmp rfl (.nil)) (hS.retv (congrArg Value.bool (plain_long (by omega)).symm))
  · try simp only [decide_eq_true_eq, decide_eq_false_iff_not, Bool.not_eq_true', Bool.not_eq_false', Bool.not_eq_eq_eq_not, Bool.not_true, Bool.not_false] at hc7
    refine c_skip ?_
    refine n_then ?_
    refine c_seq ?_
    refine c_seq ?_
    refine c_reg ?_
    refine s_pu hF (pu_move rfl) rfl ?_; clear hF; intro a hF
    refine s_range hF hS tyS9 rfl rfl ?_; clear hS hF; intro b0 w a hS hF
    refine c_nil ?_
    refine n_then ?_
    refine c_block ?_
    refine hS.cut fun O0 F0 hO0 hF0 hS => ?_
    subst hO0
    refine hF.cut (.nil) (.cons (k := 9) rfl <| .nil) fun L0 hL0 hF => ?_
    refine c_loop (α := Nat) (fun k a w => k ≤ s.length ∧ (∀ j, j < k → plB (s.getD j 0) = true) ∧ Fr a 19 ([] ++ L0) ∧ St w0 h0 [] w [(some b0, IterC s k)] F0) (fun k => s.length - k) 0 (⟨Nat.zero_le _, fun j hj => absurd hj (Nat.not_lt_zero j), hF, hS⟩) ?_
    subst hF0 hL0
    rintro k a w ⟨hk, hn, hF, hS⟩
    refine c_seq ?_
    refine c_reg ?_
    refine s_next (i := 0) hF hS rfl rfl rfl (fun hnx w a hS hF => ?_) (fun hnx a hF => ?_)
    · skip
      refine s_pu hF (pu_extract rfl rfl) rfl ?_; clear hF; intro a hF
      refine c_nil ?_
      refine n_then ?_
      refine c_seq ?_
      refine c_ift hF rfl rfl ?_
      refine c_skip ?_
      refine n_then ?_
      refine c_block ?_
      refine c_seq ?_
      refine c_reg ?_
      refine s_pu hF (pu_extract rfl rfl) rfl ?_; clear hF; intro a hF
      refine s_pu hF (pu_assign rfl) rfl ?_; clear hF; intro a hF
      refine c_nil ?_
      refine n_then ?_
      refine c_seq ?_
      refine c_reg ?_
      refine s_pu hF (pu_move rfl) rfl ?_; clear hF; intro a hF
      refine s_pu hF (pu_ilt rfl rfl) rfl ?_; clear hF; intro a hF
      refine s_pu hF (pu_move rfl) rfl ?_; clear hF; intro a hF
      refine w_split hF ⟨_, _, (rfl : _[2]? = some _), rfl, rfl⟩ (fun hg6_2 => ?_) (fun hg6_2 => ?_)
      · have hg6_2p := hg6_2
        try simp only [decide_eq_true_eq, decide_eq_false_iff_not, Bool.not_eq_true', Bool.not_eq_false', Bool.not_eq_eq_eq_not, Bool.not_true, Bool.not_false] at hg6_2p
        refine g_no hF ⟨_, _, (rfl : _[2]? = some _), rfl, rfl⟩ hg6_2 rfl ?_; clear hF; intro a hF
        refine g_no hF ⟨_, _, (rfl : _[2]? = some _), rfl, rfl⟩ hg6_2 rfl ?_; clear hF; intro a hF
        refine s_pu hF (pu_pick_t rfl hg6_2 rfl) rfl ?_; clear hF; intro a hF
        refine c_nil ?_
        refine n_then ?_
        refine c_ift hF rfl rfl ?_
        refine c_seq ?_
        refine c_reg ?_
        refine s_pu hF (pu_assign rfl) rfl ?_; clear hF; intro a hF
        refine c_nil ?_
        refine n_then ?_
        refine c_ret (r_block (r_then (r_block (r_then ?_))))
        exact f_ret hF rfl (.tmp rfl (.nil)) (hS.retv (congrArg Value.bool (plain_not (k := k) (by omega) (dec_bad (s := s) (k := k) hnx (by first | exact .inl hg6_2p | (right; omega)))).symm))
      · have hg6_2p := hg6_2
        try simp only [decide_eq_true_eq, decide_eq_false_iff_not, Bool.not_eq_true', Bool.not_eq_false', Bool.not_eq_eq_eq_not, Bool.not_true, Bool.not_false] at hg6_2p
        refine g_pu hF ⟨_, _, (rfl : _[2]? = some _), rfl, rfl⟩ hg6_2 (pu_move rfl) rfl ?_; clear hF; intro a hF
        refine g_pu hF ⟨_, _, (rfl : _[2]? = some _), rfl, rfl⟩ hg6_2 (pu_igt rfl rfl) rfl ?_; clear hF; intro a hF
        refine s_pu hF (pu_pick_f rfl hg6_2 rfl) rfl ?_; clear hF; intro a hF
        refine c_nil ?_
        refine n_then ?_
        refine c_if hF rfl (fun hc18 => ?_) (fun hc18 => ?_)
        · try simp only [decide_eq_true_eq, decide_eq_false_iff_not, Bool.not_eq_true', Bool.not_eq_false', Bool.not_eq_eq_eq_not, Bool.not_true, Bool.not_false] at hc18
          refine c_seq ?_
          refine c_reg ?_
          refine s_pu hF (pu_assign rfl) rfl ?_; clear hF; intro a hF
          refine c_nil ?_
          refine n_then ?_
          refine c_ret (r_block (r_then (r_block (r_then ?_))))
          exact f_ret hF rfl (.tmp rfl (.nil)) (hS.retv (congrArg Value.bool (plain_not (k := k) (by omega) (dec_bad (s := s) (k := k) hnx (by first | exact .inl hg6_2p | (right; omega)))).symm))
        · try simp only [decide_eq_true_eq, decide_eq_false_iff_not, Bool.not_eq_true', Bool.not_eq_false', Bool.not_eq_eq_eq_not, Bool.not_true, Bool.not_false] at hc18
          refine c_skip ?_
          refine n_block ?_
          obtain ⟨e1, e2⟩ := dec_plain (s := s) (k := k) hnx (by omega) (by omega)
          rw [e2] at hS
          exact ⟨k + 1, ⟨by omega, upto_snoc hn e1, hF.pick (.cons (k := 9) rfl <| .nil), hS⟩, by omega⟩
    · skip
      refine s_pu hF (pu_extract rfl rfl) rfl ?_; clear hF; intro a hF
      refine c_nil ?_
      refine n_then ?_
      refine c_seq ?_
      refine c_iff hF rfl rfl ?_
      refine c_exit (x_then (x_then (x_here ?_)))
      refine n_then ?_
      refine c_seq ?_
      refine c_reg ?_
      refine s_pu hF (pu_assign rfl) rfl ?_; clear hF; intro a hF
      refine c_nil ?_
      refine n_then ?_
      refine c_ret ?_
      exact f_ret hF rfl (.tmp rfl (.nil)) (hS.retv (congrArg Value.bool (plain_all (by omega) (fun j hj => hn j (by omega))).symm))
theorem c_RRight (v : Val) (hs : v.s.length ≤ 9223372036854775807) (w0 : World) (h0 : View) (hv : VLe h0 (Full w0))  : Calls Tryd.prog 11 #[.agg (valC v).toArray] w0 (Ret w0 h0 fun u _ => u = .bool (valOk v)) := by
  refine f_enter (args := [.agg (valC v).toArray]) Tryd.func11 rfl Tryd.ntmps11 rfl fun a hF => ?_
  have hS := St.init w0 h0 hv
  refine c_seq ?_
  refine c_reg ?_
  refine s_box hF hS rfl rfl rfl ?_; clear hS hF; intro b0 w a hS hF
  refine s_pu hF (pu_assign rfl) rfl ?_; clear hF; intro a hF
  refine c_nil ?_
  refine n_then ?_
  refine c_seq ?_
  refine c_seq ?_
  refine c_reg ?_
  refine s_pu hF (pu_faddr fld24_0 rfl) rfl ?_; clear hF; intro a hF
  refine s_pu hF (o_load1 (i := 0) hS rfl one22 rfl rfl) rfl ?_; clear hF; intro a hF
  refine c_nil ?_
  refine n_then ?_
  refine c_block ?_
  refine c_seq ?_
  refine c_reg ?_
  refine s_pu hF (pu_ieq rfl rfl) rfl ?_; clear hF; intro a hF
  refine s_pu hF (pu_assign rfl) rfl ?_; clear hF; intro a hF
  refine c_nil ?_
  refine n_then ?_
  refine c_if hF rfl (fun hc5 => ?_) (fun hc5 => ?_)
  · try simp only [decide_eq_true_eq, decide_eq_false_iff_not, Bool.not_eq_true', Bool.not_eq_false', Bool.not_eq_eq_eq_not, Bool.not_true, Bool.not_false] at hc5
    refine c_seq ?_
    refine c_reg ?_
    refine s_pu hF (pu_faddr fld24_1 rfl) rfl ?_; clear hF; intro a hF
    refine s_pu hF (o_load1 (i := 0) hS rfl one3 rfl rfl) rfl ?_; clear hF; intro a hF
    refine s_pu hF (pu_ieq rfl rfl) rfl ?_; clear hF; intro a hF
    refine s_pu hF (pu_move rfl) rfl ?_; clear hF; intro a hF
    refine w_split hF ⟨_, _, (rfl : _[3]? = some _), rfl, rfl⟩ (fun hg3_3 => ?_) (fun hg3_3 => ?_)
    · have hg3_3p := hg3_3
      try simp only [decide_eq_true_eq, decide_eq_false_iff_not, Bool.not_eq_true', Bool.not_eq_false', Bool.not_eq_eq_eq_not, Bool.not_true, Bool.not_false] at hg3_3p
      refine g_pu hF ⟨_, _, (rfl : _[3]? = some _), rfl, rfl⟩ hg3_3 (pu_faddr fld24_2 rfl) rfl ?_; clear hF; intro a hF
      refine g_pu hF ⟨_, _, (rfl : _[3]? = some _), rfl, rfl⟩ hg3_3 (o_load1 (i := 0) hS rfl one9 rfl rfl) rfl ?_; clear hF; intro a hF
      refine g_pu hF ⟨_, _, (rfl : _[3]? = some _), rfl, rfl⟩ hg3_3 (pu_seq rfl rfl) rfl ?_; clear hF; intro a hF
      refine s_pu hF (pu_pick_t rfl hg3_3 rfl) rfl ?_; clear hF; intro a hF
      refine s_pu hF (pu_assign rfl) rfl ?_; clear hF; intro a hF
      refine c_nil ?_
      refine n_then ?_
      refine c_ret (r_block (r_then ?_))
      exact f_ret hF rfl (.tmp rfl (.nil)) (hS.retv (congrArg Value.bool (by simp_all [valOk])))
    · have hg3_3p := hg3_3
      try simp only [decide_eq_true_eq, decide_eq_false_iff_not, Bool.not_eq_true', Bool.not_eq_false', Bool.not_eq_eq_eq_not, Bool.not_true, Bool.not_false] at hg3_3p
      refine g_no hF ⟨_, _, (rfl : _[3]? = some _), rfl, rfl⟩ hg3_3 rfl ?_; clear hF; intro a hF
      refine g_no hF ⟨_, _, (rfl : _[3]? = some _), rfl, rfl⟩ hg3_3 rfl ?_; clear hF; intro a hF
      refine g_no hF ⟨_, _, (rfl : _[3]? = some _), rfl, rfl⟩ hg3_3 rfl ?_; clear hF; intro a hF
      refine s_pu hF (pu_pick_f rfl hg3_3 rfl) rfl ?_; clear hF; intro a hF
      refine s_pu hF (pu_assign rfl) rfl ?_; clear hF; intro a hF
      refine c_nil ?_
      refine n_then ?_
      refine c_ret (r_block (r_then ?_))
      exact f_ret hF rfl (.tmp rfl (.nil)) (hS.retv (congrArg Value.bool (by simp_all [valOk])))
  · try simp only [decide_eq_true_eq, decide_eq_false_iff_not, Bool.not_eq_true', Bool.not_eq_false', Bool.not_eq_eq_eq_not, Bool.not_true, Bool.not_false] at hc5
    refine c_seq ?_
    refine c_reg ?_
    refine s_pu hF (pu_ieq rfl rfl) rfl ?_; clear hF; intro a hF
    refine s_pu hF (pu_assign rfl) rfl ?_; clear hF; intro a hF
    refine c_nil ?_
    refine n_then ?_
    refine c_if hF rfl (fun hc15 => ?_) (fun hc15 => ?_)
    · try simp only [decide_eq_true_eq, decide_eq_false_iff_not, Bool.not_eq_true', Bool.not_eq_false', Bool.not_eq_eq_eq_not, Bool.not_true, Bool.not_false] at hc15
      refine c_seq ?_
      refine c_reg ?_
      refine s_pu hF (pu_faddr fld24_2 rfl) rfl ?_; clear hF; intro a hF
      refine s_pu hF (o_load1 (i := 0) hS rfl one9 rfl rfl) rfl ?_; clear hF; intro a hF
      refine s_pu hF (pu_seq rfl rfl) rfl ?_; clear hF; intro a hF
      refine s_pu hF (pu_assign rfl) rfl ?_; clear hF; intro a hF
      refine c_nil ?_
      refine n_then ?_
      refine c_ret (r_block (r_then ?_))
      exact f_ret hF rfl (.tmp rfl (.nil)) (hS.retv (congrArg Value.bool (by simp_all [valOk])))
    · try simp only [decide_eq_true_eq, decide_eq_false_iff_not, Bool.not_eq_true', Bool.not_eq_false', Bool.not_eq_eq_eq_not, Bool.not_true, Bool.not_false] at hc15
      refine c_seq ?_
      refine c_reg ?_
      refine s_pu hF (pu_ieq rfl rfl) rfl ?_; clear hF; intro a hF
      refine s_pu hF (pu_assign rfl) rfl ?_; clear hF; intro a hF
      refine c_nil ?_
      refine n_then ?_
      refine c_if hF rfl (fun hc20 => ?_) (fun hc20 => ?_)
      · try simp only [decide_eq_true_eq, decide_eq_false_iff_not, Bool.not_eq_true', Bool.not_eq_false', Bool.not_eq_eq_eq_not, Bool.not_true, Bool.not_false] at hc20
        refine c_seq ?_
        refine c_reg ?_
        refine s_pu hF (pu_faddr fld24_1 rfl) rfl ?_; clear hF; intro a hF
        refine s_pu hF (o_load1 (i := 0) hS rfl one3 rfl rfl) rfl ?_; clear hF; intro a hF
        refine s_pu hF (pu_ieq rfl rfl) rfl ?_; clear hF; intro a hF
        refine s_pu hF (pu_move rfl) rfl ?_; clear hF; intro a hF
        refine w_split hF ⟨_, _, (rfl : _[3]? = some _), rfl, rfl⟩ (fun hg7_3 => ?_) (fun hg7_3 => ?_)
        · have hg7_3p := hg7_3
          try simp only [decide_eq_true_eq, decide_eq_false_iff_not, Bool.not_eq_true', Bool.not_eq_false', Bool.not_eq_eq_eq_not, Bool.not_true, Bool.not_false] at hg7_3p
          refine g_pu hF ⟨_, _, (rfl : _[3]? = some _), rfl, rfl⟩ hg7_3 (pu_faddr fld24_2 rfl) rfl ?_; clear hF; intro a hF
          refine g_pu hF ⟨_, _, (rfl : _[3]? = some _), rfl, rfl⟩ hg7_3 (o_load1 (i := 0) hS rfl one9 rfl rfl) rfl ?_; clear hF; intro a hF
          refine g_callv hF hS ⟨_, _, (rfl : _[3]? = some _), rfl, rfl⟩ hg7_3 ok30 rfl (c_RPlain v.s hs _ _ hS.view) rfl ?_; clear hS hF; intro w a hS hF
          refine s_pu hF (pu_pick_t rfl hg7_3 rfl) rfl ?_; clear hF; intro a hF
          refine s_pu hF (pu_assign rfl) rfl ?_; clear hF; intro a hF
          refine c_nil ?_
          refine n_then ?_
          refine c_ret (r_block (r_then ?_))
          exact f_ret hF rfl (.tmp rfl (.nil)) (hS.retv (congrArg Value.bool (by simp_all [valOk])))
        · have hg7_3p := hg7_3
          try simp only [decide_eq_true_eq, decide_eq_false_iff_not, Bool.not_eq_true', Bool.not_eq_false', Bool.not_eq_eq_eq_not, Bool.not_true, Bool.not_false] at hg7_3p
          refine g_no hF ⟨_, _, (rfl : _[3]? = some _), rfl, rfl⟩ hg7_3 rfl ?_; clear hF; intro a hF
          refine g_no hF ⟨_, _, (rfl : _[3]? = some _), rfl, rfl⟩ hg7_3 rfl ?_; clear hF; intro a hF
          refine g_no hF ⟨_, _, (rfl : _[3]? = some _), rfl, rfl⟩ hg7_3 rfl ?_; clear hF; intro a hF
          refine s_pu hF (pu_pick_f rfl hg7_3 rfl) rfl ?_; clear hF; intro a hF
          refine s_pu hF (pu_assign rfl) rfl ?_; clear hF; intro a hF
          refine c_nil ?_
          refine n_then ?_
          refine c_ret (r_block (r_then ?_))
          exact f_ret hF rfl (.tmp rfl (.nil)) (hS.retv (congrArg Value.bool (by simp_all [valOk])))
      · try simp only [decide_eq_true_eq, decide_eq_false_iff_not, Bool.not_eq_true', Bool.not_eq_false', Bool.not_eq_eq_eq_not, Bool.not_true, Bool.not_false] at hc20
        refine c_seq ?_
        refine c_reg ?_
        refine s_pu hF (pu_ieq rfl rfl) rfl ?_; clear hF; intro a hF
        refine s_pu hF (pu_assign rfl) rfl ?_; clear hF; intro a hF
        refine c_nil ?_
        refine n_then ?_
        refine c_if hF rfl (fun hc30 => ?_) (fun hc30 => ?_)
        · try simp only [decide_eq_true_eq, decide_eq_false_iff_not, Bool.not_eq_true', Bool.not_eq_false', Bool.not_eq_eq_eq_not, Bool.not_true, Bool.not_false] at hc30
          refine c_seq ?_
          refine c_reg ?_
          refine s_pu hF (pu_faddr fld24_2 rfl) rfl ?_; clear hF; intro a hF
          refine s_pu hF (o_load1 (i := 0) hS rfl one9 rfl rfl) rfl ?_; clear hF; intro a hF
          refine s_pu hF (pu_seq rfl rfl) rfl ?_; clear hF; intro a hF
          refine s_pu hF (pu_move rfl) rfl ?_; clear hF; intro a hF
          refine w_split hF ⟨_, _, (rfl : _[3]? = some _), rfl, rfl⟩ (fun hg9_3 => ?_) (fun hg9_3 => ?_)
          · have hg9_3p := hg9_3
            try simp only [decide_eq_true_eq, decide_eq_false_iff_not, Bool.not_eq_true', Bool.not_eq_false', Bool.not_eq_eq_eq_not, Bool.not_true, Bool.not_false] at hg9_3p
            refine g_pu hF ⟨_, _, (rfl : _[3]? = some _), rfl, rfl⟩ hg9_3 (pu_faddr fld24_1 rfl) rfl ?_; clear hF; intro a hF
            refine g_pu hF ⟨_, _, (rfl : _[3]? = some _), rfl, rfl⟩ hg9_3 (o_load1 (i := 0) hS rfl one3 rfl rfl) rfl ?_; clear hF; intro a hF
            refine g_pu hF ⟨_, _, (rfl : _[3]? = some _), rfl, rfl⟩ hg9_3 (pu_ieq rfl rfl) rfl ?_; clear hF; intro a hF
            refine g_pu hF ⟨_, _, (rfl : _[3]? = some _), rfl, rfl⟩ hg9_3 (pu_move rfl) rfl ?_; clear hF; intro a hF
            refine w_split hF ⟨_, _, (rfl : _[7]? = some _), rfl, rfl⟩ (fun hg9_7 => ?_) (fun hg9_7 => ?_)
            · have hg9_7p := hg9_7
              try simp only [decide_eq_true_eq, decide_eq_false_iff_not, Bool.not_eq_true', Bool.not_eq_false', Bool.not_eq_eq_eq_not, Bool.not_true, Bool.not_false] at hg9_7p
              refine g_no hF ⟨_, _, (rfl : _[7]? = some _), rfl, rfl⟩ hg9_7 rfl ?_; clear hF; intro a hF
              refine g_no hF ⟨_, _, (rfl : _[7]? = some _), rfl, rfl⟩ hg9_7 rfl ?_; clear hF; intro a hF
              refine g_no hF ⟨_, _, (rfl : _[7]? = some _), rfl, rfl⟩ hg9_7 rfl ?_; clear hF; intro a hF
              refine g_pu hF ⟨_, _, (rfl : _[3]? = some _), rfl, rfl⟩ hg9_3 (pu_pick_t rfl hg9_7 rfl) rfl ?_; clear hF; intro a hF
              refine s_pu hF (pu_pick_t rfl hg9_3 rfl) rfl ?_; clear hF; intro a hF
              refine s_pu hF (pu_assign rfl) rfl ?_; clear hF; intro a hF
              refine c_nil ?_
              refine n_then ?_
              refine c_ret (r_block (r_then ?_))
              exact f_ret hF rfl (.tmp rfl (.nil)) (hS.retv (congrArg Value.bool (by simp_all [valOk])))
            · have hg9_7p := hg9_7
              try simp only [decide_eq_true_eq, decide_eq_false_iff_not, Bool.not_eq_true', Bool.not_eq_false', Bool.not_eq_eq_eq_not, Bool.not_true, Bool.not_false] at hg9_7p
              refine g_pu hF ⟨_, _, (rfl : _[7]? = some _), rfl, rfl⟩ hg9_7 (pu_faddr fld24_1 rfl) rfl ?_; clear hF; intro a hF
              refine g_pu hF ⟨_, _, (rfl : _[7]? = some _), rfl, rfl⟩ hg9_7 (o_load1 (i := 0) hS rfl one3 rfl rfl) rfl ?_; clear hF; intro a hF
              refine g_pu hF ⟨_, _, (rfl : _[7]? = some _), rfl, rfl⟩ hg9_7 (pu_ieq rfl rfl) rfl ?_; clear hF; intro a hF
              refine g_pu hF ⟨_, _, (rfl : _[3]? = some _), rfl, rfl⟩ hg9_3 (pu_pick_f rfl hg9_7 rfl) rfl ?_; clear hF; intro a hF
              refine s_pu hF (pu_pick_t rfl hg9_3 rfl) rfl ?_; clear hF; intro a hF
              refine s_pu hF (pu_assign rfl) rfl ?_; clear hF; intro a hF
              refine c_nil ?_
              refine n_then ?_
              refine c_ret (r_block (r_then ?_))
              exact f_ret hF rfl (.tmp rfl (.nil)) (hS.retv (congrArg Value.bool (by simp_all [valOk])))
          · have hg9_3p := hg9_3
            try simp only [decide_eq_true_eq, decide_eq_false_iff_not, Bool.not_eq_true', Bool.not_eq_false', Bool.not_eq_eq_eq_not, Bool.not_true, Bool.not_false] at hg9_3p
            refine g_no hF ⟨_, _, (rfl : _[3]? = some _), rfl, rfl⟩ hg9_3 rfl ?_; clear hF; intro a hF
            refine g_no hF ⟨_, _, (rfl : _[3]? = some _), rfl, rfl⟩ hg9_3 rfl ?_; clear hF; intro a hF
            refine g_no hF ⟨_, _, (rfl : _[3]? = some _), rfl, rfl⟩ hg9_3 rfl ?_; clear hF; intro a hF
            refine g_no hF ⟨_, _, (rfl : _[3]? = some _), rfl, rfl⟩ hg9_3 rfl ?_; clear hF; intro a hF
            refine g_noU hF ⟨_, _, (rfl : _[7]? = some _), rfl, rfl⟩ rfl ?_; clear hF; intro a hF
            refine g_noU hF ⟨_, _, (rfl : _[7]? = some _), rfl, rfl⟩ rfl ?_; clear hF; intro a hF
            refine g_noU hF ⟨_, _, (rfl : _[7]? = some _), rfl, rfl⟩ rfl ?_; clear hF; intro a hF
            refine g_no hF ⟨_, _, (rfl : _[3]? = some _), rfl, rfl⟩ hg9_3 rfl ?_; clear hF; intro a hF
            refine s_pu hF (pu_pick_f rfl hg9_3 rfl) rfl ?_; clear hF; intro a hF
            refine s_pu hF (pu_assign rfl) rfl ?_; clear hF; intro a hF
            refine c_nil ?_
            refine n_then ?_
            refine c_ret (r_block (r_then ?_))
            exact f_ret hF rfl (.tmp rfl (.nil)) (hS.retv (congrArg Value.bool (by simp_all [valOk])))
        · try simp only [decide_eq_true_eq, decide_eq_false_iff_not, Bool.not_eq_true', Bool.not_eq_false', Bool.not_eq_eq_eq_not, Bool.not_true, Bool.not_false] at hc30
          refine c_skip ?_
          refine n_block ?_
          refine n_then ?_
          refine c_seq ?_
          refine c_reg ?_
          refine s_pu hF (pu_assign rfl) rfl ?_; clear hF; intro a hF
          refine c_nil ?_
          refine n_then ?_
          refine c_ret ?_
          exact f_ret hF rfl (.tmp rfl (.nil)) (hS.retv (congrArg Value.bool (by simp_all [valOk])))
theorem c_VCheck (v : Val) (hvb : valB v) (w0 : World) (h0 : View) (hv : VLe h0 (Full w0))  : Calls Tryd.prog 12 #[.agg (valC v).toArray] w0 (Ret w0 h0 fun u _ => u = .int .i64 (chkV v)) := by
  refine f_enter (args := [.agg (valC v).toArray]) Tryd.func12 rfl Tryd.ntmps12 rfl fun a hF => ?_
  have hS := St.init w0 h0 hv
  refine c_seq ?_
  refine c_reg ?_
  refine s_box hF hS rfl rfl rfl ?_; clear hS hF; intro b0 w a hS hF
  refine s_pu hF (pu_assign rfl) rfl ?_; clear hF; intro a hF
  refine c_nil ?_
  refine n_then ?_
  refine c_seq ?_
  refine c_reg ?_
  refine s_pu hF (pu_assign rfl) rfl ?_; clear hF; intro a hF
  refine c_nil ?_
  refine n_then ?_
  refine hS.cut fun OK11 FK11 hOK11 hFK11 hS => ?_
  refine hF.cut .nil (.nil) fun LK11 hLK11 _ => ?_
  refine c_seq_cut (fun a w => ∃ (r : Bool), r = valOk v ∧ Fr a 39 ([(3, .val (.bool r))] ++ LK11) ∧ St w0 h0 [] w OK11 FK11) ?_ ?_
  · subst hOK11 hFK11 hLK11
    refine c_seq ?_
    refine c_reg ?_
    refine s_pu hF (pu_faddr fld24_0 rfl) rfl ?_; clear hF; intro a hF
    refine s_pu hF (o_load1 (i := 0) hS rfl one22 rfl rfl) rfl ?_; clear hF; intro a hF
    refine c_nil ?_
    refine n_then ?_
    refine c_block ?_
    refine c_seq ?_
    refine c_reg ?_
    refine s_pu hF (pu_ieq rfl rfl) rfl ?_; clear hF; intro a hF
    refine s_pu hF (pu_assign rfl) rfl ?_; clear hF; intro a hF
    refine c_nil ?_
    refine n_then ?_
    refine c_if hF rfl (fun hc6 => ?_) (fun hc6 => ?_)
    · try simp only [decide_eq_true_eq, decide_eq_false_iff_not, Bool.not_eq_true', Bool.not_eq_false', Bool.not_eq_eq_eq_not, Bool.not_true, Bool.not_false] at hc6
      refine c_reg ?_
      refine s_pu hF (o_loadA (i := 0) (new := valC v) hS rfl agg24 rfl (rfl)) rfl ?_; clear hF; intro a hF
      refine s_pu hF (pu_build_st (cs := valC v0) strb24 rfl rfl) rfl ?_; clear hF; intro a hF
      refine s_pu hF (pu_aeq (a := v) (b := v0) eqV rfl rfl) rfl ?_; clear hF; intro a hF
      refine s_pu hF (pu_assign rfl) rfl ?_; clear hF; intro a hF
      refine c_nil ?_
      refine n_block ?_
      refine n_then ?_
      exact ⟨_, by first | (obtain ⟨vk, vn, vt⟩ := v; simp_all [valOk, v0]; done) | (have e := andnot1 (h := hvb.2) (hr := rfl); simp_all [valOk]; done), hF.pick (.cons (k := 3) rfl <| .nil), hS⟩
    · try simp only [decide_eq_true_eq, decide_eq_false_iff_not, Bool.not_eq_true', Bool.not_eq_false', Bool.not_eq_eq_eq_not, Bool.not_true, Bool.not_false] at hc6
      refine c_seq ?_
      refine c_reg ?_
      refine s_pu hF (pu_ieq rfl rfl) rfl ?_; clear hF; intro a hF
      refine s_pu hF (pu_assign rfl) rfl ?_; clear hF; intro a hF
      refine c_nil ?_
      refine n_then ?_
      refine c_if hF rfl (fun hc11 => ?_) (fun hc11 => ?_)
      · try simp only [decide_eq_true_eq, decide_eq_false_iff_not, Bool.not_eq_true', Bool.not_eq_false', Bool.not_eq_eq_eq_not, Bool.not_true, Bool.not_false] at hc11
        refine c_reg ?_
        refine s_pu hF (pu_faddr fld24_2 rfl) rfl ?_; clear hF; intro a hF
        refine s_pu hF (o_load1 (i := 0) hS rfl one9 rfl rfl) rfl ?_; clear hF; intro a hF
        refine s_pu hF (pu_seq rfl rfl) rfl ?_; clear hF; intro a hF
        refine s_pu hF (pu_assign rfl) rfl ?_; clear hF; intro a hF
        refine c_nil ?_
        refine n_block ?_
        refine n_then ?_
        exact ⟨_, by first | (obtain ⟨vk, vn, vt⟩ := v; simp_all [valOk, v0]; done) | (have e := andnot1 (h := hvb.2) (hr := rfl); simp_all [valOk]; done), hF.pick (.cons (k := 3) rfl <| .nil), hS⟩
      · try simp only [decide_eq_true_eq, decide_eq_false_iff_not, Bool.not_eq_true', Bool.not_eq_false', Bool.not_eq_eq_eq_not, Bool.not_true, Bool.not_false] at hc11
        refine c_seq ?_
        refine c_reg ?_
        refine s_pu hF (pu_ieq rfl rfl) rfl ?_; clear hF; intro a hF
        refine s_pu hF (pu_assign rfl) rfl ?_; clear hF; intro a hF
        refine c_nil ?_
        refine n_then ?_
        refine c_if hF rfl (fun hc16 => ?_) (fun hc16 => ?_)
        · try simp only [decide_eq_true_eq, decide_eq_false_iff_not, Bool.not_eq_true', Bool.not_eq_false', Bool.not_eq_eq_eq_not, Bool.not_true, Bool.not_false] at hc16
          refine c_reg ?_
          refine s_pu hF (pu_faddr fld24_1 rfl) rfl ?_; clear hF; intro a hF
          refine s_pu hF (o_load1 (i := 0) hS rfl one3 rfl rfl) rfl ?_; clear hF; intro a hF
          refine s_pu hF (pu_ieq rfl rfl) rfl ?_; clear hF; intro a hF
          refine s_pu hF (pu_move rfl) rfl ?_; clear hF; intro a hF
          refine w_split hF ⟨_, _, (rfl : _[3]? = some _), rfl, rfl⟩ (fun hg8_3 => ?_) (fun hg8_3 => ?_)
          · have hg8_3p := hg8_3
            try simp only [decide_eq_true_eq, decide_eq_false_iff_not, Bool.not_eq_true', Bool.not_eq_false', Bool.not_eq_eq_eq_not, Bool.not_true, Bool.not_false] at hg8_3p
            refine g_pu hF ⟨_, _, (rfl : _[3]? = some _), rfl, rfl⟩ hg8_3 (pu_faddr fld24_2 rfl) rfl ?_; clear hF; intro a hF
            refine g_pu hF ⟨_, _, (rfl : _[3]? = some _), rfl, rfl⟩ hg8_3 (o_load1 (i := 0) hS rfl one9 rfl rfl) rfl ?_; clear hF; intro a hF
            refine g_callv hF hS ⟨_, _, (rfl : _[3]? = some _), rfl, rfl⟩ hg8_3 ok31 rfl (c_plain v.s _ _ hS.view) rfl ?_; clear hS hF; intro w a hS hF
            refine s_pu hF (pu_pick_t rfl hg8_3 rfl) rfl ?_; clear hF; intro a hF
            refine s_pu hF (pu_assign rfl) rfl ?_; clear hF; intro a hF
            refine c_nil ?_
            refine n_block ?_
            refine n_then ?_
            exact ⟨_, by first | (obtain ⟨vk, vn, vt⟩ := v; simp_all [valOk, v0]; done) | (have e := andnot1 (h := hvb.2) (hr := rfl); simp_all [valOk]; done), hF.pick (.cons (k := 3) rfl <| .nil), hS⟩
          · have hg8_3p := hg8_3
            try simp only [decide_eq_true_eq, decide_eq_false_iff_not, Bool.not_eq_true', Bool.not_eq_false', Bool.not_eq_eq_eq_not, Bool.not_true, Bool.not_false] at hg8_3p
            refine g_no hF ⟨_, _, (rfl : _[3]? = some _), rfl, rfl⟩ hg8_3 rfl ?_; clear hF; intro a hF
            refine g_no hF ⟨_, _, (rfl : _[3]? = some _), rfl, rfl⟩ hg8_3 rfl ?_; clear hF; intro a hF
            refine g_no hF ⟨_, _, (rfl : _[3]? = some _), rfl, rfl⟩ hg8_3 rfl ?_; clear hF; intro a hF
            refine s_pu hF (pu_pick_f rfl hg8_3 rfl) rfl ?_; clear hF; intro a hF
            refine s_pu hF (pu_assign rfl) rfl ?_; clear hF; intro a hF
            refine c_nil ?_
            refine n_block ?_
            refine n_then ?_
            exact ⟨_, by first | (obtain ⟨vk, vn, vt⟩ := v; simp_all [valOk, v0]; done) | (have e := andnot1 (h := hvb.2) (hr := rfl); simp_all [valOk]; done), hF.pick (.cons (k := 3) rfl <| .nil), hS⟩
        · try simp only [decide_eq_true_eq, decide_eq_false_iff_not, Bool.not_eq_true', Bool.not_eq_false', Bool.not_eq_eq_eq_not, Bool.not_true, Bool.not_false] at hc16
          refine c_seq ?_
          refine c_reg ?_
          refine s_pu hF (pu_ieq rfl rfl) rfl ?_; clear hF; intro a hF
          refine s_pu hF (pu_assign rfl) rfl ?_; clear hF; intro a hF
          refine c_nil ?_
          refine n_then ?_
          refine c_if hF rfl (fun hc26 => ?_) (fun hc26 => ?_)
          · try simp only [decide_eq_true_eq, decide_eq_false_iff_not, Bool.not_eq_true', Bool.not_eq_false', Bool.not_eq_eq_eq_not, Bool.not_true, Bool.not_false] at hc26
            refine c_reg ?_
            refine s_pu hF (pu_faddr fld24_2 rfl) rfl ?_; clear hF; intro a hF
            refine s_pu hF (o_load1 (i := 0) hS rfl one9 rfl rfl) rfl ?_; clear hF; intro a hF
            refine s_pu hF (pu_seq rfl rfl) rfl ?_; clear hF; intro a hF
            refine s_pu hF (pu_move rfl) rfl ?_; clear hF; intro a hF
            refine w_split hF ⟨_, _, (rfl : _[3]? = some _), rfl, rfl⟩ (fun hg10_3 => ?_) (fun hg10_3 => ?_)
            · have hg10_3p := hg10_3
              try simp only [decide_eq_true_eq, decide_eq_false_iff_not, Bool.not_eq_true', Bool.not_eq_false', Bool.not_eq_eq_eq_not, Bool.not_true, Bool.not_false] at hg10_3p
              refine g_pu hF ⟨_, _, (rfl : _[3]? = some _), rfl, rfl⟩ hg10_3 (pu_faddr fld24_1 rfl) rfl ?_; clear hF; intro a hF
              refine g_pu hF ⟨_, _, (rfl : _[3]? = some _), rfl, rfl⟩ hg10_3 (o_load1 (i := 0) hS rfl one3 rfl rfl) rfl ?_; clear hF; intro a hF
              refine g_pu hF ⟨_, _, (rfl : _[3]? = some _), rfl, rfl⟩ hg10_3 (pu_andnot rfl rfl rfl) rfl ?_; clear hF; intro a hF
              refine g_pu hF ⟨_, _, (rfl : _[3]? = some _), rfl, rfl⟩ hg10_3 (pu_ieq rfl rfl) rfl ?_; clear hF; intro a hF
              refine s_pu hF (pu_pick_t rfl hg10_3 rfl) rfl ?_; clear hF; intro a hF
              refine s_pu hF (pu_assign rfl) rfl ?_; clear hF; intro a hF
              refine c_nil ?_
              refine n_block ?_
              refine n_then ?_
              exact ⟨_, by first | (obtain ⟨vk, vn, vt⟩ := v; simp_all [valOk, v0]; done) | (have e := andnot1 (h := hvb.2) (hr := rfl); simp_all [valOk]; done), hF.pick (.cons (k := 3) rfl <| .nil), hS⟩
            · have hg10_3p := hg10_3
              try simp only [decide_eq_true_eq, decide_eq_false_iff_not, Bool.not_eq_true', Bool.not_eq_false', Bool.not_eq_eq_eq_not, Bool.not_true, Bool.not_false] at hg10_3p
              refine g_no hF ⟨_, _, (rfl : _[3]? = some _), rfl, rfl⟩ hg10_3 rfl ?_; clear hF; intro a hF
              refine g_no hF ⟨_, _, (rfl : _[3]? = some _), rfl, rfl⟩ hg10_3 rfl ?_; clear hF; intro a hF
              refine g_no hF ⟨_, _, (rfl : _[3]? = some _), rfl, rfl⟩ hg10_3 rfl ?_; clear hF; intro a hF
              refine g_no hF ⟨_, _, (rfl : _[3]? = some _), rfl, rfl⟩ hg10_3 rfl ?_; clear hF; intro a hF
              refine s_pu hF (pu_pick_f rfl hg10_3 rfl) rfl ?_; clear hF; intro a hF
              refine s_pu hF (pu_assign rfl) rfl ?_; clear hF; intro a hF
              refine c_nil ?_
              refine n_block ?_
              refine n_then ?_
              exact ⟨_, by first | (obtain ⟨vk, vn, vt⟩ := v; simp_all [valOk, v0]; done) | (have e := andnot1 (h := hvb.2) (hr := rfl); simp_all [valOk]; done), hF.pick (.cons (k := 3) rfl <| .nil), hS⟩
          · try simp only [decide_eq_true_eq, decide_eq_false_iff_not, Bool.not_eq_true', Bool.not_eq_false', Bool.not_eq_eq_eq_not, Bool.not_true, Bool.not_false] at hc26
            refine c_skip ?_
            refine n_block ?_
            refine n_then ?_
            exact ⟨_, by first | (obtain ⟨vk, vn, vt⟩ := v; simp_all [valOk, v0]; done) | (have e := andnot1 (h := hvb.2) (hr := rfl); simp_all [valOk]; done), hF.pick (.cons (k := 3) rfl <| .nil), hS⟩
  · subst hOK11 hFK11 hLK11
    rintro a w ⟨r, hr, hF, hS⟩
    refine c_seq ?_
    refine c_seq ?_
    refine c_reg ?_
    refine s_pu hF (pu_move rfl) rfl ?_; clear hF; intro a hF
    refine s_pu hF (pu_not rfl) rfl ?_; clear hF; intro a hF
    refine c_nil ?_
    refine n_then ?_
    refine c_if hF rfl (fun hc38 => ?_) (fun hc38 => ?_)
    · try simp only [decide_eq_true_eq, decide_eq_false_iff_not, Bool.not_eq_true', Bool.not_eq_false', Bool.not_eq_eq_eq_not, Bool.not_true, Bool.not_false] at hc38
      refine c_seq ?_
      refine c_reg ?_
      refine s_pu hF (pu_assign rfl) rfl ?_; clear hF; intro a hF
      refine c_nil ?_
      refine n_then ?_
      refine c_ret (r_then ?_)
      exact f_ret hF rfl (.tmp rfl (.nil)) (hS.retv (congrArg (Value.int .i64) (by rw [chkV, if_neg (by simp [← hr, hc38])])))
    · try simp only [decide_eq_true_eq, decide_eq_false_iff_not, Bool.not_eq_true', Bool.not_eq_false', Bool.not_eq_eq_eq_not, Bool.not_true, Bool.not_false] at hc38
      refine c_skip ?_
      refine n_then ?_
      refine c_seq ?_
      refine c_reg ?_
      refine s_pu hF (pu_assign rfl) rfl ?_; clear hF; intro a hF
      refine c_nil ?_
      refine n_then ?_
      refine c_ret ?_
      exact f_ret hF rfl (.tmp rfl (.nil)) (hS.retv (congrArg (Value.int .i64) (by rw [chkV, if_pos (by rw [← hr]; simpa using hc38)])))
theorem c_VBytes (v : Val) (hvb : valB v) (w0 : World) (h0 : View) (hv : VLe h0 (Full w0))  : Calls Tryd.prog 10 #[.agg (valC v).toArray] w0 (Ret w0 h0 fun u _ => u = tsV (vbR v)) := by
  refine f_enter (args := [.agg (valC v).toArray]) Tryd.func10 rfl Tryd.ntmps10 rfl fun a hF => ?_
  have hS := St.init w0 h0 hv
  refine c_seq ?_
  refine c_reg ?_
  refine s_box hF hS rfl rfl rfl ?_; clear hS hF; intro b0 w a hS hF
  refine s_pu hF (pu_assign rfl) rfl ?_; clear hF; intro a hF
  refine s_pu hF (pu_assign rfl) rfl ?_; clear hF; intro a hF
  refine c_nil ?_
  refine n_then ?_
  refine c_seq ?_
  refine c_seq ?_
  refine c_reg ?_
  refine s_pu hF (o_loadA (i := 0) (new := valC v) hS rfl agg24 rfl (rfl)) rfl ?_; clear hF; intro a hF
  refine s_callv hF hS ok12 rfl (c_VCheck v hvb _ _ hS.view) rfl ?_; clear hS hF; intro w a hS hF
  refine s_pu hF (pu_assign rfl) rfl ?_; clear hF; intro a hF
  refine c_nil ?_
  refine n_then ?_
  refine c_seq ?_
  refine c_reg ?_
  refine s_pu hF (pu_move rfl) rfl ?_; clear hF; intro a hF
  refine s_pu hF (pu_ine rfl rfl) rfl ?_; clear hF; intro a hF
  refine c_nil ?_
  refine n_then ?_
  refine c_if hF rfl (fun hc9 => ?_) (fun hc9 => ?_)
  · try simp only [decide_eq_true_eq, decide_eq_false_iff_not, Bool.not_eq_true', Bool.not_eq_false', Bool.not_eq_eq_eq_not, Bool.not_true, Bool.not_false] at hc9
    have hno := chk_no hc9
    refine c_seq ?_
    refine c_reg ?_
    refine s_pu hF (pu_move rfl) rfl ?_; clear hF; intro a hF
    refine s_pu hF (pu_assign rfl) rfl ?_; clear hF; intro a hF
    refine s_pu hF (pu_assign rfl) rfl ?_; clear hF; intro a hF
    refine c_nil ?_
    refine n_then ?_
    refine c_ret (r_then ?_)
    exact f_ret hF rfl (.tmp rfl (.tmp rfl (.nil))) (hS.retv (by rw [vbR, hno, chkV, hno]; rfl))
  · try simp only [decide_eq_true_eq, decide_eq_false_iff_not, Bool.not_eq_true', Bool.not_eq_false', Bool.not_eq_eq_eq_not, Bool.not_true, Bool.not_false] at hc9
    have hok := chk_ok hc9
    have h40 := valOk_40 hok
    have l1 := numS_len (n := v.k) hvb.1
    have l2 := numS_len (n := v.n) hvb.2
    have l3 := textS_len (s := v.s) (by omega)
    refine c_skip ?_
    refine n_then ?_
    refine c_seq ?_
    refine c_reg ?_
    refine s_pu hF (pu_faddr fld24_0 rfl) rfl ?_; clear hF; intro a hF
    refine s_pu hF (o_load1 (i := 0) hS rfl one22 rfl rfl) rfl ?_; clear hF; intro a hF
    refine s_callv hF hS ok28 rfl (c_Num v.k hvb.1 _ _ hS.view) rfl ?_; clear hS hF; intro w a hS hF
    refine s_pu hF (pu_assign rfl) rfl ?_; clear hF; intro a hF
    refine c_nil ?_
    refine n_then ?_
    refine c_seq ?_
    refine c_seq ?_
    refine c_reg ?_
    refine s_pu hF (pu_faddr fld24_0 rfl) rfl ?_; clear hF; intro a hF
    refine s_pu hF (o_load1 (i := 0) hS rfl one22 rfl rfl) rfl ?_; clear hF; intro a hF
    refine c_nil ?_
    refine n_then ?_
    refine c_block ?_
    refine c_seq ?_
    refine c_reg ?_
    refine s_pu hF (pu_ieq rfl rfl) rfl ?_; clear hF; intro a hF
    refine s_pu hF (pu_assign rfl) rfl ?_; clear hF; intro a hF
    refine c_nil ?_
    refine n_then ?_
    refine c_if hF rfl (fun hc16 => ?_) (fun hc16 => ?_)
    · try simp only [decide_eq_true_eq, decide_eq_false_iff_not, Bool.not_eq_true', Bool.not_eq_false', Bool.not_eq_eq_eq_not, Bool.not_true, Bool.not_false] at hc16
      refine c_reg ?_
      refine s_pu hF (pu_move rfl) rfl ?_; clear hF; intro a hF
      refine s_pu hF (pu_faddr fld24_2 rfl) rfl ?_; clear hF; intro a hF
      refine s_pu hF (o_load1 (i := 0) hS rfl one9 rfl rfl) rfl ?_; clear hF; intro a hF
      refine s_callv hF hS ok29 rfl (c_Text v.s (by omega) _ _ hS.view) rfl ?_; clear hS hF; intro w a hS hF
      refine s_pu hF (pu_cat rfl rfl (by omega)) rfl ?_; clear hF; intro a hF
      refine s_pu hF (pu_assign rfl) rfl ?_; clear hF; intro a hF
      refine c_nil ?_
      refine n_block ?_
      refine n_then ?_
      refine c_seq ?_
      refine c_reg ?_
      refine s_pu hF (pu_move rfl) rfl ?_; clear hF; intro a hF
      refine s_pu hF (pu_assign rfl) rfl ?_; clear hF; intro a hF
      refine s_pu hF (pu_assign rfl) rfl ?_; clear hF; intro a hF
      refine c_nil ?_
      refine n_then ?_
      refine c_ret ?_
      exact f_ret hF rfl (.tmp rfl (.tmp rfl (.nil))) (hS.retv (by rw [vbR, if_pos hok, bytesV, tailV]; first | (rw [if_pos (by omega)]; done) | (rw [if_pos (by omega)]; rfl) | (rw [if_neg (by omega), if_pos (by omega)]; done) | (rw [if_neg (by omega), if_pos (by omega)]; rfl) | (rw [if_neg (by omega), if_neg (by omega), List.append_nil]; done) | (rw [if_neg (by omega), if_neg (by omega), List.append_nil]; rfl)))
    · try simp only [decide_eq_true_eq, decide_eq_false_iff_not, Bool.not_eq_true', Bool.not_eq_false', Bool.not_eq_eq_eq_not, Bool.not_true, Bool.not_false] at hc16
      refine c_seq ?_
      refine c_seq ?_
      refine c_reg ?_
      refine s_pu hF (pu_ieq rfl rfl) rfl ?_; clear hF; intro a hF
      refine s_pu hF (pu_assign rfl) rfl ?_; clear hF; intro a hF
      refine c_nil ?_
      refine n_then ?_
      refine c_if hF rfl (fun hc23 => ?_) (fun hc23 => ?_)
      · have hc23k := hc23
        try simp only [decide_eq_true_eq, decide_eq_false_iff_not, Bool.not_eq_true', Bool.not_eq_false', Bool.not_eq_eq_eq_not, Bool.not_true, Bool.not_false] at hc23
        refine c_skip ?_
        refine n_then ?_
        refine c_ift hF rfl hc23k ?_
        refine c_reg ?_
        refine s_pu hF (pu_move rfl) rfl ?_; clear hF; intro a hF
        refine s_pu hF (pu_faddr fld24_1 rfl) rfl ?_; clear hF; intro a hF
        refine s_pu hF (o_load1 (i := 0) hS rfl one3 rfl rfl) rfl ?_; clear hF; intro a hF
        refine s_callv hF hS ok28 rfl (c_Num v.n hvb.2 _ _ hS.view) rfl ?_; clear hS hF; intro w a hS hF
        refine s_pu hF (pu_cat rfl rfl (by omega)) rfl ?_; clear hF; intro a hF
        refine s_pu hF (pu_assign rfl) rfl ?_; clear hF; intro a hF
        refine c_nil ?_
        refine n_block ?_
        refine n_then ?_
        refine c_seq ?_
        refine c_reg ?_
        refine s_pu hF (pu_move rfl) rfl ?_; clear hF; intro a hF
        refine s_pu hF (pu_assign rfl) rfl ?_; clear hF; intro a hF
        refine s_pu hF (pu_assign rfl) rfl ?_; clear hF; intro a hF
        refine c_nil ?_
        refine n_then ?_
        refine c_ret ?_
        exact f_ret hF rfl (.tmp rfl (.tmp rfl (.nil))) (hS.retv (by rw [vbR, if_pos hok, bytesV, tailV]; first | (rw [if_pos (by omega)]; done) | (rw [if_pos (by omega)]; rfl) | (rw [if_neg (by omega), if_pos (by omega)]; done) | (rw [if_neg (by omega), if_pos (by omega)]; rfl) | (rw [if_neg (by omega), if_neg (by omega), List.append_nil]; done) | (rw [if_neg (by omega), if_neg (by omega), List.append_nil]; rfl)))
      · have hc23k := hc23
        try simp only [decide_eq_true_eq, decide_eq_false_iff_not, Bool.not_eq_true', Bool.not_eq_false', Bool.not_eq_eq_eq_not, Bool.not_true, Bool.not_false] at hc23
        refine c_reg ?_
        refine s_pu hF (pu_ieq rfl rfl) rfl ?_; clear hF; intro a hF
        refine s_pu hF (pu_assign rfl) rfl ?_; clear hF; intro a hF
        refine c_nil ?_
        refine n_then ?_
        refine c_if hF rfl (fun hc23 => ?_) (fun hc23 => ?_)
        · have hc23k := hc23
          try simp only [decide_eq_true_eq, decide_eq_false_iff_not, Bool.not_eq_true', Bool.not_eq_false', Bool.not_eq_eq_eq_not, Bool.not_true, Bool.not_false] at hc23
          refine c_reg ?_
          refine s_pu hF (pu_move rfl) rfl ?_; clear hF; intro a hF
          refine s_pu hF (pu_faddr fld24_1 rfl) rfl ?_; clear hF; intro a hF
          refine s_pu hF (o_load1 (i := 0) hS rfl one3 rfl rfl) rfl ?_; clear hF; intro a hF
          refine s_callv hF hS ok28 rfl (c_Num v.n hvb.2 _ _ hS.view) rfl ?_; clear hS hF; intro w a hS hF
          refine s_pu hF (pu_cat rfl rfl (by omega)) rfl ?_; clear hF; intro a hF
          refine s_pu hF (pu_assign rfl) rfl ?_; clear hF; intro a hF
          refine c_nil ?_
          refine n_block ?_
          refine n_then ?_
          refine c_seq ?_
          refine c_reg ?_
          refine s_pu hF (pu_move rfl) rfl ?_; clear hF; intro a hF
          refine s_pu hF (pu_assign rfl) rfl ?_; clear hF; intro a hF
          refine s_pu hF (pu_assign rfl) rfl ?_; clear hF; intro a hF
          refine c_nil ?_
          refine n_then ?_
          refine c_ret ?_
          exact f_ret hF rfl (.tmp rfl (.tmp rfl (.nil))) (hS.retv (by rw [vbR, if_pos hok, bytesV, tailV]; first | (rw [if_pos (by omega)]; done) | (rw [if_pos (by omega)]; rfl) | (rw [if_neg (by omega), if_pos (by omega)]; done) | (rw [if_neg (by omega), if_pos (by omega)]; rfl) | (rw [if_neg (by omega), if_neg (by omega), List.append_nil]; done) | (rw [if_neg (by omega), if_neg (by omega), List.append_nil]; rfl)))
        · have hc23k := hc23
          try simp only [decide_eq_true_eq, decide_eq_false_iff_not, Bool.not_eq_true', Bool.not_eq_false', Bool.not_eq_eq_eq_not, Bool.not_true, Bool.not_false] at hc23
          refine c_skip ?_
          refine n_block ?_
          refine n_then ?_
          refine c_seq ?_
          refine c_reg ?_
          refine s_pu hF (pu_move rfl) rfl ?_; clear hF; intro a hF
          refine s_pu hF (pu_assign rfl) rfl ?_; clear hF; intro a hF
          refine s_pu hF (pu_assign rfl) rfl ?_; clear hF; intro a hF
          refine c_nil ?_
          refine n_then ?_
          refine c_ret ?_
          exact f_ret hF rfl (.tmp rfl (.tmp rfl (.nil))) (hS.retv (by rw [vbR, if_pos hok, bytesV, tailV]; first | (rw [if_pos (by omega)]; done) | (rw [if_pos (by omega)]; rfl) | (rw [if_neg (by omega), if_pos (by omega)]; done) | (rw [if_neg (by omega), if_pos (by omega)]; rfl) | (rw [if_neg (by omega), if_neg (by omega), List.append_nil]; done) | (rw [if_neg (by omega), if_neg (by omega), List.append_nil]; rfl)))
theorem c_RBytes (v : Val) (hvb : valB v) (hok : valOk v = true) (w0 : World) (h0 : View) (hv : VLe h0 (Full w0))  : Calls Tryd.prog 14 #[.agg (valC v).toArray] w0 (Ret w0 h0 fun u _ => u = vs (bytesV v)) := by
  refine f_enter (args := [.agg (valC v).toArray]) Tryd.func14 rfl Tryd.ntmps14 rfl fun a hF => ?_
  have hS := St.init w0 h0 hv
  have h40 := valOk_40 hok
  have l1 := numS_len (n := v.k) hvb.1
  have l2 := numS_len (n := v.n) hvb.2
  have l3 := textS_len (s := v.s) (by omega)
  refine c_seq ?_
  refine c_reg ?_
  refine s_box hF hS rfl rfl rfl ?_; clear hS hF; intro b0 w a hS hF
  refine s_pu hF (pu_assign rfl) rfl ?_; clear hF; intro a hF
  refine c_nil ?_
  refine n_then ?_
  refine c_seq ?_
  refine c_reg ?_
  refine s_pu hF (pu_faddr fld24_0 rfl) rfl ?_; clear hF; intro a hF
  refine s_pu hF (o_load1 (i := 0) hS rfl one22 rfl rfl) rfl ?_; clear hF; intro a hF
  refine s_callv hF hS ok34 rfl (c_RNum v.k hvb.1 _ _ hS.view) rfl ?_; clear hS hF; intro w a hS hF
  refine s_pu hF (pu_assign rfl) rfl ?_; clear hF; intro a hF
  refine c_nil ?_
  refine n_then ?_
  refine c_seq ?_
  refine c_seq ?_
  refine c_reg ?_
  refine s_pu hF (pu_faddr fld24_0 rfl) rfl ?_; clear hF; intro a hF
  refine s_pu hF (o_load1 (i := 0) hS rfl one22 rfl rfl) rfl ?_; clear hF; intro a hF
  refine c_nil ?_
  refine n_then ?_
  refine c_block ?_
  refine c_seq ?_
  refine c_seq ?_
  refine c_reg ?_
  refine s_pu hF (pu_ieq rfl rfl) rfl ?_; clear hF; intro a hF
  refine s_pu hF (pu_assign rfl) rfl ?_; clear hF; intro a hF
  refine c_nil ?_
  refine n_then ?_
  refine c_if hF rfl (fun hc9 => ?_) (fun hc9 => ?_)
  · have hc9k := hc9
    try simp only [decide_eq_true_eq, decide_eq_false_iff_not, Bool.not_eq_true', Bool.not_eq_false', Bool.not_eq_eq_eq_not, Bool.not_true, Bool.not_false] at hc9
    refine c_skip ?_
    refine n_then ?_
    refine c_ift hF rfl hc9k ?_
    refine c_seq ?_
    refine c_reg ?_
    refine s_pu hF (pu_move rfl) rfl ?_; clear hF; intro a hF
    refine s_pu hF (pu_faddr fld24_1 rfl) rfl ?_; clear hF; intro a hF
    refine s_pu hF (o_load1 (i := 0) hS rfl one3 rfl rfl) rfl ?_; clear hF; intro a hF
    refine s_callv hF hS ok34 rfl (c_RNum v.n hvb.2 _ _ hS.view) rfl ?_; clear hS hF; intro w a hS hF
    refine s_pu hF (pu_cat rfl rfl (by omega)) rfl ?_; clear hF; intro a hF
    refine s_pu hF (pu_assign rfl) rfl ?_; clear hF; intro a hF
    refine c_nil ?_
    refine n_then ?_
    refine c_ret (r_block (r_then ?_))
    exact f_ret hF rfl (.tmp rfl (.nil)) (hS.retv (by rw [bytesV, tailV]; first | (rw [if_pos (by omega)]; done) | (rw [if_pos (by omega)]; rfl) | (rw [if_neg (by omega), if_pos (by omega)]; done) | (rw [if_neg (by omega), if_pos (by omega)]; rfl) | (rw [if_neg (by omega), if_neg (by omega), List.append_nil]; done) | (rw [if_neg (by omega), if_neg (by omega), List.append_nil]; rfl)))
  · have hc9k := hc9
    try simp only [decide_eq_true_eq, decide_eq_false_iff_not, Bool.not_eq_true', Bool.not_eq_false', Bool.not_eq_eq_eq_not, Bool.not_true, Bool.not_false] at hc9
    refine c_reg ?_
    refine s_pu hF (pu_ieq rfl rfl) rfl ?_; clear hF; intro a hF
    refine s_pu hF (pu_assign rfl) rfl ?_; clear hF; intro a hF
    refine c_nil ?_
    refine n_then ?_
    refine c_if hF rfl (fun hc9 => ?_) (fun hc9 => ?_)
    · have hc9k := hc9
      try simp only [decide_eq_true_eq, decide_eq_false_iff_not, Bool.not_eq_true', Bool.not_eq_false', Bool.not_eq_eq_eq_not, Bool.not_true, Bool.not_false] at hc9
      refine c_seq ?_
      refine c_reg ?_
      refine s_pu hF (pu_move rfl) rfl ?_; clear hF; intro a hF
      refine s_pu hF (pu_faddr fld24_1 rfl) rfl ?_; clear hF; intro a hF
      refine s_pu hF (o_load1 (i := 0) hS rfl one3 rfl rfl) rfl ?_; clear hF; intro a hF
      refine s_callv hF hS ok34 rfl (c_RNum v.n hvb.2 _ _ hS.view) rfl ?_; clear hS hF; intro w a hS hF
      refine s_pu hF (pu_cat rfl rfl (by omega)) rfl ?_; clear hF; intro a hF
      refine s_pu hF (pu_assign rfl) rfl ?_; clear hF; intro a hF
      refine c_nil ?_
      refine n_then ?_
      refine c_ret (r_block (r_then ?_))
      exact f_ret hF rfl (.tmp rfl (.nil)) (hS.retv (by rw [bytesV, tailV]; first | (rw [if_pos (by omega)]; done) | (rw [if_pos (by omega)]; rfl) | (rw [if_neg (by omega), if_pos (by omega)]; done) | (rw [if_neg (by omega), if_pos (by omega)]; rfl) | (rw [if_neg (by omega), if_neg (by omega), List.append_nil]; done) | (rw [if_neg (by omega), if_neg (by omega), List.append_nil]; rfl)))
    · have hc9k := hc9
      try simp only [decide_eq_true_eq, decide_eq_false_iff_not, Bool.not_eq_true', Bool.not_eq_false', Bool.not_eq_eq_eq_not, Bool.not_true, Bool.not_false] at hc9
      refine c_seq ?_
      refine c_reg ?_
      refine s_pu hF (pu_ieq rfl rfl) rfl ?_; clear hF; intro a hF
      refine s_pu hF (pu_assign rfl) rfl ?_; clear hF; intro a hF
      refine c_nil ?_
      refine n_then ?_
      refine c_if hF rfl (fun hc17 => ?_) (fun hc17 => ?_)
      · try simp only [decide_eq_true_eq, decide_eq_false_iff_not, Bool.not_eq_true', Bool.not_eq_false', Bool.not_eq_eq_eq_not, Bool.not_true, Bool.not_false] at hc17
        refine c_seq ?_
        refine c_reg ?_
        refine s_pu hF (pu_move rfl) rfl ?_; clear hF; intro a hF
        refine s_pu hF (pu_faddr fld24_2 rfl) rfl ?_; clear hF; intro a hF
        refine s_pu hF (o_load1 (i := 0) hS rfl one9 rfl rfl) rfl ?_; clear hF; intro a hF
        refine s_callv hF hS ok35 rfl (c_RText v.s (by omega) _ _ hS.view) rfl ?_; clear hS hF; intro w a hS hF
        refine s_pu hF (pu_cat rfl rfl (by omega)) rfl ?_; clear hF; intro a hF
        refine s_pu hF (pu_assign rfl) rfl ?_; clear hF; intro a hF
        refine c_nil ?_
        refine n_then ?_
        refine c_ret (r_block (r_then ?_))
        exact f_ret hF rfl (.tmp rfl (.nil)) (hS.retv (by rw [bytesV, tailV]; first | (rw [if_pos (by omega)]; done) | (rw [if_pos (by omega)]; rfl) | (rw [if_neg (by omega), if_pos (by omega)]; done) | (rw [if_neg (by omega), if_pos (by omega)]; rfl) | (rw [if_neg (by omega), if_neg (by omega), List.append_nil]; done) | (rw [if_neg (by omega), if_neg (by omega), List.append_nil]; rfl)))
      · try simp only [decide_eq_true_eq, decide_eq_false_iff_not, Bool.not_eq_true', Bool.not_eq_false', Bool.not_eq_eq_eq_not, Bool.not_true, Bool.not_false] at hc17
        refine c_skip ?_
        refine n_block ?_
        refine n_then ?_
        refine c_seq ?_
        refine c_reg ?_
        refine s_pu hF (pu_move rfl) rfl ?_; clear hF; intro a hF
        refine s_pu hF (pu_assign rfl) rfl ?_; clear hF; intro a hF
        refine c_nil ?_
        refine n_then ?_
        refine c_ret ?_
        exact f_ret hF rfl (.tmp rfl (.nil)) (hS.retv (by rw [bytesV, tailV]; first | (rw [if_pos (by omega)]; done) | (rw [if_pos (by omega)]; rfl) | (rw [if_neg (by omega), if_pos (by omega)]; done) | (rw [if_neg (by omega), if_pos (by omega)]; rfl) | (rw [if_neg (by omega), if_neg (by omega), List.append_nil]; done) | (rw [if_neg (by omega), if_neg (by omega), List.append_nil]; rfl)))
theorem c_NaNK (x : Int) (w0 : World) (h0 : View) (hv : VLe h0 (Full w0))  : Calls Tryd.prog 52 #[.int .i64 x] w0 (Ret w0 h0 fun u _ => u = .bool false) := by
  refine f_enter (args := [.int .i64 x]) Tryd.func52 rfl Tryd.ntmps52 rfl fun a hF => ?_
  have hS := St.init w0 h0 hv
  refine c_seq ?_
  refine c_reg ?_
  refine s_pu hF (pu_assign rfl) rfl ?_; clear hF; intro a hF
  refine c_nil ?_
  refine n_then ?_
  refine c_seq ?_
  refine c_reg ?_
  refine s_pu hF (pu_move rfl) rfl ?_; clear hF; intro a hF
  refine s_pu hF (pu_move rfl) rfl ?_; clear hF; intro a hF
  refine s_pu hF (pu_ine rfl rfl) rfl ?_; clear hF; intro a hF
  refine s_pu hF (pu_assign rfl) rfl ?_; clear hF; intro a hF
  refine c_nil ?_
  refine n_then ?_
  refine c_ret ?_
  exact f_ret hF rfl (.tmp rfl (.nil)) (hS.retv (congrArg Value.bool (by simp)))
theorem c_NaNI (x : Int) (w0 : World) (h0 : View) (hv : VLe h0 (Full w0))  : Calls Tryd.prog 53 #[.int .i64 x] w0 (Ret w0 h0 fun u _ => u = .bool false) := by
  refine f_enter (args := [.int .i64 x]) Tryd.func53 rfl Tryd.ntmps53 rfl fun a hF => ?_
  have hS := St.init w0 h0 hv
  refine c_seq ?_
  refine c_reg ?_
  refine s_pu hF (pu_assign rfl) rfl ?_; clear hF; intro a hF
  refine c_nil ?_
  refine n_then ?_
  refine c_seq ?_
  refine c_reg ?_
  refine s_pu hF (pu_move rfl) rfl ?_; clear hF; intro a hF
  refine s_pu hF (pu_move rfl) rfl ?_; clear hF; intro a hF
  refine s_pu hF (pu_ine rfl rfl) rfl ?_; clear hF; intro a hF
  refine s_pu hF (pu_assign rfl) rfl ?_; clear hF; intro a hF
  refine c_nil ?_
  refine n_then ?_
  refine c_ret ?_
  exact f_ret hF rfl (.tmp rfl (.nil)) (hS.retv (congrArg Value.bool (by simp)))
theorem c_CmpK (x y : Int) (w0 : World) (h0 : View) (hv : VLe h0 (Full w0))  : Calls Tryd.prog 37 #[.int .i64 x, .int .i64 y] w0 (Ret w0 h0 fun u _ => u = .int .i64 (cmpI x y)) := by
  refine f_enter (args := [.int .i64 x, .int .i64 y]) Tryd.func37 rfl Tryd.ntmps37 rfl fun a hF => ?_
  have hS := St.init w0 h0 hv
  refine c_seq ?_
  refine c_reg ?_
  refine s_pu hF (pu_assign rfl) rfl ?_; clear hF; intro a hF
  refine c_nil ?_
  refine n_then ?_
  refine c_seq ?_
  refine c_reg ?_
  refine s_pu hF (pu_move rfl) rfl ?_; clear hF; intro a hF
  refine s_callv hF hS ok52 rfl (c_NaNK x _ _ hS.view) rfl ?_; clear hS hF; intro w a hS hF
  refine s_pu hF (pu_assign rfl) rfl ?_; clear hF; intro a hF
  refine c_nil ?_
  refine n_then ?_
  refine c_seq ?_
  refine c_reg ?_
  refine s_pu hF (pu_move rfl) rfl ?_; clear hF; intro a hF
  refine s_callv hF hS ok52 rfl (c_NaNK y _ _ hS.view) rfl ?_; clear hS hF; intro w a hS hF
  refine s_pu hF (pu_assign rfl) rfl ?_; clear hF; intro a hF
  refine c_nil ?_
  refine n_then ?_
  refine c_seq ?_
  refine c_seq ?_
  refine c_reg ?_
  refine s_pu hF (pu_move rfl) rfl ?_; clear hF; intro a hF
  refine c_nil ?_
  refine n_then ?_
  refine c_iff hF rfl (rfl) ?_
  refine c_skip ?_
  refine n_then ?_
  refine c_seq ?_
  refine c_seq ?_
  refine c_reg ?_
  refine s_pu hF (pu_move rfl) rfl ?_; clear hF; intro a hF
  refine c_nil ?_
  refine n_then ?_
  refine c_iff hF rfl (rfl) ?_
  refine c_skip ?_
  refine n_then ?_
  refine c_seq ?_
  refine c_seq ?_
  refine c_reg ?_
  refine s_pu hF (pu_move rfl) rfl ?_; clear hF; intro a hF
  refine s_pu hF (pu_move rfl) rfl ?_; clear hF; intro a hF
  refine s_pu hF (pu_ilt rfl rfl) rfl ?_; clear hF; intro a hF
  refine c_nil ?_
  refine n_then ?_
  refine c_if hF rfl (fun hc16 => ?_) (fun hc16 => ?_)
  · try simp only [decide_eq_true_eq, decide_eq_false_iff_not, Bool.not_eq_true', Bool.not_eq_false', Bool.not_eq_eq_eq_not, Bool.not_true, Bool.not_false] at hc16
    refine c_seq ?_
    refine c_reg ?_
    refine s_pu hF (pu_assign rfl) rfl ?_; clear hF; intro a hF
    refine c_nil ?_
    refine n_then ?_
    refine c_ret (r_then ?_)
    exact f_ret hF rfl (.tmp rfl (.nil)) (hS.retv (congrArg (Value.int .i64) (by rw [cmpI, if_pos (by omega)])))
  · try simp only [decide_eq_true_eq, decide_eq_false_iff_not, Bool.not_eq_true', Bool.not_eq_false', Bool.not_eq_eq_eq_not, Bool.not_true, Bool.not_false] at hc16
    refine c_skip ?_
    refine n_then ?_
    refine c_seq ?_
    refine c_seq ?_
    refine c_reg ?_
    refine s_pu hF (pu_move rfl) rfl ?_; clear hF; intro a hF
    refine s_pu hF (pu_move rfl) rfl ?_; clear hF; intro a hF
    refine s_pu hF (pu_igt rfl rfl) rfl ?_; clear hF; intro a hF
    refine c_nil ?_
    refine n_then ?_
    refine c_if hF rfl (fun hc19 => ?_) (fun hc19 => ?_)
    · try simp only [decide_eq_true_eq, decide_eq_false_iff_not, Bool.not_eq_true', Bool.not_eq_false', Bool.not_eq_eq_eq_not, Bool.not_true, Bool.not_false] at hc19
      refine c_seq ?_
      refine c_reg ?_
      refine s_pu hF (pu_assign rfl) rfl ?_; clear hF; intro a hF
      refine c_nil ?_
      refine n_then ?_
      refine c_ret (r_then ?_)
      exact f_ret hF rfl (.tmp rfl (.nil)) (hS.retv (congrArg (Value.int .i64) (by rw [cmpI, if_neg (by omega), if_pos (by omega)])))
    · try simp only [decide_eq_true_eq, decide_eq_false_iff_not, Bool.not_eq_true', Bool.not_eq_false', Bool.not_eq_eq_eq_not, Bool.not_true, Bool.not_false] at hc19
      refine c_skip ?_
      refine n_then ?_
      refine c_seq ?_
      refine c_reg ?_
      refine s_pu hF (pu_assign rfl) rfl ?_; clear hF; intro a hF
      refine c_nil ?_
      refine n_then ?_
      refine c_ret ?_
      exact f_ret hF rfl (.tmp rfl (.nil)) (hS.retv (congrArg (Value.int .i64) (by rw [cmpI, if_neg (by omega), if_neg (by omega)])))
theorem c_CmpI (x y : Int) (w0 : World) (h0 : View) (hv : VLe h0 (Full w0))  : Calls Tryd.prog 38 #[.int .i64 x, .int .i64 y] w0 (Ret w0 h0 fun u _ => u = .int .i64 (cmpI x y)) := by
  refine f_enter (args := [.int .i64 x, .int .i64 y]) Tryd.func38 rfl Tryd.ntmps38 rfl fun a hF => ?_
  have hS := St.init w0 h0 hv
  refine c_seq ?_
  refine c_reg ?_
  refine s_pu hF (pu_assign rfl) rfl ?_; clear hF; intro a hF
  refine c_nil ?_
  refine n_then ?_
  refine c_seq ?_
  refine c_reg ?_
  refine s_pu hF (pu_move rfl) rfl ?_; clear hF; intro a hF
  refine s_callv hF hS ok53 rfl (c_NaNI x _ _ hS.view) rfl ?_; clear hS hF; intro w a hS hF
  refine s_pu hF (pu_assign rfl) rfl ?_; clear hF; intro a hF
  refine c_nil ?_
  refine n_then ?_
  refine c_seq ?_
  refine c_reg ?_
  refine s_pu hF (pu_move rfl) rfl ?_; clear hF; intro a hF
  refine s_callv hF hS ok53 rfl (c_NaNI y _ _ hS.view) rfl ?_; clear hS hF; intro w a hS hF
  refine s_pu hF (pu_assign rfl) rfl ?_; clear hF; intro a hF
  refine c_nil ?_
  refine n_then ?_
  refine c_seq ?_
  refine c_seq ?_
  refine c_reg ?_
  refine s_pu hF (pu_move rfl) rfl ?_; clear hF; intro a hF
  refine c_nil ?_
  refine n_then ?_
  refine c_iff hF rfl (rfl) ?_
  refine c_skip ?_
  refine n_then ?_
  refine c_seq ?_
  refine c_seq ?_
  refine c_reg ?_
  refine s_pu hF (pu_move rfl) rfl ?_; clear hF; intro a hF
  refine c_nil ?_
  refine n_then ?_
  refine c_iff hF rfl (rfl) ?_
  refine c_skip ?_
  refine n_then ?_
  refine c_seq ?_
  refine c_seq ?_
  refine c_reg ?_
  refine s_pu hF (pu_move rfl) rfl ?_; clear hF; intro a hF
  refine s_pu hF (pu_move rfl) rfl ?_; clear hF; intro a hF
  refine s_pu hF (pu_ilt rfl rfl) rfl ?_; clear hF; intro a hF
  refine c_nil ?_
  refine n_then ?_
  refine c_if hF rfl (fun hc16 => ?_) (fun hc16 => ?_)
  · try simp only [decide_eq_true_eq, decide_eq_false_iff_not, Bool.not_eq_true', Bool.not_eq_false', Bool.not_eq_eq_eq_not, Bool.not_true, Bool.not_false] at hc16
    refine c_seq ?_
    refine c_reg ?_
    refine s_pu hF (pu_assign rfl) rfl ?_; clear hF; intro a hF
    refine c_nil ?_
    refine n_then ?_
    refine c_ret (r_then ?_)
    exact f_ret hF rfl (.tmp rfl (.nil)) (hS.retv (congrArg (Value.int .i64) (by rw [cmpI, if_pos (by omega)])))
  · try simp only [decide_eq_true_eq, decide_eq_false_iff_not, Bool.not_eq_true', Bool.not_eq_false', Bool.not_eq_eq_eq_not, Bool.not_true, Bool.not_false] at hc16
    refine c_skip ?_
    refine n_then ?_
    refine c_seq ?_
    refine c_seq ?_
    refine c_reg ?_
    refine s_pu hF (pu_move rfl) rfl ?_; clear hF; intro a hF
    refine s_pu hF (pu_move rfl) rfl ?_; clear hF; intro a hF
    refine s_pu hF (pu_igt rfl rfl) rfl ?_; clear hF; intro a hF
    refine c_nil ?_
    refine n_then ?_
    refine c_if hF rfl (fun hc19 => ?_) (fun hc19 => ?_)
    · try simp only [decide_eq_true_eq, decide_eq_false_iff_not, Bool.not_eq_true', Bool.not_eq_false', Bool.not_eq_eq_eq_not, Bool.not_true, Bool.not_false] at hc19
      refine c_seq ?_
      refine c_reg ?_
      refine s_pu hF (pu_assign rfl) rfl ?_; clear hF; intro a hF
      refine c_nil ?_
      refine n_then ?_
      refine c_ret (r_then ?_)
      exact f_ret hF rfl (.tmp rfl (.nil)) (hS.retv (congrArg (Value.int .i64) (by rw [cmpI, if_neg (by omega), if_pos (by omega)])))
    · try simp only [decide_eq_true_eq, decide_eq_false_iff_not, Bool.not_eq_true', Bool.not_eq_false', Bool.not_eq_eq_eq_not, Bool.not_true, Bool.not_false] at hc19
      refine c_skip ?_
      refine n_then ?_
      refine c_seq ?_
      refine c_reg ?_
      refine s_pu hF (pu_assign rfl) rfl ?_; clear hF; intro a hF
      refine c_nil ?_
      refine n_then ?_
      refine c_ret ?_
      exact f_ret hF rfl (.tmp rfl (.nil)) (hS.retv (congrArg (Value.int .i64) (by rw [cmpI, if_neg (by omega), if_neg (by omega)])))
theorem c_Or (ad : Option Addr) (cap : Nat) (l : List Int) (w0 : World) (h0 : View) (hv : VLe h0 (Full w0)) (hb : SlC 3 1 (flatR fun n => [Value.int .i64 n]) h0 (.slice ad l.length cap) l) : Calls Tryd.prog 36 #[.slice ad l.length cap] w0 (Ret w0 h0 fun u _ => u = .int .i64 (orI l)) := by
  refine f_enter (args := [.slice ad l.length cap]) Tryd.func36 rfl Tryd.ntmps36 rfl fun a hF => ?_
  have hS := St.init w0 h0 hv
  have hlm := hb.lm
  refine c_seq ?_
  refine c_reg ?_
  refine s_pu hF (pu_assign rfl) rfl ?_; clear hF; intro a hF
  refine c_nil ?_
  refine n_then ?_
  refine c_seq ?_
  refine c_reg ?_
  refine s_pu hF (pu_assign rfl) rfl ?_; clear hF; intro a hF
  refine c_nil ?_
  refine n_then ?_
  refine c_seq ?_
  refine c_seq ?_
  refine c_reg ?_
  refine s_pu hF (pu_move rfl) rfl ?_; clear hF; intro a hF
  refine s_pu hF (pu_len_sl tyL79 rfl rfl) rfl ?_; clear hF; intro a hF
  refine s_pu hF (pu_move rfl) rfl ?_; clear hF; intro a hF
  refine c_nil ?_
  refine n_then ?_
  refine c_block ?_
  refine hS.cut fun O0 F0 hO0 hF0 hS => ?_
  refine hF.cut (.cons (k := 8) rfl <| .nil) (.cons (k := 3) rfl <| .cons (k := 6) rfl <| .cons (k := 7) rfl <| .nil) fun L0 hL0 hF => ?_
  refine c_loop (α := Nat) (fun k a w => k ≤ l.length ∧ (∀ j, j < k → l.getD j 0 = 0) ∧ Fr a 18 ([(8, .val (.int .i64 (k : Nat)))] ++ L0) ∧ St w0 h0 [] w O0 F0) (fun k => l.length - k) 0 (⟨Nat.zero_le _, fun j hj => absurd hj (Nat.not_lt_zero j), hF, hS⟩) ?_
  subst hO0 hF0 hL0
  rintro k a w ⟨hk, hn, hF, hS⟩
  refine c_seq ?_
  refine c_reg ?_
  refine s_pu hF (pu_ilt rfl rfl) rfl ?_; clear hF; intro a hF
  refine c_nil ?_
  refine n_then ?_
  refine c_seq ?_
  refine c_if hF rfl (fun hc9 => ?_) (fun hc9 => ?_)
  · try simp only [decide_eq_true_eq, decide_eq_false_iff_not, Bool.not_eq_true', Bool.not_eq_false', Bool.not_eq_eq_eq_not, Bool.not_true, Bool.not_false] at hc9
    obtain ⟨g, o, ha, HH⟩ := hb.atD 0 (i := k) (by omega)
    refine c_skip ?_
    refine n_then ?_
    refine c_seq ?_
    refine c_block ?_
    refine c_seq ?_
    refine c_reg ?_
    refine s_pu hF (pu_iaddr_sla (j := k) ha slt79 rfl rfl (by omega) (by omega)) rfl ?_; clear hF; intro a hF
    refine s_pu hF (pu_load1 one3 rfl (HH _ hS.base)) rfl ?_; clear hF; intro a hF
    refine s_pu hF (pu_assign rfl) rfl ?_; clear hF; intro a hF
    refine c_nil ?_
    refine n_then ?_
    refine c_seq ?_
    refine c_reg ?_
    refine s_pu hF (pu_move rfl) rfl ?_; clear hF; intro a hF
    refine s_pu hF (pu_move rfl) rfl ?_; clear hF; intro a hF
    refine s_pu hF (pu_ine rfl rfl) rfl ?_; clear hF; intro a hF
    refine c_nil ?_
    refine n_then ?_
    refine c_if hF rfl (fun hc14 => ?_) (fun hc14 => ?_)
    · try simp only [decide_eq_true_eq, decide_eq_false_iff_not, Bool.not_eq_true', Bool.not_eq_false', Bool.not_eq_eq_eq_not, Bool.not_true, Bool.not_false] at hc14
      refine c_seq ?_
      refine c_reg ?_
      refine s_pu hF (pu_move rfl) rfl ?_; clear hF; intro a hF
      refine s_pu hF (pu_assign rfl) rfl ?_; clear hF; intro a hF
      refine c_nil ?_
      refine n_then ?_
      refine c_ret (r_block (r_then (r_then (r_block (r_then ?_)))))
      exact f_ret hF rfl (.tmp rfl (.nil)) (hS.retv (congrArg (Value.int .i64) (orI_hit l k (by omega) hn hc14).symm))
    · try simp only [decide_eq_true_eq, decide_eq_false_iff_not, Bool.not_eq_true', Bool.not_eq_false', Bool.not_eq_eq_eq_not, Bool.not_true, Bool.not_false] at hc14
      refine c_skip ?_
      refine n_block ?_
      refine n_then ?_
      refine c_reg ?_
      refine s_pu hF (pu_add rfl rfl (by first | exact wrap_i64 (by omega) (by omega) | rfl)) rfl ?_; clear hF; intro a hF
      refine s_pu hF (pu_move rfl) rfl ?_; clear hF; intro a hF
      refine c_nil ?_
      exact ⟨k + 1, ⟨by omega, upto_snoc hn hc14, hF.pick (.cons (k := 8) rfl <| .cons (k := 3) rfl <| .cons (k := 6) rfl <| .cons (k := 7) rfl <| .nil), hS⟩, by omega⟩
  · try simp only [decide_eq_true_eq, decide_eq_false_iff_not, Bool.not_eq_true', Bool.not_eq_false', Bool.not_eq_eq_eq_not, Bool.not_true, Bool.not_false] at hc9
    refine c_exit (x_then (x_then (x_here ?_)))
    refine n_then ?_
    refine c_seq ?_
    refine c_reg ?_
    refine s_pu hF (pu_move rfl) rfl ?_; clear hF; intro a hF
    refine s_pu hF (pu_assign rfl) rfl ?_; clear hF; intro a hF
    refine c_nil ?_
    refine n_then ?_
    refine c_ret ?_
    exact f_ret hF rfl (.tmp rfl (.nil)) (hS.retv (congrArg (Value.int .i64) (orI_none l (fun j hj => hn j (by omega))).symm))
theorem c_VCompare (x y : Val) (w0 : World) (h0 : View) (hv : VLe h0 (Full w0))  : Calls Tryd.prog 15 #[.agg (valC x).toArray, .agg (valC y).toArray] w0 (Ret w0 h0 fun u _ => u = .int .i64 (cmpV x y)) := by
  refine f_enter (args := [.agg (valC x).toArray, .agg (valC y).toArray]) Tryd.func15 rfl Tryd.ntmps15 rfl fun a hF => ?_
  have hS := St.init w0 h0 hv
  refine c_seq ?_
  refine c_reg ?_
  refine s_box hF hS rfl rfl rfl ?_; clear hS hF; intro b0 w a hS hF
  refine s_box hF hS rfl rfl rfl ?_; clear hS hF; intro b1 w a hS hF
  refine s_pu hF (pu_assign rfl) rfl ?_; clear hF; intro a hF
  refine c_nil ?_
  refine n_then ?_
  refine c_seq ?_
  refine region_st 18 hF hS (allV_ne rfl) mix (by kernel_rfl) fun Γ hG => ?_
  refine t_pu hG (fun w hC => pu_faddr fld24_0 rfl) ?_; clear hG; intro Γ hG
  refine t_pu hG (fun w hC => o_load1 (i := 1) hC.st rfl one22 rfl rfl) ?_; clear hG; intro Γ hG
  refine t_pu hG (fun w hC => pu_faddr fld24_0 rfl) ?_; clear hG; intro Γ hG
  refine t_pu hG (fun w hC => o_load1 (i := 0) hC.st rfl one22 rfl rfl) ?_; clear hG; intro Γ hG
  refine t_callv hG ok37 rfl (fun w hS => (c_CmpK x.k y.k _ _ hS.view)) ?_; clear hG; intro Γ hG
  refine t_pu hG (fun w hC => pu_faddr fld24_1 rfl) ?_; clear hG; intro Γ hG
  refine t_pu hG (fun w hC => o_load1 (i := 1) hC.st rfl one3 rfl rfl) ?_; clear hG; intro Γ hG
  refine t_pu hG (fun w hC => pu_faddr fld24_1 rfl) ?_; clear hG; intro Γ hG
  refine t_pu hG (fun w hC => o_load1 (i := 0) hC.st rfl one3 rfl rfl) ?_; clear hG; intro Γ hG
  refine t_callv hG ok38 rfl (fun w hS => (c_CmpI x.n y.n _ _ hS.view)) ?_; clear hG; intro Γ hG
  refine t_pu hG (fun w hC => pu_faddr fld24_2 rfl) ?_; clear hG; intro Γ hG
  refine t_pu hG (fun w hC => o_load1 (i := 1) hC.st rfl one9 rfl rfl) ?_; clear hG; intro Γ hG
  refine t_pu hG (fun w hC => pu_faddr fld24_2 rfl) ?_; clear hG; intro Γ hG
  refine t_pu hG (fun w hC => o_load1 (i := 0) hC.st rfl one9 rfl rfl) ?_; clear hG; intro Γ hG
  refine t_callv hG ok39 rfl (fun w hS => (c_sCmp x.s y.s _ _ hS.view)) ?_; clear hG; intro Γ hG
  refine t_build (xs := [.tmp 9, .tmp 14, .tmp 19]) hG slt_b79 rfl rfl (by simp [Value.cells]) (by decide) ?_; clear hG; intro Γ hG
  refine t_callP (k := 20) (v := .int .i64 (orI [cmpI x.k y.k, cmpI x.n y.n, Lib.compareBytes x.s y.s])) hG ok36 rfl (by simp) (fun u => rfl) (fun w1 u hS1 hu => ⟨Full w1, by obtain ⟨br, rfl, hrow⟩ := hu; exact c_Or _ 3 [cmpI x.k y.k, cmpI x.n y.n, Lib.compareBytes x.s y.s] w1 (Full w1) (VLe.refl _) (SlC.ofRow (by simp) (h := Full w1) hrow.2 rfl (by simp) (by decide) rfl)⟩) ?_; clear hG; intro Γ hG
  refine t_pu hG (fun w hC => pu_assign rfl) ?_; clear hG; intro Γ hG
  refine t_end hG ?_; clear hG hF; intro a w hC hE hF hP; replace hS := hC.st; clear hC
  clear hE
  obtain ⟨br20, hvr, hrow20⟩ := hP 20 _ rfl; replace hF := hF.openP hvr; clear hvr
  clear hP
  refine c_nil ?_
  refine n_then ?_
  refine c_ret ?_
  exact f_ret hF rfl (.tmp rfl (.nil)) (hS.retv (congrArg (Value.int .i64) (by rw [orI_three]; rfl)))
theorem c_RCompare (x y : Val) (w0 : World) (h0 : View) (hv : VLe h0 (Full w0))  : Calls Tryd.prog 18 #[.agg (valC x).toArray, .agg (valC y).toArray] w0 (Ret w0 h0 fun u _ => u = .int .i64 (cmpV x y)) := by
  refine f_enter (args := [.agg (valC x).toArray, .agg (valC y).toArray]) Tryd.func18 rfl Tryd.ntmps18 rfl fun a hF => ?_
  have hS := St.init w0 h0 hv
  refine c_seq ?_
  refine c_reg ?_
  refine s_box hF hS rfl rfl rfl ?_; clear hS hF; intro b0 w a hS hF
  refine s_box hF hS rfl rfl rfl ?_; clear hS hF; intro b1 w a hS hF
  refine s_pu hF (pu_assign rfl) rfl ?_; clear hF; intro a hF
  refine c_nil ?_
  refine n_then ?_
  refine c_seq ?_
  refine c_block ?_
  refine c_seq ?_
  refine c_reg ?_
  refine s_pu hF (pu_faddr fld24_0 rfl) rfl ?_; clear hF; intro a hF
  refine s_pu hF (o_load1 (i := 1) hS rfl one22 rfl rfl) rfl ?_; clear hF; intro a hF
  refine s_pu hF (pu_faddr fld24_0 rfl) rfl ?_; clear hF; intro a hF
  refine s_pu hF (o_load1 (i := 0) hS rfl one22 rfl rfl) rfl ?_; clear hF; intro a hF
  refine s_pu hF (pu_ilt rfl rfl) rfl ?_; clear hF; intro a hF
  refine s_pu hF (pu_move rfl) rfl ?_; clear hF; intro a hF
  refine w_split hF ⟨_, _, (rfl : _[5]? = some _), rfl, rfl⟩ (fun hg1_5 => ?_) (fun hg1_5 => ?_)
  · have hg1_5p := hg1_5
    try simp only [decide_eq_true_eq, decide_eq_false_iff_not, Bool.not_eq_true', Bool.not_eq_false', Bool.not_eq_eq_eq_not, Bool.not_true, Bool.not_false] at hg1_5p
    refine g_no hF ⟨_, _, (rfl : _[5]? = some _), rfl, rfl⟩ hg1_5 rfl ?_; clear hF; intro a hF
    refine g_no hF ⟨_, _, (rfl : _[5]? = some _), rfl, rfl⟩ hg1_5 rfl ?_; clear hF; intro a hF
    refine g_no hF ⟨_, _, (rfl : _[5]? = some _), rfl, rfl⟩ hg1_5 rfl ?_; clear hF; intro a hF
    refine g_no hF ⟨_, _, (rfl : _[5]? = some _), rfl, rfl⟩ hg1_5 rfl ?_; clear hF; intro a hF
    refine g_no hF ⟨_, _, (rfl : _[5]? = some _), rfl, rfl⟩ hg1_5 rfl ?_; clear hF; intro a hF
    refine g_no hF ⟨_, _, (rfl : _[5]? = some _), rfl, rfl⟩ hg1_5 rfl ?_; clear hF; intro a hF
    refine g_noU hF ⟨_, _, (rfl : _[11]? = some _), rfl, rfl⟩ rfl ?_; clear hF; intro a hF
    refine g_noU hF ⟨_, _, (rfl : _[11]? = some _), rfl, rfl⟩ rfl ?_; clear hF; intro a hF
    refine g_noU hF ⟨_, _, (rfl : _[11]? = some _), rfl, rfl⟩ rfl ?_; clear hF; intro a hF
    refine g_noU hF ⟨_, _, (rfl : _[11]? = some _), rfl, rfl⟩ rfl ?_; clear hF; intro a hF
    refine g_noU hF ⟨_, _, (rfl : _[11]? = some _), rfl, rfl⟩ rfl ?_; clear hF; intro a hF
    refine g_noU hF ⟨_, _, (rfl : _[11]? = some _), rfl, rfl⟩ rfl ?_; clear hF; intro a hF
    refine g_noU hF ⟨_, _, (rfl : _[17]? = some _), rfl, rfl⟩ rfl ?_; clear hF; intro a hF
    refine g_noU hF ⟨_, _, (rfl : _[17]? = some _), rfl, rfl⟩ rfl ?_; clear hF; intro a hF
    refine g_noU hF ⟨_, _, (rfl : _[17]? = some _), rfl, rfl⟩ rfl ?_; clear hF; intro a hF
    refine g_noU hF ⟨_, _, (rfl : _[17]? = some _), rfl, rfl⟩ rfl ?_; clear hF; intro a hF
    refine g_noU hF ⟨_, _, (rfl : _[17]? = some _), rfl, rfl⟩ rfl ?_; clear hF; intro a hF
    refine g_noU hF ⟨_, _, (rfl : _[17]? = some _), rfl, rfl⟩ rfl ?_; clear hF; intro a hF
    refine g_noU hF ⟨_, _, (rfl : _[23]? = some _), rfl, rfl⟩ rfl ?_; clear hF; intro a hF
    refine g_noU hF ⟨_, _, (rfl : _[23]? = some _), rfl, rfl⟩ rfl ?_; clear hF; intro a hF
    refine g_noU hF ⟨_, _, (rfl : _[23]? = some _), rfl, rfl⟩ rfl ?_; clear hF; intro a hF
    refine g_noU hF ⟨_, _, (rfl : _[23]? = some _), rfl, rfl⟩ rfl ?_; clear hF; intro a hF
    refine g_noU hF ⟨_, _, (rfl : _[23]? = some _), rfl, rfl⟩ rfl ?_; clear hF; intro a hF
    refine g_noU hF ⟨_, _, (rfl : _[17]? = some _), rfl, rfl⟩ rfl ?_; clear hF; intro a hF
    refine g_noU hF ⟨_, _, (rfl : _[11]? = some _), rfl, rfl⟩ rfl ?_; clear hF; intro a hF
    refine g_no hF ⟨_, _, (rfl : _[5]? = some _), rfl, rfl⟩ hg1_5 rfl ?_; clear hF; intro a hF
    refine s_pu hF (pu_pick_t rfl hg1_5 rfl) rfl ?_; clear hF; intro a hF
    refine s_pu hF (pu_assign rfl) rfl ?_; clear hF; intro a hF
    refine c_nil ?_
    refine n_then ?_
    refine c_ift hF rfl rfl ?_
    refine c_seq ?_
    refine c_reg ?_
    refine s_pu hF (pu_assign rfl) rfl ?_; clear hF; intro a hF
    refine c_nil ?_
    refine n_then ?_
    refine c_ret (r_block (r_then ?_))
    exact f_ret hF rfl (.tmp rfl (.nil)) (hS.retv (congrArg (Value.int .i64) (cmp_less (by unfold lessV; omega)).symm))
  · have hg1_5p := hg1_5
    try simp only [decide_eq_true_eq, decide_eq_false_iff_not, Bool.not_eq_true', Bool.not_eq_false', Bool.not_eq_eq_eq_not, Bool.not_true, Bool.not_false] at hg1_5p
    refine g_pu hF ⟨_, _, (rfl : _[5]? = some _), rfl, rfl⟩ hg1_5 (pu_faddr fld24_0 rfl) rfl ?_; clear hF; intro a hF
    refine g_pu hF ⟨_, _, (rfl : _[5]? = some _), rfl, rfl⟩ hg1_5 (o_load1 (i := 1) hS rfl one22 rfl rfl) rfl ?_; clear hF; intro a hF
    refine g_pu hF ⟨_, _, (rfl : _[5]? = some _), rfl, rfl⟩ hg1_5 (pu_faddr fld24_0 rfl) rfl ?_; clear hF; intro a hF
    refine g_pu hF ⟨_, _, (rfl : _[5]? = some _), rfl, rfl⟩ hg1_5 (o_load1 (i := 0) hS rfl one22 rfl rfl) rfl ?_; clear hF; intro a hF
    refine g_pu hF ⟨_, _, (rfl : _[5]? = some _), rfl, rfl⟩ hg1_5 (pu_ieq rfl rfl) rfl ?_; clear hF; intro a hF
    refine g_pu hF ⟨_, _, (rfl : _[5]? = some _), rfl, rfl⟩ hg1_5 (pu_move rfl) rfl ?_; clear hF; intro a hF
    refine w_split hF ⟨_, _, (rfl : _[11]? = some _), rfl, rfl⟩ (fun hg1_11 => ?_) (fun hg1_11 => ?_)
    · have hg1_11p := hg1_11
      try simp only [decide_eq_true_eq, decide_eq_false_iff_not, Bool.not_eq_true', Bool.not_eq_false', Bool.not_eq_eq_eq_not, Bool.not_true, Bool.not_false] at hg1_11p
      refine g_pu hF ⟨_, _, (rfl : _[11]? = some _), rfl, rfl⟩ hg1_11 (pu_faddr fld24_1 rfl) rfl ?_; clear hF; intro a hF
      refine g_pu hF ⟨_, _, (rfl : _[11]? = some _), rfl, rfl⟩ hg1_11 (o_load1 (i := 1) hS rfl one3 rfl rfl) rfl ?_; clear hF; intro a hF
      refine g_pu hF ⟨_, _, (rfl : _[11]? = some _), rfl, rfl⟩ hg1_11 (pu_faddr fld24_1 rfl) rfl ?_; clear hF; intro a hF
      refine g_pu hF ⟨_, _, (rfl : _[11]? = some _), rfl, rfl⟩ hg1_11 (o_load1 (i := 0) hS rfl one3 rfl rfl) rfl ?_; clear hF; intro a hF
      refine g_pu hF ⟨_, _, (rfl : _[11]? = some _), rfl, rfl⟩ hg1_11 (pu_ilt rfl rfl) rfl ?_; clear hF; intro a hF
      refine g_pu hF ⟨_, _, (rfl : _[11]? = some _), rfl, rfl⟩ hg1_11 (pu_move rfl) rfl ?_; clear hF; intro a hF
      refine w_split hF ⟨_, _, (rfl : _[17]? = some _), rfl, rfl⟩ (fun hg1_17 => ?_) (fun hg1_17 => ?_)
      · have hg1_17p := hg1_17
        try simp only [decide_eq_true_eq, decide_eq_false_iff_not, Bool.not_eq_true', Bool.not_eq_false', Bool.not_eq_eq_eq_not, Bool.not_true, Bool.not_false] at hg1_17p
        refine g_no hF ⟨_, _, (rfl : _[17]? = some _), rfl, rfl⟩ hg1_17 rfl ?_; clear hF; intro a hF
        refine g_no hF ⟨_, _, (rfl : _[17]? = some _), rfl, rfl⟩ hg1_17 rfl ?_; clear hF; intro a hF
        refine g_no hF ⟨_, _, (rfl : _[17]? = some _), rfl, rfl⟩ hg1_17 rfl ?_; clear hF; intro a hF
        refine g_no hF ⟨_, _, (rfl : _[17]? = some _), rfl, rfl⟩ hg1_17 rfl ?_; clear hF; intro a hF
        refine g_no hF ⟨_, _, (rfl : _[17]? = some _), rfl, rfl⟩ hg1_17 rfl ?_; clear hF; intro a hF
        refine g_no hF ⟨_, _, (rfl : _[17]? = some _), rfl, rfl⟩ hg1_17 rfl ?_; clear hF; intro a hF
        refine g_noU hF ⟨_, _, (rfl : _[23]? = some _), rfl, rfl⟩ rfl ?_; clear hF; intro a hF
        refine g_noU hF ⟨_, _, (rfl : _[23]? = some _), rfl, rfl⟩ rfl ?_; clear hF; intro a hF
        refine g_noU hF ⟨_, _, (rfl : _[23]? = some _), rfl, rfl⟩ rfl ?_; clear hF; intro a hF
        refine g_noU hF ⟨_, _, (rfl : _[23]? = some _), rfl, rfl⟩ rfl ?_; clear hF; intro a hF
        refine g_noU hF ⟨_, _, (rfl : _[23]? = some _), rfl, rfl⟩ rfl ?_; clear hF; intro a hF
        refine g_no hF ⟨_, _, (rfl : _[17]? = some _), rfl, rfl⟩ hg1_17 rfl ?_; clear hF; intro a hF
        refine g_pu hF ⟨_, _, (rfl : _[11]? = some _), rfl, rfl⟩ hg1_11 (pu_pick_t rfl hg1_17 rfl) rfl ?_; clear hF; intro a hF
        refine g_pu hF ⟨_, _, (rfl : _[5]? = some _), rfl, rfl⟩ hg1_5 (pu_pick_t rfl hg1_11 rfl) rfl ?_; clear hF; intro a hF
        refine s_pu hF (pu_pick_f rfl hg1_5 rfl) rfl ?_; clear hF; intro a hF
        refine s_pu hF (pu_assign rfl) rfl ?_; clear hF; intro a hF
        refine c_nil ?_
        refine n_then ?_
        refine c_ift hF rfl rfl ?_
        refine c_seq ?_
        refine c_reg ?_
        refine s_pu hF (pu_assign rfl) rfl ?_; clear hF; intro a hF
        refine c_nil ?_
        refine n_then ?_
        refine c_ret (r_block (r_then ?_))
        exact f_ret hF rfl (.tmp rfl (.nil)) (hS.retv (congrArg (Value.int .i64) (cmp_less (by unfold lessV; omega)).symm))
      · have hg1_17p := hg1_17
        try simp only [decide_eq_true_eq, decide_eq_false_iff_not, Bool.not_eq_true', Bool.not_eq_false', Bool.not_eq_eq_eq_not, Bool.not_true, Bool.not_false] at hg1_17p
        refine g_pu hF ⟨_, _, (rfl : _[17]? = some _), rfl, rfl⟩ hg1_17 (pu_faddr fld24_1 rfl) rfl ?_; clear hF; intro a hF
        refine g_pu hF ⟨_, _, (rfl : _[17]? = some _), rfl, rfl⟩ hg1_17 (o_load1 (i := 1) hS rfl one3 rfl rfl) rfl ?_; clear hF; intro a hF
        refine g_pu hF ⟨_, _, (rfl : _[17]? = some _), rfl, rfl⟩ hg1_17 (pu_faddr fld24_1 rfl) rfl ?_; clear hF; intro a hF
        refine g_pu hF ⟨_, _, (rfl : _[17]? = some _), rfl, rfl⟩ hg1_17 (o_load1 (i := 0) hS rfl one3 rfl rfl) rfl ?_; clear hF; intro a hF
        refine g_pu hF ⟨_, _, (rfl : _[17]? = some _), rfl, rfl⟩ hg1_17 (pu_ieq rfl rfl) rfl ?_; clear hF; intro a hF
        refine g_pu hF ⟨_, _, (rfl : _[17]? = some _), rfl, rfl⟩ hg1_17 (pu_move rfl) rfl ?_; clear hF; intro a hF
        refine w_split hF ⟨_, _, (rfl : _[23]? = some _), rfl, rfl⟩ (fun hg1_23 => ?_) (fun hg1_23 => ?_)
        · have hg1_23p := hg1_23
          try simp only [decide_eq_true_eq, decide_eq_false_iff_not, Bool.not_eq_true', Bool.not_eq_false', Bool.not_eq_eq_eq_not, Bool.not_true, Bool.not_false] at hg1_23p
          refine g_pu hF ⟨_, _, (rfl : _[23]? = some _), rfl, rfl⟩ hg1_23 (pu_faddr fld24_2 rfl) rfl ?_; clear hF; intro a hF
          refine g_pu hF ⟨_, _, (rfl : _[23]? = some _), rfl, rfl⟩ hg1_23 (o_load1 (i := 1) hS rfl one9 rfl rfl) rfl ?_; clear hF; intro a hF
          refine g_pu hF ⟨_, _, (rfl : _[23]? = some _), rfl, rfl⟩ hg1_23 (pu_faddr fld24_2 rfl) rfl ?_; clear hF; intro a hF
          refine g_pu hF ⟨_, _, (rfl : _[23]? = some _), rfl, rfl⟩ hg1_23 (o_load1 (i := 0) hS rfl one9 rfl rfl) rfl ?_; clear hF; intro a hF
          refine g_pu hF ⟨_, _, (rfl : _[23]? = some _), rfl, rfl⟩ hg1_23 (pu_slt rfl rfl) rfl ?_; clear hF; intro a hF
          refine g_pu hF ⟨_, _, (rfl : _[17]? = some _), rfl, rfl⟩ hg1_17 (pu_pick_t rfl hg1_23 rfl) rfl ?_; clear hF; intro a hF
          refine g_pu hF ⟨_, _, (rfl : _[11]? = some _), rfl, rfl⟩ hg1_11 (pu_pick_f rfl hg1_17 rfl) rfl ?_; clear hF; intro a hF
          refine g_pu hF ⟨_, _, (rfl : _[5]? = some _), rfl, rfl⟩ hg1_5 (pu_pick_t rfl hg1_11 rfl) rfl ?_; clear hF; intro a hF
          refine s_pu hF (pu_pick_f rfl hg1_5 rfl) rfl ?_; clear hF; intro a hF
          refine s_pu hF (pu_assign rfl) rfl ?_; clear hF; intro a hF
          refine c_nil ?_
          refine n_then ?_
          refine c_if hF rfl (fun hc5 => ?_) (fun hc5 => ?_)
          · try simp only [decide_eq_true_eq, decide_eq_false_iff_not, Bool.not_eq_true', Bool.not_eq_false', Bool.not_eq_eq_eq_not, Bool.not_true, Bool.not_false] at hc5
            refine c_seq ?_
            refine c_reg ?_
            refine s_pu hF (pu_assign rfl) rfl ?_; clear hF; intro a hF
            refine c_nil ?_
            refine n_then ?_
            refine c_ret (r_block (r_then ?_))
            exact f_ret hF rfl (.tmp rfl (.nil)) (hS.retv (congrArg (Value.int .i64) (cmp_less (by unfold lessV; omega)).symm))
          · try simp only [decide_eq_true_eq, decide_eq_false_iff_not, Bool.not_eq_true', Bool.not_eq_false', Bool.not_eq_eq_eq_not, Bool.not_true, Bool.not_false] at hc5
            refine c_seq ?_
            refine c_reg ?_
            refine s_pu hF (o_loadA (i := 1) (new := valC x) hS rfl agg24 rfl (rfl)) rfl ?_; clear hF; intro a hF
            refine s_pu hF (o_loadA (i := 0) (new := valC y) hS rfl agg24 rfl (rfl)) rfl ?_; clear hF; intro a hF
            refine s_pu hF (pu_aeq (a := x) (b := y) eqV rfl rfl) rfl ?_; clear hF; intro a hF
            refine s_pu hF (pu_assign rfl) rfl ?_; clear hF; intro a hF
            refine c_nil ?_
            refine n_then ?_
            refine c_if hF rfl (fun hc39 => ?_) (fun hc39 => ?_)
            · try simp only [decide_eq_true_eq, decide_eq_false_iff_not, Bool.not_eq_true', Bool.not_eq_false', Bool.not_eq_eq_eq_not, Bool.not_true, Bool.not_false] at hc39
              refine c_seq ?_
              refine c_reg ?_
              refine s_pu hF (pu_assign rfl) rfl ?_; clear hF; intro a hF
              refine c_nil ?_
              refine n_then ?_
              refine c_ret (r_block (r_then ?_))
              exact f_ret hF rfl (.tmp rfl (.nil)) (hS.retv (congrArg (Value.int .i64) (by rw [hc39]; exact (cmp_same y).symm)))
            · try simp only [decide_eq_true_eq, decide_eq_false_iff_not, Bool.not_eq_true', Bool.not_eq_false', Bool.not_eq_eq_eq_not, Bool.not_true, Bool.not_false] at hc39
              refine c_skip ?_
              refine n_block ?_
              refine n_then ?_
              refine c_seq ?_
              refine c_reg ?_
              refine s_pu hF (pu_assign rfl) rfl ?_; clear hF; intro a hF
              refine c_nil ?_
              refine n_then ?_
              refine c_ret ?_
              exact f_ret hF rfl (.tmp rfl (.nil)) (hS.retv (congrArg (Value.int .i64) (cmp_more (by unfold lessV; omega) hc39).symm))
        · have hg1_23p := hg1_23
          try simp only [decide_eq_true_eq, decide_eq_false_iff_not, Bool.not_eq_true', Bool.not_eq_false', Bool.not_eq_eq_eq_not, Bool.not_true, Bool.not_false] at hg1_23p
          refine g_no hF ⟨_, _, (rfl : _[23]? = some _), rfl, rfl⟩ hg1_23 rfl ?_; clear hF; intro a hF
          refine g_no hF ⟨_, _, (rfl : _[23]? = some _), rfl, rfl⟩ hg1_23 rfl ?_; clear hF; intro a hF
          refine g_no hF ⟨_, _, (rfl : _[23]? = some _), rfl, rfl⟩ hg1_23 rfl ?_; clear hF; intro a hF
          refine g_no hF ⟨_, _, (rfl : _[23]? = some _), rfl, rfl⟩ hg1_23 rfl ?_; clear hF; intro a hF
          refine g_no hF ⟨_, _, (rfl : _[23]? = some _), rfl, rfl⟩ hg1_23 rfl ?_; clear hF; intro a hF
          refine g_pu hF ⟨_, _, (rfl : _[17]? = some _), rfl, rfl⟩ hg1_17 (pu_pick_f rfl hg1_23 rfl) rfl ?_; clear hF; intro a hF
          refine g_pu hF ⟨_, _, (rfl : _[11]? = some _), rfl, rfl⟩ hg1_11 (pu_pick_f rfl hg1_17 rfl) rfl ?_; clear hF; intro a hF
          refine g_pu hF ⟨_, _, (rfl : _[5]? = some _), rfl, rfl⟩ hg1_5 (pu_pick_t rfl hg1_11 rfl) rfl ?_; clear hF; intro a hF
          refine s_pu hF (pu_pick_f rfl hg1_5 rfl) rfl ?_; clear hF; intro a hF
          refine s_pu hF (pu_assign rfl) rfl ?_; clear hF; intro a hF
          refine c_nil ?_
          refine n_then ?_
          refine c_iff hF rfl rfl ?_
          refine c_seq ?_
          refine c_reg ?_
          refine s_pu hF (o_loadA (i := 1) (new := valC x) hS rfl agg24 rfl (rfl)) rfl ?_; clear hF; intro a hF
          refine s_pu hF (o_loadA (i := 0) (new := valC y) hS rfl agg24 rfl (rfl)) rfl ?_; clear hF; intro a hF
          refine s_pu hF (pu_aeq (a := x) (b := y) eqV rfl rfl) rfl ?_; clear hF; intro a hF
          refine s_pu hF (pu_assign rfl) rfl ?_; clear hF; intro a hF
          refine c_nil ?_
          refine n_then ?_
          refine c_if hF rfl (fun hc39 => ?_) (fun hc39 => ?_)
          · try simp only [decide_eq_true_eq, decide_eq_false_iff_not, Bool.not_eq_true', Bool.not_eq_false', Bool.not_eq_eq_eq_not, Bool.not_true, Bool.not_false] at hc39
            refine c_seq ?_
            refine c_reg ?_
            refine s_pu hF (pu_assign rfl) rfl ?_; clear hF; intro a hF
            refine c_nil ?_
            refine n_then ?_
            refine c_ret (r_block (r_then ?_))
            exact f_ret hF rfl (.tmp rfl (.nil)) (hS.retv (congrArg (Value.int .i64) (by rw [hc39]; exact (cmp_same y).symm)))
          · try simp only [decide_eq_true_eq, decide_eq_false_iff_not, Bool.not_eq_true', Bool.not_eq_false', Bool.not_eq_eq_eq_not, Bool.not_true, Bool.not_false] at hc39
            refine c_skip ?_
            refine n_block ?_
            refine n_then ?_
            refine c_seq ?_
            refine c_reg ?_
            refine s_pu hF (pu_assign rfl) rfl ?_; clear hF; intro a hF
            refine c_nil ?_
            refine n_then ?_
            refine c_ret ?_
            exact f_ret hF rfl (.tmp rfl (.nil)) (hS.retv (congrArg (Value.int .i64) (cmp_more (by unfold lessV; omega) hc39).symm))
    · have hg1_11p := hg1_11
      try simp only [decide_eq_true_eq, decide_eq_false_iff_not, Bool.not_eq_true', Bool.not_eq_false', Bool.not_eq_eq_eq_not, Bool.not_true, Bool.not_false] at hg1_11p
      refine g_no hF ⟨_, _, (rfl : _[11]? = some _), rfl, rfl⟩ hg1_11 rfl ?_; clear hF; intro a hF
      refine g_no hF ⟨_, _, (rfl : _[11]? = some _), rfl, rfl⟩ hg1_11 rfl ?_; clear hF; intro a hF
      refine g_no hF ⟨_, _, (rfl : _[11]? = some _), rfl, rfl⟩ hg1_11 rfl ?_; clear hF; intro a hF
      refine g_no hF ⟨_, _, (rfl : _[11]? = some _), rfl, rfl⟩ hg1_11 rfl ?_; clear hF; intro a hF
      refine g_no hF ⟨_, _, (rfl : _[11]? = some _), rfl, rfl⟩ hg1_11 rfl ?_; clear hF; intro a hF
      refine g_no hF ⟨_, _, (rfl : _[11]? = some _), rfl, rfl⟩ hg1_11 rfl ?_; clear hF; intro a hF
      refine g_noU hF ⟨_, _, (rfl : _[17]? = some _), rfl, rfl⟩ rfl ?_; clear hF; intro a hF
      refine g_noU hF ⟨_, _, (rfl : _[17]? = some _), rfl, rfl⟩ rfl ?_; clear hF; intro a hF
      refine g_noU hF ⟨_, _, (rfl : _[17]? = some _), rfl, rfl⟩ rfl ?_; clear hF; intro a hF
      refine g_noU hF ⟨_, _, (rfl : _[17]? = some _), rfl, rfl⟩ rfl ?_; clear hF; intro a hF
      refine g_noU hF ⟨_, _, (rfl : _[17]? = some _), rfl, rfl⟩ rfl ?_; clear hF; intro a hF
      refine g_noU hF ⟨_, _, (rfl : _[17]? = some _), rfl, rfl⟩ rfl ?_; clear hF; intro a hF
      refine g_noU hF ⟨_, _, (rfl : _[23]? = some _), rfl, rfl⟩ rfl ?_; clear hF; intro a hF
      refine g_noU hF ⟨_, _, (rfl : _[23]? = some _), rfl, rfl⟩ rfl ?_; clear hF; intro a hF
      refine g_noU hF ⟨_, _, (rfl : _[23]? = some _), rfl, rfl⟩ rfl ?_; clear hF; intro a hF
      refine g_noU hF ⟨_, _, (rfl : _[23]? = some _), rfl, rfl⟩ rfl ?_; clear hF; intro a hF
      refine g_noU hF ⟨_, _, (rfl : _[23]? = some _), rfl, rfl⟩ rfl ?_; clear hF; intro a hF
      refine g_noU hF ⟨_, _, (rfl : _[17]? = some _), rfl, rfl⟩ rfl ?_; clear hF; intro a hF
      refine g_no hF ⟨_, _, (rfl : _[11]? = some _), rfl, rfl⟩ hg1_11 rfl ?_; clear hF; intro a hF
      refine g_pu hF ⟨_, _, (rfl : _[5]? = some _), rfl, rfl⟩ hg1_5 (pu_pick_f rfl hg1_11 rfl) rfl ?_; clear hF; intro a hF
      refine s_pu hF (pu_pick_f rfl hg1_5 rfl) rfl ?_; clear hF; intro a hF
      refine s_pu hF (pu_assign rfl) rfl ?_; clear hF; intro a hF
      refine c_nil ?_
      refine n_then ?_
      refine c_iff hF rfl rfl ?_
      refine c_seq ?_
      refine c_reg ?_
      refine s_pu hF (o_loadA (i := 1) (new := valC x) hS rfl agg24 rfl (rfl)) rfl ?_; clear hF; intro a hF
      refine s_pu hF (o_loadA (i := 0) (new := valC y) hS rfl agg24 rfl (rfl)) rfl ?_; clear hF; intro a hF
      refine s_pu hF (pu_aeq (a := x) (b := y) eqV rfl rfl) rfl ?_; clear hF; intro a hF
      refine s_pu hF (pu_assign rfl) rfl ?_; clear hF; intro a hF
      refine c_nil ?_
      refine n_then ?_
      refine c_if hF rfl (fun hc39 => ?_) (fun hc39 => ?_)
      · try simp only [decide_eq_true_eq, decide_eq_false_iff_not, Bool.not_eq_true', Bool.not_eq_false', Bool.not_eq_eq_eq_not, Bool.not_true, Bool.not_false] at hc39
        refine c_seq ?_
        refine c_reg ?_
        refine s_pu hF (pu_assign rfl) rfl ?_; clear hF; intro a hF
        refine c_nil ?_
        refine n_then ?_
        refine c_ret (r_block (r_then ?_))
        exact f_ret hF rfl (.tmp rfl (.nil)) (hS.retv (congrArg (Value.int .i64) (by rw [hc39]; exact (cmp_same y).symm)))
      · try simp only [decide_eq_true_eq, decide_eq_false_iff_not, Bool.not_eq_true', Bool.not_eq_false', Bool.not_eq_eq_eq_not, Bool.not_true, Bool.not_false] at hc39
        refine c_skip ?_
        refine n_block ?_
        refine n_then ?_
        refine c_seq ?_
        refine c_reg ?_
        refine s_pu hF (pu_assign rfl) rfl ?_; clear hF; intro a hF
        refine c_nil ?_
        refine n_then ?_
        refine c_ret ?_
        exact f_ret hF rfl (.tmp rfl (.nil)) (hS.retv (congrArg (Value.int .i64) (cmp_more (by unfold lessV; omega) hc39).symm))
set_option maxHeartbeats 1000000 in
theorem c_Take (s : List UInt8) (w0 : World) (h0 : View) (hv : VLe h0 (Full w0))  : Calls Tryd.prog 20 #[vs s] w0 (Ret w0 h0 fun u _ => u = tvV (takeV s)) := by
  refine f_enter (args := [vs s]) Tryd.func20 rfl Tryd.ntmps20 rfl fun a hF => ?_
  have hS := St.init w0 h0 hv
  refine c_seq ?_
  refine c_reg ?_
  refine s_alloc hF hS zero24 rfl ?_; clear hS hF; intro b0 w a hS hF
  refine s_pu hF (pu_assign rfl) rfl ?_; clear hF; intro a hF
  refine s_pu hF (pu_assign rfl) rfl ?_; clear hF; intro a hF
  refine c_nil ?_
  refine n_then ?_
  refine c_seq ?_
  refine c_reg ?_
  refine s_pu hF (pu_move rfl) rfl ?_; clear hF; intro a hF
  refine s_callv hF hS ok40 rfl (c_TakeNum s _ _ hS.view) rfl ?_; clear hS hF; intro w a hS hF
  refine s_pu hF (pu_move rfl) rfl ?_; clear hF; intro a hF
  refine s_pu hF (pu_extract rfl rfl) rfl ?_; clear hF; intro a hF
  refine s_pu hF (pu_extract rfl rfl) rfl ?_; clear hF; intro a hF
  refine s_pu hF (pu_extract rfl rfl) rfl ?_; clear hF; intro a hF
  refine s_pu hF (pu_assign rfl) rfl ?_; clear hF; intro a hF
  refine s_pu hF (pu_assign rfl) rfl ?_; clear hF; intro a hF
  refine s_pu hF (pu_assign rfl) rfl ?_; clear hF; intro a hF
  refine c_nil ?_
  refine n_then ?_
  refine c_seq ?_
  refine c_reg ?_
  refine s_pu hF (pu_move rfl) rfl ?_; clear hF; intro a hF
  refine s_pu hF (pu_build_st (cs := valC ⟨(takeN s).1, 0, []⟩) strb24 rfl rfl) rfl ?_; clear hF; intro a hF
  refine s_alloc hF hS zero24 rfl ?_; clear hS hF; intro b1 w a hS hF
  refine s_store (i := 0) (new := valC ⟨(takeN s).1, 0, []⟩) hF hS rfl rfl rfl rfl (by exact sz24) rfl (by simp [valC]) ?_; clear hS hF; intro w a hS hF
  rw [spl_all (by simp [valC])] at hS
  refine c_nil ?_
  refine n_then ?_
  refine hS.cut fun OK10 FK10 hOK10 hFK10 hS => ?_
  refine hF.cut .nil (.cons (k := 2) rfl <| .cons (k := 8) rfl <| .nil) fun LK10 hLK10 _ => ?_
  refine c_seq_cut (fun a w => Fr a 64 ([(6, .val (vs (takeU s).2.1)), (7, .val (.int .i64 (takeU s).2.2))] ++ LK10) ∧ St w0 h0 [] w [(some b1, CellsC 24 (valC (takeU s).1)), (some b0, CellsC 24 (valC v0))] FK10) ?_ ?_
  · subst hOK10 hFK10 hLK10
    refine c_block ?_
    refine c_seq ?_
    refine c_reg ?_
    refine s_pu hF (pu_move rfl) rfl ?_; clear hF; intro a hF
    refine s_pu hF (pu_ine rfl rfl) rfl ?_; clear hF; intro a hF
    refine s_pu hF (pu_assign rfl) rfl ?_; clear hF; intro a hF
    refine c_nil ?_
    refine n_then ?_
    refine c_if hF rfl (fun hc17 => ?_) (fun hc17 => ?_)
    · try simp only [decide_eq_true_eq, decide_eq_false_iff_not, Bool.not_eq_true', Bool.not_eq_false', Bool.not_eq_eq_eq_not, Bool.not_true, Bool.not_false] at hc17
      refine c_skip ?_
      refine n_block ?_
      refine n_then ?_
      first | (rw [takeU_err (s := s) (by omega)]; exact ⟨hF.pick (.cons (k := 6) rfl <| .cons (k := 7) rfl <| .cons (k := 2) rfl <| .cons (k := 8) rfl <| .nil), hS⟩) | (rw [takeU_k0e (s := s) (by omega) (by omega)]; exact ⟨hF.pick (.cons (k := 6) rfl <| .cons (k := 7) rfl <| .cons (k := 2) rfl <| .cons (k := 8) rfl <| .nil), hS⟩) | (rw [takeU_k13 (s := s) (by omega) (by omega)]; exact ⟨hF.pick (.cons (k := 6) rfl <| .cons (k := 7) rfl <| .cons (k := 2) rfl <| .cons (k := 8) rfl <| .nil), hS⟩) | (rw [takeU_k2 (s := s) (by omega) (by omega)]; exact ⟨hF.pick (.cons (k := 6) rfl <| .cons (k := 7) rfl <| .cons (k := 2) rfl <| .cons (k := 8) rfl <| .nil), hS⟩) | (rw [takeU_no (s := s) (by omega) (by omega) (by omega) (by omega) (by omega)]; exact ⟨hF.pick (.cons (k := 6) rfl <| .cons (k := 7) rfl <| .cons (k := 2) rfl <| .cons (k := 8) rfl <| .nil), hS⟩)
    · try simp only [decide_eq_true_eq, decide_eq_false_iff_not, Bool.not_eq_true', Bool.not_eq_false', Bool.not_eq_eq_eq_not, Bool.not_true, Bool.not_false] at hc17
      refine c_seq ?_
      refine c_reg ?_
      refine s_pu hF (pu_faddr fld24_0 rfl) rfl ?_; clear hF; intro a hF
      refine s_pu hF (o_load1 (i := 0) hS rfl one22 rfl rfl) rfl ?_; clear hF; intro a hF
      refine s_pu hF (pu_ieq rfl rfl) rfl ?_; clear hF; intro a hF
      refine s_pu hF (pu_assign rfl) rfl ?_; clear hF; intro a hF
      refine c_nil ?_
      refine n_then ?_
      refine c_if hF rfl (fun hc20 => ?_) (fun hc20 => ?_)
      · try simp only [decide_eq_true_eq, decide_eq_false_iff_not, Bool.not_eq_true', Bool.not_eq_false', Bool.not_eq_eq_eq_not, Bool.not_true, Bool.not_false] at hc20
        refine c_skip ?_
        refine n_block ?_
        refine n_then ?_
        first | (rw [takeU_err (s := s) (by omega)]; exact ⟨hF.pick (.cons (k := 6) rfl <| .cons (k := 7) rfl <| .cons (k := 2) rfl <| .cons (k := 8) rfl <| .nil), hS⟩) | (rw [takeU_k0e (s := s) (by omega) (by omega)]; exact ⟨hF.pick (.cons (k := 6) rfl <| .cons (k := 7) rfl <| .cons (k := 2) rfl <| .cons (k := 8) rfl <| .nil), hS⟩) | (rw [takeU_k13 (s := s) (by omega) (by omega)]; exact ⟨hF.pick (.cons (k := 6) rfl <| .cons (k := 7) rfl <| .cons (k := 2) rfl <| .cons (k := 8) rfl <| .nil), hS⟩) | (rw [takeU_k2 (s := s) (by omega) (by omega)]; exact ⟨hF.pick (.cons (k := 6) rfl <| .cons (k := 7) rfl <| .cons (k := 2) rfl <| .cons (k := 8) rfl <| .nil), hS⟩) | (rw [takeU_no (s := s) (by omega) (by omega) (by omega) (by omega) (by omega)]; exact ⟨hF.pick (.cons (k := 6) rfl <| .cons (k := 7) rfl <| .cons (k := 2) rfl <| .cons (k := 8) rfl <| .nil), hS⟩)
      · try simp only [decide_eq_true_eq, decide_eq_false_iff_not, Bool.not_eq_true', Bool.not_eq_false', Bool.not_eq_eq_eq_not, Bool.not_true, Bool.not_false] at hc20
        refine c_seq ?_
        refine c_reg ?_
        refine s_pu hF (pu_faddr fld24_0 rfl) rfl ?_; clear hF; intro a hF
        refine s_pu hF (o_load1 (i := 0) hS rfl one22 rfl rfl) rfl ?_; clear hF; intro a hF
        refine s_pu hF (pu_ieq rfl rfl) rfl ?_; clear hF; intro a hF
        refine s_pu hF (pu_move rfl) rfl ?_; clear hF; intro a hF
        refine w_split hF ⟨_, _, (rfl : _[3]? = some _), rfl, rfl⟩ (fun hg6_3 => ?_) (fun hg6_3 => ?_)
        · have hg6_3p := hg6_3
          try simp only [decide_eq_true_eq, decide_eq_false_iff_not, Bool.not_eq_true', Bool.not_eq_false', Bool.not_eq_eq_eq_not, Bool.not_true, Bool.not_false] at hg6_3p
          refine g_no hF ⟨_, _, (rfl : _[3]? = some _), rfl, rfl⟩ hg6_3 rfl ?_; clear hF; intro a hF
          refine g_no hF ⟨_, _, (rfl : _[3]? = some _), rfl, rfl⟩ hg6_3 rfl ?_; clear hF; intro a hF
          refine g_no hF ⟨_, _, (rfl : _[3]? = some _), rfl, rfl⟩ hg6_3 rfl ?_; clear hF; intro a hF
          refine s_pu hF (pu_pick_t rfl hg6_3 rfl) rfl ?_; clear hF; intro a hF
          refine s_pu hF (pu_assign rfl) rfl ?_; clear hF; intro a hF
          refine c_nil ?_
          refine n_then ?_
          refine c_ift hF rfl rfl ?_
          refine c_reg ?_
          refine s_pu hF (pu_move rfl) rfl ?_; clear hF; intro a hF
          refine s_callv hF hS ok40 rfl (c_TakeNum _ _ _ hS.view) rfl ?_; clear hS hF; intro w a hS hF
          refine s_pu hF (pu_move rfl) rfl ?_; clear hF; intro a hF
          refine s_pu hF (pu_extract rfl rfl) rfl ?_; clear hF; intro a hF
          refine s_pu hF (pu_extract rfl rfl) rfl ?_; clear hF; intro a hF
          refine s_pu hF (pu_extract rfl rfl) rfl ?_; clear hF; intro a hF
          refine s_pu hF (pu_faddr fld24_1 rfl) rfl ?_; clear hF; intro a hF
          refine s_store (i := 0) hF hS rfl rfl rfl rfl sz3 rfl (by first | (simp; done) | exact Nat.le_of_ble_eq_true rfl) ?_; clear hS hF; intro w a hS hF
          refine s_pu hF (pu_assign rfl) rfl ?_; clear hF; intro a hF
          refine s_pu hF (pu_assign rfl) rfl ?_; clear hF; intro a hF
          refine c_nil ?_
          refine n_block ?_
          refine n_then ?_
          first | (rw [takeU_err (s := s) (by omega)]; exact ⟨hF.pick (.cons (k := 6) rfl <| .cons (k := 7) rfl <| .cons (k := 2) rfl <| .cons (k := 8) rfl <| .nil), hS⟩) | (rw [takeU_k0e (s := s) (by omega) (by omega)]; exact ⟨hF.pick (.cons (k := 6) rfl <| .cons (k := 7) rfl <| .cons (k := 2) rfl <| .cons (k := 8) rfl <| .nil), hS⟩) | (rw [takeU_k13 (s := s) (by omega) (by omega)]; exact ⟨hF.pick (.cons (k := 6) rfl <| .cons (k := 7) rfl <| .cons (k := 2) rfl <| .cons (k := 8) rfl <| .nil), hS⟩) | (rw [takeU_k2 (s := s) (by omega) (by omega)]; exact ⟨hF.pick (.cons (k := 6) rfl <| .cons (k := 7) rfl <| .cons (k := 2) rfl <| .cons (k := 8) rfl <| .nil), hS⟩) | (rw [takeU_no (s := s) (by omega) (by omega) (by omega) (by omega) (by omega)]; exact ⟨hF.pick (.cons (k := 6) rfl <| .cons (k := 7) rfl <| .cons (k := 2) rfl <| .cons (k := 8) rfl <| .nil), hS⟩)
        · have hg6_3p := hg6_3
          try simp only [decide_eq_true_eq, decide_eq_false_iff_not, Bool.not_eq_true', Bool.not_eq_false', Bool.not_eq_eq_eq_not, Bool.not_true, Bool.not_false] at hg6_3p
          refine g_pu hF ⟨_, _, (rfl : _[3]? = some _), rfl, rfl⟩ hg6_3 (pu_faddr fld24_0 rfl) rfl ?_; clear hF; intro a hF
          refine g_pu hF ⟨_, _, (rfl : _[3]? = some _), rfl, rfl⟩ hg6_3 (o_load1 (i := 0) hS rfl one22 rfl rfl) rfl ?_; clear hF; intro a hF
          refine g_pu hF ⟨_, _, (rfl : _[3]? = some _), rfl, rfl⟩ hg6_3 (pu_ieq rfl rfl) rfl ?_; clear hF; intro a hF
          refine s_pu hF (pu_pick_f rfl hg6_3 rfl) rfl ?_; clear hF; intro a hF
          refine s_pu hF (pu_assign rfl) rfl ?_; clear hF; intro a hF
          refine c_nil ?_
          refine n_then ?_
          refine c_if hF rfl (fun hc24 => ?_) (fun hc24 => ?_)
          · try simp only [decide_eq_true_eq, decide_eq_false_iff_not, Bool.not_eq_true', Bool.not_eq_false', Bool.not_eq_eq_eq_not, Bool.not_true, Bool.not_false] at hc24
            refine c_reg ?_
            refine s_pu hF (pu_move rfl) rfl ?_; clear hF; intro a hF
            refine s_callv hF hS ok40 rfl (c_TakeNum _ _ _ hS.view) rfl ?_; clear hS hF; intro w a hS hF
            refine s_pu hF (pu_move rfl) rfl ?_; clear hF; intro a hF
            refine s_pu hF (pu_extract rfl rfl) rfl ?_; clear hF; intro a hF
            refine s_pu hF (pu_extract rfl rfl) rfl ?_; clear hF; intro a hF
            refine s_pu hF (pu_extract rfl rfl) rfl ?_; clear hF; intro a hF
            refine s_pu hF (pu_faddr fld24_1 rfl) rfl ?_; clear hF; intro a hF
            refine s_store (i := 0) hF hS rfl rfl rfl rfl sz3 rfl (by first | (simp; done) | exact Nat.le_of_ble_eq_true rfl) ?_; clear hS hF; intro w a hS hF
            refine s_pu hF (pu_assign rfl) rfl ?_; clear hF; intro a hF
            refine s_pu hF (pu_assign rfl) rfl ?_; clear hF; intro a hF
            refine c_nil ?_
            refine n_block ?_
            refine n_then ?_
            first | (rw [takeU_err (s := s) (by omega)]; exact ⟨hF.pick (.cons (k := 6) rfl <| .cons (k := 7) rfl <| .cons (k := 2) rfl <| .cons (k := 8) rfl <| .nil), hS⟩) | (rw [takeU_k0e (s := s) (by omega) (by omega)]; exact ⟨hF.pick (.cons (k := 6) rfl <| .cons (k := 7) rfl <| .cons (k := 2) rfl <| .cons (k := 8) rfl <| .nil), hS⟩) | (rw [takeU_k13 (s := s) (by omega) (by omega)]; exact ⟨hF.pick (.cons (k := 6) rfl <| .cons (k := 7) rfl <| .cons (k := 2) rfl <| .cons (k := 8) rfl <| .nil), hS⟩) | (rw [takeU_k2 (s := s) (by omega) (by omega)]; exact ⟨hF.pick (.cons (k := 6) rfl <| .cons (k := 7) rfl <| .cons (k := 2) rfl <| .cons (k := 8) rfl <| .nil), hS⟩) | (rw [takeU_no (s := s) (by omega) (by omega) (by omega) (by omega) (by omega)]; exact ⟨hF.pick (.cons (k := 6) rfl <| .cons (k := 7) rfl <| .cons (k := 2) rfl <| .cons (k := 8) rfl <| .nil), hS⟩)
          · try simp only [decide_eq_true_eq, decide_eq_false_iff_not, Bool.not_eq_true', Bool.not_eq_false', Bool.not_eq_eq_eq_not, Bool.not_true, Bool.not_false] at hc24
            refine c_seq ?_
            refine c_reg ?_
            refine s_pu hF (pu_faddr fld24_0 rfl) rfl ?_; clear hF; intro a hF
            refine s_pu hF (o_load1 (i := 0) hS rfl one22 rfl rfl) rfl ?_; clear hF; intro a hF
            refine s_pu hF (pu_ieq rfl rfl) rfl ?_; clear hF; intro a hF
            refine s_pu hF (pu_assign rfl) rfl ?_; clear hF; intro a hF
            refine c_nil ?_
            refine n_then ?_
            refine c_if hF rfl (fun hc40 => ?_) (fun hc40 => ?_)
            · try simp only [decide_eq_true_eq, decide_eq_false_iff_not, Bool.not_eq_true', Bool.not_eq_false', Bool.not_eq_eq_eq_not, Bool.not_true, Bool.not_false] at hc40
              refine c_reg ?_
              refine s_pu hF (pu_move rfl) rfl ?_; clear hF; intro a hF
              refine s_callv hF hS ok41 rfl (c_TakeText _ 40 _ _ hS.view) rfl ?_; clear hS hF; intro w a hS hF
              refine s_pu hF (pu_move rfl) rfl ?_; clear hF; intro a hF
              refine s_pu hF (pu_extract rfl rfl) rfl ?_; clear hF; intro a hF
              refine s_pu hF (pu_extract rfl rfl) rfl ?_; clear hF; intro a hF
              refine s_pu hF (pu_extract rfl rfl) rfl ?_; clear hF; intro a hF
              refine s_pu hF (pu_faddr fld24_2 rfl) rfl ?_; clear hF; intro a hF
              refine s_store (i := 0) hF hS rfl rfl rfl rfl sz9 rfl (by first | (simp; done) | exact Nat.le_of_ble_eq_true rfl) ?_; clear hS hF; intro w a hS hF
              refine s_pu hF (pu_assign rfl) rfl ?_; clear hF; intro a hF
              refine s_pu hF (pu_assign rfl) rfl ?_; clear hF; intro a hF
              refine c_nil ?_
              refine n_block ?_
              refine n_then ?_
              first | (rw [takeU_err (s := s) (by omega)]; exact ⟨hF.pick (.cons (k := 6) rfl <| .cons (k := 7) rfl <| .cons (k := 2) rfl <| .cons (k := 8) rfl <| .nil), hS⟩) | (rw [takeU_k0e (s := s) (by omega) (by omega)]; exact ⟨hF.pick (.cons (k := 6) rfl <| .cons (k := 7) rfl <| .cons (k := 2) rfl <| .cons (k := 8) rfl <| .nil), hS⟩) | (rw [takeU_k13 (s := s) (by omega) (by omega)]; exact ⟨hF.pick (.cons (k := 6) rfl <| .cons (k := 7) rfl <| .cons (k := 2) rfl <| .cons (k := 8) rfl <| .nil), hS⟩) | (rw [takeU_k2 (s := s) (by omega) (by omega)]; exact ⟨hF.pick (.cons (k := 6) rfl <| .cons (k := 7) rfl <| .cons (k := 2) rfl <| .cons (k := 8) rfl <| .nil), hS⟩) | (rw [takeU_no (s := s) (by omega) (by omega) (by omega) (by omega) (by omega)]; exact ⟨hF.pick (.cons (k := 6) rfl <| .cons (k := 7) rfl <| .cons (k := 2) rfl <| .cons (k := 8) rfl <| .nil), hS⟩)
            · try simp only [decide_eq_true_eq, decide_eq_false_iff_not, Bool.not_eq_true', Bool.not_eq_false', Bool.not_eq_eq_eq_not, Bool.not_true, Bool.not_false] at hc40
              refine c_reg ?_
              refine s_pu hF (pu_assign rfl) rfl ?_; clear hF; intro a hF
              refine c_nil ?_
              refine n_block ?_
              refine n_then ?_
              first | (rw [takeU_err (s := s) (by omega)]; exact ⟨hF.pick (.cons (k := 6) rfl <| .cons (k := 7) rfl <| .cons (k := 2) rfl <| .cons (k := 8) rfl <| .nil), hS⟩) | (rw [takeU_k0e (s := s) (by omega) (by omega)]; exact ⟨hF.pick (.cons (k := 6) rfl <| .cons (k := 7) rfl <| .cons (k := 2) rfl <| .cons (k := 8) rfl <| .nil), hS⟩) | (rw [takeU_k13 (s := s) (by omega) (by omega)]; exact ⟨hF.pick (.cons (k := 6) rfl <| .cons (k := 7) rfl <| .cons (k := 2) rfl <| .cons (k := 8) rfl <| .nil), hS⟩) | (rw [takeU_k2 (s := s) (by omega) (by omega)]; exact ⟨hF.pick (.cons (k := 6) rfl <| .cons (k := 7) rfl <| .cons (k := 2) rfl <| .cons (k := 8) rfl <| .nil), hS⟩) | (rw [takeU_no (s := s) (by omega) (by omega) (by omega) (by omega) (by omega)]; exact ⟨hF.pick (.cons (k := 6) rfl <| .cons (k := 7) rfl <| .cons (k := 2) rfl <| .cons (k := 8) rfl <| .nil), hS⟩)
  · subst hOK10 hFK10 hLK10
    rintro a w ⟨hF, hS⟩
    refine c_seq ?_
    refine c_seq ?_
    refine c_reg ?_
    refine s_pu hF (pu_move rfl) rfl ?_; clear hF; intro a hF
    refine s_pu hF (pu_ieq rfl rfl) rfl ?_; clear hF; intro a hF
    refine s_pu hF (pu_move rfl) rfl ?_; clear hF; intro a hF
    refine w_split hF ⟨_, _, (rfl : _[2]? = some _), rfl, rfl⟩ (fun hg10_2 => ?_) (fun hg10_2 => ?_)
    · have hg10_2p := hg10_2
      try simp only [decide_eq_true_eq, decide_eq_false_iff_not, Bool.not_eq_true', Bool.not_eq_false', Bool.not_eq_eq_eq_not, Bool.not_true, Bool.not_false] at hg10_2p
      refine g_pu hF ⟨_, _, (rfl : _[2]? = some _), rfl, rfl⟩ hg10_2 (o_loadA (i := 0) (new := valC (takeU s).1) hS rfl agg24 rfl (rfl)) rfl ?_; clear hF; intro a hF
      refine g_callv hF hS ⟨_, _, (rfl : _[2]? = some _), rfl, rfl⟩ hg10_2 ok12 rfl (c_VCheck (takeU s).1 (takeU_B s) _ _ hS.view) rfl ?_; clear hS hF; intro w a hS hF
      refine g_pu hF ⟨_, _, (rfl : _[2]? = some _), rfl, rfl⟩ hg10_2 (pu_ine rfl rfl) rfl ?_; clear hF; intro a hF
      refine s_pu hF (pu_pick_t rfl hg10_2 rfl) rfl ?_; clear hF; intro a hF
      refine c_nil ?_
      refine n_then ?_
      refine c_if hF rfl (fun hc57 => ?_) (fun hc57 => ?_)
      · try simp only [decide_eq_true_eq, decide_eq_false_iff_not, Bool.not_eq_true', Bool.not_eq_false', Bool.not_eq_eq_eq_not, Bool.not_true, Bool.not_false] at hc57
        refine c_reg ?_
        refine s_pu hF (pu_assign rfl) rfl ?_; clear hF; intro a hF
        refine c_nil ?_
        refine n_then ?_
        refine c_seq ?_
        refine c_seq ?_
        refine c_reg ?_
        refine s_pu hF (pu_move rfl) rfl ?_; clear hF; intro a hF
        refine s_pu hF (pu_ine rfl rfl) rfl ?_; clear hF; intro a hF
        refine c_nil ?_
        refine n_then ?_
        refine c_if hF rfl (fun hc59 => ?_) (fun hc59 => ?_)
        · try simp only [decide_eq_true_eq, decide_eq_false_iff_not, Bool.not_eq_true', Bool.not_eq_false', Bool.not_eq_eq_eq_not, Bool.not_true, Bool.not_false] at hc59
          refine c_seq ?_
          refine c_reg ?_
          refine s_pu hF (pu_build_st (cs := valC v0) strb24 rfl rfl) rfl ?_; clear hF; intro a hF
          refine s_pu hF (pu_move rfl) rfl ?_; clear hF; intro a hF
          refine s_store (i := 1) (new := valC v0) hF hS rfl rfl rfl rfl (by exact sz24) rfl (by simp [valC]) ?_; clear hS hF; intro w a hS hF
          rw [spl_all (by simp [valC])] at hS
          refine s_pu hF (pu_assign rfl) rfl ?_; clear hF; intro a hF
          refine s_pu hF (pu_assign rfl) rfl ?_; clear hF; intro a hF
          refine c_nil ?_
          refine n_then ?_
          refine c_ret (r_then ?_)
          exact f_ret hF rfl (.cell rfl (o_lvA (i := 1) hS rfl agg24) (.tmp rfl (.tmp rfl (.nil)))) (hS.retv (by first | (exfalso; omega) | (rw [take_bad (by omega)]; rfl) | (rw [takeV, if_pos (by omega), if_neg (by rw [chk_no hc57]; decide)]; rfl)))
        · try simp only [decide_eq_true_eq, decide_eq_false_iff_not, Bool.not_eq_true', Bool.not_eq_false', Bool.not_eq_eq_eq_not, Bool.not_true, Bool.not_false] at hc59
          refine c_skip ?_
          refine n_then ?_
          refine c_seq ?_
          refine c_reg ?_
          refine s_pu hF (o_loadA (i := 0) (new := valC (takeU s).1) hS rfl agg24 rfl (rfl)) rfl ?_; clear hF; intro a hF
          refine s_pu hF (pu_move rfl) rfl ?_; clear hF; intro a hF
          refine s_store (i := 1) (new := valC (takeU s).1) hF hS rfl rfl rfl rfl (by exact sz24) rfl (by simp [valC]) ?_; clear hS hF; intro w a hS hF
          rw [spl_all (by simp [valC])] at hS
          refine s_pu hF (pu_assign rfl) rfl ?_; clear hF; intro a hF
          refine s_pu hF (pu_assign rfl) rfl ?_; clear hF; intro a hF
          refine c_nil ?_
          refine n_then ?_
          refine c_ret ?_
          exact f_ret hF rfl (.cell rfl (o_lvA (i := 1) hS rfl agg24) (.tmp rfl (.tmp rfl (.nil)))) (hS.retv (by first | (exfalso; omega) | (rw [takeV, if_pos (by omega), if_pos (chk_ok hc57)]; rfl)))
      · try simp only [decide_eq_true_eq, decide_eq_false_iff_not, Bool.not_eq_true', Bool.not_eq_false', Bool.not_eq_eq_eq_not, Bool.not_true, Bool.not_false] at hc57
        refine c_skip ?_
        refine n_then ?_
        refine c_seq ?_
        refine c_seq ?_
        refine c_reg ?_
        refine s_pu hF (pu_move rfl) rfl ?_; clear hF; intro a hF
        refine s_pu hF (pu_ine rfl rfl) rfl ?_; clear hF; intro a hF
        refine c_nil ?_
        refine n_then ?_
        refine c_if hF rfl (fun hc59 => ?_) (fun hc59 => ?_)
        · try simp only [decide_eq_true_eq, decide_eq_false_iff_not, Bool.not_eq_true', Bool.not_eq_false', Bool.not_eq_eq_eq_not, Bool.not_true, Bool.not_false] at hc59
          refine c_seq ?_
          refine c_reg ?_
          refine s_pu hF (pu_build_st (cs := valC v0) strb24 rfl rfl) rfl ?_; clear hF; intro a hF
          refine s_pu hF (pu_move rfl) rfl ?_; clear hF; intro a hF
          refine s_store (i := 1) (new := valC v0) hF hS rfl rfl rfl rfl (by exact sz24) rfl (by simp [valC]) ?_; clear hS hF; intro w a hS hF
          rw [spl_all (by simp [valC])] at hS
          refine s_pu hF (pu_assign rfl) rfl ?_; clear hF; intro a hF
          refine s_pu hF (pu_assign rfl) rfl ?_; clear hF; intro a hF
          refine c_nil ?_
          refine n_then ?_
          refine c_ret (r_then ?_)
          exact f_ret hF rfl (.cell rfl (o_lvA (i := 1) hS rfl agg24) (.tmp rfl (.tmp rfl (.nil)))) (hS.retv (by first | (exfalso; omega) | (rw [take_bad (by omega)]; rfl) | (rw [takeV, if_pos (by omega), if_neg (by rw [chk_no hc57]; decide)]; rfl)))
        · try simp only [decide_eq_true_eq, decide_eq_false_iff_not, Bool.not_eq_true', Bool.not_eq_false', Bool.not_eq_eq_eq_not, Bool.not_true, Bool.not_false] at hc59
          refine c_skip ?_
          refine n_then ?_
          refine c_seq ?_
          refine c_reg ?_
          refine s_pu hF (o_loadA (i := 0) (new := valC (takeU s).1) hS rfl agg24 rfl (rfl)) rfl ?_; clear hF; intro a hF
          refine s_pu hF (pu_move rfl) rfl ?_; clear hF; intro a hF
          refine s_store (i := 1) (new := valC (takeU s).1) hF hS rfl rfl rfl rfl (by exact sz24) rfl (by simp [valC]) ?_; clear hS hF; intro w a hS hF
          rw [spl_all (by simp [valC])] at hS
          refine s_pu hF (pu_assign rfl) rfl ?_; clear hF; intro a hF
          refine s_pu hF (pu_assign rfl) rfl ?_; clear hF; intro a hF
          refine c_nil ?_
          refine n_then ?_
          refine c_ret ?_
          exact f_ret hF rfl (.cell rfl (o_lvA (i := 1) hS rfl agg24) (.tmp rfl (.tmp rfl (.nil)))) (hS.retv (by first | (exfalso; omega) | (rw [takeV, if_pos (by omega), if_pos (chk_ok hc57)]; rfl)))
    · have hg10_2p := hg10_2
      try simp only [decide_eq_true_eq, decide_eq_false_iff_not, Bool.not_eq_true', Bool.not_eq_false', Bool.not_eq_eq_eq_not, Bool.not_true, Bool.not_false] at hg10_2p
      refine g_no hF ⟨_, _, (rfl : _[2]? = some _), rfl, rfl⟩ hg10_2 rfl ?_; clear hF; intro a hF
      refine g_no hF ⟨_, _, (rfl : _[2]? = some _), rfl, rfl⟩ hg10_2 rfl ?_; clear hF; intro a hF
      refine g_no hF ⟨_, _, (rfl : _[2]? = some _), rfl, rfl⟩ hg10_2 rfl ?_; clear hF; intro a hF
      refine s_pu hF (pu_pick_f rfl hg10_2 rfl) rfl ?_; clear hF; intro a hF
      refine c_nil ?_
      refine n_then ?_
      refine c_iff hF rfl rfl ?_
      refine c_skip ?_
      refine n_then ?_
      refine c_seq ?_
      refine c_seq ?_
      refine c_reg ?_
      refine s_pu hF (pu_move rfl) rfl ?_; clear hF; intro a hF
      refine s_pu hF (pu_ine rfl rfl) rfl ?_; clear hF; intro a hF
      refine c_nil ?_
      refine n_then ?_
      refine c_if hF rfl (fun hc59 => ?_) (fun hc59 => ?_)
      · try simp only [decide_eq_true_eq, decide_eq_false_iff_not, Bool.not_eq_true', Bool.not_eq_false', Bool.not_eq_eq_eq_not, Bool.not_true, Bool.not_false] at hc59
        refine c_seq ?_
        refine c_reg ?_
        refine s_pu hF (pu_build_st (cs := valC v0) strb24 rfl rfl) rfl ?_; clear hF; intro a hF
        refine s_pu hF (pu_move rfl) rfl ?_; clear hF; intro a hF
        refine s_store (i := 1) (new := valC v0) hF hS rfl rfl rfl rfl (by exact sz24) rfl (by simp [valC]) ?_; clear hS hF; intro w a hS hF
        rw [spl_all (by simp [valC])] at hS
        refine s_pu hF (pu_assign rfl) rfl ?_; clear hF; intro a hF
        refine s_pu hF (pu_assign rfl) rfl ?_; clear hF; intro a hF
        refine c_nil ?_
        refine n_then ?_
        refine c_ret (r_then ?_)
        exact f_ret hF rfl (.cell rfl (o_lvA (i := 1) hS rfl agg24) (.tmp rfl (.tmp rfl (.nil)))) (hS.retv (by first | (exfalso; omega) | (rw [take_bad (by omega)]; rfl) | (rw [takeV, if_pos (by omega), if_neg (by rw [chk_no hc57]; decide)]; rfl)))
      · try simp only [decide_eq_true_eq, decide_eq_false_iff_not, Bool.not_eq_true', Bool.not_eq_false', Bool.not_eq_eq_eq_not, Bool.not_true, Bool.not_false] at hc59
        refine c_skip ?_
        refine n_then ?_
        refine c_seq ?_
        refine c_reg ?_
        refine s_pu hF (o_loadA (i := 0) (new := valC (takeU s).1) hS rfl agg24 rfl (rfl)) rfl ?_; clear hF; intro a hF
        refine s_pu hF (pu_move rfl) rfl ?_; clear hF; intro a hF
        refine s_store (i := 1) (new := valC (takeU s).1) hF hS rfl rfl rfl rfl (by exact sz24) rfl (by simp [valC]) ?_; clear hS hF; intro w a hS hF
        rw [spl_all (by simp [valC])] at hS
        refine s_pu hF (pu_assign rfl) rfl ?_; clear hF; intro a hF
        refine s_pu hF (pu_assign rfl) rfl ?_; clear hF; intro a hF
        refine c_nil ?_
        refine n_then ?_
        refine c_ret ?_
        exact f_ret hF rfl (.cell rfl (o_lvA (i := 1) hS rfl agg24) (.tmp rfl (.tmp rfl (.nil)))) (hS.retv (by first | (exfalso; omega) | (rw [takeV, if_pos (by omega), if_pos (chk_ok hc57)]; rfl)))
set_option maxHeartbeats 1000000 in
theorem c_RTake (s : List UInt8) (hs : s.length ≤ 9223372036854775807) (w0 : World) (h0 : View) (hv : VLe h0 (Full w0))  : Calls Tryd.prog 21 #[vs s] w0 (Ret w0 h0 fun u _ => u = tvV (takeV s)) := by
  refine f_enter (args := [vs s]) Tryd.func21 rfl Tryd.ntmps21 rfl fun a hF => ?_
  have hS := St.init w0 h0 hv
  refine c_seq ?_
  refine c_reg ?_
  refine s_alloc hF hS zero24 rfl ?_; clear hS hF; intro b0 w a hS hF
  refine s_pu hF (pu_assign rfl) rfl ?_; clear hF; intro a hF
  refine s_pu hF (pu_assign rfl) rfl ?_; clear hF; intro a hF
  refine c_nil ?_
  refine n_then ?_
  refine c_seq ?_
  refine c_reg ?_
  refine s_pu hF (pu_move rfl) rfl ?_; clear hF; intro a hF
  refine s_callv hF hS ok42 rfl (c_RTakeNum s hs _ _ hS.view) rfl ?_; clear hS hF; intro w a hS hF
  refine s_pu hF (pu_move rfl) rfl ?_; clear hF; intro a hF
  refine s_pu hF (pu_extract rfl rfl) rfl ?_; clear hF; intro a hF
  refine s_pu hF (pu_extract rfl rfl) rfl ?_; clear hF; intro a hF
  refine s_pu hF (pu_extract rfl rfl) rfl ?_; clear hF; intro a hF
  refine s_pu hF (pu_assign rfl) rfl ?_; clear hF; intro a hF
  refine s_pu hF (pu_assign rfl) rfl ?_; clear hF; intro a hF
  refine s_pu hF (pu_assign rfl) rfl ?_; clear hF; intro a hF
  refine c_nil ?_
  refine n_then ?_
  refine c_seq ?_
  refine c_seq ?_
  refine c_reg ?_
  refine s_pu hF (pu_move rfl) rfl ?_; clear hF; intro a hF
  refine s_pu hF (pu_ine rfl rfl) rfl ?_; clear hF; intro a hF
  refine c_nil ?_
  refine n_then ?_
  refine c_if hF rfl (fun hc16 => ?_) (fun hc16 => ?_)
  · try simp only [decide_eq_true_eq, decide_eq_false_iff_not, Bool.not_eq_true', Bool.not_eq_false', Bool.not_eq_eq_eq_not, Bool.not_true, Bool.not_false] at hc16
    refine c_seq ?_
    refine c_reg ?_
    refine s_pu hF (pu_build_st (cs := valC v0) strb24 rfl rfl) rfl ?_; clear hF; intro a hF
    refine s_pu hF (pu_move rfl) rfl ?_; clear hF; intro a hF
    refine s_store (i := 0) (new := valC v0) hF hS rfl rfl rfl rfl (by exact sz24) rfl (by simp [valC]) ?_; clear hS hF; intro w a hS hF
    rw [spl_all (by simp [valC])] at hS
    refine s_pu hF (pu_assign rfl) rfl ?_; clear hF; intro a hF
    refine s_pu hF (pu_assign rfl) rfl ?_; clear hF; intro a hF
    refine c_nil ?_
    refine n_then ?_
    refine c_ret (r_then ?_)
    exact f_ret hF rfl (.cell rfl (o_lvA (i := 0) hS rfl agg24) (.tmp rfl (.tmp rfl (.nil)))) (hS.retv (by rw [take_bad (by rw [takeU_err hc16]; exact hc16), takeU_err hc16]; rfl))
  · try simp only [decide_eq_true_eq, decide_eq_false_iff_not, Bool.not_eq_true', Bool.not_eq_false', Bool.not_eq_eq_eq_not, Bool.not_true, Bool.not_false] at hc16
    refine c_skip ?_
    refine n_then ?_
    refine c_seq ?_
    refine c_reg ?_
    refine s_pu hF (pu_move rfl) rfl ?_; clear hF; intro a hF
    refine s_pu hF (pu_build_st (cs := valC ⟨(takeN s).1, 0, []⟩) strb24 rfl rfl) rfl ?_; clear hF; intro a hF
    refine s_alloc hF hS zero24 rfl ?_; clear hS hF; intro b1 w a hS hF
    refine s_store (i := 0) (new := valC ⟨(takeN s).1, 0, []⟩) hF hS rfl rfl rfl rfl (by exact sz24) rfl (by simp [valC]) ?_; clear hS hF; intro w a hS hF
    rw [spl_all (by simp [valC])] at hS
    refine c_nil ?_
    refine n_then ?_
    refine hS.cut fun OK13 FK13 hOK13 hFK13 hS => ?_
    refine hF.cut .nil (.cons (k := 2) rfl <| .cons (k := 8) rfl <| .nil) fun LK13 hLK13 _ => ?_
    refine c_seq_cut (fun a w => Fr a 54 ([(6, .val (vs (takeU s).2.1)), (7, .val (.int .i64 (takeU s).2.2))] ++ LK13) ∧ St w0 h0 [] w [(some b1, CellsC 24 (valC (takeU s).1)), (some b0, CellsC 24 (valC v0))] FK13) ?_ ?_
    · subst hOK13 hFK13 hLK13
      refine c_seq ?_
      refine c_reg ?_
      refine s_pu hF (pu_move rfl) rfl ?_; clear hF; intro a hF
      refine c_nil ?_
      refine n_then ?_
      refine c_block ?_
      refine c_seq ?_
      refine c_reg ?_
      refine s_pu hF (pu_ieq rfl rfl) rfl ?_; clear hF; intro a hF
      refine s_pu hF (pu_assign rfl) rfl ?_; clear hF; intro a hF
      refine c_nil ?_
      refine n_then ?_
      refine c_if hF rfl (fun hc23 => ?_) (fun hc23 => ?_)
      · try simp only [decide_eq_true_eq, decide_eq_false_iff_not, Bool.not_eq_true', Bool.not_eq_false', Bool.not_eq_eq_eq_not, Bool.not_true, Bool.not_false] at hc23
        refine c_skip ?_
        refine n_block ?_
        refine n_then ?_
        first | (rw [takeU_k0e (s := s) (by omega) (by omega)]; exact ⟨hF.pick (.cons (k := 6) rfl <| .cons (k := 7) rfl <| .cons (k := 2) rfl <| .cons (k := 8) rfl <| .nil), hS⟩) | (rw [takeU_k13 (s := s) (by omega) (by omega)]; exact ⟨hF.pick (.cons (k := 6) rfl <| .cons (k := 7) rfl <| .cons (k := 2) rfl <| .cons (k := 8) rfl <| .nil), hS⟩) | (rw [takeU_k2 (s := s) (by omega) (by omega)]; exact ⟨hF.pick (.cons (k := 6) rfl <| .cons (k := 7) rfl <| .cons (k := 2) rfl <| .cons (k := 8) rfl <| .nil), hS⟩)
      · try simp only [decide_eq_true_eq, decide_eq_false_iff_not, Bool.not_eq_true', Bool.not_eq_false', Bool.not_eq_eq_eq_not, Bool.not_true, Bool.not_false] at hc23
        refine c_seq ?_
        refine c_seq ?_
        refine c_reg ?_
        refine s_pu hF (pu_ieq rfl rfl) rfl ?_; clear hF; intro a hF
        refine s_pu hF (pu_assign rfl) rfl ?_; clear hF; intro a hF
        refine c_nil ?_
        refine n_then ?_
        refine c_if hF rfl (fun hc25 => ?_) (fun hc25 => ?_)
        · have hc25k := hc25
          try simp only [decide_eq_true_eq, decide_eq_false_iff_not, Bool.not_eq_true', Bool.not_eq_false', Bool.not_eq_eq_eq_not, Bool.not_true, Bool.not_false] at hc25
          refine c_skip ?_
          refine n_then ?_
          refine c_ift hF rfl hc25k ?_
          refine c_reg ?_
          refine s_pu hF (pu_move rfl) rfl ?_; clear hF; intro a hF
          refine s_callv hF hS ok42 rfl (c_RTakeNum _ (by have := takeN_len s; omega) _ _ hS.view) rfl ?_; clear hS hF; intro w a hS hF
          refine s_pu hF (pu_move rfl) rfl ?_; clear hF; intro a hF
          refine s_pu hF (pu_extract rfl rfl) rfl ?_; clear hF; intro a hF
          refine s_pu hF (pu_extract rfl rfl) rfl ?_; clear hF; intro a hF
          refine s_pu hF (pu_extract rfl rfl) rfl ?_; clear hF; intro a hF
          refine s_pu hF (pu_faddr fld24_1 rfl) rfl ?_; clear hF; intro a hF
          refine s_store (i := 0) hF hS rfl rfl rfl rfl sz3 rfl (by first | (simp; done) | exact Nat.le_of_ble_eq_true rfl) ?_; clear hS hF; intro w a hS hF
          refine s_pu hF (pu_assign rfl) rfl ?_; clear hF; intro a hF
          refine s_pu hF (pu_assign rfl) rfl ?_; clear hF; intro a hF
          refine c_nil ?_
          refine n_block ?_
          refine n_then ?_
          first | (rw [takeU_k0e (s := s) (by omega) (by omega)]; exact ⟨hF.pick (.cons (k := 6) rfl <| .cons (k := 7) rfl <| .cons (k := 2) rfl <| .cons (k := 8) rfl <| .nil), hS⟩) | (rw [takeU_k13 (s := s) (by omega) (by omega)]; exact ⟨hF.pick (.cons (k := 6) rfl <| .cons (k := 7) rfl <| .cons (k := 2) rfl <| .cons (k := 8) rfl <| .nil), hS⟩) | (rw [takeU_k2 (s := s) (by omega) (by omega)]; exact ⟨hF.pick (.cons (k := 6) rfl <| .cons (k := 7) rfl <| .cons (k := 2) rfl <| .cons (k := 8) rfl <| .nil), hS⟩)
        · have hc25k := hc25
          try simp only [decide_eq_true_eq, decide_eq_false_iff_not, Bool.not_eq_true', Bool.not_eq_false', Bool.not_eq_eq_eq_not, Bool.not_true, Bool.not_false] at hc25
          refine c_reg ?_
          refine s_pu hF (pu_ieq rfl rfl) rfl ?_; clear hF; intro a hF
          refine s_pu hF (pu_assign rfl) rfl ?_; clear hF; intro a hF
          refine c_nil ?_
          refine n_then ?_
          refine c_if hF rfl (fun hc25 => ?_) (fun hc25 => ?_)
          · have hc25k := hc25
            try simp only [decide_eq_true_eq, decide_eq_false_iff_not, Bool.not_eq_true', Bool.not_eq_false', Bool.not_eq_eq_eq_not, Bool.not_true, Bool.not_false] at hc25
            refine c_reg ?_
            refine s_pu hF (pu_move rfl) rfl ?_; clear hF; intro a hF
            refine s_callv hF hS ok42 rfl (c_RTakeNum _ (by have := takeN_len s; omega) _ _ hS.view) rfl ?_; clear hS hF; intro w a hS hF
            refine s_pu hF (pu_move rfl) rfl ?_; clear hF; intro a hF
            refine s_pu hF (pu_extract rfl rfl) rfl ?_; clear hF; intro a hF
            refine s_pu hF (pu_extract rfl rfl) rfl ?_; clear hF; intro a hF
            refine s_pu hF (pu_extract rfl rfl) rfl ?_; clear hF; intro a hF
            refine s_pu hF (pu_faddr fld24_1 rfl) rfl ?_; clear hF; intro a hF
            refine s_store (i := 0) hF hS rfl rfl rfl rfl sz3 rfl (by first | (simp; done) | exact Nat.le_of_ble_eq_true rfl) ?_; clear hS hF; intro w a hS hF
            refine s_pu hF (pu_assign rfl) rfl ?_; clear hF; intro a hF
            refine s_pu hF (pu_assign rfl) rfl ?_; clear hF; intro a hF
            refine c_nil ?_
            refine n_block ?_
            refine n_then ?_
            first | (rw [takeU_k0e (s := s) (by omega) (by omega)]; exact ⟨hF.pick (.cons (k := 6) rfl <| .cons (k := 7) rfl <| .cons (k := 2) rfl <| .cons (k := 8) rfl <| .nil), hS⟩) | (rw [takeU_k13 (s := s) (by omega) (by omega)]; exact ⟨hF.pick (.cons (k := 6) rfl <| .cons (k := 7) rfl <| .cons (k := 2) rfl <| .cons (k := 8) rfl <| .nil), hS⟩) | (rw [takeU_k2 (s := s) (by omega) (by omega)]; exact ⟨hF.pick (.cons (k := 6) rfl <| .cons (k := 7) rfl <| .cons (k := 2) rfl <| .cons (k := 8) rfl <| .nil), hS⟩)
          · have hc25k := hc25
            try simp only [decide_eq_true_eq, decide_eq_false_iff_not, Bool.not_eq_true', Bool.not_eq_false', Bool.not_eq_eq_eq_not, Bool.not_true, Bool.not_false] at hc25
            refine c_seq ?_
            refine c_reg ?_
            refine s_pu hF (pu_ieq rfl rfl) rfl ?_; clear hF; intro a hF
            refine s_pu hF (pu_assign rfl) rfl ?_; clear hF; intro a hF
            refine c_nil ?_
            refine n_then ?_
            refine c_if hF rfl (fun hc35 => ?_) (fun hc35 => ?_)
            · try simp only [decide_eq_true_eq, decide_eq_false_iff_not, Bool.not_eq_true', Bool.not_eq_false', Bool.not_eq_eq_eq_not, Bool.not_true, Bool.not_false] at hc35
              refine c_reg ?_
              refine s_pu hF (pu_move rfl) rfl ?_; clear hF; intro a hF
              refine s_callv hF hS ok43 rfl (c_RTakeText _ 40 (by have := takeN_len s; omega) _ _ hS.view) rfl ?_; clear hS hF; intro w a hS hF
              refine s_pu hF (pu_move rfl) rfl ?_; clear hF; intro a hF
              refine s_pu hF (pu_extract rfl rfl) rfl ?_; clear hF; intro a hF
              refine s_pu hF (pu_extract rfl rfl) rfl ?_; clear hF; intro a hF
              refine s_pu hF (pu_extract rfl rfl) rfl ?_; clear hF; intro a hF
              refine s_pu hF (pu_faddr fld24_2 rfl) rfl ?_; clear hF; intro a hF
              refine s_store (i := 0) hF hS rfl rfl rfl rfl sz9 rfl (by first | (simp; done) | exact Nat.le_of_ble_eq_true rfl) ?_; clear hS hF; intro w a hS hF
              refine s_pu hF (pu_assign rfl) rfl ?_; clear hF; intro a hF
              refine s_pu hF (pu_assign rfl) rfl ?_; clear hF; intro a hF
              refine c_nil ?_
              refine n_block ?_
              refine n_then ?_
              first | (rw [takeU_k0e (s := s) (by omega) (by omega)]; exact ⟨hF.pick (.cons (k := 6) rfl <| .cons (k := 7) rfl <| .cons (k := 2) rfl <| .cons (k := 8) rfl <| .nil), hS⟩) | (rw [takeU_k13 (s := s) (by omega) (by omega)]; exact ⟨hF.pick (.cons (k := 6) rfl <| .cons (k := 7) rfl <| .cons (k := 2) rfl <| .cons (k := 8) rfl <| .nil), hS⟩) | (rw [takeU_k2 (s := s) (by omega) (by omega)]; exact ⟨hF.pick (.cons (k := 6) rfl <| .cons (k := 7) rfl <| .cons (k := 2) rfl <| .cons (k := 8) rfl <| .nil), hS⟩)
            · try simp only [decide_eq_true_eq, decide_eq_false_iff_not, Bool.not_eq_true', Bool.not_eq_false', Bool.not_eq_eq_eq_not, Bool.not_true, Bool.not_false] at hc35
              refine c_seq ?_
              refine c_reg ?_
              refine s_pu hF (pu_build_st (cs := valC v0) strb24 rfl rfl) rfl ?_; clear hF; intro a hF
              refine s_store (i := 1) (new := valC v0) hF hS rfl rfl rfl rfl (by exact sz24) rfl (by simp [valC]) ?_; clear hS hF; intro w a hS hF
              rw [spl_all (by simp [valC])] at hS
              refine s_pu hF (pu_assign rfl) rfl ?_; clear hF; intro a hF
              refine s_pu hF (pu_assign rfl) rfl ?_; clear hF; intro a hF
              refine c_nil ?_
              refine n_then ?_
              refine c_ret (r_block (r_then ?_))
              exact f_ret hF rfl (.cell rfl (o_lvA (i := 1) hS rfl agg24) (.tmp rfl (.tmp rfl (.nil)))) (hS.retv (by have e := takeU_no (s := s) (by omega) (by omega) (by omega) (by omega) (by omega); rw [take_bad (by rw [e]; exact (by decide : ¬ (4 : Int) = 0)), e]; rfl))
    · subst hOK13 hFK13 hLK13
      rintro a w ⟨hF, hS⟩
      refine c_seq ?_
      refine c_seq ?_
      refine c_reg ?_
      refine s_pu hF (pu_move rfl) rfl ?_; clear hF; intro a hF
      refine s_pu hF (pu_ine rfl rfl) rfl ?_; clear hF; intro a hF
      refine c_nil ?_
      refine n_then ?_
      refine c_if hF rfl (fun hc45 => ?_) (fun hc45 => ?_)
      · try simp only [decide_eq_true_eq, decide_eq_false_iff_not, Bool.not_eq_true', Bool.not_eq_false', Bool.not_eq_eq_eq_not, Bool.not_true, Bool.not_false] at hc45
        refine c_seq ?_
        refine c_reg ?_
        refine s_pu hF (pu_build_st (cs := valC v0) strb24 rfl rfl) rfl ?_; clear hF; intro a hF
        refine s_pu hF (pu_move rfl) rfl ?_; clear hF; intro a hF
        refine s_store (i := 1) (new := valC v0) hF hS rfl rfl rfl rfl (by exact sz24) rfl (by simp [valC]) ?_; clear hS hF; intro w a hS hF
        rw [spl_all (by simp [valC])] at hS
        refine s_pu hF (pu_assign rfl) rfl ?_; clear hF; intro a hF
        refine s_pu hF (pu_assign rfl) rfl ?_; clear hF; intro a hF
        refine c_nil ?_
        refine n_then ?_
        refine c_ret (r_then ?_)
        exact f_ret hF rfl (.cell rfl (o_lvA (i := 1) hS rfl agg24) (.tmp rfl (.tmp rfl (.nil)))) (hS.retv (by rw [take_bad hc45]; rfl))
      · try simp only [decide_eq_true_eq, decide_eq_false_iff_not, Bool.not_eq_true', Bool.not_eq_false', Bool.not_eq_eq_eq_not, Bool.not_true, Bool.not_false] at hc45
        refine c_skip ?_
        refine n_then ?_
        refine c_seq ?_
        refine c_seq ?_
        refine c_reg ?_
        refine s_pu hF (o_loadA (i := 0) (new := valC (takeU s).1) hS rfl agg24 rfl (rfl)) rfl ?_; clear hF; intro a hF
        refine s_callv hF hS ok11 rfl (c_RRight (takeU s).1 (takeU_s s hs) _ _ hS.view) rfl ?_; clear hS hF; intro w a hS hF
        refine s_pu hF (pu_not rfl) rfl ?_; clear hF; intro a hF
        refine c_nil ?_
        refine n_then ?_
        refine c_if hF rfl (fun hc50 => ?_) (fun hc50 => ?_)
        · try simp only [decide_eq_true_eq, decide_eq_false_iff_not, Bool.not_eq_true', Bool.not_eq_false', Bool.not_eq_eq_eq_not, Bool.not_true, Bool.not_false] at hc50
          refine c_seq ?_
          refine c_reg ?_
          refine s_pu hF (pu_build_st (cs := valC v0) strb24 rfl rfl) rfl ?_; clear hF; intro a hF
          refine s_store (i := 1) (new := valC v0) hF hS rfl rfl rfl rfl (by exact sz24) rfl (by simp [valC]) ?_; clear hS hF; intro w a hS hF
          rw [spl_all (by simp [valC])] at hS
          refine s_pu hF (pu_assign rfl) rfl ?_; clear hF; intro a hF
          refine s_pu hF (pu_assign rfl) rfl ?_; clear hF; intro a hF
          refine c_nil ?_
          refine n_then ?_
          refine c_ret (r_then ?_)
          exact f_ret hF rfl (.cell rfl (o_lvA (i := 1) hS rfl agg24) (.tmp rfl (.tmp rfl (.nil)))) (hS.retv (by rw [takeV, if_pos hc45, if_neg (by rw [hc50]; decide)]; rfl))
        · try simp only [decide_eq_true_eq, decide_eq_false_iff_not, Bool.not_eq_true', Bool.not_eq_false', Bool.not_eq_eq_eq_not, Bool.not_true, Bool.not_false] at hc50
          refine c_skip ?_
          refine n_then ?_
          refine c_seq ?_
          refine c_reg ?_
          refine s_pu hF (o_loadA (i := 0) (new := valC (takeU s).1) hS rfl agg24 rfl (rfl)) rfl ?_; clear hF; intro a hF
          refine s_pu hF (pu_move rfl) rfl ?_; clear hF; intro a hF
          refine s_store (i := 1) (new := valC (takeU s).1) hF hS rfl rfl rfl rfl (by exact sz24) rfl (by simp [valC]) ?_; clear hS hF; intro w a hS hF
          rw [spl_all (by simp [valC])] at hS
          refine s_pu hF (pu_assign rfl) rfl ?_; clear hF; intro a hF
          refine s_pu hF (pu_assign rfl) rfl ?_; clear hF; intro a hF
          refine c_nil ?_
          refine n_then ?_
          refine c_ret ?_
          exact f_ret hF rfl (.cell rfl (o_lvA (i := 1) hS rfl agg24) (.tmp rfl (.tmp rfl (.nil)))) (hS.retv (by rw [takeV, if_pos hc45, if_pos hc50]; rfl))
theorem c_Row (ad : Option Addr) (cap : Nat) (l : List Val) (hB : ∀ v ∈ l, valB v) (hl : l.length ≤ 100000) (w0 : World) (h0 : View) (hv : VLe h0 (Full w0)) (hb : SlC 24 3 (flatR valC) h0 (.slice ad l.length cap) l) : Calls Tryd.prog 16 #[.slice ad l.length cap] w0 (Ret w0 h0 fun u _ => u = tsV (rowR l)) := by
  refine f_enter (args := [.slice ad l.length cap]) Tryd.func16 rfl Tryd.ntmps16 rfl fun a hF => ?_
  have hS := St.init w0 h0 hv
  have l1 := numS_len (n := (l.length : Int)) ⟨by omega, by omega⟩
  refine c_seq ?_
  refine c_reg ?_
  refine s_pu hF (pu_assign rfl) rfl ?_; clear hF; intro a hF
  refine s_pu hF (pu_assign rfl) rfl ?_; clear hF; intro a hF
  refine c_nil ?_
  refine n_then ?_
  refine c_seq ?_
  refine c_reg ?_
  refine s_pu hF (pu_move rfl) rfl ?_; clear hF; intro a hF
  refine s_pu hF (pu_len_sl tyL34 rfl rfl) rfl ?_; clear hF; intro a hF
  refine s_callv hF hS ok28 rfl (c_Num _ ⟨by omega, by omega⟩ _ _ hS.view) rfl ?_; clear hS hF; intro w a hS hF
  refine s_pu hF (pu_assign rfl) rfl ?_; clear hF; intro a hF
  refine c_nil ?_
  refine n_then ?_
  refine c_seq ?_
  refine c_seq ?_
  refine c_reg ?_
  refine s_pu hF (pu_move rfl) rfl ?_; clear hF; intro a hF
  refine s_pu hF (pu_len_sl tyL34 rfl rfl) rfl ?_; clear hF; intro a hF
  refine s_pu hF (pu_move rfl) rfl ?_; clear hF; intro a hF
  refine c_nil ?_
  refine n_then ?_
  refine c_block ?_
  refine hS.cut fun O0 F0 hO0 hF0 hS => ?_
  refine hF.cut (.cons (k := 4) rfl <| .cons (k := 14) rfl <| .nil) (.cons (k := 12) rfl <| .cons (k := 13) rfl <| .nil) fun L0 hL0 hF => ?_
  refine c_loop (α := Nat) (fun k a w => k ≤ l.length ∧ (∀ j, j < k → valOk (l.getD j v0) = true) ∧ Fr a 31 ([(4, .val (vs (numS l.length ++ rowB (l.take k)))), (14, .val (.int .i64 (k : Nat)))] ++ L0) ∧ St w0 h0 [] w O0 F0) (fun k => l.length - k) 0 (⟨Nat.zero_le _, fun j hj => absurd hj (Nat.not_lt_zero j), by simpa [rowB] using hF, hS⟩) ?_
  subst hO0 hF0 hL0
  rintro k a w ⟨hk, hn, hF, hS⟩
  refine c_seq ?_
  refine c_reg ?_
  refine s_pu hF (pu_ilt rfl rfl) rfl ?_; clear hF; intro a hF
  refine c_nil ?_
  refine n_then ?_
  refine c_seq ?_
  refine c_if hF rfl (fun hc15 => ?_) (fun hc15 => ?_)
  · try simp only [decide_eq_true_eq, decide_eq_false_iff_not, Bool.not_eq_true', Bool.not_eq_false', Bool.not_eq_eq_eq_not, Bool.not_true, Bool.not_false] at hc15
    obtain ⟨g2, oc, ha, HC⟩ := hb.at (i := k) (x := l.getD k v0) (by rw [getD_lt l k v0 (by omega)]; exact List.getElem?_eq_getElem (by omega))
    refine c_skip ?_
    refine n_then ?_
    refine c_seq ?_
    refine c_block ?_
    refine c_seq ?_
    refine c_reg ?_
    refine s_pu hF (pu_iaddr_sla (j := k) ha slt34 rfl rfl (by omega) (by omega)) rfl ?_; clear hF; intro a hF
    refine s_pu hF (pu_loadA (cs := valC (l.getD k v0)) agg24 rfl (fun j v hj => by rw [add_mk]; exact HC _ hS.base j v hj)) rfl ?_; clear hF; intro a hF
    refine s_alloc hF hS zero24 rfl ?_; clear hS hF; intro b0 w a hS hF
    refine s_store (i := 0) (new := valC (l.getD k v0)) hF hS rfl rfl rfl rfl (by exact sz24) rfl (by simp [valC]) ?_; clear hS hF; intro w a hS hF
    rw [spl_all (by simp [valC])] at hS
    refine c_nil ?_
    refine n_then ?_
    refine c_seq ?_
    refine c_reg ?_
    refine s_pu hF (o_loadA (i := 0) (new := valC (l.getD k v0)) hS rfl agg24 rfl (rfl)) rfl ?_; clear hF; intro a hF
    refine s_callv hF hS ok10 rfl (c_VBytes (l.getD k v0) (hB _ (getD_mem l k v0 (by omega))) _ _ hS.view) rfl ?_; clear hS hF; intro w a hS hF
    refine s_pu hF (pu_move rfl) rfl ?_; clear hF; intro a hF
    refine s_pu hF (pu_extract rfl rfl) rfl ?_; clear hF; intro a hF
    refine s_pu hF (pu_extract rfl rfl) rfl ?_; clear hF; intro a hF
    refine s_pu hF (pu_assign rfl) rfl ?_; clear hF; intro a hF
    refine s_pu hF (pu_assign rfl) rfl ?_; clear hF; intro a hF
    refine c_nil ?_
    refine n_then ?_
    refine c_seq ?_
    refine c_seq ?_
    refine c_reg ?_
    refine s_pu hF (pu_move rfl) rfl ?_; clear hF; intro a hF
    refine s_pu hF (pu_ine rfl rfl) rfl ?_; clear hF; intro a hF
    refine c_nil ?_
    refine n_then ?_
    refine c_if hF rfl (fun hc24 => ?_) (fun hc24 => ?_)
    · try simp only [decide_eq_true_eq, decide_eq_false_iff_not, Bool.not_eq_true', Bool.not_eq_false', Bool.not_eq_eq_eq_not, Bool.not_true, Bool.not_false] at hc24
      have hno := vbR_no hc24
      refine c_seq ?_
      refine c_reg ?_
      refine s_pu hF (pu_move rfl) rfl ?_; clear hF; intro a hF
      refine s_pu hF (pu_assign rfl) rfl ?_; clear hF; intro a hF
      refine s_pu hF (pu_assign rfl) rfl ?_; clear hF; intro a hF
      refine c_nil ?_
      refine n_then ?_
      refine c_ret (r_then (r_block (r_then (r_then (r_block (r_then ?_))))))
      exact f_ret hF rfl (.tmp rfl (.tmp rfl (.nil))) (hS.retv (by rw [rowR, all_not v0 (by omega) hno, vbR, hno]; rfl))
    · try simp only [decide_eq_true_eq, decide_eq_false_iff_not, Bool.not_eq_true', Bool.not_eq_false', Bool.not_eq_eq_eq_not, Bool.not_true, Bool.not_false] at hc24
      have hok := vbR_ok hc24
      have e1 : (vbR (l.getD k v0)).1 = bytesV (l.getD k v0) := by rw [vbR, if_pos hok]
      have lb := bytesV_len hok (hB _ (getD_mem l k v0 (by omega)))
      have lr := row_len (l := l.take k) (fun v hv => by obtain ⟨j, hj, rfl⟩ := mem_takeD v0 hv; exact ⟨hn j hj.1, hB _ (getD_mem l j v0 hj.2)⟩)
      rw [List.length_take] at lr
      rw [e1] at hF
      refine c_skip ?_
      refine n_then ?_
      refine c_reg ?_
      refine s_pu hF (pu_move rfl) rfl ?_; clear hF; intro a hF
      refine s_pu hF (pu_move rfl) rfl ?_; clear hF; intro a hF
      refine s_pu hF (pu_cat rfl rfl (by rw [List.length_append]; omega)) rfl ?_; clear hF; intro a hF
      refine s_pu hF (pu_assign rfl) rfl ?_; clear hF; intro a hF
      refine c_nil ?_
      refine n_block ?_
      refine n_then ?_
      refine c_reg ?_
      refine s_pu hF (pu_add rfl rfl (by first | exact wrap_i64 (by omega) (by omega) | rfl)) rfl ?_; clear hF; intro a hF
      refine s_pu hF (pu_move rfl) rfl ?_; clear hF; intro a hF
      refine c_nil ?_
      replace hS := hS.forget 0
      rw [List.append_assoc, ← row_snoc l k (by omega)] at hF
      exact ⟨k + 1, ⟨by omega, upto_snoc hn hok, hF.pick (.cons (k := 4) rfl <| .cons (k := 14) rfl <| .cons (k := 12) rfl <| .cons (k := 13) rfl <| .nil), hS⟩, by omega⟩
  · try simp only [decide_eq_true_eq, decide_eq_false_iff_not, Bool.not_eq_true', Bool.not_eq_false', Bool.not_eq_eq_eq_not, Bool.not_true, Bool.not_false] at hc15
    obtain rfl : k = l.length := by omega
    rw [List.take_length] at hF
    refine c_exit (x_then (x_then (x_here ?_)))
    refine n_then ?_
    refine c_seq ?_
    refine c_reg ?_
    refine s_pu hF (pu_move rfl) rfl ?_; clear hF; intro a hF
    refine s_pu hF (pu_assign rfl) rfl ?_; clear hF; intro a hF
    refine s_pu hF (pu_assign rfl) rfl ?_; clear hF; intro a hF
    refine c_nil ?_
    refine n_then ?_
    refine c_ret ?_
    exact f_ret hF rfl (.tmp rfl (.tmp rfl (.nil))) (hS.retv (by rw [rowR, if_pos (all_upto v0 (fun j hj => hn j hj))]; rfl))
theorem c_RRow (ad : Option Addr) (cap : Nat) (l : List Val) (hB : ∀ v ∈ l, valB v) (hok : ∀ v ∈ l, valOk v = true) (hl : l.length ≤ 100000) (w0 : World) (h0 : View) (hv : VLe h0 (Full w0)) (hb : SlC 24 3 (flatR valC) h0 (.slice ad l.length cap) l) : Calls Tryd.prog 19 #[.slice ad l.length cap] w0 (Ret w0 h0 fun u _ => u = vs (rowS l)) := by
  refine f_enter (args := [.slice ad l.length cap]) Tryd.func19 rfl Tryd.ntmps19 rfl fun a hF => ?_
  have hS := St.init w0 h0 hv
  have l1 := numS_len (n := (l.length : Int)) ⟨by omega, by omega⟩
  have hlm := hb.lm
  refine c_seq ?_
  refine c_reg ?_
  refine s_pu hF (pu_assign rfl) rfl ?_; clear hF; intro a hF
  refine c_nil ?_
  refine n_then ?_
  refine c_seq ?_
  refine c_reg ?_
  refine s_pu hF (pu_move rfl) rfl ?_; clear hF; intro a hF
  refine s_pu hF (pu_len_sl tyL34 rfl rfl) rfl ?_; clear hF; intro a hF
  refine s_callv hF hS ok34 rfl (c_RNum _ ⟨by omega, by omega⟩ _ _ hS.view) rfl ?_; clear hS hF; intro w a hS hF
  refine s_pu hF (pu_assign rfl) rfl ?_; clear hF; intro a hF
  refine c_nil ?_
  refine n_then ?_
  refine c_seq ?_
  refine c_seq ?_
  refine c_reg ?_
  refine s_pu hF (pu_assign rfl) rfl ?_; clear hF; intro a hF
  refine c_nil ?_
  refine n_then ?_
  refine c_block ?_
  refine hS.cut fun O0 F0 hO0 hF0 hS => ?_
  refine hF.cut (.cons (k := 3) rfl <| .cons (k := 4) rfl <| .nil) (.cons (k := 0) rfl <| .nil) fun L0 hL0 hF => ?_
  refine c_loop (α := Nat) (fun k a w => k ≤ l.length ∧ Fr a 22 ([(3, .val (vs (numS l.length ++ rowB (l.take k)))), (4, .val (.int .i64 (k : Nat)))] ++ L0) ∧ St w0 h0 [] w O0 F0) (fun k => l.length - k) 0 (⟨Nat.zero_le _, by simpa [rowB] using hF, hS⟩) ?_
  subst hO0 hF0 hL0
  rintro k a w ⟨hk, hF, hS⟩
  refine c_seq ?_
  refine c_seq ?_
  refine c_reg ?_
  refine s_pu hF (pu_move rfl) rfl ?_; clear hF; intro a hF
  refine s_pu hF (pu_move rfl) rfl ?_; clear hF; intro a hF
  refine s_pu hF (pu_len_sl tyL34 rfl rfl) rfl ?_; clear hF; intro a hF
  refine s_pu hF (pu_ilt rfl rfl) rfl ?_; clear hF; intro a hF
  refine c_nil ?_
  refine n_then ?_
  refine c_if hF rfl (fun hc11 => ?_) (fun hc11 => ?_)
  · try simp only [decide_eq_true_eq, decide_eq_false_iff_not, Bool.not_eq_true', Bool.not_eq_false', Bool.not_eq_eq_eq_not, Bool.not_true, Bool.not_false] at hc11
    obtain ⟨g2, oc, ha, HC⟩ := hb.at (i := k) (x := l.getD k v0) (by rw [getD_lt l k v0 (by omega)]; exact List.getElem?_eq_getElem (by omega))
    have lb := bytesV_len (hok _ (getD_mem l k v0 (by omega))) (hB _ (getD_mem l k v0 (by omega)))
    have lr := row_len (l := l.take k) (fun v hv => ⟨hok _ (List.mem_of_mem_take hv), hB _ (List.mem_of_mem_take hv)⟩)
    rw [List.length_take] at lr
    refine c_skip ?_
    refine n_then ?_
    refine c_seq ?_
    refine c_block ?_
    refine c_reg ?_
    refine s_pu hF (pu_move rfl) rfl ?_; clear hF; intro a hF
    refine s_pu hF (pu_move rfl) rfl ?_; clear hF; intro a hF
    refine s_pu hF (pu_move rfl) rfl ?_; clear hF; intro a hF
    refine s_pu hF (pu_iaddr_sla (j := k) ha slt34 rfl rfl (by omega) (by omega)) rfl ?_; clear hF; intro a hF
    refine s_pu hF (pu_loadA (cs := valC (l.getD k v0)) agg24 rfl (fun j v hj => by rw [add_mk]; exact HC _ hS.base j v hj)) rfl ?_; clear hF; intro a hF
    refine s_callv hF hS ok14 rfl (c_RBytes (l.getD k v0) (hB _ (getD_mem l k v0 (by omega))) (hok _ (getD_mem l k v0 (by omega))) _ _ hS.view) rfl ?_; clear hS hF; intro w a hS hF
    refine s_pu hF (pu_cat rfl rfl (by rw [List.length_append]; omega)) rfl ?_; clear hF; intro a hF
    refine s_pu hF (pu_assign rfl) rfl ?_; clear hF; intro a hF
    refine c_nil ?_
    refine n_block ?_
    refine n_then ?_
    refine c_reg ?_
    refine s_pu hF (pu_move rfl) rfl ?_; clear hF; intro a hF
    refine s_pu hF (pu_add rfl rfl (by first | exact wrap_i64 (by omega) (by omega) | rfl)) rfl ?_; clear hF; intro a hF
    refine s_pu hF (pu_assign rfl) rfl ?_; clear hF; intro a hF
    refine c_nil ?_
    rw [List.append_assoc, ← row_snoc l k (by omega)] at hF
    exact ⟨k + 1, ⟨by omega, hF.pick (.cons (k := 3) rfl <| .cons (k := 4) rfl <| .cons (k := 0) rfl <| .nil), hS⟩, by omega⟩
  · try simp only [decide_eq_true_eq, decide_eq_false_iff_not, Bool.not_eq_true', Bool.not_eq_false', Bool.not_eq_eq_eq_not, Bool.not_true, Bool.not_false] at hc11
    obtain rfl : k = l.length := by omega
    rw [List.take_length] at hF
    refine c_exit (x_then (x_then (x_here ?_)))
    refine n_then ?_
    refine c_seq ?_
    refine c_reg ?_
    refine s_pu hF (pu_move rfl) rfl ?_; clear hF; intro a hF
    refine s_pu hF (pu_assign rfl) rfl ?_; clear hF; intro a hF
    refine c_nil ?_
    refine n_then ?_
    refine c_ret ?_
    exact f_ret hF rfl (.tmp rfl (.nil)) (hS.retv rfl)
theorem c_RightRow (ad : Option Addr) (cap : Nat) (l : List Val) (hs : ∀ v ∈ l, v.s.length ≤ 9223372036854775807) (w0 : World) (h0 : View) (hv : VLe h0 (Full w0)) (hb : SlC 24 3 (flatR valC) h0 (.slice ad l.length cap) l) : Calls Tryd.prog 17 #[.slice ad l.length cap] w0 (Ret w0 h0 fun u _ => u = .bool (l.all valOk)) := by
  refine f_enter (args := [.slice ad l.length cap]) Tryd.func17 rfl Tryd.ntmps17 rfl fun a hF => ?_
  have hS := St.init w0 h0 hv
  have hlm := hb.lm
  refine c_seq ?_
  refine c_reg ?_
  refine s_pu hF (pu_assign rfl) rfl ?_; clear hF; intro a hF
  refine c_nil ?_
  refine n_then ?_
  refine c_seq ?_
  refine c_seq ?_
  refine c_reg ?_
  refine s_pu hF (pu_assign rfl) rfl ?_; clear hF; intro a hF
  refine c_nil ?_
  refine n_then ?_
  refine c_block ?_
  refine hS.cut fun O0 F0 hO0 hF0 hS => ?_
  refine hF.cut (.cons (k := 3) rfl <| .nil) (.cons (k := 0) rfl <| .nil) fun L0 hL0 hF => ?_
  refine c_loop (α := Nat) (fun k a w => k ≤ l.length ∧ (∀ j, j < k → valOk (l.getD j v0) = true) ∧ Fr a 16 ([(3, .val (.int .i64 (k : Nat)))] ++ L0) ∧ St w0 h0 [] w O0 F0) (fun k => l.length - k) 0 (⟨Nat.zero_le _, fun j hj => absurd hj (Nat.not_lt_zero j), hF, hS⟩) ?_
  subst hO0 hF0 hL0
  rintro k a w ⟨hk, hn, hF, hS⟩
  refine c_seq ?_
  refine c_seq ?_
  refine c_reg ?_
  refine s_pu hF (pu_move rfl) rfl ?_; clear hF; intro a hF
  refine s_pu hF (pu_move rfl) rfl ?_; clear hF; intro a hF
  refine s_pu hF (pu_len_sl tyL34 rfl rfl) rfl ?_; clear hF; intro a hF
  refine s_pu hF (pu_ilt rfl rfl) rfl ?_; clear hF; intro a hF
  refine c_nil ?_
  refine n_then ?_
  refine c_if hF rfl (fun hc7 => ?_) (fun hc7 => ?_)
  · try simp only [decide_eq_true_eq, decide_eq_false_iff_not, Bool.not_eq_true', Bool.not_eq_false', Bool.not_eq_eq_eq_not, Bool.not_true, Bool.not_false] at hc7
    obtain ⟨g2, oc, ha, HC⟩ := hb.at (i := k) (x := l.getD k v0) (by rw [getD_lt l k v0 (by omega)]; exact List.getElem?_eq_getElem (by omega))
    refine c_skip ?_
    refine n_then ?_
    refine c_seq ?_
    refine c_block ?_
    refine c_seq ?_
    refine c_reg ?_
    refine s_pu hF (pu_move rfl) rfl ?_; clear hF; intro a hF
    refine s_pu hF (pu_move rfl) rfl ?_; clear hF; intro a hF
    refine s_pu hF (pu_iaddr_sla (j := k) ha slt34 rfl rfl (by omega) (by omega)) rfl ?_; clear hF; intro a hF
    refine s_pu hF (pu_loadA (cs := valC (l.getD k v0)) agg24 rfl (fun j v hj => by rw [add_mk]; exact HC _ hS.base j v hj)) rfl ?_; clear hF; intro a hF
    refine s_callv hF hS ok11 rfl (c_RRight (l.getD k v0) (hs _ (getD_mem l k v0 (by omega))) _ _ hS.view) rfl ?_; clear hS hF; intro w a hS hF
    refine s_pu hF (pu_not rfl) rfl ?_; clear hF; intro a hF
    refine c_nil ?_
    refine n_then ?_
    refine c_if hF rfl (fun hc15 => ?_) (fun hc15 => ?_)
    · try simp only [decide_eq_true_eq, decide_eq_false_iff_not, Bool.not_eq_true', Bool.not_eq_false', Bool.not_eq_eq_eq_not, Bool.not_true, Bool.not_false] at hc15
      refine c_seq ?_
      refine c_reg ?_
      refine s_pu hF (pu_assign rfl) rfl ?_; clear hF; intro a hF
      refine c_nil ?_
      refine n_then ?_
      refine c_ret (r_block (r_then (r_then (r_block (r_then ?_)))))
      exact f_ret hF rfl (.tmp rfl (.nil)) (hS.retv (congrArg Value.bool (all_not v0 (by omega) hc15).symm))
    · try simp only [decide_eq_true_eq, decide_eq_false_iff_not, Bool.not_eq_true', Bool.not_eq_false', Bool.not_eq_eq_eq_not, Bool.not_true, Bool.not_false] at hc15
      refine c_skip ?_
      refine n_block ?_
      refine n_then ?_
      refine c_reg ?_
      refine s_pu hF (pu_move rfl) rfl ?_; clear hF; intro a hF
      refine s_pu hF (pu_add rfl rfl (by first | exact wrap_i64 (by omega) (by omega) | rfl)) rfl ?_; clear hF; intro a hF
      refine s_pu hF (pu_assign rfl) rfl ?_; clear hF; intro a hF
      refine c_nil ?_
      exact ⟨k + 1, ⟨by omega, upto_snoc hn hc15, hF.pick (.cons (k := 3) rfl <| .cons (k := 0) rfl <| .nil), hS⟩, by omega⟩
  · try simp only [decide_eq_true_eq, decide_eq_false_iff_not, Bool.not_eq_true', Bool.not_eq_false', Bool.not_eq_eq_eq_not, Bool.not_true, Bool.not_false] at hc7
    refine c_exit (x_then (x_then (x_here ?_)))
    refine n_then ?_
    refine c_seq ?_
    refine c_reg ?_
    refine s_pu hF (pu_assign rfl) rfl ?_; clear hF; intro a hF
    refine c_nil ?_
    refine n_then ?_
    refine c_ret ?_
    exact f_ret hF rfl (.tmp rfl (.nil)) (hS.retv (congrArg Value.bool (all_upto v0 (fun j hj => hn j (by omega))).symm))
set_option maxHeartbeats 1000000 in
theorem c_TakeRow (s : List UInt8) (most : Int) (hs : s.length ≤ 1000000) (w0 : World) (h0 : View) (hv : VLe h0 (Full w0))  : Calls Tryd.prog 22 #[vs s, .int .i64 most] w0 (RetM [] w0 fun v w' => ∃ u, v = .tuple (u :: [vs (takeRow s most).2.1, .int .i64 (takeRow s most).2.2]).toArray ∧ NewBuf w0 24 3 (((takeRow s most).1.map valC).flatten) u w') := by
  refine f_enter (args := [vs s, .int .i64 most]) Tryd.func22 rfl Tryd.ntmps22 rfl fun a hF => ?_
  have hS := St.init w0 h0 hv
  refine c_seq ?_
  refine c_reg ?_
  refine s_pu hF (pu_assign rfl) rfl ?_; clear hF; intro a hF
  refine s_pu hF (pu_assign rfl) rfl ?_; clear hF; intro a hF
  refine s_pu hF (pu_assign rfl) rfl ?_; clear hF; intro a hF
  refine c_nil ?_
  refine n_then ?_
  refine c_seq ?_
  refine c_reg ?_
  refine s_pu hF (pu_move rfl) rfl ?_; clear hF; intro a hF
  refine s_callv hF hS ok40 rfl (c_TakeNum s _ _ hS.view) rfl ?_; clear hS hF; intro w a hS hF
  refine s_pu hF (pu_move rfl) rfl ?_; clear hF; intro a hF
  refine s_pu hF (pu_extract rfl rfl) rfl ?_; clear hF; intro a hF
  refine s_pu hF (pu_extract rfl rfl) rfl ?_; clear hF; intro a hF
  refine s_pu hF (pu_extract rfl rfl) rfl ?_; clear hF; intro a hF
  refine s_pu hF (pu_assign rfl) rfl ?_; clear hF; intro a hF
  refine s_pu hF (pu_assign rfl) rfl ?_; clear hF; intro a hF
  refine s_pu hF (pu_assign rfl) rfl ?_; clear hF; intro a hF
  refine c_nil ?_
  refine n_then ?_
  refine c_seq ?_
  refine c_block ?_
  refine c_seq ?_
  refine c_reg ?_
  refine s_pu hF (pu_move rfl) rfl ?_; clear hF; intro a hF
  refine s_pu hF (pu_ine rfl rfl) rfl ?_; clear hF; intro a hF
  refine s_pu hF (pu_assign rfl) rfl ?_; clear hF; intro a hF
  refine c_nil ?_
  refine n_then ?_
  refine c_if hF rfl (fun hc18 => ?_) (fun hc18 => ?_)
  · try simp only [decide_eq_true_eq, decide_eq_false_iff_not, Bool.not_eq_true', Bool.not_eq_false', Bool.not_eq_eq_eq_not, Bool.not_true, Bool.not_false] at hc18
    refine c_seq ?_
    refine c_reg ?_
    refine s_pu hF (pu_move rfl) rfl ?_; clear hF; intro a hF
    refine s_pu hF (pu_assign rfl) rfl ?_; clear hF; intro a hF
    refine s_pu hF (pu_assign rfl) rfl ?_; clear hF; intro a hF
    refine s_pu hF (pu_assign rfl) rfl ?_; clear hF; intro a hF
    refine c_nil ?_
    refine n_then ?_
    refine c_ret (r_block (r_then ?_))
    refine f_ret hF rfl (.tmp rfl (.tmp rfl (.tmp rfl (.nil)))) ?_
    have hR : takeRow s most = ([], [], (takeN s).2.2) := by rw [takeRow, if_pos (by assumption)]
    refine hS.retM ⟨.slice none 0 0, by rw [hR]; rfl, ?_⟩
    rw [hR]
    exact NewBuf.nil
  · try simp only [decide_eq_true_eq, decide_eq_false_iff_not, Bool.not_eq_true', Bool.not_eq_false', Bool.not_eq_eq_eq_not, Bool.not_true, Bool.not_false] at hc18
    refine c_seq ?_
    refine c_reg ?_
    refine s_pu hF (pu_move rfl) rfl ?_; clear hF; intro a hF
    refine s_pu hF (pu_ilt rfl rfl) rfl ?_; clear hF; intro a hF
    refine s_pu hF (pu_assign rfl) rfl ?_; clear hF; intro a hF
    refine c_nil ?_
    refine n_then ?_
    refine c_if hF rfl (fun hc22 => ?_) (fun hc22 => ?_)
    · try simp only [decide_eq_true_eq, decide_eq_false_iff_not, Bool.not_eq_true', Bool.not_eq_false', Bool.not_eq_eq_eq_not, Bool.not_true, Bool.not_false] at hc22
      refine c_seq ?_
      refine c_reg ?_
      refine s_pu hF (pu_assign rfl) rfl ?_; clear hF; intro a hF
      refine s_pu hF (pu_assign rfl) rfl ?_; clear hF; intro a hF
      refine s_pu hF (pu_assign rfl) rfl ?_; clear hF; intro a hF
      refine c_nil ?_
      refine n_then ?_
      refine c_ret (r_block (r_then ?_))
      refine f_ret hF rfl (.tmp rfl (.tmp rfl (.tmp rfl (.nil)))) ?_
      have hR : takeRow s most = ([], [], 4) := by rw [takeRow, if_neg (by omega), if_pos (by omega)]
      refine hS.retM ⟨.slice none 0 0, by rw [hR]; rfl, ?_⟩
      rw [hR]
      exact NewBuf.nil
    · try simp only [decide_eq_true_eq, decide_eq_false_iff_not, Bool.not_eq_true', Bool.not_eq_false', Bool.not_eq_eq_eq_not, Bool.not_true, Bool.not_false] at hc22
      refine c_seq ?_
      refine c_reg ?_
      refine s_pu hF (pu_move rfl) rfl ?_; clear hF; intro a hF
      refine s_pu hF (pu_move rfl) rfl ?_; clear hF; intro a hF
      refine s_pu hF (pu_igt rfl rfl) rfl ?_; clear hF; intro a hF
      refine s_pu hF (pu_assign rfl) rfl ?_; clear hF; intro a hF
      refine c_nil ?_
      refine n_then ?_
      refine c_if hF rfl (fun hc25 => ?_) (fun hc25 => ?_)
      · try simp only [decide_eq_true_eq, decide_eq_false_iff_not, Bool.not_eq_true', Bool.not_eq_false', Bool.not_eq_eq_eq_not, Bool.not_true, Bool.not_false] at hc25
        refine c_seq ?_
        refine c_reg ?_
        refine s_pu hF (pu_assign rfl) rfl ?_; clear hF; intro a hF
        refine s_pu hF (pu_assign rfl) rfl ?_; clear hF; intro a hF
        refine s_pu hF (pu_assign rfl) rfl ?_; clear hF; intro a hF
        refine c_nil ?_
        refine n_then ?_
        refine c_ret (r_block (r_then ?_))
        refine f_ret hF rfl (.tmp rfl (.tmp rfl (.tmp rfl (.nil)))) ?_
        have hR : takeRow s most = ([], [], 5) := by rw [takeRow, if_neg (by omega), if_neg (by omega), if_pos (by omega)]
        refine hS.retM ⟨.slice none 0 0, by rw [hR]; rfl, ?_⟩
        rw [hR]
        exact NewBuf.nil
      · try simp only [decide_eq_true_eq, decide_eq_false_iff_not, Bool.not_eq_true', Bool.not_eq_false', Bool.not_eq_eq_eq_not, Bool.not_true, Bool.not_false] at hc25
        refine c_skip ?_
        refine n_block ?_
        refine n_then ?_
        refine c_seq ?_
        refine c_reg ?_
        refine s_pu hF (pu_assign rfl) rfl ?_; clear hF; intro a hF
        replace hS := hS.newNil 24 3
        refine c_nil ?_
        refine n_then ?_
        refine c_seq ?_
        refine c_block ?_
        refine hS.cut fun O0 F0 hO0 hF0 hS => ?_
        subst hO0
        refine hF.cut (.cons (k := 8) rfl <| .cons (k := 10) rfl <| .nil) (.cons (k := 7) rfl <| .nil) fun L0 hL0 hF => ?_
        refine c_loop (α := List Val) (fun acc a w => ∃ a0 nn c r, nn = acc.length ∧ acc.length + r.length ≤ s.length ∧ acc.length ≤ (takeN s).1.toNat ∧ rowG ((takeN s).1.toNat - acc.length) acc r = takeRow s most ∧ Fr a 48 ([(8, .val (vs r)), (10, .val (.slice a0 nn c))] ++ L0) ∧ St w0 h0 [] w [bufE 24 3 (.slice a0 nn c) ((acc.map valC).flatten)] F0) (fun acc => (takeN s).1.toNat - acc.length) [] (⟨none, 0, 0, (takeN s).2.1, rfl, by have := takeN_len s; simpa using this, by simp, by rw [takeRow, if_neg (by omega), if_neg (by omega), if_neg (by omega)]; rfl, hF, hS⟩) ?_
        subst hF0 hL0
        rintro acc a w ⟨a0, nn, c, r, hnl, hsl, hal, hrow, hF, hS⟩
        refine c_seq ?_
        refine c_seq ?_
        refine c_reg ?_
        refine s_pu hF (pu_move rfl) rfl ?_; clear hF; intro a hF
        refine s_pu hF (pu_len_sl tyL34 rfl rfl) rfl ?_; clear hF; intro a hF
        refine s_pu hF (pu_move rfl) rfl ?_; clear hF; intro a hF
        refine s_pu hF (pu_ilt rfl rfl) rfl ?_; clear hF; intro a hF
        refine c_nil ?_
        refine n_then ?_
        refine c_if hF rfl (fun hc32 => ?_) (fun hc32 => ?_)
        · try simp only [decide_eq_true_eq, decide_eq_false_iff_not, Bool.not_eq_true', Bool.not_eq_false', Bool.not_eq_eq_eq_not, Bool.not_true, Bool.not_false] at hc32
          refine c_skip ?_
          refine n_then ?_
          refine c_block ?_
          refine c_seq ?_
          refine c_reg ?_
          refine s_alloc hF hS zero24 rfl ?_; clear hS hF; intro b1 w a hS hF
          refine c_nil ?_
          refine n_then ?_
          refine c_seq ?_
          refine c_seq ?_
          refine c_reg ?_
          refine s_pu hF (pu_move rfl) rfl ?_; clear hF; intro a hF
          refine s_callv hF hS ok20 rfl (c_Take r _ _ hS.view) rfl ?_; clear hS hF; intro w a hS hF
          refine s_pu hF (pu_move rfl) rfl ?_; clear hF; intro a hF
          refine s_pu hF (pu_extract rfl rfl) rfl ?_; clear hF; intro a hF
          refine s_pu hF (pu_extract rfl rfl) rfl ?_; clear hF; intro a hF
          refine s_pu hF (pu_extract rfl rfl) rfl ?_; clear hF; intro a hF
          refine s_store (i := 0) (new := valC (takeV r).1) hF hS rfl rfl rfl rfl (by exact sz24) rfl (by simp [valC]) ?_; clear hS hF; intro w a hS hF
          rw [spl_all (by simp [valC])] at hS
          refine s_pu hF (pu_assign rfl) rfl ?_; clear hF; intro a hF
          refine s_pu hF (pu_assign rfl) rfl ?_; clear hF; intro a hF
          refine c_nil ?_
          refine n_then ?_
          refine c_seq ?_
          refine c_reg ?_
          refine s_pu hF (pu_move rfl) rfl ?_; clear hF; intro a hF
          refine s_pu hF (pu_ine rfl rfl) rfl ?_; clear hF; intro a hF
          refine c_nil ?_
          refine n_then ?_
          refine c_if hF rfl (fun hc40 => ?_) (fun hc40 => ?_)
          · try simp only [decide_eq_true_eq, decide_eq_false_iff_not, Bool.not_eq_true', Bool.not_eq_false', Bool.not_eq_eq_eq_not, Bool.not_true, Bool.not_false] at hc40
            refine c_seq ?_
            refine c_reg ?_
            refine s_pu hF (pu_move rfl) rfl ?_; clear hF; intro a hF
            refine s_pu hF (pu_assign rfl) rfl ?_; clear hF; intro a hF
            refine s_pu hF (pu_assign rfl) rfl ?_; clear hF; intro a hF
            refine s_pu hF (pu_assign rfl) rfl ?_; clear hF; intro a hF
            refine c_nil ?_
            refine n_then ?_
            refine c_ret (r_then (r_block (r_then (r_block (r_then ?_)))))
            refine f_ret hF rfl (.tmp rfl (.tmp rfl (.tmp rfl (.nil)))) ?_
            have hR : takeRow s most = ([], [], (takeV r).2.2) := by rw [← hrow, rowG_err (by omega) hc40]
            refine hS.retM ⟨.slice none 0 0, by rw [hR]; rfl, ?_⟩
            rw [hR]
            exact NewBuf.nil
          · try simp only [decide_eq_true_eq, decide_eq_false_iff_not, Bool.not_eq_true', Bool.not_eq_false', Bool.not_eq_eq_eq_not, Bool.not_true, Bool.not_false] at hc40
            refine c_skip ?_
            refine n_then ?_
            refine c_reg ?_
            refine s_pu hF (pu_move rfl) rfl ?_; clear hF; intro a hF
            refine s_pu hF (o_loadA (i := 0) (new := valC (takeV r).1) hS rfl agg24 rfl (rfl)) rfl ?_; clear hF; intro a hF
            refine s_build (xs := [.tmp 43]) hF hS slt_b34 rfl rfl (by simp [Value.cells, valC]) (by decide) rfl ?_; clear hS hF; intro b2 w a hS hF
            refine s_append (i := 2) hF hS rfl slt_a34_34 rfl rfl (Src.own (hS.at (i := 0) rfl) rfl rfl) (by rw [flat3]; simp [cellsL, Value.cells, valC]; omega) rfl ?_; clear hS hF; intro a0 nn c0 w a hnn hS hF
            refine s_pu hF (pu_assign rfl) rfl ?_; clear hF; intro a hF
            refine c_nil ?_
            refine n_block ?_
            have hnn2 : nn = acc.length + 1 := by (rw [flat3] at hnn; simp [cellsL, Value.cells, valC] at hnn; omega)
            replace hS := (hS.forget 0).forget 0
            have hlt := takeV_lt (s := r) hc40
            refine ⟨acc ++ [(takeV r).1], ⟨_, _, _, (takeV r).2.1, by simp [hnn2], by simp; omega, by simp; omega, ?_, hF.pick (.cons (k := 8) rfl <| .cons (k := 10) rfl <| .cons (k := 7) rfl <| .nil), ?_⟩, by simp; omega⟩
            · rw [← rowG_step (by omega) hc40]; exact hrow
            · rw [List.map_append, List.flatten_append]; exact hS
        · try simp only [decide_eq_true_eq, decide_eq_false_iff_not, Bool.not_eq_true', Bool.not_eq_false', Bool.not_eq_eq_eq_not, Bool.not_true, Bool.not_false] at hc32
          refine c_exit (x_then (x_then (x_here ?_)))
          refine n_then ?_
          refine c_seq ?_
          refine c_reg ?_
          refine s_pu hF (pu_move rfl) rfl ?_; clear hF; intro a hF
          refine s_pu hF (pu_move rfl) rfl ?_; clear hF; intro a hF
          refine s_pu hF (pu_assign rfl) rfl ?_; clear hF; intro a hF
          refine s_pu hF (pu_assign rfl) rfl ?_; clear hF; intro a hF
          refine s_pu hF (pu_assign rfl) rfl ?_; clear hF; intro a hF
          refine c_nil ?_
          refine n_then ?_
          refine c_ret ?_
          refine f_ret hF rfl (.tmp rfl (.tmp rfl (.tmp rfl (.nil)))) ?_
          have hR : takeRow s most = (acc, r, 0) := by rw [← hrow, rowG_done (by omega)]
          refine hS.retM ⟨.slice a0 nn c, by rw [hR]; rfl, ?_⟩
          rw [hR]
          exact hS.newBuf (i := 0) rfl
set_option maxHeartbeats 1000000 in
theorem c_RTakeRow (s : List UInt8) (most : Int) (hs : s.length ≤ 1000000) (w0 : World) (h0 : View) (hv : VLe h0 (Full w0))  : Calls Tryd.prog 23 #[vs s, .int .i64 most] w0 (RetM [] w0 fun v w' => ∃ u, v = .tuple (u :: [vs (takeRow s most).2.1, .int .i64 (takeRow s most).2.2]).toArray ∧ NewBuf w0 24 3 (((takeRow s most).1.map valC).flatten) u w') := by
  refine f_enter (args := [vs s, .int .i64 most]) Tryd.func23 rfl Tryd.ntmps23 rfl fun a hF => ?_
  have hS := St.init w0 h0 hv
  refine c_seq ?_
  refine c_reg ?_
  refine s_pu hF (pu_assign rfl) rfl ?_; clear hF; intro a hF
  refine s_pu hF (pu_assign rfl) rfl ?_; clear hF; intro a hF
  refine s_pu hF (pu_assign rfl) rfl ?_; clear hF; intro a hF
  refine c_nil ?_
  refine n_then ?_
  refine c_seq ?_
  refine c_reg ?_
  refine s_pu hF (pu_move rfl) rfl ?_; clear hF; intro a hF
  refine s_callv hF hS ok42 rfl (c_RTakeNum s (by omega) _ _ hS.view) rfl ?_; clear hS hF; intro w a hS hF
  refine s_pu hF (pu_move rfl) rfl ?_; clear hF; intro a hF
  refine s_pu hF (pu_extract rfl rfl) rfl ?_; clear hF; intro a hF
  refine s_pu hF (pu_extract rfl rfl) rfl ?_; clear hF; intro a hF
  refine s_pu hF (pu_extract rfl rfl) rfl ?_; clear hF; intro a hF
  refine s_pu hF (pu_assign rfl) rfl ?_; clear hF; intro a hF
  refine s_pu hF (pu_assign rfl) rfl ?_; clear hF; intro a hF
  refine s_pu hF (pu_assign rfl) rfl ?_; clear hF; intro a hF
  refine c_nil ?_
  refine n_then ?_
  refine c_seq ?_
  refine c_block ?_
  refine c_seq ?_
  refine c_reg ?_
  refine s_pu hF (pu_move rfl) rfl ?_; clear hF; intro a hF
  refine s_pu hF (pu_ine rfl rfl) rfl ?_; clear hF; intro a hF
  refine s_pu hF (pu_assign rfl) rfl ?_; clear hF; intro a hF
  refine c_nil ?_
  refine n_then ?_
  refine c_if hF rfl (fun hc20 => ?_) (fun hc20 => ?_)
  · try simp only [decide_eq_true_eq, decide_eq_false_iff_not, Bool.not_eq_true', Bool.not_eq_false', Bool.not_eq_eq_eq_not, Bool.not_true, Bool.not_false] at hc20
    refine c_seq ?_
    refine c_reg ?_
    refine s_pu hF (pu_move rfl) rfl ?_; clear hF; intro a hF
    refine s_pu hF (pu_assign rfl) rfl ?_; clear hF; intro a hF
    refine s_pu hF (pu_assign rfl) rfl ?_; clear hF; intro a hF
    refine s_pu hF (pu_assign rfl) rfl ?_; clear hF; intro a hF
    refine c_nil ?_
    refine n_then ?_
    refine c_ret (r_block (r_then ?_))
    refine f_ret hF rfl (.tmp rfl (.tmp rfl (.tmp rfl (.nil)))) ?_
    have hR : takeRow s most = ([], [], (takeN s).2.2) := by rw [takeRow, if_pos (by assumption)]
    refine hS.retM ⟨.slice none 0 0, by rw [hR]; rfl, ?_⟩
    rw [hR]
    exact NewBuf.nil
  · try simp only [decide_eq_true_eq, decide_eq_false_iff_not, Bool.not_eq_true', Bool.not_eq_false', Bool.not_eq_eq_eq_not, Bool.not_true, Bool.not_false] at hc20
    refine c_seq ?_
    refine c_reg ?_
    refine s_pu hF (pu_move rfl) rfl ?_; clear hF; intro a hF
    refine s_pu hF (pu_ilt rfl rfl) rfl ?_; clear hF; intro a hF
    refine s_pu hF (pu_assign rfl) rfl ?_; clear hF; intro a hF
    refine c_nil ?_
    refine n_then ?_
    refine c_if hF rfl (fun hc24 => ?_) (fun hc24 => ?_)
    · try simp only [decide_eq_true_eq, decide_eq_false_iff_not, Bool.not_eq_true', Bool.not_eq_false', Bool.not_eq_eq_eq_not, Bool.not_true, Bool.not_false] at hc24
      refine c_seq ?_
      refine c_reg ?_
      refine s_pu hF (pu_assign rfl) rfl ?_; clear hF; intro a hF
      refine s_pu hF (pu_assign rfl) rfl ?_; clear hF; intro a hF
      refine s_pu hF (pu_assign rfl) rfl ?_; clear hF; intro a hF
      refine c_nil ?_
      refine n_then ?_
      refine c_ret (r_block (r_then ?_))
      refine f_ret hF rfl (.tmp rfl (.tmp rfl (.tmp rfl (.nil)))) ?_
      have hR : takeRow s most = ([], [], 4) := by rw [takeRow, if_neg (by omega), if_pos (by omega)]
      refine hS.retM ⟨.slice none 0 0, by rw [hR]; rfl, ?_⟩
      rw [hR]
      exact NewBuf.nil
    · try simp only [decide_eq_true_eq, decide_eq_false_iff_not, Bool.not_eq_true', Bool.not_eq_false', Bool.not_eq_eq_eq_not, Bool.not_true, Bool.not_false] at hc24
      refine c_seq ?_
      refine c_reg ?_
      refine s_pu hF (pu_move rfl) rfl ?_; clear hF; intro a hF
      refine s_pu hF (pu_move rfl) rfl ?_; clear hF; intro a hF
      refine s_pu hF (pu_igt rfl rfl) rfl ?_; clear hF; intro a hF
      refine s_pu hF (pu_assign rfl) rfl ?_; clear hF; intro a hF
      refine c_nil ?_
      refine n_then ?_
      refine c_if hF rfl (fun hc27 => ?_) (fun hc27 => ?_)
      · try simp only [decide_eq_true_eq, decide_eq_false_iff_not, Bool.not_eq_true', Bool.not_eq_false', Bool.not_eq_eq_eq_not, Bool.not_true, Bool.not_false] at hc27
        refine c_seq ?_
        refine c_reg ?_
        refine s_pu hF (pu_assign rfl) rfl ?_; clear hF; intro a hF
        refine s_pu hF (pu_assign rfl) rfl ?_; clear hF; intro a hF
        refine s_pu hF (pu_assign rfl) rfl ?_; clear hF; intro a hF
        refine c_nil ?_
        refine n_then ?_
        refine c_ret (r_block (r_then ?_))
        refine f_ret hF rfl (.tmp rfl (.tmp rfl (.tmp rfl (.nil)))) ?_
        have hR : takeRow s most = ([], [], 5) := by rw [takeRow, if_neg (by omega), if_neg (by omega), if_pos (by omega)]
        refine hS.retM ⟨.slice none 0 0, by rw [hR]; rfl, ?_⟩
        rw [hR]
        exact NewBuf.nil
      · try simp only [decide_eq_true_eq, decide_eq_false_iff_not, Bool.not_eq_true', Bool.not_eq_false', Bool.not_eq_eq_eq_not, Bool.not_true, Bool.not_false] at hc27
        refine c_skip ?_
        refine n_block ?_
        refine n_then ?_
        refine c_seq ?_
        refine c_reg ?_
        refine s_pu hF (pu_assign rfl) rfl ?_; clear hF; intro a hF
        replace hS := hS.newNil 24 3
        refine c_nil ?_
        refine n_then ?_
        refine c_seq ?_
        refine c_block ?_
        refine hS.cut fun O0 F0 hO0 hF0 hS => ?_
        subst hO0
        refine hF.cut (.cons (k := 8) rfl <| .cons (k := 10) rfl <| .nil) (.cons (k := 7) rfl <| .nil) fun L0 hL0 hF => ?_
        refine c_loop (α := List Val) (fun acc a w => ∃ a0 nn c r, nn = acc.length ∧ acc.length + r.length ≤ s.length ∧ acc.length ≤ (takeN s).1.toNat ∧ rowG ((takeN s).1.toNat - acc.length) acc r = takeRow s most ∧ Fr a 51 ([(8, .val (vs r)), (10, .val (.slice a0 nn c))] ++ L0) ∧ St w0 h0 [] w [bufE 24 3 (.slice a0 nn c) ((acc.map valC).flatten)] F0) (fun acc => (takeN s).1.toNat - acc.length) [] (⟨none, 0, 0, (takeN s).2.1, rfl, by have := takeN_len s; simpa using this, by simp, by rw [takeRow, if_neg (by omega), if_neg (by omega), if_neg (by omega)]; rfl, hF, hS⟩) ?_
        subst hF0 hL0
        rintro acc a w ⟨a0, nn, c, r, hnl, hsl, hal, hrow, hF, hS⟩
        refine c_seq ?_
        refine c_seq ?_
        refine c_reg ?_
        refine s_pu hF (pu_move rfl) rfl ?_; clear hF; intro a hF
        refine s_pu hF (pu_len_sl tyL34 rfl rfl) rfl ?_; clear hF; intro a hF
        refine s_pu hF (pu_move rfl) rfl ?_; clear hF; intro a hF
        refine s_pu hF (pu_ilt rfl rfl) rfl ?_; clear hF; intro a hF
        refine c_nil ?_
        refine n_then ?_
        refine c_if hF rfl (fun hc34 => ?_) (fun hc34 => ?_)
        · try simp only [decide_eq_true_eq, decide_eq_false_iff_not, Bool.not_eq_true', Bool.not_eq_false', Bool.not_eq_eq_eq_not, Bool.not_true, Bool.not_false] at hc34
          refine c_skip ?_
          refine n_then ?_
          refine c_block ?_
          refine c_seq ?_
          refine c_reg ?_
          refine s_pu hF (pu_move rfl) rfl ?_; clear hF; intro a hF
          refine s_callv hF hS ok21 rfl (c_RTake r (by omega) _ _ hS.view) rfl ?_; clear hS hF; intro w a hS hF
          refine s_pu hF (pu_move rfl) rfl ?_; clear hF; intro a hF
          refine s_pu hF (pu_extract rfl rfl) rfl ?_; clear hF; intro a hF
          refine s_pu hF (pu_extract rfl rfl) rfl ?_; clear hF; intro a hF
          refine s_pu hF (pu_extract rfl rfl) rfl ?_; clear hF; intro a hF
          refine s_alloc hF hS zero24 rfl ?_; clear hS hF; intro b1 w a hS hF
          refine s_store (i := 0) (new := valC (takeV r).1) hF hS rfl rfl rfl rfl (by exact sz24) rfl (by simp [valC]) ?_; clear hS hF; intro w a hS hF
          rw [spl_all (by simp [valC])] at hS
          refine s_pu hF (pu_assign rfl) rfl ?_; clear hF; intro a hF
          refine s_pu hF (pu_assign rfl) rfl ?_; clear hF; intro a hF
          refine c_nil ?_
          refine n_then ?_
          refine c_seq ?_
          refine c_seq ?_
          refine c_reg ?_
          refine s_pu hF (pu_move rfl) rfl ?_; clear hF; intro a hF
          refine s_pu hF (pu_ine rfl rfl) rfl ?_; clear hF; intro a hF
          refine c_nil ?_
          refine n_then ?_
          refine c_if hF rfl (fun hc42 => ?_) (fun hc42 => ?_)
          · try simp only [decide_eq_true_eq, decide_eq_false_iff_not, Bool.not_eq_true', Bool.not_eq_false', Bool.not_eq_eq_eq_not, Bool.not_true, Bool.not_false] at hc42
            refine c_seq ?_
            refine c_reg ?_
            refine s_pu hF (pu_move rfl) rfl ?_; clear hF; intro a hF
            refine s_pu hF (pu_assign rfl) rfl ?_; clear hF; intro a hF
            refine s_pu hF (pu_assign rfl) rfl ?_; clear hF; intro a hF
            refine s_pu hF (pu_assign rfl) rfl ?_; clear hF; intro a hF
            refine c_nil ?_
            refine n_then ?_
            refine c_ret (r_then (r_block (r_then (r_block (r_then ?_)))))
            refine f_ret hF rfl (.tmp rfl (.tmp rfl (.tmp rfl (.nil)))) ?_
            have hR : takeRow s most = ([], [], (takeV r).2.2) := by rw [← hrow, rowG_err (by omega) hc42]
            refine hS.retM ⟨.slice none 0 0, by rw [hR]; rfl, ?_⟩
            rw [hR]
            exact NewBuf.nil
          · try simp only [decide_eq_true_eq, decide_eq_false_iff_not, Bool.not_eq_true', Bool.not_eq_false', Bool.not_eq_eq_eq_not, Bool.not_true, Bool.not_false] at hc42
            refine c_skip ?_
            refine n_then ?_
            refine c_seq ?_
            refine c_reg ?_
            refine s_pu hF (pu_move rfl) rfl ?_; clear hF; intro a hF
            refine s_pu hF (o_loadA (i := 0) (new := valC (takeV r).1) hS rfl agg24 rfl (rfl)) rfl ?_; clear hF; intro a hF
            refine s_build (xs := [.tmp 45]) hF hS slt_b34 rfl rfl (by simp [Value.cells, valC]) (by decide) rfl ?_; clear hS hF; intro b2 w a hS hF
            refine s_append (i := 2) hF hS rfl slt_a34_34 rfl rfl (Src.own (hS.at (i := 0) rfl) rfl rfl) (by rw [flat3]; simp [cellsL, Value.cells, valC]; omega) rfl ?_; clear hS hF; intro a0 nn c0 w a hnn hS hF
            refine s_pu hF (pu_assign rfl) rfl ?_; clear hF; intro a hF
            refine c_nil ?_
            refine n_then ?_
            refine c_reg ?_
            refine s_pu hF (pu_move rfl) rfl ?_; clear hF; intro a hF
            refine s_pu hF (pu_assign rfl) rfl ?_; clear hF; intro a hF
            refine c_nil ?_
            refine n_block ?_
            have hnn2 : nn = acc.length + 1 := by (rw [flat3] at hnn; simp [cellsL, Value.cells, valC] at hnn; omega)
            replace hS := (hS.forget 0).forget 0
            have hlt := takeV_lt (s := r) hc42
            refine ⟨acc ++ [(takeV r).1], ⟨_, _, _, (takeV r).2.1, by simp [hnn2], by simp; omega, by simp; omega, ?_, hF.pick (.cons (k := 8) rfl <| .cons (k := 10) rfl <| .cons (k := 7) rfl <| .nil), ?_⟩, by simp; omega⟩
            · rw [← rowG_step (by omega) hc42]; exact hrow
            · rw [List.map_append, List.flatten_append]; exact hS
        · try simp only [decide_eq_true_eq, decide_eq_false_iff_not, Bool.not_eq_true', Bool.not_eq_false', Bool.not_eq_eq_eq_not, Bool.not_true, Bool.not_false] at hc34
          refine c_exit (x_then (x_then (x_here ?_)))
          refine n_then ?_
          refine c_seq ?_
          refine c_reg ?_
          refine s_pu hF (pu_move rfl) rfl ?_; clear hF; intro a hF
          refine s_pu hF (pu_move rfl) rfl ?_; clear hF; intro a hF
          refine s_pu hF (pu_assign rfl) rfl ?_; clear hF; intro a hF
          refine s_pu hF (pu_assign rfl) rfl ?_; clear hF; intro a hF
          refine s_pu hF (pu_assign rfl) rfl ?_; clear hF; intro a hF
          refine c_nil ?_
          refine n_then ?_
          refine c_ret ?_
          refine f_ret hF rfl (.tmp rfl (.tmp rfl (.tmp rfl (.nil)))) ?_
          have hR : takeRow s most = (acc, r, 0) := by rw [← hrow, rowG_done (by omega)]
          refine hS.retM ⟨.slice a0 nn c, by rw [hR]; rfl, ?_⟩
          rw [hR]
          exact hS.newBuf (i := 0) rfl
theorem c_SameRow (ad ad2 : Option Addr) (cap cap2 : Nat) (l m : List Val) (w0 : World) (h0 : View) (hv : VLe h0 (Full w0)) (hb : SlC 24 3 (flatR valC) h0 (.slice ad l.length cap) l) (hb2 : SlC 24 3 (flatR valC) h0 (.slice ad2 m.length cap2) m) : Calls Tryd.prog 24 #[.slice ad l.length cap, .slice ad2 m.length cap2] w0 (Ret w0 h0 fun u _ => u = .bool (decide (l = m))) := by
  refine f_enter (args := [.slice ad l.length cap, .slice ad2 m.length cap2]) Tryd.func24 rfl Tryd.ntmps24 rfl fun a hF => ?_
  have hS := St.init w0 h0 hv
  have hlm := hb.lm
  refine c_seq ?_
  refine c_reg ?_
  refine s_pu hF (pu_assign rfl) rfl ?_; clear hF; intro a hF
  refine c_nil ?_
  refine n_then ?_
  refine c_seq ?_
  refine c_seq ?_
  refine c_reg ?_
  refine s_pu hF (pu_move rfl) rfl ?_; clear hF; intro a hF
  refine s_pu hF (pu_len_sl tyL34 rfl rfl) rfl ?_; clear hF; intro a hF
  refine s_pu hF (pu_move rfl) rfl ?_; clear hF; intro a hF
  refine s_pu hF (pu_len_sl tyL34 rfl rfl) rfl ?_; clear hF; intro a hF
  refine s_pu hF (pu_ine rfl rfl) rfl ?_; clear hF; intro a hF
  refine c_nil ?_
  refine n_then ?_
  refine c_if hF rfl (fun hc10 => ?_) (fun hc10 => ?_)
  · try simp only [decide_eq_true_eq, decide_eq_false_iff_not, Bool.not_eq_true', Bool.not_eq_false', Bool.not_eq_eq_eq_not, Bool.not_true, Bool.not_false] at hc10
    refine c_seq ?_
    refine c_reg ?_
    refine s_pu hF (pu_assign rfl) rfl ?_; clear hF; intro a hF
    refine c_nil ?_
    refine n_then ?_
    refine c_ret (r_then ?_)
    exact f_ret hF rfl (.tmp rfl (.nil)) (hS.retv (congrArg Value.bool (decide_eq_false (fun e => by rw [e] at hc10; exact hc10 rfl)).symm))
  · try simp only [decide_eq_true_eq, decide_eq_false_iff_not, Bool.not_eq_true', Bool.not_eq_false', Bool.not_eq_eq_eq_not, Bool.not_true, Bool.not_false] at hc10
    refine c_skip ?_
    refine n_then ?_
    refine c_seq ?_
    refine c_seq ?_
    refine c_reg ?_
    refine s_pu hF (pu_assign rfl) rfl ?_; clear hF; intro a hF
    refine c_nil ?_
    refine n_then ?_
    refine c_block ?_
    refine hS.cut fun O0 F0 hO0 hF0 hS => ?_
    refine hF.cut (.cons (k := 5) rfl <| .nil) (.cons (k := 0) rfl <| .cons (k := 1) rfl <| .nil) fun L0 hL0 hF => ?_
    refine c_loop (α := Nat) (fun k a w => k ≤ l.length ∧ (∀ j, j < k → l.getD j v0 = m.getD j v0) ∧ Fr a 26 ([(5, .val (.int .i64 (k : Nat)))] ++ L0) ∧ St w0 h0 [] w O0 F0) (fun k => l.length - k) 0 (⟨Nat.zero_le _, fun j hj => absurd hj (Nat.not_lt_zero j), hF, hS⟩) ?_
    subst hO0 hF0 hL0
    rintro k a w ⟨hk, hn, hF, hS⟩
    refine c_seq ?_
    refine c_seq ?_
    refine c_reg ?_
    refine s_pu hF (pu_move rfl) rfl ?_; clear hF; intro a hF
    refine s_pu hF (pu_move rfl) rfl ?_; clear hF; intro a hF
    refine s_pu hF (pu_len_sl tyL34 rfl rfl) rfl ?_; clear hF; intro a hF
    refine s_pu hF (pu_ilt rfl rfl) rfl ?_; clear hF; intro a hF
    refine c_nil ?_
    refine n_then ?_
    refine c_if hF rfl (fun hc14 => ?_) (fun hc14 => ?_)
    · try simp only [decide_eq_true_eq, decide_eq_false_iff_not, Bool.not_eq_true', Bool.not_eq_false', Bool.not_eq_eq_eq_not, Bool.not_true, Bool.not_false] at hc14
      obtain ⟨g2, oc, ha, HC⟩ := hb.at (i := k) (x := l.getD k v0) (by rw [getD_lt l k v0 (by omega)]; exact List.getElem?_eq_getElem (by omega))
      obtain ⟨g3, oc2, ha2, HC2⟩ := hb2.at (i := k) (x := m.getD k v0) (by rw [getD_lt m k v0 (by omega)]; exact List.getElem?_eq_getElem (by omega))
      refine c_skip ?_
      refine n_then ?_
      refine c_seq ?_
      refine c_block ?_
      refine c_seq ?_
      refine region_st 9 hF hS (allV_ne rfl) mix (by kernel_rfl) fun Γ hG => ?_
      refine t_pu hG (fun w hC => pu_move rfl) ?_; clear hG; intro Γ hG
      refine t_pu hG (fun w hC => pu_move rfl) ?_; clear hG; intro Γ hG
      refine t_pu hG (fun w hC => pu_iaddr_sla (j := k) ha slt34 rfl rfl (by omega) (by omega)) ?_; clear hG; intro Γ hG
      refine t_pu hG (fun w hC => pu_loadA (cs := valC (l.getD k v0)) agg24 rfl (fun j v hj => by rw [add_mk]; exact HC _ hC.st.base j v hj)) ?_; clear hG; intro Γ hG
      refine t_pu hG (fun w hC => pu_move rfl) ?_; clear hG; intro Γ hG
      refine t_pu hG (fun w hC => pu_move rfl) ?_; clear hG; intro Γ hG
      refine t_pu hG (fun w hC => pu_iaddr_sla (j := k) ha2 slt34 rfl rfl (by omega) (by omega)) ?_; clear hG; intro Γ hG
      refine t_pu hG (fun w hC => pu_loadA (cs := valC (m.getD k v0)) agg24 rfl (fun j v hj => by rw [add_mk]; exact HC2 _ hC.st.base j v hj)) ?_; clear hG; intro Γ hG
      refine t_pu hG (fun w hC => pu_ane (a := (l.getD k v0)) (b := (m.getD k v0)) eqV rfl rfl) ?_; clear hG; intro Γ hG
      refine t_end hG ?_; clear hG hF; intro a w hC hE hF hP; replace hS := hC.st; clear hC
      clear hE
      clear hP
      refine c_nil ?_
      refine n_then ?_
      refine c_if hF rfl (fun hc25 => ?_) (fun hc25 => ?_)
      · try simp only [decide_eq_true_eq, decide_eq_false_iff_not, Bool.not_eq_true', Bool.not_eq_false', Bool.not_eq_eq_eq_not, Bool.not_true, Bool.not_false] at hc25
        refine c_seq ?_
        refine c_reg ?_
        refine s_pu hF (pu_assign rfl) rfl ?_; clear hF; intro a hF
        refine c_nil ?_
        refine n_then ?_
        refine c_ret (r_block (r_then (r_then (r_block (r_then ?_)))))
        exact f_ret hF rfl (.tmp rfl (.nil)) (hS.retv (congrArg Value.bool (decide_eq_false (fun e => hc25 (by rw [e]))).symm))
      · try simp only [decide_eq_true_eq, decide_eq_false_iff_not, Bool.not_eq_true', Bool.not_eq_false', Bool.not_eq_eq_eq_not, Bool.not_true, Bool.not_false] at hc25
        refine c_skip ?_
        refine n_block ?_
        refine n_then ?_
        refine c_reg ?_
        refine s_pu hF (pu_move rfl) rfl ?_; clear hF; intro a hF
        refine s_pu hF (pu_add rfl rfl (by first | exact wrap_i64 (by omega) (by omega) | rfl)) rfl ?_; clear hF; intro a hF
        refine s_pu hF (pu_assign rfl) rfl ?_; clear hF; intro a hF
        refine c_nil ?_
        exact ⟨k + 1, ⟨by omega, upto_snoc hn hc25, hF.pick (.cons (k := 5) rfl <| .cons (k := 0) rfl <| .cons (k := 1) rfl <| .nil), hS⟩, by omega⟩
    · try simp only [decide_eq_true_eq, decide_eq_false_iff_not, Bool.not_eq_true', Bool.not_eq_false', Bool.not_eq_eq_eq_not, Bool.not_true, Bool.not_false] at hc14
      refine c_exit (x_then (x_then (x_here ?_)))
      refine n_then ?_
      refine c_seq ?_
      refine c_reg ?_
      refine s_pu hF (pu_assign rfl) rfl ?_; clear hF; intro a hF
      refine c_nil ?_
      refine n_then ?_
      refine c_ret ?_
      exact f_ret hF rfl (.tmp rfl (.nil)) (hS.retv (congrArg Value.bool (decide_eq_true (same_all (by omega) (fun j hj => hn j (by omega)))).symm))
end Go.Proofs.YtklhnhpcgkmijaaDoor
