/- What the functions of the program compute, each with its conditions. -/
import Derived.Test.YtklhnhpcgkmijaaDoorDxY
import Derived.Test.YtklhnhpcgkmijaaDoorRows
set_option linter.unusedSimpArgs false
set_option linter.unusedVariables false
namespace Go.Proofs.YtklhnhpcgkmijaaDoor
open Go Go.Dx Go.RowKit
theorem mix : Tryd.prog.follows .mixedOrders = true := by kernel_rfl
theorem mk5 : MkT Tryd.prog 5 1 1 := MkT.of (by kernel_rfl)
theorem ok28 : CallOk Tryd.prog 28 := CallOk.of (by kernel_rfl)
theorem ok34 : CallOk Tryd.prog 34 := CallOk.of (by kernel_rfl)
theorem ok40 : CallOk Tryd.prog 40 := CallOk.of (by kernel_rfl)
theorem ok42 : CallOk Tryd.prog 42 := CallOk.of (by kernel_rfl)
theorem ok49 : CallOk Tryd.prog 49 := CallOk.of (by kernel_rfl)
theorem ok50 : CallOk Tryd.prog 50 := CallOk.of (by kernel_rfl)
theorem ok51 : CallOk Tryd.prog 51 := CallOk.of (by kernel_rfl)
theorem ok55 : CallOk Tryd.prog 55 := CallOk.of (by kernel_rfl)
theorem ok56 : CallOk Tryd.prog 56 := CallOk.of (by kernel_rfl)
theorem ok57 : CallOk Tryd.prog 57 := CallOk.of (by kernel_rfl)
theorem ok58 : CallOk Tryd.prog 58 := CallOk.of (by kernel_rfl)
theorem tyI3 : Tryd.prog.underlying 3 = some (.int .i64) := by kernel_rfl
theorem tyI5 : Tryd.prog.underlying 5 = some (.int .u8) := by kernel_rfl
theorem tyI75 : Tryd.prog.underlying 75 = some (.int .u64) := by kernel_rfl
theorem tyL66 : Tryd.prog.underlying 66 = some (.slice 5) := by kernel_rfl
theorem tyS9 : Tryd.prog.underlying 9 = some .string := by kernel_rfl
theorem slt_a66_66 : AppT Tryd.prog 66 66 5 1 1 := AppT.of (sz := 0) tyL66 (by kernel_rfl) (by kernel_rfl)
theorem slt_b66 : BldT Tryd.prog 66 5 1 := BldT.of tyL66 (by kernel_rfl)
theorem c_code (n : Int) (hn : I64 n) (w0 : World) (h0 : View) (hv : VLe h0 (Full w0))  : Calls Tryd.prog 49 #[.int .i64 n] w0 (Ret w0 h0 fun u _ => u = .int .u64 (codeN n : Nat)) := by
  refine f_enter (args := [.int .i64 n]) Tryd.func49 rfl Tryd.ntmps49 rfl fun a hF => ?_
  have hS := St.init w0 h0 hv
  refine c_seq ?_
  refine c_reg ?_
  refine s_pu hF (pu_assign rfl) rfl ?_; clear hF; intro a hF
  refine c_nil ?_
  refine n_then ?_
  refine c_seq ?_
  refine c_reg ?_
  refine s_pu hF (pu_move rfl) rfl ?_; clear hF; intro a hF
  refine s_pu hF (pu_conv tyI75 ⟨_, tyI3⟩ rfl (by first | exact wrap_u64 (by omega) (by omega) | rfl)) rfl ?_; clear hF; intro a hF
  refine s_pu hF (pu_shl rfl rfl (by omega) rfl) rfl ?_; clear hF; intro a hF
  refine s_pu hF (pu_move rfl) rfl ?_; clear hF; intro a hF
  refine s_pu hF (pu_shr rfl rfl (by omega) rfl) rfl ?_; clear hF; intro a hF
  refine s_pu hF (pu_conv tyI75 ⟨_, tyI3⟩ rfl (by first | exact wrap_u64 (by omega) (by omega) | rfl)) rfl ?_; clear hF; intro a hF
  refine s_pu hF (pu_xor rfl rfl rfl) rfl ?_; clear hF; intro a hF
  refine s_pu hF (pu_assign rfl) rfl ?_; clear hF; intro a hF
  refine c_nil ?_
  refine n_then ?_
  refine c_ret ?_
  exact f_ret hF rfl (.tmp rfl (.nil)) (hS.retv (congrArg (Value.int .u64) (code_bits hn)))
theorem c_low_u64 (x : Nat) (w0 : World) (h0 : View) (hv : VLe h0 (Full w0))  : Calls Tryd.prog 50 #[.int .u64 (x : Nat)] w0 (Ret w0 h0 fun u _ => u = .int .u8 ((x % 128 : Nat) : Int)) := by
  refine f_enter (args := [.int .u64 (x : Nat)]) Tryd.func50 rfl Tryd.ntmps50 rfl fun a hF => ?_
  have hS := St.init w0 h0 hv
  refine c_seq ?_
  refine c_reg ?_
  refine s_pu hF (pu_assign rfl) rfl ?_; clear hF; intro a hF
  refine c_nil ?_
  refine n_then ?_
  refine c_seq ?_
  refine c_reg ?_
  refine s_pu hF (pu_move rfl) rfl ?_; clear hF; intro a hF
  refine s_pu hF (pu_conv tyI5 ⟨_, tyI75⟩ rfl rfl) rfl ?_; clear hF; intro a hF
  refine s_pu hF (pu_and rfl rfl (low_bits x)) rfl ?_; clear hF; intro a hF
  refine s_pu hF (pu_assign rfl) rfl ?_; clear hF; intro a hF
  refine c_nil ?_
  refine n_then ?_
  refine c_ret ?_
  exact f_ret hF rfl (.tmp rfl (.nil)) (hS.retv rfl)
theorem c_low_i64 (x : Nat) (w0 : World) (h0 : View) (hv : VLe h0 (Full w0))  : Calls Tryd.prog 55 #[.int .i64 (x : Nat)] w0 (Ret w0 h0 fun u _ => u = .int .u8 ((x % 128 : Nat) : Int)) := by
  refine f_enter (args := [.int .i64 (x : Nat)]) Tryd.func55 rfl Tryd.ntmps55 rfl fun a hF => ?_
  have hS := St.init w0 h0 hv
  refine c_seq ?_
  refine c_reg ?_
  refine s_pu hF (pu_assign rfl) rfl ?_; clear hF; intro a hF
  refine c_nil ?_
  refine n_then ?_
  refine c_seq ?_
  refine c_reg ?_
  refine s_pu hF (pu_move rfl) rfl ?_; clear hF; intro a hF
  refine s_pu hF (pu_conv tyI5 ⟨_, tyI3⟩ rfl rfl) rfl ?_; clear hF; intro a hF
  refine s_pu hF (pu_and rfl rfl (low_bits x)) rfl ?_; clear hF; intro a hF
  refine s_pu hF (pu_assign rfl) rfl ?_; clear hF; intro a hF
  refine c_nil ?_
  refine n_then ?_
  refine c_ret ?_
  exact f_ret hF rfl (.tmp rfl (.nil)) (hS.retv rfl)
theorem c_number (c : Nat) (hc : c < 18446744073709551616) (w0 : World) (h0 : View) (hv : VLe h0 (Full w0))  : Calls Tryd.prog 56 #[.int .u64 (c : Nat)] w0 (Ret w0 h0 fun u _ => u = .int .i64 (numN c)) := by
  refine f_enter (args := [.int .u64 (c : Nat)]) Tryd.func56 rfl Tryd.ntmps56 rfl fun a hF => ?_
  have hS := St.init w0 h0 hv
  refine c_seq ?_
  refine c_reg ?_
  refine s_pu hF (pu_assign rfl) rfl ?_; clear hF; intro a hF
  refine c_nil ?_
  refine n_then ?_
  refine c_seq ?_
  refine c_reg ?_
  refine s_pu hF (pu_move rfl) rfl ?_; clear hF; intro a hF
  refine s_pu hF (pu_shr rfl rfl (by omega) rfl) rfl ?_; clear hF; intro a hF
  refine s_pu hF (pu_conv tyI3 ⟨_, tyI75⟩ rfl rfl) rfl ?_; clear hF; intro a hF
  refine s_pu hF (pu_move rfl) rfl ?_; clear hF; intro a hF
  refine s_pu hF (pu_and rfl rfl rfl) rfl ?_; clear hF; intro a hF
  refine s_pu hF (pu_conv tyI3 ⟨_, tyI75⟩ rfl rfl) rfl ?_; clear hF; intro a hF
  refine s_pu hF (pu_neg rfl rfl) rfl ?_; clear hF; intro a hF
  refine s_pu hF (pu_xor rfl rfl rfl) rfl ?_; clear hF; intro a hF
  refine s_pu hF (pu_assign rfl) rfl ?_; clear hF; intro a hF
  refine c_nil ?_
  refine n_then ?_
  refine c_ret ?_
  exact f_ret hF rfl (.tmp rfl (.nil)) (hS.retv (congrArg (Value.int .i64) (num_bits hc)))
theorem c_Num (n : Int) (hn : I64 n) (w0 : World) (h0 : View) (hv : VLe h0 (Full w0))  : Calls Tryd.prog 28 #[.int .i64 n] w0 (Ret w0 h0 fun u _ => u = vs (numS n)) := by
  refine f_enter (args := [.int .i64 n]) Tryd.func28 rfl Tryd.ntmps28 rfl fun a hF => ?_
  have hS := St.init w0 h0 hv
  refine c_seq ?_
  refine c_reg ?_
  refine s_pu hF (pu_assign rfl) rfl ?_; clear hF; intro a hF
  refine c_nil ?_
  refine n_then ?_
  refine c_seq ?_
  refine c_reg ?_
  refine s_pu hF (pu_move rfl) rfl ?_; clear hF; intro a hF
  refine s_callv hF hS ok49 rfl (c_code n hn _ _ hS.view) rfl ?_; clear hS hF; intro w a hS hF
  refine s_pu hF (pu_assign rfl) rfl ?_; clear hF; intro a hF
  refine c_nil ?_
  refine n_then ?_
  refine c_seq ?_
  refine c_reg ?_
  refine s_make0 hF hS tyL66 mk5 rfl rfl (by omega) (by omega) rfl ?_; clear hS hF; intro b0 w a hS hF
  refine s_pu hF (pu_assign rfl) rfl ?_; clear hF; intro a hF
  refine c_nil ?_
  refine n_then ?_
  refine c_seq ?_
  refine c_block ?_
  refine hS.cut fun O0 F0 hO0 hF0 hS => ?_
  subst hO0
  refine hF.cut (.cons (k := 3) rfl <| .cons (k := 4) rfl <| .nil) (.nil) fun L0 hL0 hF => ?_
  refine c_loop (α := Nat) (fun x a w => ∃ a0 nn c b, b ++ vnum x = numS n ∧ x < 18446744073709551616 ∧ Fr a 24 ([(3, .val (.int .u64 (x : Nat))), (4, .val (.slice a0 nn c))] ++ L0) ∧ St w0 h0 [] w [bufE 5 1 (.slice a0 nn c) (b.map v8)] F0) (fun x => x) (codeN n) (⟨_, _, _, [], rfl, codeN_lt hn, hF, hS⟩) ?_
  subst hF0 hL0
  rintro x a w ⟨a0, nn, c, b, hbx, hx, hF, hS⟩
  have hbl : b.length + (vnum x).length ≤ 10 := by rw [← List.length_append, hbx]; exact numS_len hn
  refine c_seq ?_
  refine c_seq ?_
  refine c_reg ?_
  refine s_pu hF (pu_move rfl) rfl ?_; clear hF; intro a hF
  refine s_pu hF (pu_ige rfl rfl) rfl ?_; clear hF; intro a hF
  refine c_nil ?_
  refine n_then ?_
  refine c_if hF rfl (fun hc9 => ?_) (fun hc9 => ?_)
  · try simp only [decide_eq_true_eq, decide_eq_false_iff_not, Bool.not_eq_true', Bool.not_eq_false', Bool.not_eq_eq_eq_not, Bool.not_true, Bool.not_false] at hc9
    refine c_skip ?_
    refine n_then ?_
    refine c_block ?_
    refine c_seq ?_
    refine c_reg ?_
    refine s_pu hF (pu_move rfl) rfl ?_; clear hF; intro a hF
    refine s_pu hF (pu_move rfl) rfl ?_; clear hF; intro a hF
    refine s_callv hF hS ok50 rfl (c_low_u64 x _ _ hS.view) rfl ?_; clear hS hF; intro w a hS hF
    refine s_pu hF (pu_or rfl rfl (or128 _ (by omega))) rfl ?_; clear hF; intro a hF
    refine s_build (xs := [.tmp 13]) hF hS slt_b66 rfl rfl (by simp [Value.cells]) (by decide) rfl ?_; clear hS hF; intro b1 w a hS hF
    refine s_append (i := 1) hF hS rfl slt_a66_66 rfl rfl (Src.own (hS.at (i := 0) rfl) rfl rfl) (by have := vnum_ne x; have : 0 < (vnum x).length := List.length_pos_iff.2 this; simp [cellsL, Value.cells]; omega) rfl ?_; clear hS hF; intro a0 nn c0 w a hnn hS hF
    refine s_pu hF (pu_assign rfl) rfl ?_; clear hF; intro a hF
    refine c_nil ?_
    refine n_then ?_
    refine c_reg ?_
    refine s_pu hF (pu_move rfl) rfl ?_; clear hF; intro a hF
    refine s_pu hF (pu_shr rfl rfl (by omega) (shr7 x)) rfl ?_; clear hF; intro a hF
    refine s_pu hF (pu_assign rfl) rfl ?_; clear hF; intro a hF
    refine c_nil ?_
    refine n_block ?_
    refine ⟨x / 128, ⟨_, _, _, b ++ [UInt8.ofNat (128 + x % 128)], ?_, by omega, hF.pick (.cons (k := 3) rfl <| .cons (k := 4) rfl <| .nil), ?_⟩, by omega⟩
    · rw [List.append_assoc, List.singleton_append, ← vnum_hi (by omega)]; exact hbx
    · rw [List.map_append]; exact hS.forget 0
  · try simp only [decide_eq_true_eq, decide_eq_false_iff_not, Bool.not_eq_true', Bool.not_eq_false', Bool.not_eq_eq_eq_not, Bool.not_true, Bool.not_false] at hc9
    refine c_exit (x_then (x_then (x_here ?_)))
    refine n_then ?_
    refine c_seq ?_
    refine c_reg ?_
    refine s_pu hF (pu_move rfl) rfl ?_; clear hF; intro a hF
    refine s_pu hF (pu_move rfl) rfl ?_; clear hF; intro a hF
    refine s_callv hF hS ok50 rfl (c_low_u64 x _ _ hS.view) rfl ?_; clear hS hF; intro w a hS hF
    rw [show ((x % 128 : Nat) : Int) = ((UInt8.ofNat x).toNat : Int) by rw [byte_lo (by omega)]; omega] at hF
    refine s_build (xs := [.tmp 20]) hF hS slt_b66 rfl rfl (by simp [Value.cells]) (by decide) rfl ?_; clear hS hF; intro b1 w a hS hF
    refine s_append (i := 1) hF hS rfl slt_a66_66 rfl rfl (Src.own (hS.at (i := 0) rfl) rfl rfl) (by have := vnum_ne x; have : 0 < (vnum x).length := List.length_pos_iff.2 this; simp [cellsL, Value.cells]; omega) rfl ?_; clear hS hF; intro a0 nn c0 w a hnn hS hF
    have hnum : b.map v8 ++ cellsL [Value.int .u8 ((UInt8.ofNat x).toNat : Int)] = (numS n).map v8 := by rw [← hbx, vnum_lo (by omega), List.map_append]; rfl
    rw [hnum] at hS
    refine s_pu hF (pu_tostr tyL66 tyI5 tyS9 rfl rfl (buf_str (i := 1) hS rfl)) rfl ?_; clear hF; intro a hF
    refine s_pu hF (pu_assign rfl) rfl ?_; clear hF; intro a hF
    refine c_nil ?_
    refine n_then ?_
    refine c_ret ?_
    exact f_ret hF rfl (.tmp rfl (.nil)) (hS.retv rfl)
theorem c_Rcode (n : Int) (hn : I64 n) (w0 : World) (h0 : View) (hv : VLe h0 (Full w0))  : Calls Tryd.prog 51 #[.int .i64 n] w0 (Ret w0 h0 fun u _ => u = .int .u64 (codeN n : Nat)) := by
  refine f_enter (args := [.int .i64 n]) Tryd.func51 rfl Tryd.ntmps51 rfl fun a hF => ?_
  have hS := St.init w0 h0 hv
  obtain ⟨hn1, hn2⟩ := hn
  refine c_seq ?_
  refine c_reg ?_
  refine s_pu hF (pu_assign rfl) rfl ?_; clear hF; intro a hF
  refine c_nil ?_
  refine n_then ?_
  refine c_seq ?_
  refine c_seq ?_
  refine c_reg ?_
  refine s_pu hF (pu_move rfl) rfl ?_; clear hF; intro a hF
  refine s_pu hF (pu_ilt rfl rfl) rfl ?_; clear hF; intro a hF
  refine c_nil ?_
  refine n_then ?_
  refine c_if hF rfl (fun hc4 => ?_) (fun hc4 => ?_)
  · try simp only [decide_eq_true_eq, decide_eq_false_iff_not, Bool.not_eq_true', Bool.not_eq_false', Bool.not_eq_eq_eq_not, Bool.not_true, Bool.not_false] at hc4
    refine c_seq ?_
    refine c_reg ?_
    refine s_pu hF (pu_move rfl) rfl ?_; clear hF; intro a hF
    refine s_pu hF (pu_sub rfl rfl (by first | exact wrap_i64 (by omega) (by omega) | rfl)) rfl ?_; clear hF; intro a hF
    refine s_pu hF (pu_conv tyI75 ⟨_, tyI3⟩ rfl (by first | exact wrap_u64 (by omega) (by omega) | rfl)) rfl ?_; clear hF; intro a hF
    refine s_pu hF (pu_mul rfl rfl (by first | exact wrap_u64 (by omega) (by omega) | rfl)) rfl ?_; clear hF; intro a hF
    refine s_pu hF (pu_add rfl rfl (by first | exact wrap_u64 (by omega) (by omega) | rfl)) rfl ?_; clear hF; intro a hF
    refine s_pu hF (pu_assign rfl) rfl ?_; clear hF; intro a hF
    refine c_nil ?_
    refine n_then ?_
    refine c_ret (r_then ?_)
    exact f_ret hF rfl (.tmp rfl (.nil)) (hS.retv (congrArg (Value.int .u64) (by rw [codeN, if_pos hc4]; omega)))
  · try simp only [decide_eq_true_eq, decide_eq_false_iff_not, Bool.not_eq_true', Bool.not_eq_false', Bool.not_eq_eq_eq_not, Bool.not_true, Bool.not_false] at hc4
    refine c_skip ?_
    refine n_then ?_
    refine c_seq ?_
    refine c_reg ?_
    refine s_pu hF (pu_move rfl) rfl ?_; clear hF; intro a hF
    refine s_pu hF (pu_conv tyI75 ⟨_, tyI3⟩ rfl (by first | exact wrap_u64 (by omega) (by omega) | rfl)) rfl ?_; clear hF; intro a hF
    refine s_pu hF (pu_mul rfl rfl (by first | exact wrap_u64 (by omega) (by omega) | rfl)) rfl ?_; clear hF; intro a hF
    refine s_pu hF (pu_assign rfl) rfl ?_; clear hF; intro a hF
    refine c_nil ?_
    refine n_then ?_
    refine c_ret ?_
    exact f_ret hF rfl (.tmp rfl (.nil)) (hS.retv (congrArg (Value.int .u64) (by rw [codeN, if_neg (by omega)]; omega)))
theorem c_Rnumber (c : Nat) (hc : c < 18446744073709551616) (w0 : World) (h0 : View) (hv : VLe h0 (Full w0))  : Calls Tryd.prog 58 #[.int .u64 (c : Nat)] w0 (Ret w0 h0 fun u _ => u = .int .i64 (numN c)) := by
  refine f_enter (args := [.int .u64 (c : Nat)]) Tryd.func58 rfl Tryd.ntmps58 rfl fun a hF => ?_
  have hS := St.init w0 h0 hv
  refine c_seq ?_
  refine c_reg ?_
  refine s_pu hF (pu_assign rfl) rfl ?_; clear hF; intro a hF
  refine c_nil ?_
  refine n_then ?_
  refine c_seq ?_
  refine c_seq ?_
  refine c_reg ?_
  refine s_pu hF (pu_move rfl) rfl ?_; clear hF; intro a hF
  refine s_pu hF (pu_rem rfl rfl (by omega) (tmod_nat c 2)) rfl ?_; clear hF; intro a hF
  refine s_pu hF (pu_ieq rfl rfl) rfl ?_; clear hF; intro a hF
  refine c_nil ?_
  refine n_then ?_
  refine c_if hF rfl (fun hc5 => ?_) (fun hc5 => ?_)
  · try simp only [decide_eq_true_eq, decide_eq_false_iff_not, Bool.not_eq_true', Bool.not_eq_false', Bool.not_eq_eq_eq_not, Bool.not_true, Bool.not_false] at hc5
    refine c_seq ?_
    refine c_reg ?_
    refine s_pu hF (pu_move rfl) rfl ?_; clear hF; intro a hF
    refine s_pu hF (pu_quo rfl rfl (by omega) (quo_u64 hc (d := 2) (by omega))) rfl ?_; clear hF; intro a hF
    refine s_pu hF (pu_conv tyI3 ⟨_, tyI75⟩ rfl (by first | exact wrap_i64 (by omega) (by omega) | rfl)) rfl ?_; clear hF; intro a hF
    refine s_pu hF (pu_sub rfl rfl (by first | exact wrap_i64 (by omega) (by omega) | rfl)) rfl ?_; clear hF; intro a hF
    refine s_pu hF (pu_assign rfl) rfl ?_; clear hF; intro a hF
    refine c_nil ?_
    refine n_then ?_
    refine c_ret (r_then ?_)
    exact f_ret hF rfl (.tmp rfl (.nil)) (hS.retv (congrArg (Value.int .i64) (by rw [numN, if_pos (by omega)])))
  · try simp only [decide_eq_true_eq, decide_eq_false_iff_not, Bool.not_eq_true', Bool.not_eq_false', Bool.not_eq_eq_eq_not, Bool.not_true, Bool.not_false] at hc5
    refine c_skip ?_
    refine n_then ?_
    refine c_seq ?_
    refine c_reg ?_
    refine s_pu hF (pu_move rfl) rfl ?_; clear hF; intro a hF
    refine s_pu hF (pu_quo rfl rfl (by omega) (quo_u64 hc (d := 2) (by omega))) rfl ?_; clear hF; intro a hF
    refine s_pu hF (pu_conv tyI3 ⟨_, tyI75⟩ rfl (by first | exact wrap_i64 (by omega) (by omega) | rfl)) rfl ?_; clear hF; intro a hF
    refine s_pu hF (pu_assign rfl) rfl ?_; clear hF; intro a hF
    refine c_nil ?_
    refine n_then ?_
    refine c_ret ?_
    exact f_ret hF rfl (.tmp rfl (.nil)) (hS.retv (congrArg (Value.int .i64) (by rw [numN, if_neg (by omega)])))
theorem c_RNum (n : Int) (hn : I64 n) (w0 : World) (h0 : View) (hv : VLe h0 (Full w0))  : Calls Tryd.prog 34 #[.int .i64 n] w0 (Ret w0 h0 fun u _ => u = vs (numS n)) := by
  refine f_enter (args := [.int .i64 n]) Tryd.func34 rfl Tryd.ntmps34 rfl fun a hF => ?_
  have hS := St.init w0 h0 hv
  refine c_seq ?_
  refine c_reg ?_
  refine s_pu hF (pu_assign rfl) rfl ?_; clear hF; intro a hF
  refine c_nil ?_
  refine n_then ?_
  refine c_seq ?_
  refine c_reg ?_
  refine s_pu hF (pu_move rfl) rfl ?_; clear hF; intro a hF
  refine s_callv hF hS ok51 rfl (c_Rcode n hn _ _ hS.view) rfl ?_; clear hS hF; intro w a hS hF
  refine s_pu hF (pu_assign rfl) rfl ?_; clear hF; intro a hF
  refine c_nil ?_
  refine n_then ?_
  refine c_seq ?_
  refine c_reg ?_
  refine s_pu hF (pu_assign rfl) rfl ?_; clear hF; intro a hF
  replace hS := hS.newNil 5 1
  refine c_nil ?_
  refine n_then ?_
  refine c_seq ?_
  refine c_block ?_
  refine hS.cut fun O0 F0 hO0 hF0 hS => ?_
  subst hO0
  refine hF.cut (.cons (k := 3) rfl <| .cons (k := 4) rfl <| .nil) (.nil) fun L0 hL0 hF => ?_
  refine c_loop (α := Nat) (fun x a w => ∃ a0 nn c b, b ++ vnum x = numS n ∧ x < 18446744073709551616 ∧ Fr a 24 ([(3, .val (.int .u64 (x : Nat))), (4, .val (.slice a0 nn c))] ++ L0) ∧ St w0 h0 [] w [bufE 5 1 (.slice a0 nn c) (b.map v8)] F0) (fun x => x) (codeN n) (⟨_, _, _, [], rfl, codeN_lt hn, hF, hS⟩) ?_
  subst hF0 hL0
  rintro x a w ⟨a0, nn, c, b, hbx, hx, hF, hS⟩
  have hbl : b.length + (vnum x).length ≤ 10 := by rw [← List.length_append, hbx]; exact numS_len hn
  refine c_seq ?_
  refine c_seq ?_
  refine c_reg ?_
  refine s_pu hF (pu_move rfl) rfl ?_; clear hF; intro a hF
  refine s_pu hF (pu_ige rfl rfl) rfl ?_; clear hF; intro a hF
  refine c_nil ?_
  refine n_then ?_
  refine c_if hF rfl (fun hc8 => ?_) (fun hc8 => ?_)
  · try simp only [decide_eq_true_eq, decide_eq_false_iff_not, Bool.not_eq_true', Bool.not_eq_false', Bool.not_eq_eq_eq_not, Bool.not_true, Bool.not_false] at hc8
    refine c_skip ?_
    refine n_then ?_
    refine c_block ?_
    refine c_seq ?_
    refine c_reg ?_
    refine s_pu hF (pu_move rfl) rfl ?_; clear hF; intro a hF
    refine s_pu hF (pu_move rfl) rfl ?_; clear hF; intro a hF
    refine s_pu hF (pu_rem rfl rfl (by omega) (tmod_nat x 128)) rfl ?_; clear hF; intro a hF
    refine s_pu hF (pu_add rfl rfl (by first | exact wrap_u64 (by omega) (by omega) | rfl)) rfl ?_; clear hF; intro a hF
    refine s_pu hF (pu_conv tyI5 ⟨_, tyI75⟩ rfl (r := ((UInt8.ofNat (128 + x % 128)).toNat : Int)) (by rw [byte_lo (by omega), wrap_u8 (by omega) (by omega)]; omega)) rfl ?_; clear hF; intro a hF
    refine s_build (xs := [.tmp 13]) hF hS slt_b66 rfl rfl (by simp [Value.cells]) (by decide) rfl ?_; clear hS hF; intro b1 w a hS hF
    refine s_append (i := 1) hF hS rfl slt_a66_66 rfl rfl (Src.own (hS.at (i := 0) rfl) rfl rfl) (by have := vnum_ne x; have : 0 < (vnum x).length := List.length_pos_iff.2 this; simp [cellsL, Value.cells]; omega) rfl ?_; clear hS hF; intro a0 nn c0 w a hnn hS hF
    refine s_pu hF (pu_assign rfl) rfl ?_; clear hF; intro a hF
    refine c_nil ?_
    refine n_then ?_
    refine c_reg ?_
    refine s_pu hF (pu_move rfl) rfl ?_; clear hF; intro a hF
    refine s_pu hF (pu_quo rfl rfl (by omega) (quo_u64 hx (d := 128) (by omega))) rfl ?_; clear hF; intro a hF
    refine s_pu hF (pu_assign rfl) rfl ?_; clear hF; intro a hF
    refine c_nil ?_
    refine n_block ?_
    refine ⟨x / 128, ⟨_, _, _, b ++ [UInt8.ofNat (128 + x % 128)], ?_, by omega, hF.pick (.cons (k := 3) rfl <| .cons (k := 4) rfl <| .nil), ?_⟩, by omega⟩
    · rw [List.append_assoc, List.singleton_append, ← vnum_hi (by omega)]; exact hbx
    · rw [List.map_append]; exact hS.forget 0
  · try simp only [decide_eq_true_eq, decide_eq_false_iff_not, Bool.not_eq_true', Bool.not_eq_false', Bool.not_eq_eq_eq_not, Bool.not_true, Bool.not_false] at hc8
    refine c_exit (x_then (x_then (x_here ?_)))
    refine n_then ?_
    refine c_seq ?_
    refine c_reg ?_
    refine s_pu hF (pu_move rfl) rfl ?_; clear hF; intro a hF
    refine s_pu hF (pu_move rfl) rfl ?_; clear hF; intro a hF
    refine s_pu hF (pu_conv tyI5 ⟨_, tyI75⟩ rfl (r := ((UInt8.ofNat x).toNat : Int)) (by rw [byte_lo (by omega), wrap_u8 (by omega) (by omega)])) rfl ?_; clear hF; intro a hF
    refine s_build (xs := [.tmp 20]) hF hS slt_b66 rfl rfl (by simp [Value.cells]) (by decide) rfl ?_; clear hS hF; intro b1 w a hS hF
    refine s_append (i := 1) hF hS rfl slt_a66_66 rfl rfl (Src.own (hS.at (i := 0) rfl) rfl rfl) (by have := vnum_ne x; have : 0 < (vnum x).length := List.length_pos_iff.2 this; simp [cellsL, Value.cells]; omega) rfl ?_; clear hS hF; intro a0 nn c0 w a hnn hS hF
    have hnum : b.map v8 ++ cellsL [Value.int .u8 ((UInt8.ofNat x).toNat : Int)] = (numS n).map v8 := by rw [← hbx, vnum_lo (by omega), List.map_append]; rfl
    rw [hnum] at hS
    refine s_pu hF (pu_tostr tyL66 tyI5 tyS9 rfl rfl (buf_str (i := 1) hS rfl)) rfl ?_; clear hF; intro a hF
    refine s_pu hF (pu_assign rfl) rfl ?_; clear hF; intro a hF
    refine c_nil ?_
    refine n_then ?_
    refine c_ret ?_
    exact f_ret hF rfl (.tmp rfl (.nil)) (hS.retv rfl)
set_option maxHeartbeats 1000000 in
theorem c_TakeNum (s : List UInt8) (w0 : World) (h0 : View) (hv : VLe h0 (Full w0))  : Calls Tryd.prog 40 #[vs s] w0 (Ret w0 h0 fun u _ => u = tkV (takeN s)) := by
  refine f_enter (args := [vs s]) Tryd.func40 rfl Tryd.ntmps40 rfl fun a hF => ?_
  have hS := St.init w0 h0 hv
  refine c_seq ?_
  refine c_reg ?_
  refine s_pu hF (pu_assign rfl) rfl ?_; clear hF; intro a hF
  refine s_pu hF (pu_assign rfl) rfl ?_; clear hF; intro a hF
  refine s_pu hF (pu_assign rfl) rfl ?_; clear hF; intro a hF
  refine c_nil ?_
  refine n_then ?_
  refine c_seq ?_
  refine c_reg ?_
  refine s_pu hF (pu_assign rfl) rfl ?_; clear hF; intro a hF
  refine c_nil ?_
  refine n_then ?_
  refine c_seq ?_
  refine c_seq ?_
  refine c_reg ?_
  refine s_pu hF (pu_move rfl) rfl ?_; clear hF; intro a hF
  refine s_pu hF (pu_len_s tyS9 rfl rfl) rfl ?_; clear hF; intro a hF
  refine s_pu hF (pu_min (r := ((min s.length 10 : Nat) : Int)) rfl rfl (by split <;> omega)) rfl ?_; clear hF; intro a hF
  refine s_pu hF (pu_move rfl) rfl ?_; clear hF; intro a hF
  refine c_nil ?_
  refine n_then ?_
  refine c_block ?_
  refine hS.cut fun O0 F0 hO0 hF0 hS => ?_
  refine hF.cut (.cons (k := 5) rfl <| .cons (k := 11) rfl <| .nil) (.cons (k := 0) rfl <| .cons (k := 10) rfl <| .nil) fun L0 hL0 hF => ?_
  refine c_loop (α := Nat) (fun k a w => ∃ c, k ≤ 9 ∧ k ≤ s.length ∧ c < 128 ^ k ∧ takeG k c (s.drop k) = takeN s ∧ Fr a 49 ([(5, .val (.int .u64 (c : Nat))), (11, .val (.int .i64 k))] ++ L0) ∧ St w0 h0 [] w O0 F0) (fun k => 10 - k) 0 (⟨0, by omega, by omega, by simp, rfl, hF, hS⟩) ?_
  subst hO0 hF0 hL0
  rintro k a w ⟨c, hk9, hk, hck, htk, hF, hS⟩
  have hp9 := pow_le9 hk9
  refine c_seq ?_
  refine c_reg ?_
  refine s_pu hF (pu_ilt rfl rfl) rfl ?_; clear hF; intro a hF
  refine c_nil ?_
  refine n_then ?_
  refine c_seq ?_
  refine c_if hF rfl (fun hc12 => ?_) (fun hc12 => ?_)
  · try simp only [decide_eq_true_eq, decide_eq_false_iff_not, Bool.not_eq_true', Bool.not_eq_false', Bool.not_eq_eq_eq_not, Bool.not_true, Bool.not_false] at hc12
    have hbl := (s.getD k 0).toNat_lt
    refine c_skip ?_
    refine n_then ?_
    refine c_seq ?_
    refine c_block ?_
    refine c_seq ?_
    refine c_reg ?_
    refine s_pu hF (pu_move rfl) rfl ?_; clear hF; intro a hF
    refine s_pu hF (pu_assign rfl) rfl ?_; clear hF; intro a hF
    refine c_nil ?_
    refine n_then ?_
    refine c_seq ?_
    refine c_reg ?_
    refine s_pu hF (pu_move rfl) rfl ?_; clear hF; intro a hF
    refine s_pu hF (pu_move rfl) rfl ?_; clear hF; intro a hF
    refine s_pu hF (pu_idxn tyS9 rfl rfl rfl (by omega)) rfl ?_; clear hF; intro a hF
    refine s_pu hF (pu_assign rfl) rfl ?_; clear hF; intro a hF
    refine c_nil ?_
    refine n_then ?_
    refine c_seq ?_
    refine c_seq ?_
    refine c_reg ?_
    refine s_pu hF (pu_move rfl) rfl ?_; clear hF; intro a hF
    refine s_pu hF (pu_igt rfl rfl) rfl ?_; clear hF; intro a hF
    refine s_pu hF (pu_move rfl) rfl ?_; clear hF; intro a hF
    refine w_split hF ⟨_, _, (rfl : _[2]? = some _), rfl, rfl⟩ (fun hg6_2 => ?_) (fun hg6_2 => ?_)
    · have hg6_2p := hg6_2
      try simp only [decide_eq_true_eq, decide_eq_false_iff_not, Bool.not_eq_true', Bool.not_eq_false', Bool.not_eq_eq_eq_not, Bool.not_true, Bool.not_false] at hg6_2p
      refine g_pu hF ⟨_, _, (rfl : _[2]? = some _), rfl, rfl⟩ hg6_2 (pu_move rfl) rfl ?_; clear hF; intro a hF
      refine g_pu hF ⟨_, _, (rfl : _[2]? = some _), rfl, rfl⟩ hg6_2 (pu_ieq rfl rfl) rfl ?_; clear hF; intro a hF
      refine s_pu hF (pu_pick_t rfl hg6_2 rfl) rfl ?_; clear hF; intro a hF
      refine s_pu hF (pu_move rfl) rfl ?_; clear hF; intro a hF
      refine w_split hF ⟨_, _, (rfl : _[6]? = some _), rfl, rfl⟩ (fun hg6_6 => ?_) (fun hg6_6 => ?_)
      · have hg6_6p := hg6_6
        try simp only [decide_eq_true_eq, decide_eq_false_iff_not, Bool.not_eq_true', Bool.not_eq_false', Bool.not_eq_eq_eq_not, Bool.not_true, Bool.not_false] at hg6_6p
        refine g_no hF ⟨_, _, (rfl : _[6]? = some _), rfl, rfl⟩ hg6_6 rfl ?_; clear hF; intro a hF
        refine g_no hF ⟨_, _, (rfl : _[6]? = some _), rfl, rfl⟩ hg6_6 rfl ?_; clear hF; intro a hF
        refine g_no hF ⟨_, _, (rfl : _[6]? = some _), rfl, rfl⟩ hg6_6 rfl ?_; clear hF; intro a hF
        refine g_noU hF ⟨_, _, (rfl : _[9]? = some _), rfl, rfl⟩ rfl ?_; clear hF; intro a hF
        refine g_noU hF ⟨_, _, (rfl : _[9]? = some _), rfl, rfl⟩ rfl ?_; clear hF; intro a hF
        refine g_no hF ⟨_, _, (rfl : _[6]? = some _), rfl, rfl⟩ hg6_6 rfl ?_; clear hF; intro a hF
        refine s_pu hF (pu_pick_t rfl hg6_6 rfl) rfl ?_; clear hF; intro a hF
        refine c_nil ?_
        refine n_then ?_
        refine c_ift hF rfl rfl ?_
        refine c_seq ?_
        refine c_reg ?_
        refine s_pu hF (pu_assign rfl) rfl ?_; clear hF; intro a hF
        refine s_pu hF (pu_assign rfl) rfl ?_; clear hF; intro a hF
        refine s_pu hF (pu_assign rfl) rfl ?_; clear hF; intro a hF
        refine c_nil ?_
        refine n_then ?_
        refine c_ret (r_then (r_block (r_then (r_then (r_block (r_then ?_))))))
        exact f_ret hF rfl (.tmp rfl (.tmp rfl (.tmp rfl (.nil)))) (hS.retv (by rw [← htk, tg_form (by omega) (by omega)]; rfl))
      · have hg6_6p := hg6_6
        try simp only [decide_eq_true_eq, decide_eq_false_iff_not, Bool.not_eq_true', Bool.not_eq_false', Bool.not_eq_eq_eq_not, Bool.not_true, Bool.not_false] at hg6_6p
        refine g_pu hF ⟨_, _, (rfl : _[6]? = some _), rfl, rfl⟩ hg6_6 (pu_move rfl) rfl ?_; clear hF; intro a hF
        refine g_pu hF ⟨_, _, (rfl : _[6]? = some _), rfl, rfl⟩ hg6_6 (pu_ieq rfl rfl) rfl ?_; clear hF; intro a hF
        refine g_pu hF ⟨_, _, (rfl : _[6]? = some _), rfl, rfl⟩ hg6_6 (pu_move rfl) rfl ?_; clear hF; intro a hF
        refine w_split hF ⟨_, _, (rfl : _[9]? = some _), rfl, rfl⟩ (fun hg6_9 => ?_) (fun hg6_9 => ?_)
        · have hg6_9p := hg6_9
          try simp only [decide_eq_true_eq, decide_eq_false_iff_not, Bool.not_eq_true', Bool.not_eq_false', Bool.not_eq_eq_eq_not, Bool.not_true, Bool.not_false] at hg6_9p
          refine g_pu hF ⟨_, _, (rfl : _[9]? = some _), rfl, rfl⟩ hg6_9 (pu_move rfl) rfl ?_; clear hF; intro a hF
          refine g_pu hF ⟨_, _, (rfl : _[9]? = some _), rfl, rfl⟩ hg6_9 (pu_igt rfl rfl) rfl ?_; clear hF; intro a hF
          refine g_pu hF ⟨_, _, (rfl : _[6]? = some _), rfl, rfl⟩ hg6_6 (pu_pick_t rfl hg6_9 rfl) rfl ?_; clear hF; intro a hF
          refine s_pu hF (pu_pick_f rfl hg6_6 rfl) rfl ?_; clear hF; intro a hF
          refine c_nil ?_
          refine n_then ?_
          refine c_if hF rfl (fun hc30 => ?_) (fun hc30 => ?_)
          · try simp only [decide_eq_true_eq, decide_eq_false_iff_not, Bool.not_eq_true', Bool.not_eq_false', Bool.not_eq_eq_eq_not, Bool.not_true, Bool.not_false] at hc30
            refine c_seq ?_
            refine c_reg ?_
            refine s_pu hF (pu_assign rfl) rfl ?_; clear hF; intro a hF
            refine s_pu hF (pu_assign rfl) rfl ?_; clear hF; intro a hF
            refine s_pu hF (pu_assign rfl) rfl ?_; clear hF; intro a hF
            refine c_nil ?_
            refine n_then ?_
            refine c_ret (r_then (r_block (r_then (r_then (r_block (r_then ?_))))))
            exact f_ret hF rfl (.tmp rfl (.tmp rfl (.tmp rfl (.nil)))) (hS.retv (by rw [← htk, tg_form (by omega) (by omega)]; rfl))
          · try simp only [decide_eq_true_eq, decide_eq_false_iff_not, Bool.not_eq_true', Bool.not_eq_false', Bool.not_eq_eq_eq_not, Bool.not_true, Bool.not_false] at hc30
            refine c_skip ?_
            refine n_then ?_
            refine c_seq ?_
            refine c_reg ?_
            have hfit := take_fit (b := (s.getD k 0)) hk9 hck (by omega)
            refine s_pu hF (pu_move rfl) rfl ?_; clear hF; intro a hF
            refine s_pu hF (pu_move rfl) rfl ?_; clear hF; intro a hF
            refine s_pu hF (pi_of8 tyI3 ⟨_, tyI5⟩ rfl) rfl ?_; clear hF; intro a hF
            refine s_callv hF hS ok55 rfl (c_low_i64 (s.getD k 0).toNat _ _ hS.view) rfl ?_; clear hS hF; intro w a hS hF
            refine s_pu hF (pu_conv tyI75 ⟨_, tyI5⟩ rfl (by first | exact wrap_u64 (by omega) (by omega) | rfl)) rfl ?_; clear hF; intro a hF
            refine s_pu hF (pu_move rfl) rfl ?_; clear hF; intro a hF
            refine s_pu hF (pu_mul (r := ((7 * k : Nat) : Int)) rfl rfl (by rw [wrap_i64 (by omega) (by omega)]; omega)) rfl ?_; clear hF; intro a hF
            refine s_pu hF (pu_shl rfl rfl (by omega) rfl) rfl ?_; clear hF; intro a hF
            refine s_pu hF (pu_or rfl rfl (shl_or hck (by omega) (by omega) hfit)) rfl ?_; clear hF; intro a hF
            refine s_pu hF (pu_assign rfl) rfl ?_; clear hF; intro a hF
            refine c_nil ?_
            refine n_then ?_
            refine c_seq ?_
            refine c_reg ?_
            refine s_pu hF (pu_move rfl) rfl ?_; clear hF; intro a hF
            refine s_pu hF (pu_ilt rfl rfl) rfl ?_; clear hF; intro a hF
            refine c_nil ?_
            refine n_then ?_
            refine c_if hF rfl (fun hc41 => ?_) (fun hc41 => ?_)
            · try simp only [decide_eq_true_eq, decide_eq_false_iff_not, Bool.not_eq_true', Bool.not_eq_false', Bool.not_eq_eq_eq_not, Bool.not_true, Bool.not_false] at hc41
              refine c_seq ?_
              refine region_st 9 hF hS (allV_ne rfl) mix (by kernel_rfl) fun Γ hG => ?_
              refine t_pu hG (fun w hC => pu_move rfl) ?_; clear hG; intro Γ hG
              refine t_callv hG ok56 rfl (fun w hS => (c_number _ hfit _ _ hS.view)) ?_; clear hG; intro Γ hG
              refine t_pu hG (fun w hC => pu_move rfl) ?_; clear hG; intro Γ hG
              refine t_pu hG (fun w hC => pu_move rfl) ?_; clear hG; intro Γ hG
              refine t_pu hG (fun w hC => pu_add rfl rfl (by first | exact wrap_i64 (by omega) (by omega) | rfl)) ?_; clear hG; intro Γ hG
              refine t_pu hG (fun w hC => pu_from tyS9 rfl rfl (by omega) (by omega)) ?_; clear hG; intro Γ hG
              refine t_pu hG (fun w hC => pu_assign rfl) ?_; clear hG; intro Γ hG
              refine t_pu hG (fun w hC => pu_assign rfl) ?_; clear hG; intro Γ hG
              refine t_pu hG (fun w hC => pu_assign rfl) ?_; clear hG; intro Γ hG
              refine t_end hG ?_; clear hG hF; intro a w hC hE hF hP; replace hS := hC.st; clear hC
              clear hE
              clear hP
              refine c_nil ?_
              refine n_then ?_
              refine c_ret (r_block (r_then (r_then (r_block (r_then ?_)))))
              exact f_ret hF rfl (.tmp rfl (.tmp rfl (.tmp rfl (.nil)))) (hS.retv (by rw [← htk, tg_done (by omega) (by omega) (by omega)]; rfl))
            · try simp only [decide_eq_true_eq, decide_eq_false_iff_not, Bool.not_eq_true', Bool.not_eq_false', Bool.not_eq_eq_eq_not, Bool.not_true, Bool.not_false] at hc41
              refine c_skip ?_
              refine n_block ?_
              refine n_then ?_
              refine c_reg ?_
              refine s_pu hF (pu_add rfl rfl (by first | exact wrap_i64 (by omega) (by omega) | rfl)) rfl ?_; clear hF; intro a hF
              refine s_pu hF (pu_move rfl) rfl ?_; clear hF; intro a hF
              refine c_nil ?_
              refine ⟨k + 1, ⟨c + (s.getD k 0).toNat % 128 * 128 ^ k, by omega, by omega, take_fit2 hck, ?_, hF.pick (.cons (k := 5) rfl <| .cons (k := 11) rfl <| .cons (k := 0) rfl <| .cons (k := 10) rfl <| .nil), hS⟩, by omega⟩
              rw [← tg_more (by omega) (by omega) (by omega)]; exact htk
        · have hg6_9p := hg6_9
          try simp only [decide_eq_true_eq, decide_eq_false_iff_not, Bool.not_eq_true', Bool.not_eq_false', Bool.not_eq_eq_eq_not, Bool.not_true, Bool.not_false] at hg6_9p
          refine g_no hF ⟨_, _, (rfl : _[9]? = some _), rfl, rfl⟩ hg6_9 rfl ?_; clear hF; intro a hF
          refine g_no hF ⟨_, _, (rfl : _[9]? = some _), rfl, rfl⟩ hg6_9 rfl ?_; clear hF; intro a hF
          refine g_pu hF ⟨_, _, (rfl : _[6]? = some _), rfl, rfl⟩ hg6_6 (pu_pick_f rfl hg6_9 rfl) rfl ?_; clear hF; intro a hF
          refine s_pu hF (pu_pick_f rfl hg6_6 rfl) rfl ?_; clear hF; intro a hF
          refine c_nil ?_
          refine n_then ?_
          refine c_iff hF rfl rfl ?_
          refine c_skip ?_
          refine n_then ?_
          refine c_seq ?_
          refine c_reg ?_
          have hfit := take_fit (b := (s.getD k 0)) hk9 hck (by omega)
          refine s_pu hF (pu_move rfl) rfl ?_; clear hF; intro a hF
          refine s_pu hF (pu_move rfl) rfl ?_; clear hF; intro a hF
          refine s_pu hF (pi_of8 tyI3 ⟨_, tyI5⟩ rfl) rfl ?_; clear hF; intro a hF
          refine s_callv hF hS ok55 rfl (c_low_i64 (s.getD k 0).toNat _ _ hS.view) rfl ?_; clear hS hF; intro w a hS hF
          refine s_pu hF (pu_conv tyI75 ⟨_, tyI5⟩ rfl (by first | exact wrap_u64 (by omega) (by omega) | rfl)) rfl ?_; clear hF; intro a hF
          refine s_pu hF (pu_move rfl) rfl ?_; clear hF; intro a hF
          refine s_pu hF (pu_mul (r := ((7 * k : Nat) : Int)) rfl rfl (by rw [wrap_i64 (by omega) (by omega)]; omega)) rfl ?_; clear hF; intro a hF
          refine s_pu hF (pu_shl rfl rfl (by omega) rfl) rfl ?_; clear hF; intro a hF
          refine s_pu hF (pu_or rfl rfl (shl_or hck (by omega) (by omega) hfit)) rfl ?_; clear hF; intro a hF
          refine s_pu hF (pu_assign rfl) rfl ?_; clear hF; intro a hF
          refine c_nil ?_
          refine n_then ?_
          refine c_seq ?_
          refine c_reg ?_
          refine s_pu hF (pu_move rfl) rfl ?_; clear hF; intro a hF
          refine s_pu hF (pu_ilt rfl rfl) rfl ?_; clear hF; intro a hF
          refine c_nil ?_
          refine n_then ?_
          refine c_if hF rfl (fun hc41 => ?_) (fun hc41 => ?_)
          · try simp only [decide_eq_true_eq, decide_eq_false_iff_not, Bool.not_eq_true', Bool.not_eq_false', Bool.not_eq_eq_eq_not, Bool.not_true, Bool.not_false] at hc41
            refine c_seq ?_
            refine region_st 9 hF hS (allV_ne rfl) mix (by kernel_rfl) fun Γ hG => ?_
            refine t_pu hG (fun w hC => pu_move rfl) ?_; clear hG; intro Γ hG
            refine t_callv hG ok56 rfl (fun w hS => (c_number _ hfit _ _ hS.view)) ?_; clear hG; intro Γ hG
            refine t_pu hG (fun w hC => pu_move rfl) ?_; clear hG; intro Γ hG
            refine t_pu hG (fun w hC => pu_move rfl) ?_; clear hG; intro Γ hG
            refine t_pu hG (fun w hC => pu_add rfl rfl (by first | exact wrap_i64 (by omega) (by omega) | rfl)) ?_; clear hG; intro Γ hG
            refine t_pu hG (fun w hC => pu_from tyS9 rfl rfl (by omega) (by omega)) ?_; clear hG; intro Γ hG
            refine t_pu hG (fun w hC => pu_assign rfl) ?_; clear hG; intro Γ hG
            refine t_pu hG (fun w hC => pu_assign rfl) ?_; clear hG; intro Γ hG
            refine t_pu hG (fun w hC => pu_assign rfl) ?_; clear hG; intro Γ hG
            refine t_end hG ?_; clear hG hF; intro a w hC hE hF hP; replace hS := hC.st; clear hC
            clear hE
            clear hP
            refine c_nil ?_
            refine n_then ?_
            refine c_ret (r_block (r_then (r_then (r_block (r_then ?_)))))
            exact f_ret hF rfl (.tmp rfl (.tmp rfl (.tmp rfl (.nil)))) (hS.retv (by rw [← htk, tg_done (by omega) (by omega) (by omega)]; rfl))
          · try simp only [decide_eq_true_eq, decide_eq_false_iff_not, Bool.not_eq_true', Bool.not_eq_false', Bool.not_eq_eq_eq_not, Bool.not_true, Bool.not_false] at hc41
            refine c_skip ?_
            refine n_block ?_
            refine n_then ?_
            refine c_reg ?_
            refine s_pu hF (pu_add rfl rfl (by first | exact wrap_i64 (by omega) (by omega) | rfl)) rfl ?_; clear hF; intro a hF
            refine s_pu hF (pu_move rfl) rfl ?_; clear hF; intro a hF
            refine c_nil ?_
            refine ⟨k + 1, ⟨c + (s.getD k 0).toNat % 128 * 128 ^ k, by omega, by omega, take_fit2 hck, ?_, hF.pick (.cons (k := 5) rfl <| .cons (k := 11) rfl <| .cons (k := 0) rfl <| .cons (k := 10) rfl <| .nil), hS⟩, by omega⟩
            rw [← tg_more (by omega) (by omega) (by omega)]; exact htk
    · have hg6_2p := hg6_2
      try simp only [decide_eq_true_eq, decide_eq_false_iff_not, Bool.not_eq_true', Bool.not_eq_false', Bool.not_eq_eq_eq_not, Bool.not_true, Bool.not_false] at hg6_2p
      refine g_no hF ⟨_, _, (rfl : _[2]? = some _), rfl, rfl⟩ hg6_2 rfl ?_; clear hF; intro a hF
      refine g_no hF ⟨_, _, (rfl : _[2]? = some _), rfl, rfl⟩ hg6_2 rfl ?_; clear hF; intro a hF
      refine s_pu hF (pu_pick_f rfl hg6_2 rfl) rfl ?_; clear hF; intro a hF
      refine s_pu hF (pu_move rfl) rfl ?_; clear hF; intro a hF
      refine g_pu hF ⟨_, _, (rfl : _[6]? = some _), rfl, rfl⟩ rfl (pu_move rfl) rfl ?_; clear hF; intro a hF
      refine g_pu hF ⟨_, _, (rfl : _[6]? = some _), rfl, rfl⟩ rfl (pu_ieq rfl rfl) rfl ?_; clear hF; intro a hF
      refine g_pu hF ⟨_, _, (rfl : _[6]? = some _), rfl, rfl⟩ rfl (pu_move rfl) rfl ?_; clear hF; intro a hF
      refine w_split hF ⟨_, _, (rfl : _[9]? = some _), rfl, rfl⟩ (fun hg6_9 => ?_) (fun hg6_9 => ?_)
      · have hg6_9p := hg6_9
        try simp only [decide_eq_true_eq, decide_eq_false_iff_not, Bool.not_eq_true', Bool.not_eq_false', Bool.not_eq_eq_eq_not, Bool.not_true, Bool.not_false] at hg6_9p
        refine g_pu hF ⟨_, _, (rfl : _[9]? = some _), rfl, rfl⟩ hg6_9 (pu_move rfl) rfl ?_; clear hF; intro a hF
        refine g_pu hF ⟨_, _, (rfl : _[9]? = some _), rfl, rfl⟩ hg6_9 (pu_igt rfl rfl) rfl ?_; clear hF; intro a hF
        refine g_pu hF ⟨_, _, (rfl : _[6]? = some _), rfl, rfl⟩ rfl (pu_pick_t rfl hg6_9 rfl) rfl ?_; clear hF; intro a hF
        refine s_pu hF (pu_pick_f rfl rfl rfl) rfl ?_; clear hF; intro a hF
        refine c_nil ?_
        refine n_then ?_
        refine c_if hF rfl (fun hc30 => ?_) (fun hc30 => ?_)
        · try simp only [decide_eq_true_eq, decide_eq_false_iff_not, Bool.not_eq_true', Bool.not_eq_false', Bool.not_eq_eq_eq_not, Bool.not_true, Bool.not_false] at hc30
          refine c_seq ?_
          refine c_reg ?_
          refine s_pu hF (pu_assign rfl) rfl ?_; clear hF; intro a hF
          refine s_pu hF (pu_assign rfl) rfl ?_; clear hF; intro a hF
          refine s_pu hF (pu_assign rfl) rfl ?_; clear hF; intro a hF
          refine c_nil ?_
          refine n_then ?_
          refine c_ret (r_then (r_block (r_then (r_then (r_block (r_then ?_))))))
          exact f_ret hF rfl (.tmp rfl (.tmp rfl (.tmp rfl (.nil)))) (hS.retv (by rw [← htk, tg_form (by omega) (by omega)]; rfl))
        · try simp only [decide_eq_true_eq, decide_eq_false_iff_not, Bool.not_eq_true', Bool.not_eq_false', Bool.not_eq_eq_eq_not, Bool.not_true, Bool.not_false] at hc30
          refine c_skip ?_
          refine n_then ?_
          refine c_seq ?_
          refine c_reg ?_
          have hfit := take_fit (b := (s.getD k 0)) hk9 hck (by omega)
          refine s_pu hF (pu_move rfl) rfl ?_; clear hF; intro a hF
          refine s_pu hF (pu_move rfl) rfl ?_; clear hF; intro a hF
          refine s_pu hF (pi_of8 tyI3 ⟨_, tyI5⟩ rfl) rfl ?_; clear hF; intro a hF
          refine s_callv hF hS ok55 rfl (c_low_i64 (s.getD k 0).toNat _ _ hS.view) rfl ?_; clear hS hF; intro w a hS hF
          refine s_pu hF (pu_conv tyI75 ⟨_, tyI5⟩ rfl (by first | exact wrap_u64 (by omega) (by omega) | rfl)) rfl ?_; clear hF; intro a hF
          refine s_pu hF (pu_move rfl) rfl ?_; clear hF; intro a hF
          refine s_pu hF (pu_mul (r := ((7 * k : Nat) : Int)) rfl rfl (by rw [wrap_i64 (by omega) (by omega)]; omega)) rfl ?_; clear hF; intro a hF
          refine s_pu hF (pu_shl rfl rfl (by omega) rfl) rfl ?_; clear hF; intro a hF
          refine s_pu hF (pu_or rfl rfl (shl_or hck (by omega) (by omega) hfit)) rfl ?_; clear hF; intro a hF
          refine s_pu hF (pu_assign rfl) rfl ?_; clear hF; intro a hF
          refine c_nil ?_
          refine n_then ?_
          refine c_seq ?_
          refine c_reg ?_
          refine s_pu hF (pu_move rfl) rfl ?_; clear hF; intro a hF
          refine s_pu hF (pu_ilt rfl rfl) rfl ?_; clear hF; intro a hF
          refine c_nil ?_
          refine n_then ?_
          refine c_if hF rfl (fun hc41 => ?_) (fun hc41 => ?_)
          · try simp only [decide_eq_true_eq, decide_eq_false_iff_not, Bool.not_eq_true', Bool.not_eq_false', Bool.not_eq_eq_eq_not, Bool.not_true, Bool.not_false] at hc41
            refine c_seq ?_
            refine region_st 9 hF hS (allV_ne rfl) mix (by kernel_rfl) fun Γ hG => ?_
            refine t_pu hG (fun w hC => pu_move rfl) ?_; clear hG; intro Γ hG
            refine t_callv hG ok56 rfl (fun w hS => (c_number _ hfit _ _ hS.view)) ?_; clear hG; intro Γ hG
            refine t_pu hG (fun w hC => pu_move rfl) ?_; clear hG; intro Γ hG
            refine t_pu hG (fun w hC => pu_move rfl) ?_; clear hG; intro Γ hG
            refine t_pu hG (fun w hC => pu_add rfl rfl (by first | exact wrap_i64 (by omega) (by omega) | rfl)) ?_; clear hG; intro Γ hG
            refine t_pu hG (fun w hC => pu_from tyS9 rfl rfl (by omega) (by omega)) ?_; clear hG; intro Γ hG
            refine t_pu hG (fun w hC => pu_assign rfl) ?_; clear hG; intro Γ hG
            refine t_pu hG (fun w hC => pu_assign rfl) ?_; clear hG; intro Γ hG
            refine t_pu hG (fun w hC => pu_assign rfl) ?_; clear hG; intro Γ hG
            refine t_end hG ?_; clear hG hF; intro a w hC hE hF hP; replace hS := hC.st; clear hC
            clear hE
            clear hP
            refine c_nil ?_
            refine n_then ?_
            refine c_ret (r_block (r_then (r_then (r_block (r_then ?_)))))
            exact f_ret hF rfl (.tmp rfl (.tmp rfl (.tmp rfl (.nil)))) (hS.retv (by rw [← htk, tg_done (by omega) (by omega) (by omega)]; rfl))
          · try simp only [decide_eq_true_eq, decide_eq_false_iff_not, Bool.not_eq_true', Bool.not_eq_false', Bool.not_eq_eq_eq_not, Bool.not_true, Bool.not_false] at hc41
            refine c_skip ?_
            refine n_block ?_
            refine n_then ?_
            refine c_reg ?_
            refine s_pu hF (pu_add rfl rfl (by first | exact wrap_i64 (by omega) (by omega) | rfl)) rfl ?_; clear hF; intro a hF
            refine s_pu hF (pu_move rfl) rfl ?_; clear hF; intro a hF
            refine c_nil ?_
            refine ⟨k + 1, ⟨c + (s.getD k 0).toNat % 128 * 128 ^ k, by omega, by omega, take_fit2 hck, ?_, hF.pick (.cons (k := 5) rfl <| .cons (k := 11) rfl <| .cons (k := 0) rfl <| .cons (k := 10) rfl <| .nil), hS⟩, by omega⟩
            rw [← tg_more (by omega) (by omega) (by omega)]; exact htk
      · have hg6_9p := hg6_9
        try simp only [decide_eq_true_eq, decide_eq_false_iff_not, Bool.not_eq_true', Bool.not_eq_false', Bool.not_eq_eq_eq_not, Bool.not_true, Bool.not_false] at hg6_9p
        refine g_no hF ⟨_, _, (rfl : _[9]? = some _), rfl, rfl⟩ hg6_9 rfl ?_; clear hF; intro a hF
        refine g_no hF ⟨_, _, (rfl : _[9]? = some _), rfl, rfl⟩ hg6_9 rfl ?_; clear hF; intro a hF
        refine g_pu hF ⟨_, _, (rfl : _[6]? = some _), rfl, rfl⟩ rfl (pu_pick_f rfl hg6_9 rfl) rfl ?_; clear hF; intro a hF
        refine s_pu hF (pu_pick_f rfl rfl rfl) rfl ?_; clear hF; intro a hF
        refine c_nil ?_
        refine n_then ?_
        refine c_iff hF rfl rfl ?_
        refine c_skip ?_
        refine n_then ?_
        refine c_seq ?_
        refine c_reg ?_
        have hfit := take_fit (b := (s.getD k 0)) hk9 hck (by omega)
        refine s_pu hF (pu_move rfl) rfl ?_; clear hF; intro a hF
        refine s_pu hF (pu_move rfl) rfl ?_; clear hF; intro a hF
        refine s_pu hF (pi_of8 tyI3 ⟨_, tyI5⟩ rfl) rfl ?_; clear hF; intro a hF
        refine s_callv hF hS ok55 rfl (c_low_i64 (s.getD k 0).toNat _ _ hS.view) rfl ?_; clear hS hF; intro w a hS hF
        refine s_pu hF (pu_conv tyI75 ⟨_, tyI5⟩ rfl (by first | exact wrap_u64 (by omega) (by omega) | rfl)) rfl ?_; clear hF; intro a hF
        refine s_pu hF (pu_move rfl) rfl ?_; clear hF; intro a hF
        refine s_pu hF (pu_mul (r := ((7 * k : Nat) : Int)) rfl rfl (by rw [wrap_i64 (by omega) (by omega)]; omega)) rfl ?_; clear hF; intro a hF
        refine s_pu hF (pu_shl rfl rfl (by omega) rfl) rfl ?_; clear hF; intro a hF
        refine s_pu hF (pu_or rfl rfl (shl_or hck (by omega) (by omega) hfit)) rfl ?_; clear hF; intro a hF
        refine s_pu hF (pu_assign rfl) rfl ?_; clear hF; intro a hF
        refine c_nil ?_
        refine n_then ?_
        refine c_seq ?_
        refine c_reg ?_
        refine s_pu hF (pu_move rfl) rfl ?_; clear hF; intro a hF
        refine s_pu hF (pu_ilt rfl rfl) rfl ?_; clear hF; intro a hF
        refine c_nil ?_
        refine n_then ?_
        refine c_if hF rfl (fun hc41 => ?_) (fun hc41 => ?_)
        · try simp only [decide_eq_true_eq, decide_eq_false_iff_not, Bool.not_eq_true', Bool.not_eq_false', Bool.not_eq_eq_eq_not, Bool.not_true, Bool.not_false] at hc41
          refine c_seq ?_
          refine region_st 9 hF hS (allV_ne rfl) mix (by kernel_rfl) fun Γ hG => ?_
          refine t_pu hG (fun w hC => pu_move rfl) ?_; clear hG; intro Γ hG
          refine t_callv hG ok56 rfl (fun w hS => (c_number _ hfit _ _ hS.view)) ?_; clear hG; intro Γ hG
          refine t_pu hG (fun w hC => pu_move rfl) ?_; clear hG; intro Γ hG
          refine t_pu hG (fun w hC => pu_move rfl) ?_; clear hG; intro Γ hG
          refine t_pu hG (fun w hC => pu_add rfl rfl (by first | exact wrap_i64 (by omega) (by omega) | rfl)) ?_; clear hG; intro Γ hG
          refine t_pu hG (fun w hC => pu_from tyS9 rfl rfl (by omega) (by omega)) ?_; clear hG; intro Γ hG
          refine t_pu hG (fun w hC => pu_assign rfl) ?_; clear hG; intro Γ hG
          refine t_pu hG (fun w hC => pu_assign rfl) ?_; clear hG; intro Γ hG
          refine t_pu hG (fun w hC => pu_assign rfl) ?_; clear hG; intro Γ hG
          refine t_end hG ?_; clear hG hF; intro a w hC hE hF hP; replace hS := hC.st; clear hC
          clear hE
          clear hP
          refine c_nil ?_
          refine n_then ?_
          refine c_ret (r_block (r_then (r_then (r_block (r_then ?_)))))
          exact f_ret hF rfl (.tmp rfl (.tmp rfl (.tmp rfl (.nil)))) (hS.retv (by rw [← htk, tg_done (by omega) (by omega) (by omega)]; rfl))
        · try simp only [decide_eq_true_eq, decide_eq_false_iff_not, Bool.not_eq_true', Bool.not_eq_false', Bool.not_eq_eq_eq_not, Bool.not_true, Bool.not_false] at hc41
          refine c_skip ?_
          refine n_block ?_
          refine n_then ?_
          refine c_reg ?_
          refine s_pu hF (pu_add rfl rfl (by first | exact wrap_i64 (by omega) (by omega) | rfl)) rfl ?_; clear hF; intro a hF
          refine s_pu hF (pu_move rfl) rfl ?_; clear hF; intro a hF
          refine c_nil ?_
          refine ⟨k + 1, ⟨c + (s.getD k 0).toNat % 128 * 128 ^ k, by omega, by omega, take_fit2 hck, ?_, hF.pick (.cons (k := 5) rfl <| .cons (k := 11) rfl <| .cons (k := 0) rfl <| .cons (k := 10) rfl <| .nil), hS⟩, by omega⟩
          rw [← tg_more (by omega) (by omega) (by omega)]; exact htk
  · try simp only [decide_eq_true_eq, decide_eq_false_iff_not, Bool.not_eq_true', Bool.not_eq_false', Bool.not_eq_eq_eq_not, Bool.not_true, Bool.not_false] at hc12
    refine c_exit (x_then (x_then (x_here ?_)))
    refine n_then ?_
    refine c_seq ?_
    refine c_reg ?_
    refine s_pu hF (pu_assign rfl) rfl ?_; clear hF; intro a hF
    refine s_pu hF (pu_assign rfl) rfl ?_; clear hF; intro a hF
    refine s_pu hF (pu_assign rfl) rfl ?_; clear hF; intro a hF
    refine c_nil ?_
    refine n_then ?_
    refine c_ret ?_
    exact f_ret hF rfl (.tmp rfl (.tmp rfl (.tmp rfl (.nil)))) (hS.retv (by rw [← htk, tg_end (by omega)]; rfl))
set_option maxHeartbeats 1000000 in
theorem c_RTakeNum (s : List UInt8) (hs : s.length ≤ 9223372036854775807) (w0 : World) (h0 : View) (hv : VLe h0 (Full w0))  : Calls Tryd.prog 42 #[vs s] w0 (Ret w0 h0 fun u _ => u = tkV (takeN s)) := by
  refine f_enter (args := [vs s]) Tryd.func42 rfl Tryd.ntmps42 rfl fun a hF => ?_
  have hS := St.init w0 h0 hv
  refine c_seq ?_
  refine c_reg ?_
  refine s_pu hF (pu_assign rfl) rfl ?_; clear hF; intro a hF
  refine s_pu hF (pu_assign rfl) rfl ?_; clear hF; intro a hF
  refine s_pu hF (pu_assign rfl) rfl ?_; clear hF; intro a hF
  refine c_nil ?_
  refine n_then ?_
  refine c_seq ?_
  refine c_reg ?_
  refine s_pu hF (pu_assign rfl) rfl ?_; clear hF; intro a hF
  refine s_pu hF (pu_assign rfl) rfl ?_; clear hF; intro a hF
  refine c_nil ?_
  refine n_then ?_
  refine c_seq ?_
  refine c_seq ?_
  refine c_reg ?_
  refine s_pu hF (pu_assign rfl) rfl ?_; clear hF; intro a hF
  refine c_nil ?_
  refine n_then ?_
  refine c_block ?_
  refine hS.cut fun O0 F0 hO0 hF0 hS => ?_
  refine hF.cut (.cons (k := 5) rfl <| .cons (k := 6) rfl <| .cons (k := 7) rfl <| .nil) (.cons (k := 0) rfl <| .nil) fun L0 hL0 hF => ?_
  refine c_loop (α := Nat) (fun k a w => ∃ c, k ≤ 9 ∧ k ≤ s.length ∧ c < 128 ^ k ∧ takeG k c (s.drop k) = takeN s ∧ Fr a 55 ([(5, .val (.int .u64 (c : Nat))), (6, .val (.int .u64 ((128 ^ k : Nat) : Int))), (7, .val (.int .i64 k))] ++ L0) ∧ St w0 h0 [] w O0 F0) (fun k => 10 - k) 0 (⟨0, by omega, by omega, by simp, rfl, hF, hS⟩) ?_
  subst hO0 hF0 hL0
  rintro k a w ⟨c, hk9, hk, hck, htk, hF, hS⟩
  have hp9 := pow_le9 hk9
  refine c_seq ?_
  refine c_seq ?_
  refine c_reg ?_
  refine s_pu hF (pu_move rfl) rfl ?_; clear hF; intro a hF
  refine s_pu hF (pu_move rfl) rfl ?_; clear hF; intro a hF
  refine s_pu hF (pu_len_s tyS9 rfl rfl) rfl ?_; clear hF; intro a hF
  refine s_pu hF (pu_ilt rfl rfl) rfl ?_; clear hF; intro a hF
  refine c_nil ?_
  refine n_then ?_
  refine c_if hF rfl (fun hc12 => ?_) (fun hc12 => ?_)
  · try simp only [decide_eq_true_eq, decide_eq_false_iff_not, Bool.not_eq_true', Bool.not_eq_false', Bool.not_eq_eq_eq_not, Bool.not_true, Bool.not_false] at hc12
    have hbl := (s.getD k 0).toNat_lt
    refine c_skip ?_
    refine n_then ?_
    refine c_seq ?_
    refine c_block ?_
    refine c_seq ?_
    refine c_reg ?_
    refine s_pu hF (pu_move rfl) rfl ?_; clear hF; intro a hF
    refine s_pu hF (pu_move rfl) rfl ?_; clear hF; intro a hF
    refine s_pu hF (pu_idxn tyS9 rfl rfl rfl (by omega)) rfl ?_; clear hF; intro a hF
    refine s_pu hF (p8_rem (m := 128) rfl rfl (by omega)) rfl ?_; clear hF; intro a hF
    refine s_pu hF (pu_conv tyI75 ⟨_, tyI5⟩ rfl (by first | exact wrap_u64 (by omega) (by omega) | rfl)) rfl ?_; clear hF; intro a hF
    refine s_pu hF (pu_assign rfl) rfl ?_; clear hF; intro a hF
    refine c_nil ?_
    refine n_then ?_
    refine c_seq ?_
    refine c_seq ?_
    refine c_reg ?_
    refine s_pu hF (pu_move rfl) rfl ?_; clear hF; intro a hF
    refine s_pu hF (pu_ieq rfl rfl) rfl ?_; clear hF; intro a hF
    refine s_pu hF (pu_move rfl) rfl ?_; clear hF; intro a hF
    refine w_split hF ⟨_, _, (rfl : _[2]? = some _), rfl, rfl⟩ (fun hg6_2 => ?_) (fun hg6_2 => ?_)
    · have hg6_2p := hg6_2
      try simp only [decide_eq_true_eq, decide_eq_false_iff_not, Bool.not_eq_true', Bool.not_eq_false', Bool.not_eq_eq_eq_not, Bool.not_true, Bool.not_false] at hg6_2p
      refine g_pu hF ⟨_, _, (rfl : _[2]? = some _), rfl, rfl⟩ hg6_2 (pu_move rfl) rfl ?_; clear hF; intro a hF
      refine g_pu hF ⟨_, _, (rfl : _[2]? = some _), rfl, rfl⟩ hg6_2 (pu_move rfl) rfl ?_; clear hF; intro a hF
      refine g_pu hF ⟨_, _, (rfl : _[2]? = some _), rfl, rfl⟩ hg6_2 (pu_idxn tyS9 rfl rfl rfl (by omega)) rfl ?_; clear hF; intro a hF
      refine g_pu hF ⟨_, _, (rfl : _[2]? = some _), rfl, rfl⟩ hg6_2 (pu_igt rfl rfl) rfl ?_; clear hF; intro a hF
      refine s_pu hF (pu_pick_t rfl hg6_2 rfl) rfl ?_; clear hF; intro a hF
      refine s_pu hF (pu_move rfl) rfl ?_; clear hF; intro a hF
      refine w_split hF ⟨_, _, (rfl : _[8]? = some _), rfl, rfl⟩ (fun hg6_8 => ?_) (fun hg6_8 => ?_)
      · have hg6_8p := hg6_8
        try simp only [decide_eq_true_eq, decide_eq_false_iff_not, Bool.not_eq_true', Bool.not_eq_false', Bool.not_eq_eq_eq_not, Bool.not_true, Bool.not_false] at hg6_8p
        refine g_no hF ⟨_, _, (rfl : _[8]? = some _), rfl, rfl⟩ hg6_8 rfl ?_; clear hF; intro a hF
        refine g_no hF ⟨_, _, (rfl : _[8]? = some _), rfl, rfl⟩ hg6_8 rfl ?_; clear hF; intro a hF
        refine g_no hF ⟨_, _, (rfl : _[8]? = some _), rfl, rfl⟩ hg6_8 rfl ?_; clear hF; intro a hF
        refine g_noU hF ⟨_, _, (rfl : _[11]? = some _), rfl, rfl⟩ rfl ?_; clear hF; intro a hF
        refine g_noU hF ⟨_, _, (rfl : _[11]? = some _), rfl, rfl⟩ rfl ?_; clear hF; intro a hF
        refine g_noU hF ⟨_, _, (rfl : _[11]? = some _), rfl, rfl⟩ rfl ?_; clear hF; intro a hF
        refine g_noU hF ⟨_, _, (rfl : _[11]? = some _), rfl, rfl⟩ rfl ?_; clear hF; intro a hF
        refine g_no hF ⟨_, _, (rfl : _[8]? = some _), rfl, rfl⟩ hg6_8 rfl ?_; clear hF; intro a hF
        refine s_pu hF (pu_pick_t rfl hg6_8 rfl) rfl ?_; clear hF; intro a hF
        refine c_nil ?_
        refine n_then ?_
        refine c_ift hF rfl rfl ?_
        refine c_seq ?_
        refine c_reg ?_
        refine s_pu hF (pu_assign rfl) rfl ?_; clear hF; intro a hF
        refine s_pu hF (pu_assign rfl) rfl ?_; clear hF; intro a hF
        refine s_pu hF (pu_assign rfl) rfl ?_; clear hF; intro a hF
        refine c_nil ?_
        refine n_then ?_
        refine c_ret (r_then (r_block (r_then (r_then (r_block (r_then ?_))))))
        exact f_ret hF rfl (.tmp rfl (.tmp rfl (.tmp rfl (.nil)))) (hS.retv (by rw [← htk, tg_form (by omega) (by omega)]; rfl))
      · have hg6_8p := hg6_8
        try simp only [decide_eq_true_eq, decide_eq_false_iff_not, Bool.not_eq_true', Bool.not_eq_false', Bool.not_eq_eq_eq_not, Bool.not_true, Bool.not_false] at hg6_8p
        refine g_pu hF ⟨_, _, (rfl : _[8]? = some _), rfl, rfl⟩ hg6_8 (pu_move rfl) rfl ?_; clear hF; intro a hF
        refine g_pu hF ⟨_, _, (rfl : _[8]? = some _), rfl, rfl⟩ hg6_8 (pu_igt rfl rfl) rfl ?_; clear hF; intro a hF
        refine g_pu hF ⟨_, _, (rfl : _[8]? = some _), rfl, rfl⟩ hg6_8 (pu_move rfl) rfl ?_; clear hF; intro a hF
        refine w_split hF ⟨_, _, (rfl : _[11]? = some _), rfl, rfl⟩ (fun hg6_11 => ?_) (fun hg6_11 => ?_)
        · have hg6_11p := hg6_11
          try simp only [decide_eq_true_eq, decide_eq_false_iff_not, Bool.not_eq_true', Bool.not_eq_false', Bool.not_eq_eq_eq_not, Bool.not_true, Bool.not_false] at hg6_11p
          refine g_pu hF ⟨_, _, (rfl : _[11]? = some _), rfl, rfl⟩ hg6_11 (pu_move rfl) rfl ?_; clear hF; intro a hF
          refine g_pu hF ⟨_, _, (rfl : _[11]? = some _), rfl, rfl⟩ hg6_11 (pu_move rfl) rfl ?_; clear hF; intro a hF
          refine g_pu hF ⟨_, _, (rfl : _[11]? = some _), rfl, rfl⟩ hg6_11 (pu_idxn tyS9 rfl rfl rfl (by omega)) rfl ?_; clear hF; intro a hF
          refine g_pu hF ⟨_, _, (rfl : _[11]? = some _), rfl, rfl⟩ hg6_11 (pu_ieq rfl rfl) rfl ?_; clear hF; intro a hF
          refine g_pu hF ⟨_, _, (rfl : _[8]? = some _), rfl, rfl⟩ hg6_8 (pu_pick_t rfl hg6_11 rfl) rfl ?_; clear hF; intro a hF
          refine s_pu hF (pu_pick_f rfl hg6_8 rfl) rfl ?_; clear hF; intro a hF
          refine c_nil ?_
          refine n_then ?_
          refine c_if hF rfl (fun hc37 => ?_) (fun hc37 => ?_)
          · try simp only [decide_eq_true_eq, decide_eq_false_iff_not, Bool.not_eq_true', Bool.not_eq_false', Bool.not_eq_eq_eq_not, Bool.not_true, Bool.not_false] at hc37
            refine c_seq ?_
            refine c_reg ?_
            refine s_pu hF (pu_assign rfl) rfl ?_; clear hF; intro a hF
            refine s_pu hF (pu_assign rfl) rfl ?_; clear hF; intro a hF
            refine s_pu hF (pu_assign rfl) rfl ?_; clear hF; intro a hF
            refine c_nil ?_
            refine n_then ?_
            refine c_ret (r_then (r_block (r_then (r_then (r_block (r_then ?_))))))
            exact f_ret hF rfl (.tmp rfl (.tmp rfl (.tmp rfl (.nil)))) (hS.retv (by rw [← htk, tg_form (by omega) (by omega)]; rfl))
          · try simp only [decide_eq_true_eq, decide_eq_false_iff_not, Bool.not_eq_true', Bool.not_eq_false', Bool.not_eq_eq_eq_not, Bool.not_true, Bool.not_false] at hc37
            refine c_skip ?_
            refine n_then ?_
            refine c_seq ?_
            refine c_reg ?_
            have hfit := take_fit (b := (s.getD k 0)) hk9 hck (by omega)
            refine s_pu hF (pu_move rfl) rfl ?_; clear hF; intro a hF
            refine s_pu hF (pu_move rfl) rfl ?_; clear hF; intro a hF
            refine s_pu hF (pu_move rfl) rfl ?_; clear hF; intro a hF
            refine s_pu hF (pu_mul (r := ((((s.getD k 0).toNat % 128 * 128 ^ k : Nat)) : Int)) rfl rfl (by rw [← Int.natCast_mul, wrap_u64 (by omega) (by omega)])) rfl ?_; clear hF; intro a hF
            refine s_pu hF (pu_add (r := ((c + (s.getD k 0).toNat % 128 * 128 ^ k : Nat) : Int)) rfl rfl (by rw [← Int.natCast_add, wrap_u64 (by omega) (by omega)])) rfl ?_; clear hF; intro a hF
            refine s_pu hF (pu_assign rfl) rfl ?_; clear hF; intro a hF
            refine c_nil ?_
            refine n_then ?_
            refine c_seq ?_
            refine c_reg ?_
            refine s_pu hF (pu_move rfl) rfl ?_; clear hF; intro a hF
            refine s_pu hF (pu_mul rfl rfl rfl) rfl ?_; clear hF; intro a hF
            refine s_pu hF (pu_assign rfl) rfl ?_; clear hF; intro a hF
            refine c_nil ?_
            refine n_then ?_
            refine c_seq ?_
            refine c_reg ?_
            refine s_pu hF (pu_move rfl) rfl ?_; clear hF; intro a hF
            refine s_pu hF (pu_move rfl) rfl ?_; clear hF; intro a hF
            refine s_pu hF (pu_idxn tyS9 rfl rfl rfl (by omega)) rfl ?_; clear hF; intro a hF
            refine s_pu hF (pu_ilt rfl rfl) rfl ?_; clear hF; intro a hF
            refine c_nil ?_
            refine n_then ?_
            refine c_if hF rfl (fun hc48 => ?_) (fun hc48 => ?_)
            · try simp only [decide_eq_true_eq, decide_eq_false_iff_not, Bool.not_eq_true', Bool.not_eq_false', Bool.not_eq_eq_eq_not, Bool.not_true, Bool.not_false] at hc48
              refine c_seq ?_
              refine region_st 9 hF hS (allV_ne rfl) mix (by kernel_rfl) fun Γ hG => ?_
              refine t_pu hG (fun w hC => pu_move rfl) ?_; clear hG; intro Γ hG
              refine t_callv hG ok58 rfl (fun w hS => (c_Rnumber _ hfit _ _ hS.view)) ?_; clear hG; intro Γ hG
              refine t_pu hG (fun w hC => pu_move rfl) ?_; clear hG; intro Γ hG
              refine t_pu hG (fun w hC => pu_move rfl) ?_; clear hG; intro Γ hG
              refine t_pu hG (fun w hC => pu_add rfl rfl (by first | exact wrap_i64 (by omega) (by omega) | rfl)) ?_; clear hG; intro Γ hG
              refine t_pu hG (fun w hC => pu_from tyS9 rfl rfl (by omega) (by omega)) ?_; clear hG; intro Γ hG
              refine t_pu hG (fun w hC => pu_assign rfl) ?_; clear hG; intro Γ hG
              refine t_pu hG (fun w hC => pu_assign rfl) ?_; clear hG; intro Γ hG
              refine t_pu hG (fun w hC => pu_assign rfl) ?_; clear hG; intro Γ hG
              refine t_end hG ?_; clear hG hF; intro a w hC hE hF hP; replace hS := hC.st; clear hC
              clear hE
              clear hP
              refine c_nil ?_
              refine n_then ?_
              refine c_ret (r_block (r_then (r_then (r_block (r_then ?_)))))
              exact f_ret hF rfl (.tmp rfl (.tmp rfl (.tmp rfl (.nil)))) (hS.retv (by rw [← htk, tg_done (by omega) (by omega) (by omega)]; rfl))
            · try simp only [decide_eq_true_eq, decide_eq_false_iff_not, Bool.not_eq_true', Bool.not_eq_false', Bool.not_eq_eq_eq_not, Bool.not_true, Bool.not_false] at hc48
              refine c_skip ?_
              refine n_block ?_
              refine n_then ?_
              refine c_reg ?_
              refine s_pu hF (pu_move rfl) rfl ?_; clear hF; intro a hF
              refine s_pu hF (pu_add rfl rfl (by first | exact wrap_i64 (by omega) (by omega) | rfl)) rfl ?_; clear hF; intro a hF
              refine s_pu hF (pu_assign rfl) rfl ?_; clear hF; intro a hF
              refine c_nil ?_
              have hp8 := pow_le8 (k := k) (by omega)
              have ep : IntKind.u64.wrap (((128 ^ k : Nat) : Int) * 128) = ((128 ^ (k + 1) : Nat) : Int) := by rw [Nat.pow_succ] at hp8 ⊢; rw [wrap_u64 (by omega) (by omega)]; omega
              rw [ep] at hF
              refine ⟨k + 1, ⟨c + (s.getD k 0).toNat % 128 * 128 ^ k, by omega, by omega, take_fit2 hck, ?_, hF.pick (.cons (k := 5) rfl <| .cons (k := 6) rfl <| .cons (k := 7) rfl <| .cons (k := 0) rfl <| .nil), hS⟩, by omega⟩
              rw [← tg_more (by omega) (by omega) (by omega)]; exact htk
        · have hg6_11p := hg6_11
          try simp only [decide_eq_true_eq, decide_eq_false_iff_not, Bool.not_eq_true', Bool.not_eq_false', Bool.not_eq_eq_eq_not, Bool.not_true, Bool.not_false] at hg6_11p
          refine g_no hF ⟨_, _, (rfl : _[11]? = some _), rfl, rfl⟩ hg6_11 rfl ?_; clear hF; intro a hF
          refine g_no hF ⟨_, _, (rfl : _[11]? = some _), rfl, rfl⟩ hg6_11 rfl ?_; clear hF; intro a hF
          refine g_no hF ⟨_, _, (rfl : _[11]? = some _), rfl, rfl⟩ hg6_11 rfl ?_; clear hF; intro a hF
          refine g_no hF ⟨_, _, (rfl : _[11]? = some _), rfl, rfl⟩ hg6_11 rfl ?_; clear hF; intro a hF
          refine g_pu hF ⟨_, _, (rfl : _[8]? = some _), rfl, rfl⟩ hg6_8 (pu_pick_f rfl hg6_11 rfl) rfl ?_; clear hF; intro a hF
          refine s_pu hF (pu_pick_f rfl hg6_8 rfl) rfl ?_; clear hF; intro a hF
          refine c_nil ?_
          refine n_then ?_
          refine c_iff hF rfl rfl ?_
          refine c_skip ?_
          refine n_then ?_
          refine c_seq ?_
          refine c_reg ?_
          have hfit := take_fit (b := (s.getD k 0)) hk9 hck (by omega)
          refine s_pu hF (pu_move rfl) rfl ?_; clear hF; intro a hF
          refine s_pu hF (pu_move rfl) rfl ?_; clear hF; intro a hF
          refine s_pu hF (pu_move rfl) rfl ?_; clear hF; intro a hF
          refine s_pu hF (pu_mul (r := ((((s.getD k 0).toNat % 128 * 128 ^ k : Nat)) : Int)) rfl rfl (by rw [← Int.natCast_mul, wrap_u64 (by omega) (by omega)])) rfl ?_; clear hF; intro a hF
          refine s_pu hF (pu_add (r := ((c + (s.getD k 0).toNat % 128 * 128 ^ k : Nat) : Int)) rfl rfl (by rw [← Int.natCast_add, wrap_u64 (by omega) (by omega)])) rfl ?_; clear hF; intro a hF
          refine s_pu hF (pu_assign rfl) rfl ?_; clear hF; intro a hF
          refine c_nil ?_
          refine n_then ?_
          refine c_seq ?_
          refine c_reg ?_
          refine s_pu hF (pu_move rfl) rfl ?_; clear hF; intro a hF
          refine s_pu hF (pu_mul rfl rfl rfl) rfl ?_; clear hF; intro a hF
          refine s_pu hF (pu_assign rfl) rfl ?_; clear hF; intro a hF
          refine c_nil ?_
          refine n_then ?_
          refine c_seq ?_
          refine c_reg ?_
          refine s_pu hF (pu_move rfl) rfl ?_; clear hF; intro a hF
          refine s_pu hF (pu_move rfl) rfl ?_; clear hF; intro a hF
          refine s_pu hF (pu_idxn tyS9 rfl rfl rfl (by omega)) rfl ?_; clear hF; intro a hF
          refine s_pu hF (pu_ilt rfl rfl) rfl ?_; clear hF; intro a hF
          refine c_nil ?_
          refine n_then ?_
          refine c_if hF rfl (fun hc48 => ?_) (fun hc48 => ?_)
          · try simp only [decide_eq_true_eq, decide_eq_false_iff_not, Bool.not_eq_true', Bool.not_eq_false', Bool.not_eq_eq_eq_not, Bool.not_true, Bool.not_false] at hc48
            refine c_seq ?_
            refine region_st 9 hF hS (allV_ne rfl) mix (by kernel_rfl) fun Γ hG => ?_
            refine t_pu hG (fun w hC => pu_move rfl) ?_; clear hG; intro Γ hG
            refine t_callv hG ok58 rfl (fun w hS => (c_Rnumber _ hfit _ _ hS.view)) ?_; clear hG; intro Γ hG
            refine t_pu hG (fun w hC => pu_move rfl) ?_; clear hG; intro Γ hG
            refine t_pu hG (fun w hC => pu_move rfl) ?_; clear hG; intro Γ hG
            refine t_pu hG (fun w hC => pu_add rfl rfl (by first | exact wrap_i64 (by omega) (by omega) | rfl)) ?_; clear hG; intro Γ hG
            refine t_pu hG (fun w hC => pu_from tyS9 rfl rfl (by omega) (by omega)) ?_; clear hG; intro Γ hG
            refine t_pu hG (fun w hC => pu_assign rfl) ?_; clear hG; intro Γ hG
            refine t_pu hG (fun w hC => pu_assign rfl) ?_; clear hG; intro Γ hG
            refine t_pu hG (fun w hC => pu_assign rfl) ?_; clear hG; intro Γ hG
            refine t_end hG ?_; clear hG hF; intro a w hC hE hF hP; replace hS := hC.st; clear hC
            clear hE
            clear hP
            refine c_nil ?_
            refine n_then ?_
            refine c_ret (r_block (r_then (r_then (r_block (r_then ?_)))))
            exact f_ret hF rfl (.tmp rfl (.tmp rfl (.tmp rfl (.nil)))) (hS.retv (by rw [← htk, tg_done (by omega) (by omega) (by omega)]; rfl))
          · try simp only [decide_eq_true_eq, decide_eq_false_iff_not, Bool.not_eq_true', Bool.not_eq_false', Bool.not_eq_eq_eq_not, Bool.not_true, Bool.not_false] at hc48
            refine c_skip ?_
            refine n_block ?_
            refine n_then ?_
            refine c_reg ?_
            refine s_pu hF (pu_move rfl) rfl ?_; clear hF; intro a hF
            refine s_pu hF (pu_add rfl rfl (by first | exact wrap_i64 (by omega) (by omega) | rfl)) rfl ?_; clear hF; intro a hF
            refine s_pu hF (pu_assign rfl) rfl ?_; clear hF; intro a hF
            refine c_nil ?_
            have hp8 := pow_le8 (k := k) (by omega)
            have ep : IntKind.u64.wrap (((128 ^ k : Nat) : Int) * 128) = ((128 ^ (k + 1) : Nat) : Int) := by rw [Nat.pow_succ] at hp8 ⊢; rw [wrap_u64 (by omega) (by omega)]; omega
            rw [ep] at hF
            refine ⟨k + 1, ⟨c + (s.getD k 0).toNat % 128 * 128 ^ k, by omega, by omega, take_fit2 hck, ?_, hF.pick (.cons (k := 5) rfl <| .cons (k := 6) rfl <| .cons (k := 7) rfl <| .cons (k := 0) rfl <| .nil), hS⟩, by omega⟩
            rw [← tg_more (by omega) (by omega) (by omega)]; exact htk
    · have hg6_2p := hg6_2
      try simp only [decide_eq_true_eq, decide_eq_false_iff_not, Bool.not_eq_true', Bool.not_eq_false', Bool.not_eq_eq_eq_not, Bool.not_true, Bool.not_false] at hg6_2p
      refine g_no hF ⟨_, _, (rfl : _[2]? = some _), rfl, rfl⟩ hg6_2 rfl ?_; clear hF; intro a hF
      refine g_no hF ⟨_, _, (rfl : _[2]? = some _), rfl, rfl⟩ hg6_2 rfl ?_; clear hF; intro a hF
      refine g_no hF ⟨_, _, (rfl : _[2]? = some _), rfl, rfl⟩ hg6_2 rfl ?_; clear hF; intro a hF
      refine g_no hF ⟨_, _, (rfl : _[2]? = some _), rfl, rfl⟩ hg6_2 rfl ?_; clear hF; intro a hF
      refine s_pu hF (pu_pick_f rfl hg6_2 rfl) rfl ?_; clear hF; intro a hF
      refine s_pu hF (pu_move rfl) rfl ?_; clear hF; intro a hF
      refine g_pu hF ⟨_, _, (rfl : _[8]? = some _), rfl, rfl⟩ rfl (pu_move rfl) rfl ?_; clear hF; intro a hF
      refine g_pu hF ⟨_, _, (rfl : _[8]? = some _), rfl, rfl⟩ rfl (pu_igt rfl rfl) rfl ?_; clear hF; intro a hF
      refine g_pu hF ⟨_, _, (rfl : _[8]? = some _), rfl, rfl⟩ rfl (pu_move rfl) rfl ?_; clear hF; intro a hF
      refine w_split hF ⟨_, _, (rfl : _[11]? = some _), rfl, rfl⟩ (fun hg6_11 => ?_) (fun hg6_11 => ?_)
      · have hg6_11p := hg6_11
        try simp only [decide_eq_true_eq, decide_eq_false_iff_not, Bool.not_eq_true', Bool.not_eq_false', Bool.not_eq_eq_eq_not, Bool.not_true, Bool.not_false] at hg6_11p
        refine g_pu hF ⟨_, _, (rfl : _[11]? = some _), rfl, rfl⟩ hg6_11 (pu_move rfl) rfl ?_; clear hF; intro a hF
        refine g_pu hF ⟨_, _, (rfl : _[11]? = some _), rfl, rfl⟩ hg6_11 (pu_move rfl) rfl ?_; clear hF; intro a hF
        refine g_pu hF ⟨_, _, (rfl : _[11]? = some _), rfl, rfl⟩ hg6_11 (pu_idxn tyS9 rfl rfl rfl (by omega)) rfl ?_; clear hF; intro a hF
        refine g_pu hF ⟨_, _, (rfl : _[11]? = some _), rfl, rfl⟩ hg6_11 (pu_ieq rfl rfl) rfl ?_; clear hF; intro a hF
        refine g_pu hF ⟨_, _, (rfl : _[8]? = some _), rfl, rfl⟩ rfl (pu_pick_t rfl hg6_11 rfl) rfl ?_; clear hF; intro a hF
        refine s_pu hF (pu_pick_f rfl rfl rfl) rfl ?_; clear hF; intro a hF
        refine c_nil ?_
        refine n_then ?_
        refine c_if hF rfl (fun hc37 => ?_) (fun hc37 => ?_)
        · try simp only [decide_eq_true_eq, decide_eq_false_iff_not, Bool.not_eq_true', Bool.not_eq_false', Bool.not_eq_eq_eq_not, Bool.not_true, Bool.not_false] at hc37
          refine c_seq ?_
          refine c_reg ?_
          refine s_pu hF (pu_assign rfl) rfl ?_; clear hF; intro a hF
          refine s_pu hF (pu_assign rfl) rfl ?_; clear hF; intro a hF
          refine s_pu hF (pu_assign rfl) rfl ?_; clear hF; intro a hF
          refine c_nil ?_
          refine n_then ?_
          refine c_ret (r_then (r_block (r_then (r_then (r_block (r_then ?_))))))
          exact f_ret hF rfl (.tmp rfl (.tmp rfl (.tmp rfl (.nil)))) (hS.retv (by rw [← htk, tg_form (by omega) (by omega)]; rfl))
        · try simp only [decide_eq_true_eq, decide_eq_false_iff_not, Bool.not_eq_true', Bool.not_eq_false', Bool.not_eq_eq_eq_not, Bool.not_true, Bool.not_false] at hc37
          refine c_skip ?_
          refine n_then ?_
          refine c_seq ?_
          refine c_reg ?_
          have hfit := take_fit (b := (s.getD k 0)) hk9 hck (by omega)
          refine s_pu hF (pu_move rfl) rfl ?_; clear hF; intro a hF
          refine s_pu hF (pu_move rfl) rfl ?_; clear hF; intro a hF
          refine s_pu hF (pu_move rfl) rfl ?_; clear hF; intro a hF
          refine s_pu hF (pu_mul (r := ((((s.getD k 0).toNat % 128 * 128 ^ k : Nat)) : Int)) rfl rfl (by rw [← Int.natCast_mul, wrap_u64 (by omega) (by omega)])) rfl ?_; clear hF; intro a hF
          refine s_pu hF (pu_add (r := ((c + (s.getD k 0).toNat % 128 * 128 ^ k : Nat) : Int)) rfl rfl (by rw [← Int.natCast_add, wrap_u64 (by omega) (by omega)])) rfl ?_; clear hF; intro a hF
          refine s_pu hF (pu_assign rfl) rfl ?_; clear hF; intro a hF
          refine c_nil ?_
          refine n_then ?_
          refine c_seq ?_
          refine c_reg ?_
          refine s_pu hF (pu_move rfl) rfl ?_; clear hF; intro a hF
          refine s_pu hF (pu_mul rfl rfl rfl) rfl ?_; clear hF; intro a hF
          refine s_pu hF (pu_assign rfl) rfl ?_; clear hF; intro a hF
          refine c_nil ?_
          refine n_then ?_
          refine c_seq ?_
          refine c_reg ?_
          refine s_pu hF (pu_move rfl) rfl ?_; clear hF; intro a hF
          refine s_pu hF (pu_move rfl) rfl ?_; clear hF; intro a hF
          refine s_pu hF (pu_idxn tyS9 rfl rfl rfl (by omega)) rfl ?_; clear hF; intro a hF
          refine s_pu hF (pu_ilt rfl rfl) rfl ?_; clear hF; intro a hF
          refine c_nil ?_
          refine n_then ?_
          refine c_if hF rfl (fun hc48 => ?_) (fun hc48 => ?_)
          · try simp only [decide_eq_true_eq, decide_eq_false_iff_not, Bool.not_eq_true', Bool.not_eq_false', Bool.not_eq_eq_eq_not, Bool.not_true, Bool.not_false] at hc48
            refine c_seq ?_
            refine region_st 9 hF hS (allV_ne rfl) mix (by kernel_rfl) fun Γ hG => ?_
            refine t_pu hG (fun w hC => pu_move rfl) ?_; clear hG; intro Γ hG
            refine t_callv hG ok58 rfl (fun w hS => (c_Rnumber _ hfit _ _ hS.view)) ?_; clear hG; intro Γ hG
            refine t_pu hG (fun w hC => pu_move rfl) ?_; clear hG; intro Γ hG
            refine t_pu hG (fun w hC => pu_move rfl) ?_; clear hG; intro Γ hG
            refine t_pu hG (fun w hC => pu_add rfl rfl (by first | exact wrap_i64 (by omega) (by omega) | rfl)) ?_; clear hG; intro Γ hG
            refine t_pu hG (fun w hC => pu_from tyS9 rfl rfl (by omega) (by omega)) ?_; clear hG; intro Γ hG
            refine t_pu hG (fun w hC => pu_assign rfl) ?_; clear hG; intro Γ hG
            refine t_pu hG (fun w hC => pu_assign rfl) ?_; clear hG; intro Γ hG
            refine t_pu hG (fun w hC => pu_assign rfl) ?_; clear hG; intro Γ hG
            refine t_end hG ?_; clear hG hF; intro a w hC hE hF hP; replace hS := hC.st; clear hC
            clear hE
            clear hP
            refine c_nil ?_
            refine n_then ?_
            refine c_ret (r_block (r_then (r_then (r_block (r_then ?_)))))
            exact f_ret hF rfl (.tmp rfl (.tmp rfl (.tmp rfl (.nil)))) (hS.retv (by rw [← htk, tg_done (by omega) (by omega) (by omega)]; rfl))
          · try simp only [decide_eq_true_eq, decide_eq_false_iff_not, Bool.not_eq_true', Bool.not_eq_false', Bool.not_eq_eq_eq_not, Bool.not_true, Bool.not_false] at hc48
            refine c_skip ?_
            refine n_block ?_
            refine n_then ?_
            refine c_reg ?_
            refine s_pu hF (pu_move rfl) rfl ?_; clear hF; intro a hF
            refine s_pu hF (pu_add rfl rfl (by first | exact wrap_i64 (by omega) (by omega) | rfl)) rfl ?_; clear hF; intro a hF
            refine s_pu hF (pu_assign rfl) rfl ?_; clear hF; intro a hF
            refine c_nil ?_
            have hp8 := pow_le8 (k := k) (by omega)
            have ep : IntKind.u64.wrap (((128 ^ k : Nat) : Int) * 128) = ((128 ^ (k + 1) : Nat) : Int) := by rw [Nat.pow_succ] at hp8 ⊢; rw [wrap_u64 (by omega) (by omega)]; omega
            rw [ep] at hF
            refine ⟨k + 1, ⟨c + (s.getD k 0).toNat % 128 * 128 ^ k, by omega, by omega, take_fit2 hck, ?_, hF.pick (.cons (k := 5) rfl <| .cons (k := 6) rfl <| .cons (k := 7) rfl <| .cons (k := 0) rfl <| .nil), hS⟩, by omega⟩
            rw [← tg_more (by omega) (by omega) (by omega)]; exact htk
      · have hg6_11p := hg6_11
        try simp only [decide_eq_true_eq, decide_eq_false_iff_not, Bool.not_eq_true', Bool.not_eq_false', Bool.not_eq_eq_eq_not, Bool.not_true, Bool.not_false] at hg6_11p
        refine g_no hF ⟨_, _, (rfl : _[11]? = some _), rfl, rfl⟩ hg6_11 rfl ?_; clear hF; intro a hF
        refine g_no hF ⟨_, _, (rfl : _[11]? = some _), rfl, rfl⟩ hg6_11 rfl ?_; clear hF; intro a hF
        refine g_no hF ⟨_, _, (rfl : _[11]? = some _), rfl, rfl⟩ hg6_11 rfl ?_; clear hF; intro a hF
        refine g_no hF ⟨_, _, (rfl : _[11]? = some _), rfl, rfl⟩ hg6_11 rfl ?_; clear hF; intro a hF
        refine g_pu hF ⟨_, _, (rfl : _[8]? = some _), rfl, rfl⟩ rfl (pu_pick_f rfl hg6_11 rfl) rfl ?_; clear hF; intro a hF
        refine s_pu hF (pu_pick_f rfl rfl rfl) rfl ?_; clear hF; intro a hF
        refine c_nil ?_
        refine n_then ?_
        refine c_iff hF rfl rfl ?_
        refine c_skip ?_
        refine n_then ?_
        refine c_seq ?_
        refine c_reg ?_
        have hfit := take_fit (b := (s.getD k 0)) hk9 hck (by omega)
        refine s_pu hF (pu_move rfl) rfl ?_; clear hF; intro a hF
        refine s_pu hF (pu_move rfl) rfl ?_; clear hF; intro a hF
        refine s_pu hF (pu_move rfl) rfl ?_; clear hF; intro a hF
        refine s_pu hF (pu_mul (r := ((((s.getD k 0).toNat % 128 * 128 ^ k : Nat)) : Int)) rfl rfl (by rw [← Int.natCast_mul, wrap_u64 (by omega) (by omega)])) rfl ?_; clear hF; intro a hF
        refine s_pu hF (pu_add (r := ((c + (s.getD k 0).toNat % 128 * 128 ^ k : Nat) : Int)) rfl rfl (by rw [← Int.natCast_add, wrap_u64 (by omega) (by omega)])) rfl ?_; clear hF; intro a hF
        refine s_pu hF (pu_assign rfl) rfl ?_; clear hF; intro a hF
        refine c_nil ?_
        refine n_then ?_
        refine c_seq ?_
        refine c_reg ?_
        refine s_pu hF (pu_move rfl) rfl ?_; clear hF; intro a hF
        refine s_pu hF (pu_mul rfl rfl rfl) rfl ?_; clear hF; intro a hF
        refine s_pu hF (pu_assign rfl) rfl ?_; clear hF; intro a hF
        refine c_nil ?_
        refine n_then ?_
        refine c_seq ?_
        refine c_reg ?_
        refine s_pu hF (pu_move rfl) rfl ?_; clear hF; intro a hF
        refine s_pu hF (pu_move rfl) rfl ?_; clear hF; intro a hF
        refine s_pu hF (pu_idxn tyS9 rfl rfl rfl (by omega)) rfl ?_; clear hF; intro a hF
        refine s_pu hF (pu_ilt rfl rfl) rfl ?_; clear hF; intro a hF
        refine c_nil ?_
        refine n_then ?_
        refine c_if hF rfl (fun hc48 => ?_) (fun hc48 => ?_)
        · try simp only [decide_eq_true_eq, decide_eq_false_iff_not, Bool.not_eq_true', Bool.not_eq_false', Bool.not_eq_eq_eq_not, Bool.not_true, Bool.not_false] at hc48
          refine c_seq ?_
          refine region_st 9 hF hS (allV_ne rfl) mix (by kernel_rfl) fun Γ hG => ?_
          refine t_pu hG (fun w hC => pu_move rfl) ?_; clear hG; intro Γ hG
          refine t_callv hG ok58 rfl (fun w hS => (c_Rnumber _ hfit _ _ hS.view)) ?_; clear hG; intro Γ hG
          refine t_pu hG (fun w hC => pu_move rfl) ?_; clear hG; intro Γ hG
          refine t_pu hG (fun w hC => pu_move rfl) ?_; clear hG; intro Γ hG
          refine t_pu hG (fun w hC => pu_add rfl rfl (by first | exact wrap_i64 (by omega) (by omega) | rfl)) ?_; clear hG; intro Γ hG
          refine t_pu hG (fun w hC => pu_from tyS9 rfl rfl (by omega) (by omega)) ?_; clear hG; intro Γ hG
          refine t_pu hG (fun w hC => pu_assign rfl) ?_; clear hG; intro Γ hG
          refine t_pu hG (fun w hC => pu_assign rfl) ?_; clear hG; intro Γ hG
          refine t_pu hG (fun w hC => pu_assign rfl) ?_; clear hG; intro Γ hG
          refine t_end hG ?_; clear hG hF; intro a w hC hE hF hP; replace hS := hC.st; clear hC
          clear hE
          clear hP
          refine c_nil ?_
          refine n_then ?_
          refine c_ret (r_block (r_then (r_then (r_block (r_then ?_)))))
          exact f_ret hF rfl (.tmp rfl (.tmp rfl (.tmp rfl (.nil)))) (hS.retv (by rw [← htk, tg_done (by omega) (by omega) (by omega)]; rfl))
        · try simp only [decide_eq_true_eq, decide_eq_false_iff_not, Bool.not_eq_true', Bool.not_eq_false', Bool.not_eq_eq_eq_not, Bool.not_true, Bool.not_false] at hc48
          refine c_skip ?_
          refine n_block ?_
          refine n_then ?_
          refine c_reg ?_
          refine s_pu hF (pu_move rfl) rfl ?_; clear hF; intro a hF
          refine s_pu hF (pu_add rfl rfl (by first | exact wrap_i64 (by omega) (by omega) | rfl)) rfl ?_; clear hF; intro a hF
          refine s_pu hF (pu_assign rfl) rfl ?_; clear hF; intro a hF
          refine c_nil ?_
          have hp8 := pow_le8 (k := k) (by omega)
          have ep : IntKind.u64.wrap (((128 ^ k : Nat) : Int) * 128) = ((128 ^ (k + 1) : Nat) : Int) := by rw [Nat.pow_succ] at hp8 ⊢; rw [wrap_u64 (by omega) (by omega)]; omega
          rw [ep] at hF
          refine ⟨k + 1, ⟨c + (s.getD k 0).toNat % 128 * 128 ^ k, by omega, by omega, take_fit2 hck, ?_, hF.pick (.cons (k := 5) rfl <| .cons (k := 6) rfl <| .cons (k := 7) rfl <| .cons (k := 0) rfl <| .nil), hS⟩, by omega⟩
          rw [← tg_more (by omega) (by omega) (by omega)]; exact htk
  · try simp only [decide_eq_true_eq, decide_eq_false_iff_not, Bool.not_eq_true', Bool.not_eq_false', Bool.not_eq_eq_eq_not, Bool.not_true, Bool.not_false] at hc12
    refine c_exit (x_then (x_then (x_here ?_)))
    refine n_then ?_
    refine c_seq ?_
    refine c_reg ?_
    refine s_pu hF (pu_assign rfl) rfl ?_; clear hF; intro a hF
    refine s_pu hF (pu_assign rfl) rfl ?_; clear hF; intro a hF
    refine s_pu hF (pu_assign rfl) rfl ?_; clear hF; intro a hF
    refine c_nil ?_
    refine n_then ?_
    refine c_ret ?_
    exact f_ret hF rfl (.tmp rfl (.tmp rfl (.tmp rfl (.nil)))) (hS.retv (by rw [← htk, tg_end (by omega)]; rfl))
theorem c_size (s : List UInt8) (most : Int) (w0 : World) (h0 : View) (hv : VLe h0 (Full w0))  : Calls Tryd.prog 57 #[vs s, .int .i64 most] w0 (Ret w0 h0 fun u _ => u = tkV (sizeS s most)) := by
  refine f_enter (args := [vs s, .int .i64 most]) Tryd.func57 rfl Tryd.ntmps57 rfl fun a hF => ?_
  have hS := St.init w0 h0 hv
  refine c_seq ?_
  refine c_reg ?_
  refine s_pu hF (pu_assign rfl) rfl ?_; clear hF; intro a hF
  refine s_pu hF (pu_assign rfl) rfl ?_; clear hF; intro a hF
  refine s_pu hF (pu_assign rfl) rfl ?_; clear hF; intro a hF
  refine c_nil ?_
  refine n_then ?_
  refine c_seq ?_
  refine c_reg ?_
  refine s_pu hF (pu_move rfl) rfl ?_; clear hF; intro a hF
  refine s_callv hF hS ok40 rfl (c_TakeNum s _ _ hS.view) rfl ?_; clear hS hF; intro w a hS hF
  refine s_pu hF (pu_move rfl) rfl ?_; clear hF; intro a hF
  refine s_pu hF (pu_extract rfl rfl) rfl ?_; clear hF; intro a hF
  refine s_pu hF (pu_extract rfl rfl) rfl ?_; clear hF; intro a hF
  refine s_pu hF (pu_extract rfl rfl) rfl ?_; clear hF; intro a hF
  refine s_pu hF (pu_assign rfl) rfl ?_; clear hF; intro a hF
  refine s_pu hF (pu_assign rfl) rfl ?_; clear hF; intro a hF
  refine s_pu hF (pu_assign rfl) rfl ?_; clear hF; intro a hF
  refine c_nil ?_
  refine n_then ?_
  refine c_seq ?_
  refine c_block ?_
  refine c_seq ?_
  refine c_reg ?_
  refine s_pu hF (pu_move rfl) rfl ?_; clear hF; intro a hF
  refine s_pu hF (pu_ine rfl rfl) rfl ?_; clear hF; intro a hF
  refine s_pu hF (pu_assign rfl) rfl ?_; clear hF; intro a hF
  refine c_nil ?_
  refine n_then ?_
  refine c_if hF rfl (fun hc16 => ?_) (fun hc16 => ?_)
  · try simp only [decide_eq_true_eq, decide_eq_false_iff_not, Bool.not_eq_true', Bool.not_eq_false', Bool.not_eq_eq_eq_not, Bool.not_true, Bool.not_false] at hc16
    refine c_seq ?_
    refine c_reg ?_
    refine s_pu hF (pu_move rfl) rfl ?_; clear hF; intro a hF
    refine s_pu hF (pu_assign rfl) rfl ?_; clear hF; intro a hF
    refine s_pu hF (pu_assign rfl) rfl ?_; clear hF; intro a hF
    refine s_pu hF (pu_assign rfl) rfl ?_; clear hF; intro a hF
    refine c_nil ?_
    refine n_then ?_
    refine c_ret (r_block (r_then ?_))
    exact f_ret hF rfl (.tmp rfl (.tmp rfl (.tmp rfl (.nil)))) (hS.retv (by rw [sizeS, if_pos hc16]; rfl))
  · try simp only [decide_eq_true_eq, decide_eq_false_iff_not, Bool.not_eq_true', Bool.not_eq_false', Bool.not_eq_eq_eq_not, Bool.not_true, Bool.not_false] at hc16
    refine c_seq ?_
    refine c_reg ?_
    refine s_pu hF (pu_move rfl) rfl ?_; clear hF; intro a hF
    refine s_pu hF (pu_ilt rfl rfl) rfl ?_; clear hF; intro a hF
    refine s_pu hF (pu_assign rfl) rfl ?_; clear hF; intro a hF
    refine c_nil ?_
    refine n_then ?_
    refine c_if hF rfl (fun hc20 => ?_) (fun hc20 => ?_)
    · try simp only [decide_eq_true_eq, decide_eq_false_iff_not, Bool.not_eq_true', Bool.not_eq_false', Bool.not_eq_eq_eq_not, Bool.not_true, Bool.not_false] at hc20
      refine c_seq ?_
      refine c_reg ?_
      refine s_pu hF (pu_assign rfl) rfl ?_; clear hF; intro a hF
      refine s_pu hF (pu_assign rfl) rfl ?_; clear hF; intro a hF
      refine s_pu hF (pu_assign rfl) rfl ?_; clear hF; intro a hF
      refine c_nil ?_
      refine n_then ?_
      refine c_ret (r_block (r_then ?_))
      exact f_ret hF rfl (.tmp rfl (.tmp rfl (.tmp rfl (.nil)))) (hS.retv (by rw [sizeS, if_neg (by omega), if_pos hc20]; rfl))
    · try simp only [decide_eq_true_eq, decide_eq_false_iff_not, Bool.not_eq_true', Bool.not_eq_false', Bool.not_eq_eq_eq_not, Bool.not_true, Bool.not_false] at hc20
      refine c_seq ?_
      refine c_reg ?_
      refine s_pu hF (pu_move rfl) rfl ?_; clear hF; intro a hF
      refine s_pu hF (pu_move rfl) rfl ?_; clear hF; intro a hF
      refine s_pu hF (pu_igt rfl rfl) rfl ?_; clear hF; intro a hF
      refine s_pu hF (pu_assign rfl) rfl ?_; clear hF; intro a hF
      refine c_nil ?_
      refine n_then ?_
      refine c_if hF rfl (fun hc23 => ?_) (fun hc23 => ?_)
      · try simp only [decide_eq_true_eq, decide_eq_false_iff_not, Bool.not_eq_true', Bool.not_eq_false', Bool.not_eq_eq_eq_not, Bool.not_true, Bool.not_false] at hc23
        refine c_seq ?_
        refine c_reg ?_
        refine s_pu hF (pu_assign rfl) rfl ?_; clear hF; intro a hF
        refine s_pu hF (pu_assign rfl) rfl ?_; clear hF; intro a hF
        refine s_pu hF (pu_assign rfl) rfl ?_; clear hF; intro a hF
        refine c_nil ?_
        refine n_then ?_
        refine c_ret (r_block (r_then ?_))
        exact f_ret hF rfl (.tmp rfl (.tmp rfl (.tmp rfl (.nil)))) (hS.retv (by rw [sizeS, if_neg (by omega), if_neg (by omega), if_pos hc23]; rfl))
      · try simp only [decide_eq_true_eq, decide_eq_false_iff_not, Bool.not_eq_true', Bool.not_eq_false', Bool.not_eq_eq_eq_not, Bool.not_true, Bool.not_false] at hc23
        refine c_skip ?_
        refine n_block ?_
        refine n_then ?_
        refine c_seq ?_
        refine c_reg ?_
        refine s_pu hF (pu_move rfl) rfl ?_; clear hF; intro a hF
        refine s_pu hF (pu_move rfl) rfl ?_; clear hF; intro a hF
        refine s_pu hF (pu_assign rfl) rfl ?_; clear hF; intro a hF
        refine s_pu hF (pu_assign rfl) rfl ?_; clear hF; intro a hF
        refine s_pu hF (pu_assign rfl) rfl ?_; clear hF; intro a hF
        refine c_nil ?_
        refine n_then ?_
        refine c_ret ?_
        exact f_ret hF rfl (.tmp rfl (.tmp rfl (.tmp rfl (.nil)))) (hS.retv (by rw [sizeS, if_neg (by omega), if_neg (by omega), if_neg (by omega)]; unfold tkV; rw [hc16]; rfl))
theorem c_TakeText (s : List UInt8) (most : Int) (w0 : World) (h0 : View) (hv : VLe h0 (Full w0))  : Calls Tryd.prog 41 #[vs s, .int .i64 most] w0 (Ret w0 h0 fun u _ => u = ttV (takeT s most)) := by
  refine f_enter (args := [vs s, .int .i64 most]) Tryd.func41 rfl Tryd.ntmps41 rfl fun a hF => ?_
  have hS := St.init w0 h0 hv
  refine c_seq ?_
  refine c_reg ?_
  refine s_pu hF (pu_assign rfl) rfl ?_; clear hF; intro a hF
  refine s_pu hF (pu_assign rfl) rfl ?_; clear hF; intro a hF
  refine s_pu hF (pu_assign rfl) rfl ?_; clear hF; intro a hF
  refine c_nil ?_
  refine n_then ?_
  refine c_seq ?_
  refine c_reg ?_
  refine s_pu hF (pu_move rfl) rfl ?_; clear hF; intro a hF
  refine s_pu hF (pu_move rfl) rfl ?_; clear hF; intro a hF
  refine s_callv hF hS ok57 rfl (c_size s most _ _ hS.view) rfl ?_; clear hS hF; intro w a hS hF
  refine s_pu hF (pu_move rfl) rfl ?_; clear hF; intro a hF
  refine s_pu hF (pu_extract rfl rfl) rfl ?_; clear hF; intro a hF
  refine s_pu hF (pu_extract rfl rfl) rfl ?_; clear hF; intro a hF
  refine s_pu hF (pu_extract rfl rfl) rfl ?_; clear hF; intro a hF
  refine s_pu hF (pu_assign rfl) rfl ?_; clear hF; intro a hF
  refine s_pu hF (pu_assign rfl) rfl ?_; clear hF; intro a hF
  refine s_pu hF (pu_assign rfl) rfl ?_; clear hF; intro a hF
  refine c_nil ?_
  refine n_then ?_
  refine c_seq ?_
  refine c_block ?_
  refine c_seq ?_
  refine c_reg ?_
  refine s_pu hF (pu_move rfl) rfl ?_; clear hF; intro a hF
  refine s_pu hF (pu_ine rfl rfl) rfl ?_; clear hF; intro a hF
  refine s_pu hF (pu_assign rfl) rfl ?_; clear hF; intro a hF
  refine c_nil ?_
  refine n_then ?_
  refine c_if hF rfl (fun hc17 => ?_) (fun hc17 => ?_)
  · try simp only [decide_eq_true_eq, decide_eq_false_iff_not, Bool.not_eq_true', Bool.not_eq_false', Bool.not_eq_eq_eq_not, Bool.not_true, Bool.not_false] at hc17
    refine c_seq ?_
    refine c_reg ?_
    refine s_pu hF (pu_move rfl) rfl ?_; clear hF; intro a hF
    refine s_pu hF (pu_assign rfl) rfl ?_; clear hF; intro a hF
    refine s_pu hF (pu_assign rfl) rfl ?_; clear hF; intro a hF
    refine s_pu hF (pu_assign rfl) rfl ?_; clear hF; intro a hF
    refine c_nil ?_
    refine n_then ?_
    refine c_ret (r_block (r_then ?_))
    exact f_ret hF rfl (.tmp rfl (.tmp rfl (.tmp rfl (.nil)))) (hS.retv (by rw [takeT, if_pos hc17]; rfl))
  · try simp only [decide_eq_true_eq, decide_eq_false_iff_not, Bool.not_eq_true', Bool.not_eq_false', Bool.not_eq_eq_eq_not, Bool.not_true, Bool.not_false] at hc17
    obtain ⟨z1, z2, z3, z4⟩ := sizeS_ok (s := s) (most := most) (by omega)
    have hn0 : 0 ≤ (sizeS s most).1 := by rw [z1]; exact z3
    refine c_seq ?_
    refine c_reg ?_
    refine s_pu hF (pu_move rfl) rfl ?_; clear hF; intro a hF
    refine s_pu hF (pu_move rfl) rfl ?_; clear hF; intro a hF
    refine s_pu hF (pu_len_s tyS9 rfl rfl) rfl ?_; clear hF; intro a hF
    refine s_pu hF (pu_igt rfl rfl) rfl ?_; clear hF; intro a hF
    refine s_pu hF (pu_assign rfl) rfl ?_; clear hF; intro a hF
    refine c_nil ?_
    refine n_then ?_
    refine c_if hF rfl (fun hc21 => ?_) (fun hc21 => ?_)
    · try simp only [decide_eq_true_eq, decide_eq_false_iff_not, Bool.not_eq_true', Bool.not_eq_false', Bool.not_eq_eq_eq_not, Bool.not_true, Bool.not_false] at hc21
      refine c_seq ?_
      refine c_reg ?_
      refine s_pu hF (pu_assign rfl) rfl ?_; clear hF; intro a hF
      refine s_pu hF (pu_assign rfl) rfl ?_; clear hF; intro a hF
      refine s_pu hF (pu_assign rfl) rfl ?_; clear hF; intro a hF
      refine c_nil ?_
      refine n_then ?_
      refine c_ret (r_block (r_then ?_))
      exact f_ret hF rfl (.tmp rfl (.tmp rfl (.tmp rfl (.nil)))) (hS.retv (by rw [takeT, if_neg (by omega), if_pos hc21]; rfl))
    · try simp only [decide_eq_true_eq, decide_eq_false_iff_not, Bool.not_eq_true', Bool.not_eq_false', Bool.not_eq_eq_eq_not, Bool.not_true, Bool.not_false] at hc21
      refine c_skip ?_
      refine n_block ?_
      refine n_then ?_
      refine c_seq ?_
      refine region_st 9 hF hS (allV_ne rfl) mix (by kernel_rfl) fun Γ hG => ?_
      refine t_pu hG (fun w hC => pu_move rfl) ?_; clear hG; intro Γ hG
      refine t_pu hG (fun w hC => pu_move rfl) ?_; clear hG; intro Γ hG
      refine t_pu hG (fun w hC => pu_to tyS9 rfl rfl (by omega) (by omega)) ?_; clear hG; intro Γ hG
      refine t_pu hG (fun w hC => pu_move rfl) ?_; clear hG; intro Γ hG
      refine t_pu hG (fun w hC => pu_move rfl) ?_; clear hG; intro Γ hG
      refine t_pu hG (fun w hC => pu_from tyS9 rfl rfl (by omega) (by omega)) ?_; clear hG; intro Γ hG
      refine t_pu hG (fun w hC => pu_assign rfl) ?_; clear hG; intro Γ hG
      refine t_pu hG (fun w hC => pu_assign rfl) ?_; clear hG; intro Γ hG
      refine t_pu hG (fun w hC => pu_assign rfl) ?_; clear hG; intro Γ hG
      refine t_end hG ?_; clear hG hF; intro a w hC hE hF hP; replace hS := hC.st; clear hC
      clear hE
      clear hP
      refine c_nil ?_
      refine n_then ?_
      refine c_ret ?_
      exact f_ret hF rfl (.tmp rfl (.tmp rfl (.tmp rfl (.nil)))) (hS.retv (by rw [takeT, if_neg (by omega), if_neg (by omega)]; rfl))
theorem c_RTakeText (s : List UInt8) (most : Int) (hs : s.length ≤ 9223372036854775807) (w0 : World) (h0 : View) (hv : VLe h0 (Full w0))  : Calls Tryd.prog 43 #[vs s, .int .i64 most] w0 (Ret w0 h0 fun u _ => u = ttV (takeT s most)) := by
  refine f_enter (args := [vs s, .int .i64 most]) Tryd.func43 rfl Tryd.ntmps43 rfl fun a hF => ?_
  have hS := St.init w0 h0 hv
  refine c_seq ?_
  refine c_reg ?_
  refine s_pu hF (pu_assign rfl) rfl ?_; clear hF; intro a hF
  refine s_pu hF (pu_assign rfl) rfl ?_; clear hF; intro a hF
  refine s_pu hF (pu_assign rfl) rfl ?_; clear hF; intro a hF
  refine c_nil ?_
  refine n_then ?_
  refine c_seq ?_
  refine c_reg ?_
  refine s_pu hF (pu_move rfl) rfl ?_; clear hF; intro a hF
  refine s_callv hF hS ok42 rfl (c_RTakeNum s hs _ _ hS.view) rfl ?_; clear hS hF; intro w a hS hF
  refine s_pu hF (pu_move rfl) rfl ?_; clear hF; intro a hF
  refine s_pu hF (pu_extract rfl rfl) rfl ?_; clear hF; intro a hF
  refine s_pu hF (pu_extract rfl rfl) rfl ?_; clear hF; intro a hF
  refine s_pu hF (pu_extract rfl rfl) rfl ?_; clear hF; intro a hF
  refine s_pu hF (pu_assign rfl) rfl ?_; clear hF; intro a hF
  refine s_pu hF (pu_assign rfl) rfl ?_; clear hF; intro a hF
  refine s_pu hF (pu_assign rfl) rfl ?_; clear hF; intro a hF
  refine c_nil ?_
  refine n_then ?_
  refine c_seq ?_
  refine c_block ?_
  refine c_seq ?_
  refine c_reg ?_
  refine s_pu hF (pu_move rfl) rfl ?_; clear hF; intro a hF
  refine s_pu hF (pu_ine rfl rfl) rfl ?_; clear hF; intro a hF
  refine s_pu hF (pu_assign rfl) rfl ?_; clear hF; intro a hF
  refine c_nil ?_
  refine n_then ?_
  refine c_if hF rfl (fun hc16 => ?_) (fun hc16 => ?_)
  · try simp only [decide_eq_true_eq, decide_eq_false_iff_not, Bool.not_eq_true', Bool.not_eq_false', Bool.not_eq_eq_eq_not, Bool.not_true, Bool.not_false] at hc16
    refine c_seq ?_
    refine c_reg ?_
    refine s_pu hF (pu_move rfl) rfl ?_; clear hF; intro a hF
    refine s_pu hF (pu_assign rfl) rfl ?_; clear hF; intro a hF
    refine s_pu hF (pu_assign rfl) rfl ?_; clear hF; intro a hF
    refine s_pu hF (pu_assign rfl) rfl ?_; clear hF; intro a hF
    refine c_nil ?_
    refine n_then ?_
    refine c_ret (r_block (r_then ?_))
    exact f_ret hF rfl (.tmp rfl (.tmp rfl (.tmp rfl (.nil)))) (hS.retv (by rw [takeT, (show sizeS s most = (0, [], (takeN s).2.2) from (by rw [sizeS, if_pos hc16])), if_pos hc16]; rfl))
  · try simp only [decide_eq_true_eq, decide_eq_false_iff_not, Bool.not_eq_true', Bool.not_eq_false', Bool.not_eq_eq_eq_not, Bool.not_true, Bool.not_false] at hc16
    refine c_seq ?_
    refine c_reg ?_
    refine s_pu hF (pu_move rfl) rfl ?_; clear hF; intro a hF
    refine s_pu hF (pu_ilt rfl rfl) rfl ?_; clear hF; intro a hF
    refine s_pu hF (pu_assign rfl) rfl ?_; clear hF; intro a hF
    refine c_nil ?_
    refine n_then ?_
    refine c_if hF rfl (fun hc20 => ?_) (fun hc20 => ?_)
    · try simp only [decide_eq_true_eq, decide_eq_false_iff_not, Bool.not_eq_true', Bool.not_eq_false', Bool.not_eq_eq_eq_not, Bool.not_true, Bool.not_false] at hc20
      refine c_seq ?_
      refine c_reg ?_
      refine s_pu hF (pu_assign rfl) rfl ?_; clear hF; intro a hF
      refine s_pu hF (pu_assign rfl) rfl ?_; clear hF; intro a hF
      refine s_pu hF (pu_assign rfl) rfl ?_; clear hF; intro a hF
      refine c_nil ?_
      refine n_then ?_
      refine c_ret (r_block (r_then ?_))
      exact f_ret hF rfl (.tmp rfl (.tmp rfl (.tmp rfl (.nil)))) (hS.retv (by rw [takeT, (show sizeS s most = (0, [], 4) from (by rw [sizeS, if_neg (by omega), if_pos hc20]))]; rfl))
    · try simp only [decide_eq_true_eq, decide_eq_false_iff_not, Bool.not_eq_true', Bool.not_eq_false', Bool.not_eq_eq_eq_not, Bool.not_true, Bool.not_false] at hc20
      refine c_seq ?_
      refine c_reg ?_
      refine s_pu hF (pu_move rfl) rfl ?_; clear hF; intro a hF
      refine s_pu hF (pu_move rfl) rfl ?_; clear hF; intro a hF
      refine s_pu hF (pu_igt rfl rfl) rfl ?_; clear hF; intro a hF
      refine s_pu hF (pu_assign rfl) rfl ?_; clear hF; intro a hF
      refine c_nil ?_
      refine n_then ?_
      refine c_if hF rfl (fun hc23 => ?_) (fun hc23 => ?_)
      · try simp only [decide_eq_true_eq, decide_eq_false_iff_not, Bool.not_eq_true', Bool.not_eq_false', Bool.not_eq_eq_eq_not, Bool.not_true, Bool.not_false] at hc23
        refine c_seq ?_
        refine c_reg ?_
        refine s_pu hF (pu_assign rfl) rfl ?_; clear hF; intro a hF
        refine s_pu hF (pu_assign rfl) rfl ?_; clear hF; intro a hF
        refine s_pu hF (pu_assign rfl) rfl ?_; clear hF; intro a hF
        refine c_nil ?_
        refine n_then ?_
        refine c_ret (r_block (r_then ?_))
        exact f_ret hF rfl (.tmp rfl (.tmp rfl (.tmp rfl (.nil)))) (hS.retv (by rw [takeT, (show sizeS s most = (0, [], 5) from (by rw [sizeS, if_neg (by omega), if_neg (by omega), if_pos hc23]))]; rfl))
      · try simp only [decide_eq_true_eq, decide_eq_false_iff_not, Bool.not_eq_true', Bool.not_eq_false', Bool.not_eq_eq_eq_not, Bool.not_true, Bool.not_false] at hc23
        have hz : sizeS s most = takeN s := by rw [sizeS, if_neg (by omega), if_neg (by omega), if_neg (by omega)]
        refine c_seq ?_
        refine c_reg ?_
        refine s_pu hF (pu_move rfl) rfl ?_; clear hF; intro a hF
        refine s_pu hF (pu_move rfl) rfl ?_; clear hF; intro a hF
        refine s_pu hF (pu_len_s tyS9 rfl rfl) rfl ?_; clear hF; intro a hF
        refine s_pu hF (pu_igt rfl rfl) rfl ?_; clear hF; intro a hF
        refine s_pu hF (pu_assign rfl) rfl ?_; clear hF; intro a hF
        refine c_nil ?_
        refine n_then ?_
        refine c_if hF rfl (fun hc27 => ?_) (fun hc27 => ?_)
        · try simp only [decide_eq_true_eq, decide_eq_false_iff_not, Bool.not_eq_true', Bool.not_eq_false', Bool.not_eq_eq_eq_not, Bool.not_true, Bool.not_false] at hc27
          refine c_seq ?_
          refine c_reg ?_
          refine s_pu hF (pu_assign rfl) rfl ?_; clear hF; intro a hF
          refine s_pu hF (pu_assign rfl) rfl ?_; clear hF; intro a hF
          refine s_pu hF (pu_assign rfl) rfl ?_; clear hF; intro a hF
          refine c_nil ?_
          refine n_then ?_
          refine c_ret (r_block (r_then ?_))
          exact f_ret hF rfl (.tmp rfl (.tmp rfl (.tmp rfl (.nil)))) (hS.retv (by rw [takeT, hz, if_neg (by omega), if_pos hc27]; rfl))
        · try simp only [decide_eq_true_eq, decide_eq_false_iff_not, Bool.not_eq_true', Bool.not_eq_false', Bool.not_eq_eq_eq_not, Bool.not_true, Bool.not_false] at hc27
          refine c_skip ?_
          refine n_block ?_
          refine n_then ?_
          refine c_seq ?_
          refine region_st 9 hF hS (allV_ne rfl) mix (by kernel_rfl) fun Γ hG => ?_
          refine t_pu hG (fun w hC => pu_move rfl) ?_; clear hG; intro Γ hG
          refine t_pu hG (fun w hC => pu_move rfl) ?_; clear hG; intro Γ hG
          refine t_pu hG (fun w hC => pu_to tyS9 rfl rfl (by omega) (by omega)) ?_; clear hG; intro Γ hG
          refine t_pu hG (fun w hC => pu_move rfl) ?_; clear hG; intro Γ hG
          refine t_pu hG (fun w hC => pu_move rfl) ?_; clear hG; intro Γ hG
          refine t_pu hG (fun w hC => pu_from tyS9 rfl rfl (by omega) (by omega)) ?_; clear hG; intro Γ hG
          refine t_pu hG (fun w hC => pu_assign rfl) ?_; clear hG; intro Γ hG
          refine t_pu hG (fun w hC => pu_assign rfl) ?_; clear hG; intro Γ hG
          refine t_pu hG (fun w hC => pu_assign rfl) ?_; clear hG; intro Γ hG
          refine t_end hG ?_; clear hG hF; intro a w hC hE hF hP; replace hS := hC.st; clear hC
          clear hE
          clear hP
          refine c_nil ?_
          refine n_then ?_
          refine c_ret ?_
          exact f_ret hF rfl (.tmp rfl (.tmp rfl (.tmp rfl (.nil)))) (hS.retv (by rw [takeT, hz, if_neg (by omega), if_neg (by omega)]; rfl))
theorem c_Text (s : List UInt8) (hs : s.length ≤ 100000000000) (w0 : World) (h0 : View) (hv : VLe h0 (Full w0))  : Calls Tryd.prog 29 #[vs s] w0 (Ret w0 h0 fun u _ => u = vs (textS s)) := by
  refine f_enter (args := [vs s]) Tryd.func29 rfl Tryd.ntmps29 rfl fun a hF => ?_
  have hS := St.init w0 h0 hv
  have hl := numS_len (n := (s.length : Int)) ⟨by omega, by omega⟩
  refine c_seq ?_
  refine c_reg ?_
  refine s_pu hF (pu_assign rfl) rfl ?_; clear hF; intro a hF
  refine c_nil ?_
  refine n_then ?_
  refine c_seq ?_
  refine c_reg ?_
  refine s_pu hF (pu_move rfl) rfl ?_; clear hF; intro a hF
  refine s_pu hF (pu_len_s tyS9 rfl rfl) rfl ?_; clear hF; intro a hF
  refine s_callv hF hS ok28 rfl (c_Num _ ⟨by omega, by omega⟩ _ _ hS.view) rfl ?_; clear hS hF; intro w a hS hF
  refine s_pu hF (pu_move rfl) rfl ?_; clear hF; intro a hF
  refine s_pu hF (pu_cat rfl rfl (by omega)) rfl ?_; clear hF; intro a hF
  refine s_pu hF (pu_assign rfl) rfl ?_; clear hF; intro a hF
  refine c_nil ?_
  refine n_then ?_
  refine c_ret ?_
  exact f_ret hF rfl (.tmp rfl (.nil)) (hS.retv rfl)
theorem c_RText (s : List UInt8) (hs : s.length ≤ 100000000000) (w0 : World) (h0 : View) (hv : VLe h0 (Full w0))  : Calls Tryd.prog 35 #[vs s] w0 (Ret w0 h0 fun u _ => u = vs (textS s)) := by
  refine f_enter (args := [vs s]) Tryd.func35 rfl Tryd.ntmps35 rfl fun a hF => ?_
  have hS := St.init w0 h0 hv
  have hl := numS_len (n := (s.length : Int)) ⟨by omega, by omega⟩
  refine c_seq ?_
  refine c_reg ?_
  refine s_pu hF (pu_assign rfl) rfl ?_; clear hF; intro a hF
  refine c_nil ?_
  refine n_then ?_
  refine c_seq ?_
  refine c_reg ?_
  refine s_pu hF (pu_move rfl) rfl ?_; clear hF; intro a hF
  refine s_pu hF (pu_len_s tyS9 rfl rfl) rfl ?_; clear hF; intro a hF
  refine s_callv hF hS ok34 rfl (c_RNum _ ⟨by omega, by omega⟩ _ _ hS.view) rfl ?_; clear hS hF; intro w a hS hF
  refine s_pu hF (pu_move rfl) rfl ?_; clear hF; intro a hF
  refine s_pu hF (pu_cat rfl rfl (by omega)) rfl ?_; clear hF; intro a hF
  refine s_pu hF (pu_assign rfl) rfl ?_; clear hF; intro a hF
  refine c_nil ?_
  refine n_then ?_
  refine c_ret ?_
  exact f_ret hF rfl (.tmp rfl (.nil)) (hS.retv rfl)
end Go.Proofs.YtklhnhpcgkmijaaDoor
