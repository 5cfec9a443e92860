/- What the functions of the program compute, each with its conditions. -/
import Derived.Test.YtaogkonanncpiaaDxW
import Derived.Test.YtaogkonanncpiaaShaSpec
import Derived.Test.YtaogkonanncpiaaRows
set_option linter.unusedSimpArgs false
set_option linter.unusedVariables false
namespace Go.Proofs.Ytaogkonanncpiaa
open Go Go.Dx Go.RowKit
theorem mix : Try.prog.follows .mixedOrders = true := by kernel_rfl
theorem agg63 : AggT Try.prog 63 8 := AggT.of (by kernel_rfl) (by kernel_rfl)
theorem agg93 : AggT Try.prog 93 64 := AggT.of (by kernel_rfl) (by kernel_rfl)
theorem arrb63 : ArrB Try.prog 63 [(0, 1), (1, 1), (2, 1), (3, 1), (4, 1), (5, 1), (6, 1), (7, 1)] [.int .u32 0, .int .u32 0, .int .u32 0, .int .u32 0, .int .u32 0, .int .u32 0, .int .u32 0, .int .u32 0] := ArrB.of (m := 8) (e := 62) (sz := 1) (by kernel_rfl) (by kernel_rfl) (by kernel_rfl) (by decide)
theorem arrb93 : ArrB Try.prog 93 ((List.range 64).map fun i => (i * 1, 1)) (List.replicate 64 (.int .u32 0)) := ArrB.of (m := 64) (e := 62) (sz := 1) (by kernel_rfl) (by kernel_rfl) (by kernel_rfl) (by decide)
theorem fld117_0 : FldAt Try.prog 117 0 0 := FldAt.of (n := 7) (by kernel_rfl)
theorem fld117_1 : FldAt Try.prog 117 1 8 := FldAt.of (n := 0) (by kernel_rfl)
theorem fld117_2 : FldAt Try.prog 117 2 9 := FldAt.of (n := 0) (by kernel_rfl)
theorem fld117_3 : FldAt Try.prog 117 3 10 := FldAt.of (n := 63) (by kernel_rfl)
theorem mk5 : MkT Try.prog 5 1 1 := MkT.of (by kernel_rfl)
theorem ok21 : CallOk Try.prog 21 := CallOk.of (by kernel_rfl)
theorem ok33 : CallOk Try.prog 33 := CallOk.of (by kernel_rfl)
theorem ok35 : CallOk Try.prog 35 := CallOk.of (by kernel_rfl)
theorem ok36 : CallOk Try.prog 36 := CallOk.of (by kernel_rfl)
theorem ok40 : CallOk Try.prog 40 := CallOk.of (by kernel_rfl)
theorem ok51 : CallOk Try.prog 51 := CallOk.of (by kernel_rfl)
theorem ok53 : CallOk Try.prog 53 := CallOk.of (by kernel_rfl)
theorem ok54 : CallOk Try.prog 54 := CallOk.of (by kernel_rfl)
theorem ok55 : CallOk Try.prog 55 := CallOk.of (by kernel_rfl)
theorem ok69 : CallOk Try.prog 69 := CallOk.of (by kernel_rfl)
theorem ok70 : CallOk Try.prog 70 := CallOk.of (by kernel_rfl)
theorem ok71 : CallOk Try.prog 71 := CallOk.of (by kernel_rfl)
theorem ok76 : CallOk Try.prog 76 := CallOk.of (by kernel_rfl)
theorem ok77 : CallOk Try.prog 77 := CallOk.of (by kernel_rfl)
theorem ok78 : CallOk Try.prog 78 := CallOk.of (by kernel_rfl)
theorem ok79 : CallOk Try.prog 79 := CallOk.of (by kernel_rfl)
theorem ok80 : CallOk Try.prog 80 := CallOk.of (by kernel_rfl)
theorem one3 : OneT Try.prog 3 := OneT.of (by kernel_rfl)
theorem one5 : OneT Try.prog 5 := OneT.of (by kernel_rfl)
theorem one56 : OneT Try.prog 56 := OneT.of (by kernel_rfl)
theorem one62 : OneT Try.prog 62 := OneT.of (by kernel_rfl)
theorem one9 : OneT Try.prog 9 := OneT.of (by kernel_rfl)
theorem strb117 : StrB Try.prog 117 [(0, 8), (8, 1), (9, 1), (10, 64)] [.int .u32 0, .int .u32 0, .int .u32 0, .int .u32 0, .int .u32 0, .int .u32 0, .int .u32 0, .int .u32 0, .slice none 0 0, .int .i64 0, .int .u32 0, .int .u32 0, .int .u32 0, .int .u32 0, .int .u32 0, .int .u32 0, .int .u32 0, .int .u32 0, .int .u32 0, .int .u32 0, .int .u32 0, .int .u32 0, .int .u32 0, .int .u32 0, .int .u32 0, .int .u32 0, .int .u32 0, .int .u32 0, .int .u32 0, .int .u32 0, .int .u32 0, .int .u32 0, .int .u32 0, .int .u32 0, .int .u32 0, .int .u32 0, .int .u32 0, .int .u32 0, .int .u32 0, .int .u32 0, .int .u32 0, .int .u32 0, .int .u32 0, .int .u32 0, .int .u32 0, .int .u32 0, .int .u32 0, .int .u32 0, .int .u32 0, .int .u32 0, .int .u32 0, .int .u32 0, .int .u32 0, .int .u32 0, .int .u32 0, .int .u32 0, .int .u32 0, .int .u32 0, .int .u32 0, .int .u32 0, .int .u32 0, .int .u32 0, .int .u32 0, .int .u32 0, .int .u32 0, .int .u32 0, .int .u32 0, .int .u32 0, .int .u32 0, .int .u32 0, .int .u32 0, .int .u32 0, .int .u32 0, .int .u32 0] := StrB.of (by kernel_rfl) (by kernel_rfl)
theorem sz3 : SzIs Try.prog 3 1 := SzIs.of (by kernel_rfl)
theorem sz5 : SzIs Try.prog 5 1 := SzIs.of (by kernel_rfl)
theorem sz56 : SzIs Try.prog 56 1 := SzIs.of (by kernel_rfl)
theorem sz62 : SzIs Try.prog 62 1 := SzIs.of (by kernel_rfl)
theorem sz63 : SzIs Try.prog 63 8 := SzIs.of (by kernel_rfl)
theorem sz9 : SzIs Try.prog 9 1 := SzIs.of (by kernel_rfl)
theorem sz93 : SzIs Try.prog 93 64 := SzIs.of (by kernel_rfl)
theorem tyI3 : Try.prog.underlying 3 = some (.int .i64) := by kernel_rfl
theorem tyI38 : Try.prog.underlying 38 = some (.int .u64) := by kernel_rfl
theorem tyI5 : Try.prog.underlying 5 = some (.int .u8) := by kernel_rfl
theorem tyI62 : Try.prog.underlying 62 = some (.int .u32) := by kernel_rfl
theorem tyL122 : Try.prog.underlying 122 = some (.slice 62) := by kernel_rfl
theorem tyL24 : Try.prog.underlying 24 = some (.slice 9) := by kernel_rfl
theorem tyL56 : Try.prog.underlying 56 = some (.slice 5) := by kernel_rfl
theorem tyS9 : Try.prog.underlying 9 = some .string := by kernel_rfl
theorem zero119 : ZeroT Try.prog 119 [.int .u8 0, .int .u8 0, .int .u8 0, .int .u8 0, .int .u8 0, .int .u8 0, .int .u8 0, .int .u8 0] := ZeroT.of (by kernel_rfl)
theorem zero63 : ZeroT Try.prog 63 [.int .u32 0, .int .u32 0, .int .u32 0, .int .u32 0, .int .u32 0, .int .u32 0, .int .u32 0, .int .u32 0] := ZeroT.of (by kernel_rfl)
theorem zero93 : ZeroT Try.prog 93 (List.replicate 64 (.int .u32 0)) := ZeroT.of (by kernel_rfl)
theorem art119 : ArT Try.prog 119 8 5 1 := ⟨by kernel_rfl, sz5⟩
theorem art63 : ArT Try.prog 63 8 62 1 := ⟨by kernel_rfl, sz62⟩
theorem art93 : ArT Try.prog 93 64 62 1 := ⟨by kernel_rfl, sz62⟩
theorem slt122 : SlT Try.prog 122 62 1 := ⟨tyL122, sz62⟩
theorem slt24 : SlT Try.prog 24 9 1 := ⟨tyL24, sz9⟩
theorem slt56 : SlT Try.prog 56 5 1 := ⟨tyL56, sz5⟩
theorem slt_a56_56 : AppT Try.prog 56 56 5 1 1 := AppT.of (sz := 0) tyL56 (by kernel_rfl) (by kernel_rfl)
theorem slt_a56_9 : AppT Try.prog 56 9 5 1 1 := AppT.of (sz := 0) tyL56 (by kernel_rfl) (by kernel_rfl)
theorem slt_b24 : BldT Try.prog 24 9 1 := BldT.of tyL24 (by kernel_rfl)
theorem slt_b56 : BldT Try.prog 56 5 1 := BldT.of tyL56 (by kernel_rfl)
theorem rot_and : ∀ n : Nat, n < 32 → 0 < n → IntKind.u64.wrap ((BitVec.ofInt IntKind.u64.bits (IntKind.u64.wrap (-(n : Int))) &&& BitVec.ofInt IntKind.u64.bits 31).toNat : Int) = 32 - (n : Int) := by decide +kernel
theorem rot_sub : ∀ n : Nat, n < 32 → 0 < n → IntKind.u64.wrap (32 - (32 - (n : Int))) = (n : Int) := by decide +kernel
theorem c_RotateLeft32 (x : BitVec 32) (n : Nat) (h1 : 0 < n) (h2 : n < 32) (w0 : World) (h0 : View) (hv : VLe h0 (Full w0))  : Calls Try.prog 80 #[v32 x, .int .i64 (-(n : Int))] w0 (Ret w0 h0 fun u _ => u = v32 (rotrS x n)) := by
  refine f_enter (args := [v32 x, .int .i64 (-(n : Int))]) Try.func80 rfl Try.ntmps80 rfl fun a hF => ?_
  have hS := St.init w0 h0 hv
  refine c_seq ?_
  refine c_reg ?_
  refine s_pu hF (pu_assign rfl) rfl ?_; clear hF; intro a hF
  refine c_nil ?_
  refine n_then ?_
  refine c_seq ?_
  refine c_reg ?_
  refine s_pu hF (pu_move rfl) rfl ?_; clear hF; intro a hF
  refine s_pu hF (pu_conv tyI38 ⟨_, tyI3⟩ rfl (by first | exact wrap_u64 (by omega) (by omega) | rfl)) rfl ?_; clear hF; intro a hF
  refine s_pu hF (pu_and rfl rfl (rot_and n h2 h1)) rfl ?_; clear hF; intro a hF
  refine s_pu hF (pu_assign rfl) rfl ?_; clear hF; intro a hF
  refine c_nil ?_
  refine n_then ?_
  refine c_seq ?_
  refine c_reg ?_
  refine s_pu hF (pu_move rfl) rfl ?_; clear hF; intro a hF
  refine s_pu hF (pu_move rfl) rfl ?_; clear hF; intro a hF
  refine s_pu hF (p32_shl (m := 32 - n) rfl rfl (by omega)) rfl ?_; clear hF; intro a hF
  refine s_pu hF (pu_move rfl) rfl ?_; clear hF; intro a hF
  refine s_pu hF (pu_move rfl) rfl ?_; clear hF; intro a hF
  refine s_pu hF (pu_sub rfl rfl (rot_sub n h2 h1)) rfl ?_; clear hF; intro a hF
  refine s_pu hF (p32_shr (m := n) rfl rfl rfl) rfl ?_; clear hF; intro a hF
  refine s_pu hF (p32_or rfl rfl) rfl ?_; clear hF; intro a hF
  refine s_pu hF (pu_assign rfl) rfl ?_; clear hF; intro a hF
  refine c_nil ?_
  refine n_then ?_
  refine c_ret ?_
  exact f_ret hF rfl (.tmp rfl (.nil)) (hS.retv rfl)
theorem c_rotr (x : BitVec 32) (n : Nat) (h1 : 0 < n) (h2 : n < 32) (w0 : World) (h0 : View) (hv : VLe h0 (Full w0))  : Calls Try.prog 79 #[v32 x, .int .i64 n] w0 (Ret w0 h0 fun u _ => u = v32 (rotrS x n)) := by
  refine f_enter (args := [v32 x, .int .i64 n]) Try.func79 rfl Try.ntmps79 rfl fun a hF => ?_
  have hS := St.init w0 h0 hv
  refine c_seq ?_
  refine c_reg ?_
  refine s_pu hF (pu_assign rfl) rfl ?_; clear hF; intro a hF
  refine c_nil ?_
  refine n_then ?_
  refine c_seq ?_
  refine c_reg ?_
  refine s_pu hF (pu_move rfl) rfl ?_; clear hF; intro a hF
  refine s_pu hF (pu_move rfl) rfl ?_; clear hF; intro a hF
  refine s_pu hF (pu_neg (r := -(n : Int)) rfl (by rw [Int.zero_sub]; exact wrap_i64 (by omega) (by omega))) rfl ?_; clear hF; intro a hF
  refine s_callv hF hS ok80 rfl (c_RotateLeft32 x n h1 h2 _ _ hS.view) rfl ?_; clear hS hF; intro w a hS hF
  refine s_pu hF (pu_assign rfl) rfl ?_; clear hF; intro a hF
  refine c_nil ?_
  refine n_then ?_
  refine c_ret ?_
  exact f_ret hF rfl (.tmp rfl (.nil)) (hS.retv rfl)
theorem c_turn (x : BitVec 32) (n : Nat) (h1 : 0 < n) (h2 : n < 32) (w0 : World) (h0 : View) (hv : VLe h0 (Full w0))  : Calls Try.prog 54 #[v32 x, .int .i64 n] w0 (Ret w0 h0 fun u _ => u = v32 (rotrS x n)) := by
  refine f_enter (args := [v32 x, .int .i64 n]) Try.func54 rfl Try.ntmps54 rfl fun a hF => ?_
  have hS := St.init w0 h0 hv
  refine c_seq ?_
  refine c_reg ?_
  refine s_pu hF (pu_assign rfl) rfl ?_; clear hF; intro a hF
  refine c_nil ?_
  refine n_then ?_
  refine c_seq ?_
  refine region_st 9 hF hS (allV_ne rfl) mix (by kernel_rfl) fun Γ hG => ?_
  refine t_pu hG (fun w hC => pu_move rfl) ?_; clear hG; intro Γ hG
  refine t_pu hG (fun w hC => pu_move rfl) ?_; clear hG; intro Γ hG
  refine t_pu hG (fun w hC => p32_shr (m := n) rfl rfl rfl) ?_; clear hG; intro Γ hG
  refine t_pu hG (fun w hC => pu_move rfl) ?_; clear hG; intro Γ hG
  refine t_pu hG (fun w hC => pu_move rfl) ?_; clear hG; intro Γ hG
  refine t_pu hG (fun w hC => pu_sub (r := ((32 - n : Nat) : Int)) rfl rfl (by rw [wrap_i64 (by omega) (by omega)]; omega)) ?_; clear hG; intro Γ hG
  refine t_pu hG (fun w hC => p32_shl (m := 32 - n) rfl rfl rfl) ?_; clear hG; intro Γ hG
  refine t_pu hG (fun w hC => p32_or rfl rfl) ?_; clear hG; intro Γ hG
  refine t_pu hG (fun w hC => pu_assign rfl) ?_; clear hG; intro Γ hG
  refine t_end hG ?_; clear hG hF; intro a w hC hE hF hP; replace hS := hC.st; clear hC
  clear hE
  clear hP
  refine c_nil ?_
  refine n_then ?_
  refine c_ret ?_
  exact f_ret hF rfl (.tmp rfl (.nil)) (hS.retv (by rw [rotrS, BitVec.or_comm]; rfl))
theorem c_k (t : Nat) (ht : t < 64) (w0 : World) (h0 : View) (hv : VLe h0 (Full w0))  : Calls Try.prog 55 #[.int .i64 t] w0 (Ret w0 h0 fun u _ => u = v32 (K.getD t 0)) := by
  refine f_enter (args := [.int .i64 t]) Try.func55 rfl Try.ntmps55 rfl fun a hF => ?_
  have hS := St.init w0 h0 hv
  refine c_seq ?_
  refine c_reg ?_
  refine s_pu hF (pu_assign rfl) rfl ?_; clear hF; intro a hF
  refine c_nil ?_
  refine n_then ?_
  refine c_seq ?_
  refine c_reg ?_
  refine s_pu hF (pu_build_ar (cs := K.map v32) (vsl := K.map v32) arrb93 (by kernel_rfl) (by kernel_rfl)) rfl ?_; clear hF; intro a hF
  refine s_pu hF (pu_move rfl) rfl ?_; clear hF; intro a hF
  refine s_pu hF (pu_index_ar (cs := K.map v32) art93 one62 rfl rfl (by omega) (by omega) (by rw [Int.toNat_natCast]; exact map_get v32 K 0 (by simp [K]; omega))) rfl ?_; clear hF; intro a hF
  refine s_pu hF (pu_assign rfl) rfl ?_; clear hF; intro a hF
  refine c_nil ?_
  refine n_then ?_
  refine c_ret ?_
  exact f_ret hF rfl (.tmp rfl (.nil)) (hS.retv rfl)
theorem c_spread (bw : Nat) (ad : Option Addr) (cap : Nat) (bl : List UInt8) (w0 : World) (h0 : View) (hv : VLe h0 (Full w0)) (hb : SlC 5 1 (flatR fun b => [v8 b]) h0 (.slice ad bl.length cap) bl) (hbl : bl.length = 64)
    (hw : w0.heap[bw]? = some (.cells (List.replicate 64 (v32 0)).toArray 93 (0, 0))) (hbw : h0 bw = none) : Calls Try.prog 78 #[.slice ad bl.length cap, .pointer (some ⟨bw, 0, none⟩)] w0 (RetM [bw] w0 fun v w' => v = .tuple #[] ∧ CellsC 93 ((sched bl).map v32) w'.heap[bw]?) := by
  refine f_enter (args := [.slice ad bl.length cap, .pointer (some ⟨bw, 0, none⟩)]) Try.func78 rfl Try.ntmps78 rfl fun a hF => ?_
  have hS := St.init1 w0 h0 hv bw (CellsC 93 (List.replicate 64 (v32 0))) hw rfl hbw
  refine c_seq ?_
  refine c_seq ?_
  refine c_reg ?_
  refine s_pu hF (pu_move rfl) rfl ?_; clear hF; intro a hF
  refine c_nil ?_
  refine n_then ?_
  refine c_block ?_
  refine hS.cut fun O0 F0 hO0 hF0 hS => ?_
  subst hO0
  refine hF.cut (.cons (k := 8) rfl <| .nil) (.cons (k := 0) rfl <| .cons (k := 1) rfl <| .nil) fun L0 hL0 hF => ?_
  refine c_loop (α := Nat) (fun k a w => k ≤ 16 ∧ Fr a 100 ([(8, .val (.int .i64 k))] ++ L0) ∧ St w0 h0 [bw] w [(some bw, CellsC 93 ((wl bl k ++ List.replicate (64 - k) 0).map v32))] F0) (fun k => 16 - k) 0 (⟨by omega, hF, hS⟩) ?_
  subst hF0 hL0
  rintro k a w ⟨hk, hF, hS⟩
  refine c_seq ?_
  refine c_reg ?_
  refine s_pu hF (pu_ilt rfl rfl) rfl ?_; clear hF; intro a hF
  refine c_nil ?_
  refine n_then ?_
  refine c_seq ?_
  refine c_if hF rfl (fun hc9 => ?_) (fun hc9 => ?_)
  · try simp only [decide_eq_true_eq, decide_eq_false_iff_not, Bool.not_eq_true', Bool.not_eq_false', Bool.not_eq_eq_eq_not, Bool.not_true, Bool.not_false] at hc9
    obtain ⟨g0, o0, ha0, H0⟩ := hb.atD 0 (i := 4 * k + 0) (by omega)
    obtain ⟨g1, o1, ha1, H1⟩ := hb.atD 0 (i := 4 * k + 1) (by omega)
    obtain ⟨g2, o2, ha2, H2⟩ := hb.atD 0 (i := 4 * k + 2) (by omega)
    obtain ⟨g3, o3, ha3, H3⟩ := hb.atD 0 (i := 4 * k + 3) (by omega)
    refine c_skip ?_
    refine n_then ?_
    refine c_seq ?_
    refine c_block ?_
    refine c_seq ?_
    refine c_reg ?_
    refine s_pu hF (pu_move rfl) rfl ?_; clear hF; intro a hF
    refine s_pu hF (pu_assign rfl) rfl ?_; clear hF; intro a hF
    refine c_nil ?_
    refine n_then ?_
    refine region_st 37 hF hS (allV_ne rfl) mix (by kernel_rfl) fun Γ hG => ?_
    refine t_pu hG (fun w hC => pu_move rfl) ?_; clear hG; intro Γ hG
    refine t_pu hG (fun w hC => pu_move rfl) ?_; clear hG; intro Γ hG
    refine t_pu hG (fun w hC => pu_move rfl) ?_; clear hG; intro Γ hG
    refine t_pu hG (fun w hC => pu_move rfl) ?_; clear hG; intro Γ hG
    refine t_pu hG (fun w hC => pu_mul rfl rfl (by first | exact wrap_i64 (by omega) (by omega) | rfl)) ?_; clear hG; intro Γ hG
    refine t_pu hG (fun w hC => pu_iaddr_sla (j := 4 * k + 0) ha0 slt56 rfl rfl (by omega) (by omega)) ?_; clear hG; intro Γ hG
    refine t_pu hG (fun w hC => pu_load1 one5 rfl (H0 _ hC.st.base)) ?_; clear hG; intro Γ hG
    refine t_pu hG (fun w hC => p32_of8 tyI62 ⟨_, tyI5⟩ rfl) ?_; clear hG; intro Γ hG
    refine t_pu hG (fun w hC => p32_shl (m := 24) rfl rfl rfl) ?_; clear hG; intro Γ hG
    refine t_pu hG (fun w hC => pu_move rfl) ?_; clear hG; intro Γ hG
    refine t_pu hG (fun w hC => pu_move rfl) ?_; clear hG; intro Γ hG
    refine t_pu hG (fun w hC => pu_mul rfl rfl (by first | exact wrap_i64 (by omega) (by omega) | rfl)) ?_; clear hG; intro Γ hG
    refine t_pu hG (fun w hC => pu_add rfl rfl (by first | exact wrap_i64 (by omega) (by omega) | rfl)) ?_; clear hG; intro Γ hG
    refine t_pu hG (fun w hC => pu_iaddr_sla (j := 4 * k + 1) ha1 slt56 rfl rfl (by omega) (by omega)) ?_; clear hG; intro Γ hG
    refine t_pu hG (fun w hC => pu_load1 one5 rfl (H1 _ hC.st.base)) ?_; clear hG; intro Γ hG
    refine t_pu hG (fun w hC => p32_of8 tyI62 ⟨_, tyI5⟩ rfl) ?_; clear hG; intro Γ hG
    refine t_pu hG (fun w hC => p32_shl (m := 16) rfl rfl rfl) ?_; clear hG; intro Γ hG
    refine t_pu hG (fun w hC => p32_or rfl rfl) ?_; clear hG; intro Γ hG
    refine t_pu hG (fun w hC => pu_move rfl) ?_; clear hG; intro Γ hG
    refine t_pu hG (fun w hC => pu_move rfl) ?_; clear hG; intro Γ hG
    refine t_pu hG (fun w hC => pu_mul rfl rfl (by first | exact wrap_i64 (by omega) (by omega) | rfl)) ?_; clear hG; intro Γ hG
    refine t_pu hG (fun w hC => pu_add rfl rfl (by first | exact wrap_i64 (by omega) (by omega) | rfl)) ?_; clear hG; intro Γ hG
    refine t_pu hG (fun w hC => pu_iaddr_sla (j := 4 * k + 2) ha2 slt56 rfl rfl (by omega) (by omega)) ?_; clear hG; intro Γ hG
    refine t_pu hG (fun w hC => pu_load1 one5 rfl (H2 _ hC.st.base)) ?_; clear hG; intro Γ hG
    refine t_pu hG (fun w hC => p32_of8 tyI62 ⟨_, tyI5⟩ rfl) ?_; clear hG; intro Γ hG
    refine t_pu hG (fun w hC => p32_shl (m := 8) rfl rfl rfl) ?_; clear hG; intro Γ hG
    refine t_pu hG (fun w hC => p32_or rfl rfl) ?_; clear hG; intro Γ hG
    refine t_pu hG (fun w hC => pu_move rfl) ?_; clear hG; intro Γ hG
    refine t_pu hG (fun w hC => pu_move rfl) ?_; clear hG; intro Γ hG
    refine t_pu hG (fun w hC => pu_mul rfl rfl (by first | exact wrap_i64 (by omega) (by omega) | rfl)) ?_; clear hG; intro Γ hG
    refine t_pu hG (fun w hC => pu_add rfl rfl (by first | exact wrap_i64 (by omega) (by omega) | rfl)) ?_; clear hG; intro Γ hG
    refine t_pu hG (fun w hC => pu_iaddr_sla (j := 4 * k + 3) ha3 slt56 rfl rfl (by omega) (by omega)) ?_; clear hG; intro Γ hG
    refine t_pu hG (fun w hC => pu_load1 one5 rfl (H3 _ hC.st.base)) ?_; clear hG; intro Γ hG
    refine t_pu hG (fun w hC => p32_of8 tyI62 ⟨_, tyI5⟩ rfl) ?_; clear hG; intro Γ hG
    refine t_pu hG (fun w hC => p32_or rfl rfl) ?_; clear hG; intro Γ hG
    refine t_pu hG (fun w hC => pu_nil rfl) ?_; clear hG; intro Γ hG
    refine t_pu hG (fun w hC => pu_iaddr_arn art93 rfl rfl rfl (by omega)) ?_; clear hG; intro Γ hG
    refine t_end hG ?_; clear hG hF; intro a w hC hE hF hP; replace hS := hC.st; clear hC
    clear hE
    clear hP
    refine s_store (i := 0) hF hS rfl rfl rfl rfl sz62 rfl (by simp [wl_len]; omega) ?_; clear hS hF; intro w a hS hF
    refine c_nil ?_
    refine n_block ?_
    refine n_then ?_
    refine c_reg ?_
    refine s_pu hF (pu_add rfl rfl (by first | exact wrap_i64 (by omega) (by omega) | rfl)) rfl ?_; clear hF; intro a hF
    refine s_pu hF (pu_move rfl) rfl ?_; clear hF; intro a hF
    refine c_nil ?_
    refine ⟨k + 1, ⟨by omega, hF.pick (.cons (k := 8) rfl <| .cons (k := 0) rfl <| .cons (k := 1) rfl <| .nil), ?_⟩, by omega⟩
    rw [show 0 + k * 1 = k by omega] at hS
    rw [spl_snoc v32 (wl bl k) 0 _ k (64 - k) (wl_len bl k) (by omega)] at hS
    have e : wl bl (k + 1) = wl bl k ++ [word bl k] := by rw [wl, if_pos (by omega)]
    rw [e, show 64 - (k + 1) = 64 - k - 1 by omega]
    exact hS
  · try simp only [decide_eq_true_eq, decide_eq_false_iff_not, Bool.not_eq_true', Bool.not_eq_false', Bool.not_eq_eq_eq_not, Bool.not_true, Bool.not_false] at hc9
    obtain rfl : k = 16 := by omega
    refine c_exit (x_then (x_then (x_here ?_)))
    refine n_then ?_
    refine c_seq ?_
    refine c_reg ?_
    refine s_pu hF (pu_assign rfl) rfl ?_; clear hF; intro a hF
    refine c_nil ?_
    refine n_then ?_
    refine c_block ?_
    refine hS.cut fun O1 F1 hO1 hF1 hS => ?_
    subst hO1
    refine hF.cut (.cons (k := 5) rfl <| .nil) (.cons (k := 1) rfl <| .nil) fun L1 hL1 hF => ?_
    refine c_loop (α := Nat) (fun k a w => 16 ≤ k ∧ k ≤ 64 ∧ Fr a 100 ([(5, .val (.int .i64 k))] ++ L1) ∧ St w0 h0 [bw] w [(some bw, CellsC 93 ((wl bl k ++ List.replicate (64 - k) 0).map v32))] F1) (fun k => 64 - k) 16 (⟨by omega, by omega, hF, hS⟩) ?_
    subst hF1 hL1
    rintro k a w ⟨hk0, hk, hF, hS⟩
    refine c_seq ?_
    refine c_seq ?_
    refine c_reg ?_
    refine s_pu hF (pu_move rfl) rfl ?_; clear hF; intro a hF
    refine s_pu hF (pu_ilt rfl rfl) rfl ?_; clear hF; intro a hF
    refine c_nil ?_
    refine n_then ?_
    refine c_if hF rfl (fun hc50 => ?_) (fun hc50 => ?_)
    · try simp only [decide_eq_true_eq, decide_eq_false_iff_not, Bool.not_eq_true', Bool.not_eq_false', Bool.not_eq_eq_eq_not, Bool.not_true, Bool.not_false] at hc50
      refine c_skip ?_
      refine n_then ?_
      refine c_seq ?_
      refine c_block ?_
      refine c_seq ?_
      refine region_st 14 hF hS (allV_ne rfl) mix (by kernel_rfl) fun Γ hG => ?_
      refine t_pu hG (fun w hC => pu_move rfl) ?_; clear hG; intro Γ hG
      refine t_pu hG (fun w hC => pu_move rfl) ?_; clear hG; intro Γ hG
      refine t_pu hG (fun w hC => pu_sub rfl rfl (by first | exact wrap_i64 (by omega) (by omega) | rfl)) ?_; clear hG; intro Γ hG
      refine t_pu hG (fun w hC => pu_nil rfl) ?_; clear hG; intro Γ hG
      refine t_pu hG (fun w hC => pu_iaddr_arn (j := k - 15) art93 rfl rfl (by omega) (by omega)) ?_; clear hG; intro Γ hG
      refine t_pu hG (fun w hC => o_load1 (i := 0) hC.st rfl one62 rfl (by rw [show 0 + (k - 15) * 1 = k - 15 by omega]; exact map_get_app v32 _ _ 0 (by rw [wl_len]; omega))) ?_; clear hG; intro Γ hG
      refine t_pu hG (fun w hC => pu_move rfl) ?_; clear hG; intro Γ hG
      refine t_pu hG (fun w hC => pu_move rfl) ?_; clear hG; intro Γ hG
      refine t_pu hG (fun w hC => pu_sub rfl rfl (by first | exact wrap_i64 (by omega) (by omega) | rfl)) ?_; clear hG; intro Γ hG
      refine t_pu hG (fun w hC => pu_nil rfl) ?_; clear hG; intro Γ hG
      refine t_pu hG (fun w hC => pu_iaddr_arn (j := k - 2) art93 rfl rfl (by omega) (by omega)) ?_; clear hG; intro Γ hG
      refine t_pu hG (fun w hC => o_load1 (i := 0) hC.st rfl one62 rfl (by rw [show 0 + (k - 2) * 1 = k - 2 by omega]; exact map_get_app v32 _ _ 0 (by rw [wl_len]; omega))) ?_; clear hG; intro Γ hG
      refine t_pu hG (fun w hC => pu_assign rfl) ?_; clear hG; intro Γ hG
      refine t_pu hG (fun w hC => pu_assign rfl) ?_; clear hG; intro Γ hG
      refine t_end hG ?_; clear hG hF; intro a w hC hE hF hP; replace hS := hC.st; clear hC
      clear hE
      clear hP
      refine c_nil ?_
      refine n_then ?_
      refine region_st 35 hF hS (allV_ne rfl) mix (by kernel_rfl) fun Γ hG => ?_
      refine t_pu hG (fun w hC => pu_move rfl) ?_; clear hG; intro Γ hG
      refine t_pu hG (fun w hC => pu_move rfl) ?_; clear hG; intro Γ hG
      refine t_pu hG (fun w hC => pu_move rfl) ?_; clear hG; intro Γ hG
      refine t_pu hG (fun w hC => pu_move rfl) ?_; clear hG; intro Γ hG
      refine t_pu hG (fun w hC => pu_sub rfl rfl (by first | exact wrap_i64 (by omega) (by omega) | rfl)) ?_; clear hG; intro Γ hG
      refine t_pu hG (fun w hC => pu_nil rfl) ?_; clear hG; intro Γ hG
      refine t_pu hG (fun w hC => pu_iaddr_arn (j := k - 16) art93 rfl rfl (by omega) (by omega)) ?_; clear hG; intro Γ hG
      refine t_pu hG (fun w hC => o_load1 (i := 0) hC.st rfl one62 rfl (by rw [show 0 + (k - 16) * 1 = k - 16 by omega]; exact map_get_app v32 _ _ 0 (by rw [wl_len]; omega))) ?_; clear hG; intro Γ hG
      refine t_pu hG (fun w hC => pu_move rfl) ?_; clear hG; intro Γ hG
      refine t_pu hG (fun w hC => pu_move rfl) ?_; clear hG; intro Γ hG
      refine t_pu hG (fun w hC => pu_sub rfl rfl (by first | exact wrap_i64 (by omega) (by omega) | rfl)) ?_; clear hG; intro Γ hG
      refine t_pu hG (fun w hC => pu_nil rfl) ?_; clear hG; intro Γ hG
      refine t_pu hG (fun w hC => pu_iaddr_arn (j := k - 7) art93 rfl rfl (by omega) (by omega)) ?_; clear hG; intro Γ hG
      refine t_pu hG (fun w hC => o_load1 (i := 0) hC.st rfl one62 rfl (by rw [show 0 + (k - 7) * 1 = k - 7 by omega]; exact map_get_app v32 _ _ 0 (by rw [wl_len]; omega))) ?_; clear hG; intro Γ hG
      refine t_pu hG (fun w hC => p32_add rfl rfl) ?_; clear hG; intro Γ hG
      refine t_pu hG (fun w hC => pu_move rfl) ?_; clear hG; intro Γ hG
      refine t_callv hG ok79 rfl (fun w hS => (c_rotr _ 7 (by omega) (by omega) _ _ hS.view)) ?_; clear hG; intro Γ hG
      refine t_pu hG (fun w hC => pu_move rfl) ?_; clear hG; intro Γ hG
      refine t_callv hG ok79 rfl (fun w hS => (c_rotr _ 18 (by omega) (by omega) _ _ hS.view)) ?_; clear hG; intro Γ hG
      refine t_pu hG (fun w hC => p32_xor rfl rfl) ?_; clear hG; intro Γ hG
      refine t_pu hG (fun w hC => pu_move rfl) ?_; clear hG; intro Γ hG
      refine t_pu hG (fun w hC => p32_shr (m := 3) rfl rfl rfl) ?_; clear hG; intro Γ hG
      refine t_pu hG (fun w hC => p32_xor rfl rfl) ?_; clear hG; intro Γ hG
      refine t_pu hG (fun w hC => p32_add rfl rfl) ?_; clear hG; intro Γ hG
      refine t_pu hG (fun w hC => pu_move rfl) ?_; clear hG; intro Γ hG
      refine t_callv hG ok79 rfl (fun w hS => (c_rotr _ 17 (by omega) (by omega) _ _ hS.view)) ?_; clear hG; intro Γ hG
      refine t_pu hG (fun w hC => pu_move rfl) ?_; clear hG; intro Γ hG
      refine t_callv hG ok79 rfl (fun w hS => (c_rotr _ 19 (by omega) (by omega) _ _ hS.view)) ?_; clear hG; intro Γ hG
      refine t_pu hG (fun w hC => p32_xor rfl rfl) ?_; clear hG; intro Γ hG
      refine t_pu hG (fun w hC => pu_move rfl) ?_; clear hG; intro Γ hG
      refine t_pu hG (fun w hC => p32_shr (m := 10) rfl rfl rfl) ?_; clear hG; intro Γ hG
      refine t_pu hG (fun w hC => p32_xor rfl rfl) ?_; clear hG; intro Γ hG
      refine t_pu hG (fun w hC => p32_add rfl rfl) ?_; clear hG; intro Γ hG
      refine t_pu hG (fun w hC => pu_nil rfl) ?_; clear hG; intro Γ hG
      refine t_pu hG (fun w hC => pu_iaddr_arn art93 rfl rfl rfl (by omega)) ?_; clear hG; intro Γ hG
      refine t_end hG ?_; clear hG hF; intro a w hC hE hF hP; replace hS := hC.st; clear hC
      clear hE
      clear hP
      refine s_store (i := 0) hF hS rfl rfl rfl rfl sz62 rfl (by simp [wl_len]; omega) ?_; clear hS hF; intro w a hS hF
      refine c_nil ?_
      refine n_block ?_
      refine n_then ?_
      refine c_reg ?_
      refine s_pu hF (pu_move rfl) rfl ?_; clear hF; intro a hF
      refine s_pu hF (pu_add rfl rfl (by first | exact wrap_i64 (by omega) (by omega) | rfl)) rfl ?_; clear hF; intro a hF
      refine s_pu hF (pu_assign rfl) rfl ?_; clear hF; intro a hF
      refine c_nil ?_
      refine ⟨k + 1, ⟨by omega, by omega, hF.pick (.cons (k := 5) rfl <| .cons (k := 1) rfl <| .nil), ?_⟩, by omega⟩
      rw [show 0 + k * 1 = k by omega] at hS
      rw [spl_snoc v32 (wl bl k) 0 _ k (64 - k) (wl_len bl k) (by omega)] at hS
      have e : wl bl (k + 1) = wl bl k ++ [wnext (wl bl k) k] := by rw [wl, if_neg (by omega)]
      rw [e, show 64 - (k + 1) = 64 - k - 1 by omega]
      exact hS
    · try simp only [decide_eq_true_eq, decide_eq_false_iff_not, Bool.not_eq_true', Bool.not_eq_false', Bool.not_eq_eq_eq_not, Bool.not_true, Bool.not_false] at hc50
      obtain rfl : k = 64 := by omega
      refine c_exit (x_then (x_then (x_here ?_)))
      refine f_end hF rfl (.nil) ?_
      refine hS.retM ⟨rfl, ?_⟩
      have := hS.at (i := 0) rfl
      simpa [sched] using this
theorem c_constants  (w0 : World) (h0 : View) (hv : VLe h0 (Full w0))  : Calls Try.prog 76 #[] w0 (Ret w0 h0 fun u _ => u = .agg (K.map v32).toArray) := by
  refine f_enter (args := []) Try.func76 rfl Try.ntmps76 rfl fun a hF => ?_
  have hS := St.init w0 h0 hv
  refine c_seq ?_
  refine c_reg ?_
  refine s_alloc hF hS zero93 rfl ?_; clear hS hF; intro b0 w a hS hF
  refine c_nil ?_
  refine n_then ?_
  refine c_seq ?_
  refine c_reg ?_
  refine s_pu hF (pu_build_ar (cs := K.map v32) (vsl := K.map v32) arrb93 (by kernel_rfl) (by kernel_rfl)) rfl ?_; clear hF; intro a hF
  refine s_store (i := 0) (new := K.map v32) hF hS rfl rfl rfl rfl (by exact sz93) (allOne_map _ (fun _ => rfl) _) (by simp [K_len]) ?_; clear hS hF; intro w a hS hF
  rw [spl_all (by simp [K_len])] at hS
  refine c_nil ?_
  refine n_then ?_
  refine c_ret ?_
  exact f_ret hF rfl (.cell rfl (o_lvA (cs := K.map v32) (i := 0) hS rfl (by exact agg93)) (.nil)) (hS.retv rfl)
theorem c_begin (w0 : World) (h0 : View) (hv : VLe h0 (Full w0)) : Calls Try.prog 69 #[] w0 (RetM [] w0 fun v w' => ∃ b, v = .pointer (some ⟨b, 0, none⟩) ∧ NewRow w0 117 (stC H0 (.slice none 0 0) 0) b w') := by
  refine f_enter (args := []) Try.func69 rfl Try.ntmps69 rfl fun a hF => ?_
  have hS := St.init w0 h0 hv
  refine c_seq ?_
  refine c_reg ?_
  refine s_pu hF (pu_assign rfl) rfl ?_; clear hF; intro a hF
  refine c_nil ?_
  refine n_then ?_
  refine c_seq ?_
  refine c_reg ?_
  refine s_pu hF (pu_build_ar (cs := H0.map v32) (vsl := H0.map v32) arrb63 (by kernel_rfl) (by kernel_rfl)) rfl ?_; clear hF; intro a hF
  refine s_callv hF hS ok76 rfl (c_constants _ _ hS.view) rfl ?_; clear hS hF; intro w a hS hF
  refine s_pu hF (pu_build_st (cs := stC H0 (.slice none 0 0) 0) (vsl := [.agg (H0.map v32).toArray, .agg (K.map v32).toArray]) strb117 rfl (by kernel_rfl)) rfl ?_; clear hF; intro a hF
  refine s_box (cs := stC H0 (.slice none 0 0) 0) hF hS rfl rfl rfl ?_; clear hS hF; intro b0 w a hS hF
  refine s_pu hF (pu_assign rfl) rfl ?_; clear hF; intro a hF
  refine c_nil ?_
  refine n_then ?_
  refine c_ret ?_
  refine f_ret hF rfl (.tmp rfl (.nil)) ?_
  refine hS.retM ⟨_, rfl, ?_, hS.at (i := 0) rfl⟩
  exact (hS.fresh _ (by simp [ids])).1.resolve_right (by simp)
theorem c_mix (bs : Nat) (h : List (BitVec 32)) (hh : h.length = 8) (rv : Value) (sz : Int) (ad : Option Addr) (cap : Nat) (bl : List UInt8) (w0 : World) (h0 : View) (hv : VLe h0 (Full w0)) (hb : SlC 5 1 (flatR fun b => [v8 b]) h0 (.slice ad bl.length cap) bl) (hbl : bl.length = 64)
    (hw : w0.heap[bs]? = some (.cells (stC h rv sz).toArray 117 (0, 0))) (hbs : h0 bs = none) : Calls Try.prog 77 #[.pointer (some ⟨bs, 0, none⟩), .slice ad bl.length cap] w0 (RetM [bs] w0 fun v w' => v = .tuple #[] ∧ CellsC 117 (stC (mixS h bl) rv sz) w'.heap[bs]?) := by
  refine f_enter (args := [.pointer (some ⟨bs, 0, none⟩), .slice ad bl.length cap]) Try.func77 rfl Try.ntmps77 rfl fun a hF => ?_
  have hS := St.init1 w0 h0 hv bs (CellsC 117 (stC h rv sz)) hw rfl hbs
  refine c_seq ?_
  refine c_reg ?_
  refine s_alloc hF hS zero93 rfl ?_; clear hS hF; intro b0 w a hS hF
  refine c_nil ?_
  refine n_then ?_
  refine c_seq ?_
  refine c_reg ?_
  refine s_pu hF (pu_move rfl) rfl ?_; clear hF; intro a hF
  refine s_callM1 (i := 0) hF hS rfl ok78 rfl (c_spread b0 ad cap bl _ (FullB _ b0) (fullB_le _ _) (hb.monoF (hS.base_fb (by simp [ids]))) hbl (hS.at (i := 0) rfl) (fullB_none _ _)) rfl ?_; clear hS hF; intro w a hS hF
  refine c_nil ?_
  refine n_then ?_
  refine c_seq ?_
  refine c_reg ?_
  refine s_pu hF (pu_move rfl) rfl ?_; clear hF; intro a hF
  refine s_pu hF (pu_nil rfl) rfl ?_; clear hF; intro a hF
  refine s_pu hF (pu_faddr fld117_0 rfl) rfl ?_; clear hF; intro a hF
  refine s_pu hF (o_loadA (i := 1) (new := h.map v32) hS rfl (by rw [List.length_map, hh]; exact agg63) rfl (stC_h hh rv sz)) rfl ?_; clear hF; intro a hF
  refine s_alloc hF hS zero63 rfl ?_; clear hS hF; intro b1 w a hS hF
  refine s_store (i := 0) (new := h.map v32) hF hS rfl rfl rfl rfl (by rw [List.length_map, hh]; exact sz63) (allOne_map _ (fun _ => rfl) _) (by simp [hh]) ?_; clear hS hF; intro w a hS hF
  rw [spl_all (by simp [hh])] at hS
  refine c_nil ?_
  refine n_then ?_
  refine c_seq ?_
  refine c_seq ?_
  refine c_reg ?_
  refine s_pu hF (pu_move rfl) rfl ?_; clear hF; intro a hF
  refine c_nil ?_
  refine n_then ?_
  refine c_block ?_
  refine hS.cut fun O0 F0 hO0 hF0 hS => ?_
  subst hO0
  refine hF.cut (.cons (k := 18) rfl <| .nil) (.cons (k := 0) rfl <| .cons (k := 4) rfl <| .cons (k := 5) rfl <| .nil) fun L0 hL0 hF => ?_
  refine c_loop (α := Nat) (fun k a w => k ≤ 64 ∧ Fr a 109 ([(18, .val (.int .i64 k))] ++ L0) ∧ St w0 h0 [bs] w [(some b1, CellsC 63 ((rnds h bl k).map v32)), (some b0, CellsC 93 ((sched bl).map v32)), (some bs, CellsC 117 (stC h rv sz))] F0) (fun k => 64 - k) 0 (⟨by omega, hF, hS⟩) ?_
  subst hF0 hL0
  rintro k a w ⟨hk, hF, hS⟩
  obtain ⟨x0, x1, x2, x3, x4, x5, x6, x7, hx8⟩ := eight (rnds_len hh bl k)
  rw [hx8] at hS
  simp only [List.map_cons, List.map_nil] at hS
  refine c_seq ?_
  refine c_reg ?_
  refine s_pu hF (pu_ilt rfl rfl) rfl ?_; clear hF; intro a hF
  refine c_nil ?_
  refine n_then ?_
  refine c_seq ?_
  refine c_if hF rfl (fun hc19 => ?_) (fun hc19 => ?_)
  · try simp only [decide_eq_true_eq, decide_eq_false_iff_not, Bool.not_eq_true', Bool.not_eq_false', Bool.not_eq_eq_eq_not, Bool.not_true, Bool.not_false] at hc19
    refine c_skip ?_
    refine n_then ?_
    refine c_seq ?_
    refine c_block ?_
    refine c_seq ?_
    refine c_reg ?_
    refine s_pu hF (pu_move rfl) rfl ?_; clear hF; intro a hF
    refine s_pu hF (pu_assign rfl) rfl ?_; clear hF; intro a hF
    refine c_nil ?_
    refine n_then ?_
    refine c_seq ?_
    refine region_st 6 hF hS (allV_ne rfl) mix (by kernel_rfl) fun Γ hG => ?_
    refine t_pu hG (fun w hC => pu_iaddr_arn (j := 0) art63 rfl rfl rfl (by omega)) ?_; clear hG; intro Γ hG
    refine t_pu hG (fun w hC => o_load1 (i := 0) hC.st rfl one62 rfl rfl) ?_; clear hG; intro Γ hG
    refine t_pu hG (fun w hC => pu_iaddr_arn (j := 4) art63 rfl rfl rfl (by omega)) ?_; clear hG; intro Γ hG
    refine t_pu hG (fun w hC => o_load1 (i := 0) hC.st rfl one62 rfl rfl) ?_; clear hG; intro Γ hG
    refine t_pu hG (fun w hC => pu_assign rfl) ?_; clear hG; intro Γ hG
    refine t_pu hG (fun w hC => pu_assign rfl) ?_; clear hG; intro Γ hG
    refine t_end hG ?_; clear hG hF; intro a w hC hE hF hP; replace hS := hC.st; clear hC
    clear hE
    clear hP
    refine c_nil ?_
    refine n_then ?_
    refine c_seq ?_
    refine region_st 34 hF hS (allV_ne rfl) mix (by kernel_rfl) fun Γ hG => ?_
    refine t_pu hG (fun w hC => pu_iaddr_arn (j := 7) art63 rfl rfl rfl (by omega)) ?_; clear hG; intro Γ hG
    refine t_pu hG (fun w hC => o_load1 (i := 0) hC.st rfl one62 rfl rfl) ?_; clear hG; intro Γ hG
    refine t_pu hG (fun w hC => pu_move rfl) ?_; clear hG; intro Γ hG
    refine t_callv hG ok79 rfl (fun w hS => (c_rotr _ 6 (by omega) (by omega) _ _ hS.view)) ?_; clear hG; intro Γ hG
    refine t_pu hG (fun w hC => pu_move rfl) ?_; clear hG; intro Γ hG
    refine t_callv hG ok79 rfl (fun w hS => (c_rotr _ 11 (by omega) (by omega) _ _ hS.view)) ?_; clear hG; intro Γ hG
    refine t_pu hG (fun w hC => p32_xor rfl rfl) ?_; clear hG; intro Γ hG
    refine t_pu hG (fun w hC => pu_move rfl) ?_; clear hG; intro Γ hG
    refine t_callv hG ok79 rfl (fun w hS => (c_rotr _ 25 (by omega) (by omega) _ _ hS.view)) ?_; clear hG; intro Γ hG
    refine t_pu hG (fun w hC => p32_xor rfl rfl) ?_; clear hG; intro Γ hG
    refine t_pu hG (fun w hC => p32_add rfl rfl) ?_; clear hG; intro Γ hG
    refine t_pu hG (fun w hC => pu_iaddr_arn (j := 6) art63 rfl rfl rfl (by omega)) ?_; clear hG; intro Γ hG
    refine t_pu hG (fun w hC => o_load1 (i := 0) hC.st rfl one62 rfl rfl) ?_; clear hG; intro Γ hG
    refine t_pu hG (fun w hC => pu_move rfl) ?_; clear hG; intro Γ hG
    refine t_pu hG (fun w hC => pu_iaddr_arn (j := 5) art63 rfl rfl rfl (by omega)) ?_; clear hG; intro Γ hG
    refine t_pu hG (fun w hC => o_load1 (i := 0) hC.st rfl one62 rfl rfl) ?_; clear hG; intro Γ hG
    refine t_pu hG (fun w hC => pu_iaddr_arn (j := 6) art63 rfl rfl rfl (by omega)) ?_; clear hG; intro Γ hG
    refine t_pu hG (fun w hC => o_load1 (i := 0) hC.st rfl one62 rfl rfl) ?_; clear hG; intro Γ hG
    refine t_pu hG (fun w hC => p32_xor rfl rfl) ?_; clear hG; intro Γ hG
    refine t_pu hG (fun w hC => p32_and rfl rfl) ?_; clear hG; intro Γ hG
    refine t_pu hG (fun w hC => p32_xor rfl rfl) ?_; clear hG; intro Γ hG
    refine t_pu hG (fun w hC => p32_add rfl rfl) ?_; clear hG; intro Γ hG
    refine t_pu hG (fun w hC => pu_move rfl) ?_; clear hG; intro Γ hG
    refine t_pu hG (fun w hC => pu_move rfl) ?_; clear hG; intro Γ hG
    refine t_pu hG (fun w hC => pu_nil rfl) ?_; clear hG; intro Γ hG
    refine t_pu hG (fun w hC => pu_faddr fld117_3 rfl) ?_; clear hG; intro Γ hG
    refine t_pu hG (fun w hC => pu_iaddr_arn art93 rfl rfl rfl (by omega)) ?_; clear hG; intro Γ hG
    refine t_pu hG (fun w hC => o_load1 (i := 2) hC.st rfl one62 rfl (by rw [show 0 + 10 + k * 1 = 10 + k by omega]; exact stC_k hh rv sz (by omega))) ?_; clear hG; intro Γ hG
    refine t_pu hG (fun w hC => p32_add rfl rfl) ?_; clear hG; intro Γ hG
    refine t_pu hG (fun w hC => pu_move rfl) ?_; clear hG; intro Γ hG
    refine t_pu hG (fun w hC => pu_iaddr_arn art93 rfl rfl rfl (by omega)) ?_; clear hG; intro Γ hG
    refine t_pu hG (fun w hC => o_load1 (i := 1) hC.st rfl one62 rfl (by rw [show 0 + k * 1 = k by omega]; exact map_get v32 (sched bl) 0 (by rw [sched, wl_len]; omega))) ?_; clear hG; intro Γ hG
    refine t_pu hG (fun w hC => p32_add rfl rfl) ?_; clear hG; intro Γ hG
    refine t_pu hG (fun w hC => pu_assign rfl) ?_; clear hG; intro Γ hG
    refine t_end hG ?_; clear hG hF; intro a w hC hE hF hP; replace hS := hC.st; clear hC
    clear hE
    clear hP
    refine c_nil ?_
    refine n_then ?_
    refine c_seq ?_
    refine region_st 22 hF hS (allV_ne rfl) mix (by kernel_rfl) fun Γ hG => ?_
    refine t_pu hG (fun w hC => pu_move rfl) ?_; clear hG; intro Γ hG
    refine t_callv hG ok79 rfl (fun w hS => (c_rotr _ 2 (by omega) (by omega) _ _ hS.view)) ?_; clear hG; intro Γ hG
    refine t_pu hG (fun w hC => pu_move rfl) ?_; clear hG; intro Γ hG
    refine t_callv hG ok79 rfl (fun w hS => (c_rotr _ 13 (by omega) (by omega) _ _ hS.view)) ?_; clear hG; intro Γ hG
    refine t_pu hG (fun w hC => p32_xor rfl rfl) ?_; clear hG; intro Γ hG
    refine t_pu hG (fun w hC => pu_move rfl) ?_; clear hG; intro Γ hG
    refine t_callv hG ok79 rfl (fun w hS => (c_rotr _ 22 (by omega) (by omega) _ _ hS.view)) ?_; clear hG; intro Γ hG
    refine t_pu hG (fun w hC => p32_xor rfl rfl) ?_; clear hG; intro Γ hG
    refine t_pu hG (fun w hC => pu_move rfl) ?_; clear hG; intro Γ hG
    refine t_pu hG (fun w hC => pu_iaddr_arn (j := 1) art63 rfl rfl rfl (by omega)) ?_; clear hG; intro Γ hG
    refine t_pu hG (fun w hC => o_load1 (i := 0) hC.st rfl one62 rfl rfl) ?_; clear hG; intro Γ hG
    refine t_pu hG (fun w hC => p32_and rfl rfl) ?_; clear hG; intro Γ hG
    refine t_pu hG (fun w hC => pu_iaddr_arn (j := 2) art63 rfl rfl rfl (by omega)) ?_; clear hG; intro Γ hG
    refine t_pu hG (fun w hC => o_load1 (i := 0) hC.st rfl one62 rfl rfl) ?_; clear hG; intro Γ hG
    refine t_pu hG (fun w hC => pu_move rfl) ?_; clear hG; intro Γ hG
    refine t_pu hG (fun w hC => pu_iaddr_arn (j := 1) art63 rfl rfl rfl (by omega)) ?_; clear hG; intro Γ hG
    refine t_pu hG (fun w hC => o_load1 (i := 0) hC.st rfl one62 rfl rfl) ?_; clear hG; intro Γ hG
    refine t_pu hG (fun w hC => p32_or rfl rfl) ?_; clear hG; intro Γ hG
    refine t_pu hG (fun w hC => p32_and rfl rfl) ?_; clear hG; intro Γ hG
    refine t_pu hG (fun w hC => p32_or rfl rfl) ?_; clear hG; intro Γ hG
    refine t_pu hG (fun w hC => p32_add rfl rfl) ?_; clear hG; intro Γ hG
    refine t_pu hG (fun w hC => pu_assign rfl) ?_; clear hG; intro Γ hG
    refine t_end hG ?_; clear hG hF; intro a w hC hE hF hP; replace hS := hC.st; clear hC
    clear hE
    clear hP
    refine c_nil ?_
    refine n_then ?_
    refine c_seq ?_
    refine region_st 2 hF hS (allV_ne rfl) mix (by kernel_rfl) fun Γ hG => ?_
    refine t_pu hG (fun w hC => pu_ar_slice (i := 1) (j := 8) art63 rfl ⟨_, rfl⟩ rfl (by omega) (by omega)) ?_; clear hG; intro Γ hG
    refine t_pu hG (fun w hC => pu_ar_slice (i := 0) (j := 7) art63 rfl rfl ⟨_, rfl⟩ (by omega) (by omega)) ?_; clear hG; intro Γ hG
    refine t_end hG ?_; clear hG hF; intro a w hC hE hF hP; replace hS := hC.st; clear hC
    clear hE
    clear hP
    refine s_copy (i := 0) (m := 7) (news := [v32 x0, v32 x1, v32 x2, v32 x3, v32 x4, v32 x5, v32 x6]) hF hS rfl slt122 rfl rfl (Src.row (hS.at (i := 0) rfl) rfl rfl (allOne_mem rfl)) (by omega) (by simp) rfl ?_; clear hS hF; intro w a hS hF
    refine c_nil ?_
    refine n_then ?_
    refine c_seq ?_
    refine c_reg ?_
    refine s_pu hF (pu_iaddr_arn (j := 4) art63 rfl rfl rfl (by omega)) rfl ?_; clear hF; intro a hF
    refine s_pu hF (o_load1 (i := 0) hS rfl one62 rfl rfl) rfl ?_; clear hF; intro a hF
    refine s_pu hF (pu_move rfl) rfl ?_; clear hF; intro a hF
    refine s_pu hF (p32_add rfl rfl) rfl ?_; clear hF; intro a hF
    refine s_pu hF (pu_iaddr_arn (j := 4) art63 rfl rfl rfl (by omega)) rfl ?_; clear hF; intro a hF
    refine s_store (i := 0) hF hS rfl rfl rfl rfl sz62 rfl (by first | (simp; done) | exact Nat.le_of_ble_eq_true rfl) ?_; clear hS hF; intro w a hS hF
    refine c_nil ?_
    refine n_then ?_
    refine c_reg ?_
    refine s_pu hF (pu_move rfl) rfl ?_; clear hF; intro a hF
    refine s_pu hF (pu_move rfl) rfl ?_; clear hF; intro a hF
    refine s_pu hF (p32_add rfl rfl) rfl ?_; clear hF; intro a hF
    refine s_pu hF (pu_iaddr_arn (j := 0) art63 rfl rfl rfl (by omega)) rfl ?_; clear hF; intro a hF
    refine s_store (i := 0) hF hS rfl rfl rfl rfl sz62 rfl (by first | (simp; done) | exact Nat.le_of_ble_eq_true rfl) ?_; clear hS hF; intro w a hS hF
    refine c_nil ?_
    refine n_block ?_
    refine n_then ?_
    refine c_reg ?_
    refine s_pu hF (pu_add rfl rfl (by first | exact wrap_i64 (by omega) (by omega) | rfl)) rfl ?_; clear hF; intro a hF
    refine s_pu hF (pu_move rfl) rfl ?_; clear hF; intro a hF
    refine c_nil ?_
    have e : rnds h bl (k + 1) = rnd [x0, x1, x2, x3, x4, x5, x6, x7] (K.getD k 0) ((sched bl).getD k 0) := by rw [rnds, hx8]
    refine ⟨k + 1, ⟨by omega, hF.pick (.cons (k := 18) rfl <| .cons (k := 0) rfl <| .cons (k := 4) rfl <| .cons (k := 5) rfl <| .nil), ?_⟩, by omega⟩
    rw [e]
    exact hS
  · try simp only [decide_eq_true_eq, decide_eq_false_iff_not, Bool.not_eq_true', Bool.not_eq_false', Bool.not_eq_eq_eq_not, Bool.not_true, Bool.not_false] at hc19
    obtain rfl : k = 64 := by omega
    have hS : St w0 h0 [bs] w [(some b1, CellsC 63 ((rnds h bl 64).map v32)), (some b0, CellsC 93 ((sched bl).map v32)), (some bs, CellsC 117 (stC h rv sz))] (fun _ => True) := by rw [hx8]; exact hS
    refine c_exit (x_then (x_then (x_here ?_)))
    refine n_then ?_
    refine c_seq ?_
    refine c_reg ?_
    refine s_pu hF (pu_move rfl) rfl ?_; clear hF; intro a hF
    refine c_nil ?_
    refine n_then ?_
    refine c_block ?_
    refine hS.cut fun O1 F1 hO1 hF1 hS => ?_
    subst hO1
    refine hF.cut (.cons (k := 92) rfl <| .nil) (.cons (k := 0) rfl <| .cons (k := 5) rfl <| .nil) fun L1 hL1 hF => ?_
    refine c_loop (α := Nat) (fun k a w => k ≤ 8 ∧ Fr a 109 ([(92, .val (.int .i64 k))] ++ L1) ∧ St w0 h0 [bs] w [(some b1, CellsC 63 ((rnds h bl 64).map v32)), (some b0, CellsC 93 ((sched bl).map v32)), (some bs, CellsC 117 (stC (addN h (rnds h bl 64) k) rv sz))] F1) (fun k => 8 - k) 0 (⟨by omega, hF, hS⟩) ?_
    subst hF1 hL1
    rintro k a w ⟨hk, hF, hS⟩
    refine c_seq ?_
    refine c_reg ?_
    refine s_pu hF (pu_ilt rfl rfl) rfl ?_; clear hF; intro a hF
    refine c_nil ?_
    refine n_then ?_
    refine c_seq ?_
    refine c_if hF rfl (fun hc93 => ?_) (fun hc93 => ?_)
    · try simp only [decide_eq_true_eq, decide_eq_false_iff_not, Bool.not_eq_true', Bool.not_eq_false', Bool.not_eq_eq_eq_not, Bool.not_true, Bool.not_false] at hc93
      refine c_skip ?_
      refine n_then ?_
      refine c_seq ?_
      refine c_block ?_
      refine c_seq ?_
      refine c_reg ?_
      refine s_pu hF (pu_move rfl) rfl ?_; clear hF; intro a hF
      refine s_pu hF (pu_assign rfl) rfl ?_; clear hF; intro a hF
      refine c_nil ?_
      refine n_then ?_
      refine region_st 13 hF hS (allV_ne rfl) mix (by kernel_rfl) fun Γ hG => ?_
      refine t_pu hG (fun w hC => pu_move rfl) ?_; clear hG; intro Γ hG
      refine t_pu hG (fun w hC => pu_move rfl) ?_; clear hG; intro Γ hG
      refine t_pu hG (fun w hC => pu_nil rfl) ?_; clear hG; intro Γ hG
      refine t_pu hG (fun w hC => pu_faddr fld117_0 rfl) ?_; clear hG; intro Γ hG
      refine t_pu hG (fun w hC => pu_iaddr_arn art63 rfl rfl rfl (by omega)) ?_; clear hG; intro Γ hG
      refine t_pu hG (fun w hC => o_load1 (i := 2) hC.st rfl one62 rfl (by rw [show 0 + 0 + k * 1 = k by omega, stC_hi (addN_len hh (rnds_len hh bl 64) (by omega)) rv sz (by omega), addN_get hh (rnds_len hh bl 64) (by omega)])) ?_; clear hG; intro Γ hG
      refine t_pu hG (fun w hC => pu_move rfl) ?_; clear hG; intro Γ hG
      refine t_pu hG (fun w hC => pu_iaddr_arn art63 rfl rfl rfl (by omega)) ?_; clear hG; intro Γ hG
      refine t_pu hG (fun w hC => o_load1 (i := 0) hC.st rfl one62 rfl (by rw [show 0 + k * 1 = k by omega]; exact map_get v32 (rnds h bl 64) 0 (by rw [rnds_len hh]; omega))) ?_; clear hG; intro Γ hG
      refine t_pu hG (fun w hC => p32_add rfl rfl) ?_; clear hG; intro Γ hG
      refine t_pu hG (fun w hC => pu_nil rfl) ?_; clear hG; intro Γ hG
      refine t_pu hG (fun w hC => pu_faddr fld117_0 rfl) ?_; clear hG; intro Γ hG
      refine t_pu hG (fun w hC => pu_iaddr_arn art63 rfl rfl rfl (by omega)) ?_; clear hG; intro Γ hG
      refine t_end hG ?_; clear hG hF; intro a w hC hE hF hP; replace hS := hC.st; clear hC
      clear hE
      clear hP
      refine s_store (i := 2) hF hS rfl rfl rfl rfl sz62 rfl (by rw [stC_len (addN_len hh (rnds_len hh bl 64) (by omega))]; simp; omega) ?_; clear hS hF; intro w a hS hF
      rw [show 0 + 0 + k * 1 = k by omega, spl_stC_h (addN_len hh (rnds_len hh bl 64) (by omega)) rv sz (by omega), addN_set hh (rnds_len hh bl 64) (by omega)] at hS
      refine c_nil ?_
      refine n_block ?_
      refine n_then ?_
      refine c_reg ?_
      refine s_pu hF (pu_add rfl rfl (by first | exact wrap_i64 (by omega) (by omega) | rfl)) rfl ?_; clear hF; intro a hF
      refine s_pu hF (pu_move rfl) rfl ?_; clear hF; intro a hF
      refine c_nil ?_
      exact ⟨k + 1, ⟨by omega, hF.pick (.cons (k := 92) rfl <| .cons (k := 0) rfl <| .cons (k := 5) rfl <| .nil), hS⟩, by omega⟩
    · try simp only [decide_eq_true_eq, decide_eq_false_iff_not, Bool.not_eq_true', Bool.not_eq_false', Bool.not_eq_eq_eq_not, Bool.not_true, Bool.not_false] at hc93
      obtain rfl : k = 8 := by omega
      rw [addN_all hh (rnds_len hh bl 64)] at hS
      refine c_exit (x_then (x_then (x_here ?_)))
      refine f_end hF rfl (.nil) ?_
      exact hS.retM ⟨rfl, hS.at (i := 2) rfl⟩
set_option maxHeartbeats 400000 in
theorem c_write (bs : Nat) (h : List (BitVec 32)) (hh : h.length = 8) (rv0 : Value) (sz : Int) (rest t : List UInt8) (hz : 0 ≤ sz ∧ sz + t.length ≤ 1000000000) (hr : rest.length < 64) (w0 : World)
    (hw : w0.heap[bs]? = some (.cells (stC h rv0 sz).toArray 117 (0, 0))) (hB : BufC 5 1 rv0 (rest.map v8) (rv0.ownBlock.bind fun b => w0.heap[b]?)) (hne : rv0.ownBlock ≠ some bs) :
    Calls Try.prog 70 #[.pointer (some ⟨bs, 0, none⟩), vs t] w0 (RetM (bs :: rv0.ownBlock.toList) w0 fun v w' => v = .tuple #[] ∧ ∃ rv, CellsC 117 (stC (ab h (rest ++ t)).1 rv (sz + t.length)) w'.heap[bs]? ∧
      BufC 5 1 rv ((ab h (rest ++ t)).2.map v8) (rv.ownBlock.bind fun b => w'.heap[b]?) ∧ ∀ g, rv.ownBlock = some g → g ≠ bs ∧ (rv0.ownBlock = some g ∨ w0.heap.size ≤ g ∧ g < w'.heap.size)) := by
  refine f_enter (args := [.pointer (some ⟨bs, 0, none⟩), vs t]) Try.func70 rfl Try.ntmps70 rfl fun a hF => ?_
  have hlt : ∀ b, rv0.ownBlock = some b → b < w0.heap.size := fun b hb => by
    rw [hb] at hB
    rcases hB with ⟨h1, h2⟩ | ⟨g', off, n', cap', cur, fz, h1, ho, _⟩
    · rw [h1] at hb; cases hb
    · exact (Array.getElem?_eq_some_iff.1 ho).1
  have hids : ids [(some bs, CellsC 117 (stC h rv0 sz)), bufE 5 1 rv0 (rest.map v8)] = bs :: rv0.ownBlock.toList := by cases hq : rv0.ownBlock <;> simp [ids, bufE, hq]
  let h0 : View := fun _ => none
  have hv : VLe h0 (Full w0) := fun k o hk => by cases hk
  have hS := St.initL w0 h0 hv [(some bs, CellsC 117 (stC h rv0 sz)), bufE 5 1 rv0 (rest.map v8)] (fun e he => by
      have : e = (some bs, CellsC 117 (stC h rv0 sz)) ∨ e = bufE 5 1 rv0 (rest.map v8) := by simpa using he
      rcases this with rfl | rfl
      · exact hw
      · exact hB) (fun b hb => by
      rw [hids] at hb
      rcases List.mem_cons.1 hb with rfl | hb
      · exact ⟨(Array.getElem?_eq_some_iff.1 hw).1, rfl⟩
      · exact ⟨hlt b (by simpa using hb), rfl⟩) (by
      rw [hids]
      cases hq : rv0.ownBlock with
      | none => simp
      | some g => rw [hq] at hne; simp; intro e; exact hne (by rw [e]))
  obtain ⟨a1, c1, hrv, _, _⟩ := hB.form
  rw [List.length_map] at hrv
  refine c_seq ?_
  refine c_reg ?_
  refine s_pu hF (pu_move rfl) rfl ?_; clear hF; intro a hF
  refine s_pu hF (pu_nil rfl) rfl ?_; clear hF; intro a hF
  refine s_pu hF (pu_faddr fld117_2 rfl) rfl ?_; clear hF; intro a hF
  refine s_pu hF (o_load1 (i := 0) hS rfl one3 rfl (stC_sz hh rv0 sz)) rfl ?_; clear hF; intro a hF
  refine s_pu hF (pu_move rfl) rfl ?_; clear hF; intro a hF
  refine s_pu hF (pu_len_s tyS9 rfl rfl) rfl ?_; clear hF; intro a hF
  refine s_pu hF (pu_add rfl rfl (by first | exact wrap_i64 (by omega) (by omega) | rfl)) rfl ?_; clear hF; intro a hF
  refine s_pu hF (pu_nil rfl) rfl ?_; clear hF; intro a hF
  refine s_pu hF (pu_faddr fld117_2 rfl) rfl ?_; clear hF; intro a hF
  refine s_store (i := 0) hF hS rfl rfl rfl rfl sz3 rfl (by rw [stC_len hh]; simp) ?_; clear hS hF; intro w a hS hF
  rw [show 0 + 9 = 9 from rfl, spl_stC_sz hh] at hS
  refine c_nil ?_
  refine n_then ?_
  refine c_seq ?_
  refine c_reg ?_
  refine s_pu hF (pu_move rfl) rfl ?_; clear hF; intro a hF
  refine s_pu hF (pu_move rfl) rfl ?_; clear hF; intro a hF
  refine s_pu hF (pu_nil rfl) rfl ?_; clear hF; intro a hF
  refine s_pu hF (pu_faddr fld117_1 rfl) rfl ?_; clear hF; intro a hF
  refine s_pu hF (o_load1 (i := 0) hS rfl one56 rfl (stC_rv hh rv0 _)) rfl ?_; clear hF; intro a hF
  refine s_pu hF (pu_move rfl) rfl ?_; clear hF; intro a hF
  refine s_append (i := 1) hF hS rfl slt_a56_9 rfl rfl (Src.str) (by simp; omega) rfl ?_; clear hS hF; intro a0 nn c0 w a hnn hS hF
  refine s_pu hF (pu_nil rfl) rfl ?_; clear hF; intro a hF
  refine s_pu hF (pu_faddr fld117_1 rfl) rfl ?_; clear hF; intro a hF
  refine s_store (i := 0) hF hS rfl rfl rfl rfl sz56 rfl (by rw [stC_len hh]; simp) ?_; clear hS hF; intro w a hS hF
  rw [show 0 + 8 = 8 from rfl, spl_stC_rv hh] at hS
  rw [← List.map_append] at hS
  have hnn : nn = (rest ++ t).length := by rw [List.length_append]; simp at hnn; omega
  subst hnn
  refine c_nil ?_
  refine n_then ?_
  refine c_block ?_
  refine hS.cut fun O0 F0 hO0 hF0 hS => ?_
  subst hO0
  have hle := (BufC.le (hS.own _ (List.mem_of_getElem? (rfl : _[1]? = some _)))).2.1
  refine hF.cut (.nil) (.cons (k := 0) rfl <| .nil) fun L0 hL0 hF => ?_
  refine c_loop (α := List (BitVec 32) × List UInt8) (fun x a w => ∃ a0 c, x.1.length = 8 ∧ ab x.1 x.2 = ab h (rest ++ t) ∧ x.2.length ≤ c ∧ Fr a 43 ([] ++ L0) ∧ St w0 h0 (ids [(some bs, CellsC 117 (stC h rv0 sz)), bufE 5 1 rv0 (rest.map v8)]) w [(some bs, CellsC 117 (stC x.1 (.slice a0 x.2.length c) (sz + t.length))), bufE 5 1 (.slice a0 x.2.length c) (x.2.map v8)] F0) (fun x => x.2.length) (h, rest ++ t) (⟨a0, c0, hh, rfl, hle, hF, hS⟩) ?_
  subst hF0 hL0
  rintro ⟨h1, r1⟩ a w ⟨a0, c, hh2, hab, hrc, hF, hS⟩
  dsimp only at hh2 hab hrc hF hS
  refine c_seq ?_
  refine c_seq ?_
  refine c_reg ?_
  refine s_pu hF (pu_move rfl) rfl ?_; clear hF; intro a hF
  refine s_pu hF (pu_nil rfl) rfl ?_; clear hF; intro a hF
  refine s_pu hF (pu_faddr fld117_1 rfl) rfl ?_; clear hF; intro a hF
  refine s_pu hF (o_load1 (i := 0) hS rfl one56 rfl (stC_rv hh2 _ _)) rfl ?_; clear hF; intro a hF
  refine s_pu hF (pu_len_sl tyL56 rfl rfl) rfl ?_; clear hF; intro a hF
  refine s_pu hF (pu_ige rfl rfl) rfl ?_; clear hF; intro a hF
  refine c_nil ?_
  refine n_then ?_
  refine c_if hF rfl (fun hc27 => ?_) (fun hc27 => ?_)
  · try simp only [decide_eq_true_eq, decide_eq_false_iff_not, Bool.not_eq_true', Bool.not_eq_false', Bool.not_eq_eq_eq_not, Bool.not_true, Bool.not_false] at hc27
    refine c_skip ?_
    refine n_then ?_
    refine c_block ?_
    refine c_seq ?_
    refine c_reg ?_
    refine s_pu hF (pu_move rfl) rfl ?_; clear hF; intro a hF
    refine s_pu hF (pu_move rfl) rfl ?_; clear hF; intro a hF
    refine s_pu hF (pu_nil rfl) rfl ?_; clear hF; intro a hF
    refine s_pu hF (pu_faddr fld117_1 rfl) rfl ?_; clear hF; intro a hF
    refine s_pu hF (o_load1 (i := 0) hS rfl one56 rfl (stC_rv hh2 _ _)) rfl ?_; clear hF; intro a hF
    refine s_pu hF (pu_sl_ton (j := (r1.take 64).length) slt56 rfl rfl (by rw [List.length_take]; omega) (by rw [List.length_take]; omega)) rfl ?_; clear hF; intro a hF
    have hBs := hS.own _ (List.mem_of_getElem? (rfl : _[1]? = some _))
    have hgb : ∀ b, (Value.slice a0 r1.length c).ownBlock = some b → b ≠ bs := fun b hb e => by
      have hnd := hS.nd
      subst e
      simp [ids, bufE, hb] at hnd
    refine s_callM1 (i := 0) hF hS rfl ok77 rfl (c_mix bs h1 hh2 _ _ a0 c (r1.take 64) _ (FullB _ bs) (fullB_le _ _) (by
      rw [List.length_take, Nat.min_eq_left (by omega)]
      exact BufC.slc hBs (fun b hb => by simp only [FullB]; rw [if_neg (hgb b hb)]; rw [show (bufE _ 1 (Value.slice a0 r1.length c) _).1 = (Value.slice a0 r1.length c).ownBlock from rfl, hb]; rfl) (by omega)) (by rw [List.length_take]; omega) (hS.at (i := 0) rfl) (fullB_none _ _)) rfl ?_; clear hS hF hBs hgb; intro w a hS hF
    have hh3 := mixS_len hh2 (r1.take 64)
    refine c_nil ?_
    refine n_then ?_
    refine c_reg ?_
    refine s_pu hF (pu_move rfl) rfl ?_; clear hF; intro a hF
    refine s_pu hF (pu_move rfl) rfl ?_; clear hF; intro a hF
    refine s_pu hF (pu_nil rfl) rfl ?_; clear hF; intro a hF
    refine s_pu hF (pu_faddr fld117_1 rfl) rfl ?_; clear hF; intro a hF
    refine s_pu hF (o_load1 (i := 0) hS rfl one56 rfl (stC_rv hh3 _ _)) rfl ?_; clear hF; intro a hF
    refine s_pu hF (pu_sl_fromn (j := 64) slt56 rfl rfl rfl (by omega) hrc) rfl ?_; clear hF; intro a hF
    refine s_pu hF (pu_nil rfl) rfl ?_; clear hF; intro a hF
    refine s_pu hF (pu_faddr fld117_1 rfl) rfl ?_; clear hF; intro a hF
    refine s_store (i := 0) hF hS rfl rfl rfl rfl sz56 rfl (by rw [stC_len hh3]; simp) ?_; clear hS hF; intro w a hS hF
    
    refine c_nil ?_
    refine n_block ?_
    have hBd := BufC.drop (k := 64) (hS.own _ (List.mem_of_getElem? (rfl : _[1]? = some _))) (by omega) (by omega)
    replace hS := hS.regrow (i := 1) (e' := bufE 5 1 (.slice (if c = 64 then a0 else a0.map (·.add (64 * 1))) (r1.length - 64) (c - 64)) ((r1.drop 64).map v8)) rfl (Keep.refl _ _) (by
      have e1 : (bufE 5 1 (.slice (if c = 64 then a0 else a0.map (·.add (64 * 1))) (r1.length - 64) (c - 64)) ((r1.drop 64).map v8)).1 = (bufE 5 1 (.slice a0 r1.length c) (r1.map v8)).1 := own_drop
      rw [e1]; exact hBd) (.inl own_drop)
    rw [show 0 + 8 = 8 from rfl, spl_stC_rv hh3] at hS
    refine ⟨(mixS h1 (r1.take 64), r1.drop 64), ⟨if c = 64 then a0 else a0.map (·.add (64 * 1)), c - 64, hh3, ?_, ?_, hF.pick (.cons (k := 0) rfl <| .nil), ?_⟩, ?_⟩
    · rw [← hab]; exact (ab_step (by omega)).symm
    · rw [List.length_drop]; omega
    · simp only [List.length_drop]; exact hS
    · simp only [List.length_drop]; omega
  · try simp only [decide_eq_true_eq, decide_eq_false_iff_not, Bool.not_eq_true', Bool.not_eq_false', Bool.not_eq_eq_eq_not, Bool.not_true, Bool.not_false] at hc27
    refine c_exit (x_then (x_then (x_here ?_)))
    refine f_end hF rfl (.nil) ?_
    have hdone := ab_done (h := h1) (r := r1) (by omega)
    rw [← hids]
    refine hS.retM ⟨rfl, .slice a0 r1.length c, ?_, ?_, fun g hg => ?_⟩
    · rw [← hab, hdone]; exact hS.at (i := 0) rfl
    · rw [← hab, hdone]; exact hS.own _ (List.mem_of_getElem? (rfl : _[1]? = some _))
    · have hnd := hS.nd
      have hfr := hS.fresh g (by simp [ids, bufE, hg])
      rw [hids] at hfr
      have hgb : g ≠ bs := fun e => by subst e; simp [ids, bufE, hg] at hnd
      refine ⟨hgb, ?_⟩
      rcases hfr.1 with h | h
      · exact .inr ⟨h, hfr.2⟩
      · rcases List.mem_cons.1 h with h | h
        · exact absurd h hgb
        · exact .inl (by simpa using h)
theorem s_write {opsA : Array Oper} {rest' : List Oper} {Q : Exit → Act → World → Prop} {a : Act} {w w0 : World} {h0 : View} {M : List Nat} {pre : List OE} {F : View → Prop} {n : Nat} {L : FL} {ty : TypeId} {pos : String} {af : Array Edge}
    {dd bs : Nat} {h : List (BitVec 32)} {rv : Value} {sz : Int} {rest t : List UInt8} {args : List Operand} {ats : Array TypeId} (hF : Fr a n L) (hS : St w0 h0 M w (pre ++ [(some bs, CellsC 117 (stC h rv sz)), bufE 5 1 rv (rest.map v8)]) F)
    (hh : h.length = 8) (hz : 0 ≤ sz ∧ sz + t.length ≤ 1000000000) (hr : rest.length < 64) (ha : evs L args = some [.pointer (some ⟨bs, 0, none⟩), vs t]) (hd : Nat.blt dd n = true)
    (k : ∀ rv' w' a, St w0 h0 M w' (pre ++ [(some bs, CellsC 117 (stC (ab h (rest ++ t)).1 rv' (sz + t.length))), bufE 5 1 rv' ((ab h (rest ++ t)).2.map v8)]) F → Fr a n ((dd, .val (.tuple #[])) :: L) → wpM .wp Try.prog opsA Q rest' a w') :
    wpM .wp Try.prog opsA Q (⟨some dd, .call ⟨.value (.func 70), args.toArray, ats⟩, ty, pos, af, none⟩ :: rest') a w := by
  have h1 : CellsC 117 (stC h rv sz) w.heap[bs]? := by simpa using hS.own (some bs, CellsC 117 (stC h rv sz)) (by simp)
  have h2 := hS.own (bufE 5 1 rv (rest.map v8)) (by simp)
  have hne : rv.ownBlock ≠ some bs := fun e => by
    have := hS.nd
    rw [ids_app, List.nodup_append] at this
    simp [ids, bufE, e] at this
  refine s_ds hF (ds_call (Post := fun u w' => u = .tuple #[] ∧ ∃ rv', St w0 h0 M w' (pre ++ [(some bs, CellsC 117 (stC (ab h (rest ++ t)).1 rv' (sz + t.length))), bufE 5 1 rv' ((ab h (rest ++ t)).2.map v8)]) F) ok70 ha ((c_write bs h hh rv sz rest t hz hr w h1 h2 hne).mono ?_)) hd ?_
  · rintro e w' ⟨u, rfl, hk, hv, rv', g1, g2, g3⟩
    exact ⟨u, rfl, hv, rv', hS.upd2 hk g1 g2 g3⟩
  · rintro u w' a' ⟨rfl, rv', hS'⟩ hF'
    exact k rv' w' a' hS' hF'

set_option maxHeartbeats 400000 in
theorem c_sum (bs : Nat) (h : List (BitVec 32)) (hh : h.length = 8) (rv0 : Value) (m : Nat) (rest : List UInt8) (hm : m ≤ 900000000) (hr : rest.length = m % 64) (w0 : World)
    (hw : w0.heap[bs]? = some (.cells (stC h rv0 m).toArray 117 (0, 0))) (hB : BufC 5 1 rv0 (rest.map v8) (rv0.ownBlock.bind fun b => w0.heap[b]?)) (hne : rv0.ownBlock ≠ some bs) :
    Calls Try.prog 71 #[.pointer (some ⟨bs, 0, none⟩)] w0 (RetM (bs :: rv0.ownBlock.toList) w0 fun v w' => v = vs (outS (ab h (rest ++ pad m)).1)) := by
  refine f_enter (args := [.pointer (some ⟨bs, 0, none⟩)]) Try.func71 rfl Try.ntmps71 rfl fun a hF => ?_
  have hlt : ∀ b, rv0.ownBlock = some b → b < w0.heap.size := fun b hb => by
    rw [hb] at hB
    rcases hB with ⟨h1, h2⟩ | ⟨g', off, n', cap', cur, fz, h1, ho, _⟩
    · rw [h1] at hb; cases hb
    · exact (Array.getElem?_eq_some_iff.1 ho).1
  have hids : ids [(some bs, CellsC 117 (stC h rv0 m)), bufE 5 1 rv0 (rest.map v8)] = bs :: rv0.ownBlock.toList := by cases hq : rv0.ownBlock <;> simp [ids, bufE, hq]
  let h0 : View := fun _ => none
  have hv : VLe h0 (Full w0) := fun k o hk => by cases hk
  have hS := St.initL w0 h0 hv [(some bs, CellsC 117 (stC h rv0 m)), bufE 5 1 rv0 (rest.map v8)] (fun e he => by
      have : e = (some bs, CellsC 117 (stC h rv0 m)) ∨ e = bufE 5 1 rv0 (rest.map v8) := by simpa using he
      rcases this with rfl | rfl
      · exact hw
      · exact hB) (fun b hb => by
      rw [hids] at hb
      rcases List.mem_cons.1 hb with rfl | hb
      · exact ⟨(Array.getElem?_eq_some_iff.1 hw).1, rfl⟩
      · exact ⟨hlt b (by simpa using hb), rfl⟩) (by
      rw [hids]
      cases hq : rv0.ownBlock with
      | none => simp
      | some g => rw [hq] at hne; simp; intro e; exact hne (by rw [e]))
  have hr64 : rest.length < 64 := by omega
  refine c_seq ?_
  refine c_reg ?_
  refine s_pu hF (pu_assign rfl) rfl ?_; clear hF; intro a hF
  refine c_nil ?_
  refine n_then ?_
  refine c_seq ?_
  refine c_reg ?_
  refine s_pu hF (pu_move rfl) rfl ?_; clear hF; intro a hF
  refine s_pu hF (pu_nil rfl) rfl ?_; clear hF; intro a hF
  refine s_pu hF (pu_faddr fld117_2 rfl) rfl ?_; clear hF; intro a hF
  refine s_pu hF (o_load1 (i := 0) hS rfl one3 rfl (stC_sz hh rv0 _)) rfl ?_; clear hF; intro a hF
  refine s_pu hF (pu_mul rfl rfl (by first | exact wrap_i64 (by omega) (by omega) | rfl)) rfl ?_; clear hF; intro a hF
  refine s_pu hF (pu_assign rfl) rfl ?_; clear hF; intro a hF
  refine c_nil ?_
  refine n_then ?_
  refine c_seq ?_
  refine c_reg ?_
  refine s_pu hF (pu_move rfl) rfl ?_; clear hF; intro a hF
  refine s_write (pre := []) hF hS hh (by simp; omega) (by omega) rfl rfl ?_; clear hS hF; intro rv w a hS hF
  refine c_nil ?_
  refine n_then ?_
  refine c_seq ?_
  refine c_block ?_
  refine hS.cut fun O0 F0 hO0 hF0 hS => ?_
  subst hO0
  refine hF.cut (.nil) (.cons (k := 0) rfl <| .cons (k := 3) rfl <| .nil) fun L0 hL0 hF => ?_
  refine c_loop (α := Nat) (fun j a w => ∃ (rv : Value) (sz : Int), 0 ≤ sz ∧ sz ≤ m + 1 + j ∧ j ≤ padz m ∧ Fr a 66 ([] ++ L0) ∧ St w0 h0 (ids [(some bs, CellsC 117 (stC h rv0 sz)), bufE 5 1 rv0 (rest.map v8)]) w [(some bs, CellsC 117 (stC (ab h (rest ++ 0x80 :: List.replicate j 0)).1 rv sz)), bufE 5 1 rv ((ab h (rest ++ 0x80 :: List.replicate j 0)).2.map v8)] F0) (fun j => padz m - j) 0 (⟨rv, (m : Int) + (([128] : List UInt8).length : Nat), by simp only [List.length_cons, List.length_nil]; omega, by simp only [List.length_cons, List.length_nil]; omega, Nat.zero_le _, hF, hS⟩) ?_
  subst hF0 hL0
  rintro j a w ⟨rv, sz, hz0, hz, hj, hF, hS⟩
  obtain ⟨a1, c1, hrv, _, _⟩ := BufC.form (hS.own _ (List.mem_of_getElem? (rfl : _[1]? = some _)))
  rw [List.length_map] at hrv
  refine c_seq ?_
  refine c_seq ?_
  refine c_reg ?_
  refine s_pu hF (pu_move rfl) rfl ?_; clear hF; intro a hF
  refine s_pu hF (pu_nil rfl) rfl ?_; clear hF; intro a hF
  refine s_pu hF (pu_faddr fld117_1 rfl) rfl ?_; clear hF; intro a hF
  refine s_pu hF (o_load1 (i := 0) hS rfl one56 rfl (stC_rvE (ab_len hh) hrv _)) rfl ?_; clear hF; intro a hF
  refine s_pu hF (pu_len_sl (n := (ab h (rest ++ 0x80 :: List.replicate j 0)).2.length) tyL56 rfl rfl) rfl ?_; clear hF; intro a hF
  refine s_pu hF (pu_rem rfl rfl (by omega) (r := (((ab h (rest ++ 0x80 :: List.replicate j 0)).2.length % 64 : Nat) : Int)) (by rw [Int.tmod_eq_emod_of_nonneg (by omega)]; rfl)) rfl ?_; clear hF; intro a hF
  refine s_pu hF (pu_ine rfl rfl) rfl ?_; clear hF; intro a hF
  refine c_nil ?_
  refine n_then ?_
  refine c_if hF rfl (fun hc22 => ?_) (fun hc22 => ?_)
  · try simp only [decide_eq_true_eq, decide_eq_false_iff_not, Bool.not_eq_true', Bool.not_eq_false', Bool.not_eq_eq_eq_not, Bool.not_true, Bool.not_false] at hc22
    have hl := ab_lt h (rest ++ 0x80 :: List.replicate j 0)
    have hj2 : j < padz m := by unfold padz at hj ⊢; rw [hl] at hc22; simp only [List.length_append, List.length_cons, List.length_replicate] at hc22; omega
    refine c_skip ?_
    refine n_then ?_
    refine c_block ?_
    refine c_reg ?_
    refine s_pu hF (pu_move rfl) rfl ?_; clear hF; intro a hF
    refine s_write (pre := []) hF hS (ab_len hh) (by have := padz_lt m; simp; omega) (by rw [ab_lt]; omega) rfl rfl ?_; clear hS hF; intro rv w a hS hF
    refine c_nil ?_
    refine n_block ?_
    have e : (rest ++ 0x80 :: List.replicate j 0) ++ [0] = rest ++ 0x80 :: List.replicate (j + 1) 0 := by simp [List.replicate_succ']
    rw [ab_app, e] at hS
    exact ⟨j + 1, ⟨rv, sz + (([0] : List UInt8).length : Nat), by simp only [List.length_cons, List.length_nil]; omega, by simp only [List.length_cons, List.length_nil]; omega, by omega, hF.pick (.cons (k := 0) rfl <| .cons (k := 3) rfl <| .nil), hS⟩, by omega⟩
  · try simp only [decide_eq_true_eq, decide_eq_false_iff_not, Bool.not_eq_true', Bool.not_eq_false', Bool.not_eq_eq_eq_not, Bool.not_true, Bool.not_false] at hc22
    have hl := ab_lt h (rest ++ 0x80 :: List.replicate j 0)
    obtain rfl : j = padz m := by unfold padz at hj ⊢; rw [hl] at hc22; simp only [List.length_append, List.length_cons, List.length_replicate] at hc22; omega
    refine c_exit (x_then (x_then (x_here ?_)))
    refine n_then ?_
    refine c_seq ?_
    refine c_reg ?_
    refine s_alloc hF hS zero119 rfl ?_; clear hS hF; intro b0 w a hS hF
    refine c_nil ?_
    refine n_then ?_
    refine c_seq ?_
    refine c_seq ?_
    refine c_reg ?_
    refine s_pu hF (pu_move rfl) rfl ?_; clear hF; intro a hF
    refine c_nil ?_
    refine n_then ?_
    refine c_block ?_
    refine hS.cut fun O1 F1 hO1 hF1 hS => ?_
    subst hO1
    refine hF.cut (.cons (k := 25) rfl <| .nil) (.cons (k := 0) rfl <| .cons (k := 3) rfl <| .cons (k := 4) rfl <| .nil) fun L1 hL1 hF => ?_
    refine c_loop (α := Nat) (fun k a w => k ≤ 8 ∧ Fr a 66 ([(25, .val (.int .i64 k))] ++ L1) ∧ St w0 h0 (ids [(some bs, CellsC 117 (stC h rv0 sz)), bufE 5 1 rv0 (rest.map v8)]) w [(some b0, CellsC 119 ((bpart m k).map v8)), (some bs, CellsC 117 (stC (ab h (rest ++ 0x80 :: List.replicate (padz m) 0)).1 rv sz)), bufE 5 1 rv ((ab h (rest ++ 0x80 :: List.replicate (padz m) 0)).2.map v8)] F1) (fun k => 8 - k) 0 (⟨by omega, hF, hS⟩) ?_
    subst hF1 hL1
    rintro k a w ⟨hk, hF, hS⟩
    refine c_seq ?_
    refine c_reg ?_
    refine s_pu hF (pu_ilt rfl rfl) rfl ?_; clear hF; intro a hF
    refine c_nil ?_
    refine n_then ?_
    refine c_seq ?_
    refine c_if hF rfl (fun hc26 => ?_) (fun hc26 => ?_)
    · try simp only [decide_eq_true_eq, decide_eq_false_iff_not, Bool.not_eq_true', Bool.not_eq_false', Bool.not_eq_eq_eq_not, Bool.not_true, Bool.not_false] at hc26
      refine c_skip ?_
      refine n_then ?_
      refine c_seq ?_
      refine c_block ?_
      refine c_seq ?_
      refine c_reg ?_
      refine s_pu hF (pu_move rfl) rfl ?_; clear hF; intro a hF
      refine s_pu hF (pu_assign rfl) rfl ?_; clear hF; intro a hF
      refine c_nil ?_
      refine n_then ?_
      refine c_reg ?_
      refine s_pu hF (pu_move rfl) rfl ?_; clear hF; intro a hF
      refine s_pu hF (pu_sub rfl rfl (by first | exact wrap_i64 (by omega) (by omega) | rfl)) rfl ?_; clear hF; intro a hF
      refine s_pu hF (pu_move rfl) rfl ?_; clear hF; intro a hF
      refine s_pu hF (pu_move rfl) rfl ?_; clear hF; intro a hF
      refine s_pu hF (pu_mul rfl rfl (by first | exact wrap_i64 (by omega) (by omega) | rfl)) rfl ?_; clear hF; intro a hF
      refine s_pu hF (pu_shr rfl rfl (by omega) rfl) rfl ?_; clear hF; intro a hF
      refine s_pu hF (pu_conv tyI5 ⟨_, tyI3⟩ rfl (lb_wrap m k (by omega))) rfl ?_; clear hF; intro a hF
      refine s_pu hF (pu_iaddr_arn (j := 7 - k) art119 rfl rfl (by omega) (by omega)) rfl ?_; clear hF; intro a hF
      refine s_store (i := 0) (new := [v8 (lb m k)]) hF hS rfl rfl rfl rfl sz5 rfl (by simp only [List.length_map, bpart_len m k (by omega), List.length_cons, List.length_nil]; omega) ?_; clear hS hF; intro w a hS hF
      rw [show 0 + (7 - k) * 1 = 7 - k by omega, spl_set v8 (bpart m k) (lb m k) (7 - k) (by rw [bpart_len m k (by omega)]; omega), bpart_set m k (by omega)] at hS
      refine c_nil ?_
      refine n_block ?_
      refine n_then ?_
      refine c_reg ?_
      refine s_pu hF (pu_add rfl rfl (by first | exact wrap_i64 (by omega) (by omega) | rfl)) rfl ?_; clear hF; intro a hF
      refine s_pu hF (pu_move rfl) rfl ?_; clear hF; intro a hF
      refine c_nil ?_
      exact ⟨k + 1, ⟨by omega, hF.pick (.cons (k := 25) rfl <| .cons (k := 0) rfl <| .cons (k := 3) rfl <| .cons (k := 4) rfl <| .nil), hS⟩, by omega⟩
    · try simp only [decide_eq_true_eq, decide_eq_false_iff_not, Bool.not_eq_true', Bool.not_eq_false', Bool.not_eq_eq_eq_not, Bool.not_true, Bool.not_false] at hc26
      obtain rfl : k = 8 := by omega
      refine c_exit (x_then (x_then (x_here ?_)))
      refine n_then ?_
      refine c_seq ?_
      refine c_reg ?_
      refine s_pu hF (pu_move rfl) rfl ?_; clear hF; intro a hF
      refine s_pu hF (pu_ar_slice (i := 0) (j := 8) art119 rfl rfl rfl (by omega) (by omega)) rfl ?_; clear hF; intro a hF
      refine s_pu hF (pu_tostr (l := len8 m) tyL56 tyI5 tyS9 rfl rfl (Src.own (hS.at (i := 0) rfl) rfl rfl)) rfl ?_; clear hF; intro a hF
      refine s_write (pre := [_]) hF hS (ab_len hh) (by have := padz_lt m; simp [bpart, len8]; omega) (by rw [ab_lt]; omega) rfl rfl ?_; clear hS hF; intro rv w a hS hF
      have e8 : (rest ++ 0x80 :: List.replicate (padz m) 0) ++ len8 m = rest ++ pad m := by simp [pad]
      rw [ab_app, e8] at hS
      obtain ⟨sz, hsz⟩ : ∃ s, s = sz + ((len8 m).length : Nat) := ⟨_, rfl⟩
      rw [← hsz] at hS
      refine c_nil ?_
      refine n_then ?_
      refine c_seq ?_
      refine c_reg ?_
      refine s_make0 hF hS tyL56 mk5 rfl rfl (by omega) (by omega) rfl ?_; clear hS hF; intro b1 w a hS hF
      refine s_pu hF (pu_assign rfl) rfl ?_; clear hF; intro a hF
      refine c_nil ?_
      refine n_then ?_
      refine c_seq ?_
      refine c_seq ?_
      refine c_reg ?_
      refine s_pu hF (pu_move rfl) rfl ?_; clear hF; intro a hF
      refine s_pu hF (pu_nil rfl) rfl ?_; clear hF; intro a hF
      refine s_pu hF (pu_faddr fld117_0 rfl) rfl ?_; clear hF; intro a hF
      refine s_pu hF (o_loadA (i := 2) (new := (ab h (rest ++ pad m)).1.map v32) hS rfl (by rw [List.length_map, ab_len hh]; exact agg63) rfl (stC_h (ab_len hh) rv _)) rfl ?_; clear hF; intro a hF
      refine s_pu hF (pu_move rfl) rfl ?_; clear hF; intro a hF
      refine c_nil ?_
      refine n_then ?_
      refine c_block ?_
      refine hS.cut fun O2 F2 hO2 hF2 hS => ?_
      subst hO2
      refine hF.cut (.cons (k := 6) rfl <| .cons (k := 46) rfl <| .nil) (.cons (k := 45) rfl <| .nil) fun L2 hL2 hF => ?_
      refine c_loop (α := Nat) (fun k a w => ∃ a0 nn c, k ≤ 8 ∧ Fr a 66 ([(6, .val (.slice a0 nn c)), (46, .val (.int .i64 k))] ++ L2) ∧ St w0 h0 (ids [(some bs, CellsC 117 (stC h rv0 sz)), bufE 5 1 rv0 (rest.map v8)]) w [bufE 5 1 (.slice a0 nn c) ((outS ((ab h (rest ++ pad m)).1.take k)).map v8), (some b0, CellsC 119 ((bpart m 8).map v8)), (some bs, CellsC 117 (stC (ab h (rest ++ pad m)).1 rv sz)), bufE 5 1 rv ((ab h (rest ++ pad m)).2.map v8)] F2) (fun k => 8 - k) 0 (⟨_, _, _, by omega, hF, hS⟩) ?_
      subst hF2 hL2
      rintro k a w ⟨a0, nn, c, hk, hF, hS⟩
      refine c_seq ?_
      refine c_reg ?_
      refine s_pu hF (pu_ilt rfl rfl) rfl ?_; clear hF; intro a hF
      refine c_nil ?_
      refine n_then ?_
      refine c_seq ?_
      refine c_if hF rfl (fun hc47 => ?_) (fun hc47 => ?_)
      · try simp only [decide_eq_true_eq, decide_eq_false_iff_not, Bool.not_eq_true', Bool.not_eq_false', Bool.not_eq_eq_eq_not, Bool.not_true, Bool.not_false] at hc47
        refine c_skip ?_
        refine n_then ?_
        refine c_seq ?_
        refine c_block ?_
        refine c_seq ?_
        refine c_reg ?_
        refine s_pu hF (pu_index_ar (cs := (ab h (rest ++ pad m)).1.map v32) art63 one62 rfl rfl (by omega) (by omega) (by rw [Int.toNat_natCast]; exact map_get v32 _ 0 (by rw [ab_len hh]; omega))) rfl ?_; clear hF; intro a hF
        refine s_pu hF (pu_assign rfl) rfl ?_; clear hF; intro a hF
        refine c_nil ?_
        refine n_then ?_
        refine c_reg ?_
        refine s_pu hF (pu_move rfl) rfl ?_; clear hF; intro a hF
        refine s_pu hF (pu_move rfl) rfl ?_; clear hF; intro a hF
        refine s_pu hF (p32_shr (m := 24) rfl rfl rfl) rfl ?_; clear hF; intro a hF
        refine s_pu hF (p8_of32 tyI5 ⟨_, tyI62⟩ rfl) rfl ?_; clear hF; intro a hF
        refine s_pu hF (pu_move rfl) rfl ?_; clear hF; intro a hF
        refine s_pu hF (p32_shr (m := 16) rfl rfl rfl) rfl ?_; clear hF; intro a hF
        refine s_pu hF (p8_of32 tyI5 ⟨_, tyI62⟩ rfl) rfl ?_; clear hF; intro a hF
        refine s_pu hF (pu_move rfl) rfl ?_; clear hF; intro a hF
        refine s_pu hF (p32_shr (m := 8) rfl rfl rfl) rfl ?_; clear hF; intro a hF
        refine s_pu hF (p8_of32 tyI5 ⟨_, tyI62⟩ rfl) rfl ?_; clear hF; intro a hF
        refine s_pu hF (pu_move rfl) rfl ?_; clear hF; intro a hF
        refine s_pu hF (p8_of32 tyI5 ⟨_, tyI62⟩ rfl) rfl ?_; clear hF; intro a hF
        refine s_build (xs := [.tmp 52, .tmp 55, .tmp 58, .tmp 60]) hF hS slt_b56 rfl rfl (by simp [Value.cells]) (by decide) rfl ?_; clear hS hF; intro b2 w a hS hF
        refine s_append (i := 1) hF hS rfl slt_a56_56 rfl rfl (Src.own (hS.at (i := 0) rfl) rfl rfl) (by simp [cellsL, Value.cells, outS_len]; omega) rfl ?_; clear hS hF; intro a0 nn c0 w a hnn hS hF
        refine s_pu hF (pu_assign rfl) rfl ?_; clear hF; intro a hF
        refine c_nil ?_
        refine n_block ?_
        refine n_then ?_
        refine c_reg ?_
        refine s_pu hF (pu_add rfl rfl (by first | exact wrap_i64 (by omega) (by omega) | rfl)) rfl ?_; clear hF; intro a hF
        refine s_pu hF (pu_move rfl) rfl ?_; clear hF; intro a hF
        refine c_nil ?_
        replace hS := hS.forget 0
        refine ⟨k + 1, ⟨_, _, _, by omega, hF.pick (.cons (k := 6) rfl <| .cons (k := 46) rfl <| .cons (k := 45) rfl <| .nil), ?_⟩, by omega⟩
        rw [out_step _ k (by rw [ab_len hh]; omega)]
        exact hS
      · try simp only [decide_eq_true_eq, decide_eq_false_iff_not, Bool.not_eq_true', Bool.not_eq_false', Bool.not_eq_eq_eq_not, Bool.not_true, Bool.not_false] at hc47
        obtain rfl : k = 8 := by omega
        rw [List.take_of_length_le (by rw [ab_len hh]; omega)] at hS
        refine c_exit (x_then (x_then (x_here ?_)))
        refine n_then ?_
        refine c_seq ?_
        refine c_reg ?_
        refine s_pu hF (pu_move rfl) rfl ?_; clear hF; intro a hF
        refine s_pu hF (pu_tostr tyL56 tyI5 tyS9 rfl rfl (buf_str (i := 0) hS rfl)) rfl ?_; clear hF; intro a hF
        refine s_pu hF (pu_assign rfl) rfl ?_; clear hF; intro a hF
        refine c_nil ?_
        refine n_then ?_
        refine c_ret ?_
        exact f_ret hF rfl (.tmp rfl (.nil)) (hS.retM rfl)
theorem s_sum {opsA : Array Oper} {rest' : List Oper} {Q : Exit → Act → World → Prop} {a : Act} {w w0 : World} {h0 : View} {M : List Nat} {pre : List OE} {F : View → Prop} {n : Nat} {L : FL} {ty : TypeId} {pos : String} {af : Array Edge}
    {dd bs : Nat} {h : List (BitVec 32)} {rv : Value} {m : Nat} {rest : List UInt8} {args : List Operand} {ats : Array TypeId} (hF : Fr a n L) (hS : St w0 h0 M w (pre ++ [(some bs, CellsC 117 (stC h rv m)), bufE 5 1 rv (rest.map v8)]) F)
    (hh : h.length = 8) (hm : m ≤ 900000000) (hr : rest.length = m % 64) (ha : evs L args = some [.pointer (some ⟨bs, 0, none⟩)]) (hd : Nat.blt dd n = true)
    (k : ∀ w' a, St w0 h0 M w' pre F → Fr a n ((dd, .val (vs (outS (ab h (rest ++ pad m)).1))) :: L) → wpM .wp Try.prog opsA Q rest' a w') :
    wpM .wp Try.prog opsA Q (⟨some dd, .call ⟨.value (.func 71), args.toArray, ats⟩, ty, pos, af, none⟩ :: rest') a w := by
  have h1 : CellsC 117 (stC h rv m) w.heap[bs]? := by simpa using hS.own (some bs, CellsC 117 (stC h rv m)) (by simp)
  have h2 := hS.own (bufE 5 1 rv (rest.map v8)) (by simp)
  have e1 : ids (pre ++ [(some bs, CellsC 117 (stC h rv m)), bufE 5 1 rv (rest.map v8)]) = ids pre ++ (bs :: rv.ownBlock.toList) := by
    rw [ids_app]; congr 1
  have hnd := hS.nd
  rw [e1, List.nodup_append] at hnd
  have hne : rv.ownBlock ≠ some bs := fun e => by have := hnd.2.1; rw [e] at this; simp at this
  refine s_ds hF (ds_call (Post := fun u w' => u = vs (outS (ab h (rest ++ pad m)).1) ∧ St w0 h0 M w' pre F) ok71 ha ((c_sum bs h hh rv m rest hm hr w h1 h2 hne).mono ?_)) hd ?_
  · rintro e w' ⟨u, rfl, hk, hv⟩
    refine ⟨u, rfl, hv, hS.upds hk (fun b hb => by rw [e1]; exact List.mem_append_right _ hb) (fun x hx => hS.still hk (List.mem_append_left _ hx) fun c hc hm => ?_) (fun c hc => .inl (by rw [e1]; exact List.mem_append_left _ hc)) hnd.1⟩
    exact hnd.2.2 c (List.mem_filterMap.2 ⟨x, hx, hc⟩) c hm rfl
  · rintro u w' a' ⟨rfl, hS'⟩ hF'
    exact k w' a' hS' hF'

theorem c_Sum (ad : Option Addr) (cap : Nat) (l : List (List UInt8)) (hsz : l.flatten.length ≤ 900000000) (hcnt : l.length ≤ 900000000) (w0 : World) (h0 : View) (hv : VLe h0 (Full w0)) (hb : SlC 9 1 (flatR fun s => [vs s]) h0 (.slice ad l.length cap) l) : Calls Try.prog 51 #[.slice ad l.length cap] w0 (Ret w0 h0 fun u _ => u = vs (dig l.flatten)) := by
  refine f_enter (args := [.slice ad l.length cap]) Try.func51 rfl Try.ntmps51 rfl fun a hF => ?_
  have hS := (St.init w0 h0 hv).newNil 5 1
  refine c_seq ?_
  refine c_reg ?_
  refine s_pu hF (pu_assign rfl) rfl ?_; clear hF; intro a hF
  refine c_nil ?_
  refine n_then ?_
  refine c_seq ?_
  refine c_reg ?_
  refine s_callN hF hS ok69 rfl (c_begin _ _ (VLe.refl _)) rfl ?_; clear hS hF; intro b0 w a hS hF
  refine s_pu hF (pu_assign rfl) rfl ?_; clear hF; intro a hF
  refine c_nil ?_
  refine n_then ?_
  refine c_seq ?_
  refine c_seq ?_
  refine c_reg ?_
  refine s_pu hF (pu_move rfl) rfl ?_; clear hF; intro a hF
  refine s_pu hF (pu_len_sl tyL24 rfl rfl) rfl ?_; clear hF; intro a hF
  refine s_pu hF (pu_move rfl) rfl ?_; clear hF; intro a hF
  refine c_nil ?_
  refine n_then ?_
  refine c_block ?_
  refine hS.cut fun O0 F0 hO0 hF0 hS => ?_
  subst hO0
  refine hF.cut (.cons (k := 9) rfl <| .nil) (.cons (k := 3) rfl <| .cons (k := 7) rfl <| .cons (k := 8) rfl <| .nil) fun L0 hL0 hF => ?_
  refine c_loop (α := Nat) (fun k a w => ∃ rv, k ≤ l.length ∧ Fr a 19 ([(9, .val (.int .i64 k))] ++ L0) ∧ St w0 h0 [] w [(some b0, CellsC 117 (stC (ab H0 (l.take k).flatten).1 rv ((l.take k).flatten.length : Nat))), bufE 5 1 rv ((ab H0 (l.take k).flatten).2.map v8)] F0) (fun k => l.length - k) 0 (⟨.slice none 0 0, by omega, hF, hS⟩) ?_
  subst hF0 hL0
  rintro k a w ⟨rv, hk, hF, hS⟩
  refine c_seq ?_
  refine c_reg ?_
  refine s_pu hF (pu_ilt rfl rfl) rfl ?_; clear hF; intro a hF
  refine c_nil ?_
  refine n_then ?_
  refine c_seq ?_
  refine c_if hF rfl (fun hc10 => ?_) (fun hc10 => ?_)
  · try simp only [decide_eq_true_eq, decide_eq_false_iff_not, Bool.not_eq_true', Bool.not_eq_false', Bool.not_eq_eq_eq_not, Bool.not_true, Bool.not_false] at hc10
    obtain ⟨g, o, ha, hH⟩ := hb.atD [] (i := k) (by omega)
    refine c_skip ?_
    refine n_then ?_
    refine c_seq ?_
    refine c_block ?_
    refine c_seq ?_
    refine c_reg ?_
    refine s_pu hF (pu_iaddr_sla (j := k) ha slt24 rfl rfl (by omega) (by omega)) rfl ?_; clear hF; intro a hF
    refine s_pu hF (pu_load1 one9 rfl (hH _ hS.base)) rfl ?_; clear hF; intro a hF
    refine s_pu hF (pu_assign rfl) rfl ?_; clear hF; intro a hF
    refine c_nil ?_
    refine n_then ?_
    refine c_reg ?_
    refine s_pu hF (pu_move rfl) rfl ?_; clear hF; intro a hF
    refine s_pu hF (pu_move rfl) rfl ?_; clear hF; intro a hF
    refine s_write (pre := []) hF hS (ab_len (h := H0) rfl) (by have := flat_le l (k + 1); rw [flat_step l k (by omega), List.length_append] at this; omega) (by rw [ab_lt]; omega) rfl rfl ?_; clear hS hF; intro rv w a hS hF
    refine c_nil ?_
    refine n_block ?_
    refine n_then ?_
    refine c_reg ?_
    refine s_pu hF (pu_add rfl rfl (by first | exact wrap_i64 (by omega) (by omega) | rfl)) rfl ?_; clear hF; intro a hF
    refine s_pu hF (pu_move rfl) rfl ?_; clear hF; intro a hF
    refine c_nil ?_
    rw [ab_app, ← flat_step l k (by omega)] at hS
    refine ⟨k + 1, ⟨rv, by omega, hF.pick (.cons (k := 9) rfl <| .cons (k := 3) rfl <| .cons (k := 7) rfl <| .cons (k := 8) rfl <| .nil), ?_⟩, by omega⟩
    have e : (((l.take k).flatten.length : Nat) : Int) + (l.getD k []).length = ((l.take (k + 1)).flatten.length : Nat) := by rw [flat_step l k (by omega), List.length_append]; omega
    rw [e] at hS
    exact hS
  · try simp only [decide_eq_true_eq, decide_eq_false_iff_not, Bool.not_eq_true', Bool.not_eq_false', Bool.not_eq_eq_eq_not, Bool.not_true, Bool.not_false] at hc10
    obtain rfl : k = l.length := by omega
    rw [List.take_length] at hS
    refine c_exit (x_then (x_then (x_here ?_)))
    refine n_then ?_
    refine c_seq ?_
    refine c_reg ?_
    refine s_pu hF (pu_move rfl) rfl ?_; clear hF; intro a hF
    refine s_sum (pre := []) (m := l.flatten.length) hF hS (ab_len (h := H0) rfl) hsz (ab_lt _ _) rfl rfl ?_; clear hS hF; intro w a hS hF
    refine s_pu hF (pu_assign rfl) rfl ?_; clear hF; intro a hF
    refine c_nil ?_
    refine n_then ?_
    refine c_ret ?_
    exact f_ret hF rfl (.tmp rfl (.nil)) (hS.retv (by rw [ab_app]; rfl))
theorem c_Link (x y : List UInt8) (hsz : x.length + y.length ≤ 900000000) (w0 : World) (h0 : View) (hv : VLe h0 (Full w0))  : Calls Try.prog 33 #[vs x, vs y] w0 (Ret w0 h0 fun u _ => u = vs (linkS x y)) := by
  refine f_enter (args := [vs x, vs y]) Try.func33 rfl Try.ntmps33 rfl fun a hF => ?_
  have hS := St.init w0 h0 hv
  refine c_seq ?_
  refine c_reg ?_
  refine s_pu hF (pu_assign rfl) rfl ?_; clear hF; intro a hF
  refine c_nil ?_
  refine n_then ?_
  refine c_seq ?_
  refine c_reg ?_
  refine s_pu hF (pu_move rfl) rfl ?_; clear hF; intro a hF
  refine s_pu hF (pu_move rfl) rfl ?_; clear hF; intro a hF
  refine s_build (xs := [.tmp 5, .tmp 6]) hF hS slt_b24 rfl rfl (by simp [Value.cells]) (by decide) rfl ?_; clear hS hF; intro b0 w a hS hF
  have hrow := hS.at (i := 0) rfl
  refine s_calld hF hS ok51 rfl (c_Sum _ _ [x, y] (by simpa using hsz) (by simp) _ (Full w) (VLe.refl _) (SlC.ofRow (by simp) (h := Full w) hrow rfl (by simp) (by decide) rfl)) rfl ?_; clear hS hF hrow; intro w a hS hF
  refine s_pu hF (pu_assign rfl) rfl ?_; clear hF; intro a hF
  refine c_nil ?_
  refine n_then ?_
  refine c_ret ?_
  exact f_ret hF rfl (.tmp rfl (.nil)) (hS.retv (by show vs (dig [x, y].flatten) = _; simp [linkS]))
theorem c_Chain (x : List UInt8) (hx : x.length ≤ 1000000) (ad : Option Addr) (cap : Nat) (l : List (List UInt8)) (hsz : ∀ s ∈ l, s.length ≤ 1000000) (hcnt : l.length ≤ 900000000) (w0 : World) (h0 : View) (hv : VLe h0 (Full w0)) (hb : SlC 9 1 (flatR fun s => [vs s]) h0 (.slice ad l.length cap) l) : Calls Try.prog 29 #[vs x, .slice ad l.length cap] w0 (Ret w0 h0 fun u _ => u = vs (chainS x l)) := by
  refine f_enter (args := [vs x, .slice ad l.length cap]) Try.func29 rfl Try.ntmps29 rfl fun a hF => ?_
  have hS := St.init w0 h0 hv
  refine c_seq ?_
  refine c_reg ?_
  refine s_pu hF (pu_assign rfl) rfl ?_; clear hF; intro a hF
  refine c_nil ?_
  refine n_then ?_
  refine c_seq ?_
  refine c_seq ?_
  refine c_reg ?_
  refine s_pu hF (pu_move rfl) rfl ?_; clear hF; intro a hF
  refine s_pu hF (pu_len_sl tyL24 rfl rfl) rfl ?_; clear hF; intro a hF
  refine s_pu hF (pu_move rfl) rfl ?_; clear hF; intro a hF
  refine c_nil ?_
  refine n_then ?_
  refine c_block ?_
  refine hS.cut fun O0 F0 hO0 hF0 hS => ?_
  refine hF.cut (.cons (k := 0) rfl <| .cons (k := 9) rfl <| .nil) (.cons (k := 7) rfl <| .cons (k := 8) rfl <| .nil) fun L0 hL0 hF => ?_
  refine c_loop (α := Nat) (fun k a w => k ≤ l.length ∧ Fr a 18 ([(0, .val (vs (chainS x (l.take k)))), (9, .val (.int .i64 k))] ++ L0) ∧ St w0 h0 [] w O0 F0) (fun k => l.length - k) 0 (⟨by omega, hF, hS⟩) ?_
  subst hO0 hF0 hL0
  rintro k a w ⟨hk, hF, hS⟩
  refine c_seq ?_
  refine c_reg ?_
  refine s_pu hF (pu_ilt rfl rfl) rfl ?_; clear hF; intro a hF
  refine c_nil ?_
  refine n_then ?_
  refine c_seq ?_
  refine c_if hF rfl (fun hc10 => ?_) (fun hc10 => ?_)
  · try simp only [decide_eq_true_eq, decide_eq_false_iff_not, Bool.not_eq_true', Bool.not_eq_false', Bool.not_eq_eq_eq_not, Bool.not_true, Bool.not_false] at hc10
    obtain ⟨g, o, ha, hH⟩ := hb.atD [] (i := k) (by omega)
    refine c_skip ?_
    refine n_then ?_
    refine c_seq ?_
    refine c_block ?_
    refine c_seq ?_
    refine c_reg ?_
    refine s_pu hF (pu_iaddr_sla (j := k) ha slt24 rfl rfl (by omega) (by omega)) rfl ?_; clear hF; intro a hF
    refine s_pu hF (pu_load1 one9 rfl (hH _ hS.base)) rfl ?_; clear hF; intro a hF
    refine s_pu hF (pu_assign rfl) rfl ?_; clear hF; intro a hF
    refine c_nil ?_
    refine n_then ?_
    refine c_reg ?_
    refine s_pu hF (pu_move rfl) rfl ?_; clear hF; intro a hF
    refine s_pu hF (pu_move rfl) rfl ?_; clear hF; intro a hF
    refine s_callv hF hS ok33 rfl (c_Link _ _ (by have := chain_len x (l.take k) 1000000 hx (by omega); have := hsz _ (getD_mem l k [] (by omega)); omega) _ _ hS.view) rfl ?_; clear hS hF; intro w a hS hF
    refine s_pu hF (pu_assign rfl) rfl ?_; clear hF; intro a hF
    refine c_nil ?_
    refine n_block ?_
    refine n_then ?_
    refine c_reg ?_
    refine s_pu hF (pu_add rfl rfl (by first | exact wrap_i64 (by omega) (by omega) | rfl)) rfl ?_; clear hF; intro a hF
    refine s_pu hF (pu_move rfl) rfl ?_; clear hF; intro a hF
    refine c_nil ?_
    rw [← chain_step x l k (by omega)] at hF
    exact ⟨k + 1, ⟨by omega, hF.pick (.cons (k := 0) rfl <| .cons (k := 9) rfl <| .cons (k := 7) rfl <| .cons (k := 8) rfl <| .nil), hS⟩, by omega⟩
  · try simp only [decide_eq_true_eq, decide_eq_false_iff_not, Bool.not_eq_true', Bool.not_eq_false', Bool.not_eq_eq_eq_not, Bool.not_true, Bool.not_false] at hc10
    obtain rfl : k = l.length := by omega
    rw [List.take_length] at hF
    refine c_exit (x_then (x_then (x_here ?_)))
    refine n_then ?_
    refine c_seq ?_
    refine c_reg ?_
    refine s_pu hF (pu_move rfl) rfl ?_; clear hF; intro a hF
    refine s_pu hF (pu_assign rfl) rfl ?_; clear hF; intro a hF
    refine c_nil ?_
    refine n_then ?_
    refine c_ret ?_
    exact f_ret hF rfl (.tmp rfl (.nil)) (hS.retv rfl)
theorem c_ChainN (x : List UInt8) (hx : x.length ≤ 1000000) (ad : Option Addr) (cap n : Nat) (l : List (List UInt8)) (hn : n = l.length) (hsz : ∀ s ∈ l, s.length ≤ 1000000) (hcnt : l.length ≤ 900000000) (w0 : World) (h0 : View) (hv : VLe h0 (Full w0)) (hb : SlC 9 1 (flatR fun s => [vs s]) h0 (.slice ad n cap) l) : Calls Try.prog 29 #[vs x, .slice ad n cap] w0 (Ret w0 h0 fun u _ => u = vs (chainS x l)) := by
  subst hn; exact c_Chain x hx ad cap l hsz hcnt w0 h0 hv hb

theorem c_whole (l : List UInt8) (hl : l.length ≤ 900000000) (w0 : World) (h0 : View) (hv : VLe h0 (Full w0)) : Calls Try.prog 35 #[vs l] w0 (RetM [] w0 fun v w' => NewBuf w0 5 1 ((l ++ pad l.length).map v8) v w') := by
  refine f_enter (args := [vs l]) Try.func35 rfl Try.ntmps35 rfl fun a hF => ?_
  have hS := St.init w0 h0 hv
  refine c_seq ?_
  refine c_reg ?_
  refine s_pu hF (pu_assign rfl) rfl ?_; clear hF; intro a hF
  refine c_nil ?_
  refine n_then ?_
  refine c_seq ?_
  refine c_reg ?_
  refine s_pu hF (pu_move rfl) rfl ?_; clear hF; intro a hF
  refine s_bytes hF hS tyS9 tyL56 tyI5 rfl (by simp only [maxLen]; omega) rfl ?_; clear hS hF; intro b0 cb0 w a hS hF
  refine s_build (xs := [.const (.int .u8 128)]) hF hS slt_b56 rfl rfl (by simp [Value.cells]) (by decide) rfl ?_; clear hS hF; intro b1 w a hS hF
  refine s_append (i := 1) hF hS rfl slt_a56_56 rfl rfl (Src.own (hS.at (i := 0) rfl) rfl rfl) (by have := padz_lt l.length; simp [cellsL, Value.cells, len8]; omega) rfl ?_; clear hS hF; intro a0 nn c0 w a hnn hS hF
  refine s_pu hF (pu_assign rfl) rfl ?_; clear hF; intro a hF
  refine c_nil ?_
  refine n_then ?_
  refine c_seq ?_
  refine c_block ?_
  replace hS := hS.forget 0
  refine hS.cut fun O0 F0 hO0 hF0 hS => ?_
  subst hO0
  refine hF.cut (.cons (k := 3) rfl <| .nil) (.cons (k := 0) rfl <| .nil) fun L0 hL0 hF => ?_
  refine c_loop (α := Nat) (fun j a w => ∃ a0 nn c, j ≤ padz l.length ∧ nn = l.length + 1 + j ∧ Fr a 33 ([(3, .val (.slice a0 nn c))] ++ L0) ∧ St w0 h0 [] w [bufE 5 1 (.slice a0 nn c) ((l ++ 0x80 :: List.replicate j 0).map v8)] F0) (fun j => padz l.length - j) 0 (⟨a0, nn, c0, Nat.zero_le _, by simp [cellsL, Value.cells] at hnn; omega, hF, by rw [List.map_append]; exact hS⟩) ?_
  subst hF0 hL0
  rintro j a w ⟨a0, nn, c, hj, hnn, hF, hS⟩
  refine c_seq ?_
  refine c_seq ?_
  refine c_reg ?_
  refine s_pu hF (pu_move rfl) rfl ?_; clear hF; intro a hF
  refine s_pu hF (pu_len_sl tyL56 rfl rfl) rfl ?_; clear hF; intro a hF
  refine s_pu hF (pu_rem rfl rfl (by omega) (r := ((nn % 64 : Nat) : Int)) (by rw [Int.tmod_eq_emod_of_nonneg (by omega)]; rfl)) rfl ?_; clear hF; intro a hF
  refine s_pu hF (pu_ine rfl rfl) rfl ?_; clear hF; intro a hF
  refine c_nil ?_
  refine n_then ?_
  refine c_if hF rfl (fun hc13 => ?_) (fun hc13 => ?_)
  · try simp only [decide_eq_true_eq, decide_eq_false_iff_not, Bool.not_eq_true', Bool.not_eq_false', Bool.not_eq_eq_eq_not, Bool.not_true, Bool.not_false] at hc13
    have hj2 : j < padz l.length := by unfold padz at hj ⊢; omega
    refine c_skip ?_
    refine n_then ?_
    refine c_block ?_
    refine c_reg ?_
    refine s_pu hF (pu_move rfl) rfl ?_; clear hF; intro a hF
    refine s_build (xs := [.const (.int .u8 0)]) hF hS slt_b56 rfl rfl (by simp [Value.cells]) (by decide) rfl ?_; clear hS hF; intro b2 w a hS hF
    refine s_append (i := 1) hF hS rfl slt_a56_56 rfl rfl (Src.own (hS.at (i := 0) rfl) rfl rfl) (by have := padz_lt l.length; simp [cellsL, Value.cells, len8]; omega) rfl ?_; clear hS hF; intro a0 nn c0 w a hnn hS hF
    refine s_pu hF (pu_assign rfl) rfl ?_; clear hF; intro a hF
    refine c_nil ?_
    refine n_block ?_
    replace hS := hS.forget 0
    rename_i hnn0 _
    refine ⟨j + 1, ⟨_, _, _, by omega, ?_, hF.pick (.cons (k := 3) rfl <| .cons (k := 0) rfl <| .nil), ?_⟩, by omega⟩
    · simp [cellsL, Value.cells] at *; omega
    · have e : l ++ 0x80 :: List.replicate (j + 1) 0 = (l ++ 0x80 :: List.replicate j 0) ++ [0] := by simp [List.replicate_succ']
      rw [e, List.map_append]
      exact hS
  · try simp only [decide_eq_true_eq, decide_eq_false_iff_not, Bool.not_eq_true', Bool.not_eq_false', Bool.not_eq_eq_eq_not, Bool.not_true, Bool.not_false] at hc13
    obtain rfl : j = padz l.length := by unfold padz at hj ⊢; omega
    refine c_exit (x_then (x_then (x_here ?_)))
    refine n_then ?_
    refine c_seq ?_
    refine c_reg ?_
    refine s_pu hF (pu_move rfl) rfl ?_; clear hF; intro a hF
    refine s_pu hF (pu_len_s tyS9 rfl rfl) rfl ?_; clear hF; intro a hF
    refine s_pu hF (pu_mul rfl rfl (by first | exact wrap_i64 (by omega) (by omega) | rfl)) rfl ?_; clear hF; intro a hF
    refine s_pu hF (pu_assign rfl) rfl ?_; clear hF; intro a hF
    refine c_nil ?_
    refine n_then ?_
    refine c_seq ?_
    refine c_seq ?_
    refine c_reg ?_
    refine s_pu hF (pu_assign rfl) rfl ?_; clear hF; intro a hF
    refine c_nil ?_
    refine n_then ?_
    refine c_block ?_
    refine hS.cut fun O1 F1 hO1 hF1 hS => ?_
    subst hO1
    refine hF.cut (.cons (k := 3) rfl <| .cons (k := 5) rfl <| .nil) (.cons (k := 4) rfl <| .nil) fun L1 hL1 hF => ?_
    refine c_loop (α := Nat) (fun k a w => ∃ a0 nn c, k ≤ 8 ∧ Fr a 33 ([(3, .val (.slice a0 nn c)), (5, .val (.int .i64 (7 - (k : Int))))] ++ L1) ∧ St w0 h0 [] w [bufE 5 1 (.slice a0 nn c) ((l ++ 0x80 :: List.replicate (padz l.length) 0 ++ (len8 l.length).take k).map v8)] F1) (fun k => 8 - k) 0 (⟨a0, nn, c, by omega, hF, by rw [List.take_zero, List.append_nil]; exact hS⟩) ?_
    subst hF1 hL1
    rintro k a w ⟨a0, nn, c, hk, hF, hS⟩
    refine c_seq ?_
    refine c_seq ?_
    refine c_reg ?_
    refine s_pu hF (pu_move rfl) rfl ?_; clear hF; intro a hF
    refine s_pu hF (pu_ige rfl rfl) rfl ?_; clear hF; intro a hF
    refine c_nil ?_
    refine n_then ?_
    refine c_if hF rfl (fun hc21 => ?_) (fun hc21 => ?_)
    · try simp only [decide_eq_true_eq, decide_eq_false_iff_not, Bool.not_eq_true', Bool.not_eq_false', Bool.not_eq_eq_eq_not, Bool.not_true, Bool.not_false] at hc21
      refine c_skip ?_
      refine n_then ?_
      refine c_seq ?_
      refine c_block ?_
      refine c_reg ?_
      refine s_pu hF (pu_move rfl) rfl ?_; clear hF; intro a hF
      refine s_pu hF (pu_move rfl) rfl ?_; clear hF; intro a hF
      refine s_pu hF (pu_move rfl) rfl ?_; clear hF; intro a hF
      refine s_pu hF (pu_mul rfl rfl (by first | exact wrap_i64 (by omega) (by omega) | rfl)) rfl ?_; clear hF; intro a hF
      refine s_pu hF (pu_shr rfl rfl (by omega) rfl) rfl ?_; clear hF; intro a hF
      refine s_pu hF (pu_conv tyI5 ⟨_, tyI3⟩ rfl (lb_wrap2 l.length (7 - k) (by omega) (by omega) (by omega))) rfl ?_; clear hF; intro a hF
      refine s_build (xs := [.tmp 29]) hF hS slt_b56 rfl rfl (by simp [Value.cells]) (by decide) rfl ?_; clear hS hF; intro b2 w a hS hF
      refine s_append (i := 1) hF hS rfl slt_a56_56 rfl rfl (Src.own (hS.at (i := 0) rfl) rfl rfl) (by have := padz_lt l.length; simp [cellsL, Value.cells, len8]; omega) rfl ?_; clear hS hF; intro a0 nn c0 w a hnn hS hF
      refine s_pu hF (pu_assign rfl) rfl ?_; clear hF; intro a hF
      refine c_nil ?_
      refine n_block ?_
      refine n_then ?_
      refine c_reg ?_
      refine s_pu hF (pu_move rfl) rfl ?_; clear hF; intro a hF
      refine s_pu hF (pu_sub rfl rfl (by first | exact wrap_i64 (by omega) (by omega) | rfl)) rfl ?_; clear hF; intro a hF
      refine s_pu hF (pu_assign rfl) rfl ?_; clear hF; intro a hF
      refine c_nil ?_
      replace hS := hS.forget 0
      replace hF := hF
      have e5 : (7 - (k : Int) - 1) = 7 - ((k + 1 : Nat) : Int) := by omega
      rw [e5] at hF
      refine ⟨k + 1, ⟨_, _, _, by omega, hF.pick (.cons (k := 3) rfl <| .cons (k := 5) rfl <| .cons (k := 4) rfl <| .nil), ?_⟩, by omega⟩
      rw [len8_get _ k (by omega), ← List.append_assoc, List.map_append]
      exact hS
    · try simp only [decide_eq_true_eq, decide_eq_false_iff_not, Bool.not_eq_true', Bool.not_eq_false', Bool.not_eq_eq_eq_not, Bool.not_true, Bool.not_false] at hc21
      obtain rfl : k = 8 := by omega
      refine c_exit (x_then (x_then (x_here ?_)))
      refine n_then ?_
      refine c_seq ?_
      refine c_reg ?_
      refine s_pu hF (pu_move rfl) rfl ?_; clear hF; intro a hF
      refine s_pu hF (pu_assign rfl) rfl ?_; clear hF; intro a hF
      refine c_nil ?_
      refine n_then ?_
      refine c_ret ?_
      refine f_ret hF rfl (.tmp rfl (.nil)) ?_
      refine hS.retM ?_
      have := hS.newBuf (i := 0) rfl
      have e : l ++ 0x80 :: List.replicate (padz l.length) 0 ++ (len8 l.length).take 8 = l ++ pad l.length := by rw [List.take_of_length_le (by simp [len8])]; simp [pad]
      rw [e] at this
      exact this
theorem c_words (ad : Option Addr) (cap : Nat) (bl : List UInt8) (hbl : bl.length = 64) (w0 : World) (h0 : View) (hv : VLe h0 (Full w0)) (hb : SlC 5 1 (flatR fun b => [v8 b]) h0 (.slice ad 64 cap) bl) : Calls Try.prog 53 #[.slice ad 64 cap] w0 (Ret w0 h0 fun u _ => u = .agg ((sched bl).map v32).toArray) := by
  refine f_enter (args := [.slice ad 64 cap]) Try.func53 rfl Try.ntmps53 rfl fun a hF => ?_
  have hS := St.init w0 h0 hv
  refine c_seq ?_
  refine c_reg ?_
  refine s_alloc hF hS zero93 rfl ?_; clear hS hF; intro b0 w a hS hF
  refine c_nil ?_
  refine n_then ?_
  refine c_seq ?_
  refine c_reg ?_
  refine s_alloc hF hS zero93 rfl ?_; clear hS hF; intro b1 w a hS hF
  refine c_nil ?_
  refine n_then ?_
  refine c_seq ?_
  refine c_seq ?_
  refine c_reg ?_
  refine s_pu hF (pu_assign rfl) rfl ?_; clear hF; intro a hF
  refine c_nil ?_
  refine n_then ?_
  refine c_block ?_
  refine hS.cut fun O0 F0 hO0 hF0 hS => ?_
  subst hO0
  refine hF.cut (.cons (k := 4) rfl <| .nil) (.cons (k := 0) rfl <| .cons (k := 2) rfl <| .cons (k := 3) rfl <| .nil) fun L0 hL0 hF => ?_
  refine c_loop (α := Nat) (fun k a w => k ≤ 64 ∧ Fr a 86 ([(4, .val (.int .i64 k))] ++ L0) ∧ St w0 h0 [] w [(some b1, CellsC 93 ((wl bl k ++ List.replicate (64 - k) 0).map v32)), (some b0, CellsC 93 (List.replicate 64 (v32 0)))] F0) (fun k => 64 - k) 0 (⟨by omega, hF, hS⟩) ?_
  subst hF0 hL0
  rintro k a w ⟨hk, hF, hS⟩
  refine c_seq ?_
  refine c_seq ?_
  refine c_reg ?_
  refine s_pu hF (pu_move rfl) rfl ?_; clear hF; intro a hF
  refine s_pu hF (pu_ilt rfl rfl) rfl ?_; clear hF; intro a hF
  refine c_nil ?_
  refine n_then ?_
  refine c_if hF rfl (fun hc8 => ?_) (fun hc8 => ?_)
  · try simp only [decide_eq_true_eq, decide_eq_false_iff_not, Bool.not_eq_true', Bool.not_eq_false', Bool.not_eq_eq_eq_not, Bool.not_true, Bool.not_false] at hc8
    refine c_skip ?_
    refine n_then ?_
    refine c_seq ?_
    refine c_block ?_
    refine c_seq ?_
    refine c_seq ?_
    refine c_reg ?_
    refine s_pu hF (pu_move rfl) rfl ?_; clear hF; intro a hF
    refine s_pu hF (pu_ilt rfl rfl) rfl ?_; clear hF; intro a hF
    refine c_nil ?_
    refine n_then ?_
    refine c_if hF rfl (fun hc12 => ?_) (fun hc12 => ?_)
    · try simp only [decide_eq_true_eq, decide_eq_false_iff_not, Bool.not_eq_true', Bool.not_eq_false', Bool.not_eq_eq_eq_not, Bool.not_true, Bool.not_false] at hc12
      obtain ⟨g0, o0, ha0, H0⟩ := hb.atD 0 (i := 4 * k + 0) (by omega)
      obtain ⟨g1, o1, ha1, H1⟩ := hb.atD 0 (i := 4 * k + 1) (by omega)
      obtain ⟨g2, o2, ha2, H2⟩ := hb.atD 0 (i := 4 * k + 2) (by omega)
      obtain ⟨g3, o3, ha3, H3⟩ := hb.atD 0 (i := 4 * k + 3) (by omega)
      refine c_seq ?_
      refine region_st 35 hF hS (allV_ne rfl) mix (by kernel_rfl) fun Γ hG => ?_
      refine t_pu hG (fun w hC => pu_move rfl) ?_; clear hG; intro Γ hG
      refine t_pu hG (fun w hC => pu_move rfl) ?_; clear hG; intro Γ hG
      refine t_pu hG (fun w hC => pu_move rfl) ?_; clear hG; intro Γ hG
      refine t_pu hG (fun w hC => pu_mul rfl rfl (by first | exact wrap_i64 (by omega) (by omega) | rfl)) ?_; clear hG; intro Γ hG
      refine t_pu hG (fun w hC => pu_iaddr_sla (j := 4 * k + 0) ha0 slt56 rfl rfl (by omega) (by omega)) ?_; clear hG; intro Γ hG
      refine t_pu hG (fun w hC => pu_load1 one5 rfl (H0 _ hC.st.base)) ?_; clear hG; intro Γ hG
      refine t_pu hG (fun w hC => p32_of8 tyI62 ⟨_, tyI5⟩ rfl) ?_; clear hG; intro Γ hG
      refine t_pu hG (fun w hC => p32_shl (m := 24) rfl rfl rfl) ?_; clear hG; intro Γ hG
      refine t_pu hG (fun w hC => pu_move rfl) ?_; clear hG; intro Γ hG
      refine t_pu hG (fun w hC => pu_move rfl) ?_; clear hG; intro Γ hG
      refine t_pu hG (fun w hC => pu_mul rfl rfl (by first | exact wrap_i64 (by omega) (by omega) | rfl)) ?_; clear hG; intro Γ hG
      refine t_pu hG (fun w hC => pu_add rfl rfl (by first | exact wrap_i64 (by omega) (by omega) | rfl)) ?_; clear hG; intro Γ hG
      refine t_pu hG (fun w hC => pu_iaddr_sla (j := 4 * k + 1) ha1 slt56 rfl rfl (by omega) (by omega)) ?_; clear hG; intro Γ hG
      refine t_pu hG (fun w hC => pu_load1 one5 rfl (H1 _ hC.st.base)) ?_; clear hG; intro Γ hG
      refine t_pu hG (fun w hC => p32_of8 tyI62 ⟨_, tyI5⟩ rfl) ?_; clear hG; intro Γ hG
      refine t_pu hG (fun w hC => p32_shl (m := 16) rfl rfl rfl) ?_; clear hG; intro Γ hG
      refine t_pu hG (fun w hC => p32_or rfl rfl) ?_; clear hG; intro Γ hG
      refine t_pu hG (fun w hC => pu_move rfl) ?_; clear hG; intro Γ hG
      refine t_pu hG (fun w hC => pu_move rfl) ?_; clear hG; intro Γ hG
      refine t_pu hG (fun w hC => pu_mul rfl rfl (by first | exact wrap_i64 (by omega) (by omega) | rfl)) ?_; clear hG; intro Γ hG
      refine t_pu hG (fun w hC => pu_add rfl rfl (by first | exact wrap_i64 (by omega) (by omega) | rfl)) ?_; clear hG; intro Γ hG
      refine t_pu hG (fun w hC => pu_iaddr_sla (j := 4 * k + 2) ha2 slt56 rfl rfl (by omega) (by omega)) ?_; clear hG; intro Γ hG
      refine t_pu hG (fun w hC => pu_load1 one5 rfl (H2 _ hC.st.base)) ?_; clear hG; intro Γ hG
      refine t_pu hG (fun w hC => p32_of8 tyI62 ⟨_, tyI5⟩ rfl) ?_; clear hG; intro Γ hG
      refine t_pu hG (fun w hC => p32_shl (m := 8) rfl rfl rfl) ?_; clear hG; intro Γ hG
      refine t_pu hG (fun w hC => p32_or rfl rfl) ?_; clear hG; intro Γ hG
      refine t_pu hG (fun w hC => pu_move rfl) ?_; clear hG; intro Γ hG
      refine t_pu hG (fun w hC => pu_move rfl) ?_; clear hG; intro Γ hG
      refine t_pu hG (fun w hC => pu_mul rfl rfl (by first | exact wrap_i64 (by omega) (by omega) | rfl)) ?_; clear hG; intro Γ hG
      refine t_pu hG (fun w hC => pu_add rfl rfl (by first | exact wrap_i64 (by omega) (by omega) | rfl)) ?_; clear hG; intro Γ hG
      refine t_pu hG (fun w hC => pu_iaddr_sla (j := 4 * k + 3) ha3 slt56 rfl rfl (by omega) (by omega)) ?_; clear hG; intro Γ hG
      refine t_pu hG (fun w hC => pu_load1 one5 rfl (H3 _ hC.st.base)) ?_; clear hG; intro Γ hG
      refine t_pu hG (fun w hC => p32_of8 tyI62 ⟨_, tyI5⟩ rfl) ?_; clear hG; intro Γ hG
      refine t_pu hG (fun w hC => p32_or rfl rfl) ?_; clear hG; intro Γ hG
      refine t_pu hG (fun w hC => pu_iaddr_arn art93 rfl rfl rfl (by omega)) ?_; clear hG; intro Γ hG
      refine t_end hG ?_; clear hG hF; intro a w hC hE hF hP; replace hS := hC.st; clear hC
      clear hE
      clear hP
      refine s_store (i := 0) hF hS rfl rfl rfl rfl sz62 rfl (by simp [wl_len]; omega) ?_; clear hS hF; intro w a hS hF
      refine c_nil ?_
      refine n_then ?_
      refine c_exit (x_then (x_here ?_))
      refine n_then ?_
      refine c_reg ?_
      refine s_pu hF (pu_move rfl) rfl ?_; clear hF; intro a hF
      refine s_pu hF (pu_add rfl rfl (by first | exact wrap_i64 (by omega) (by omega) | rfl)) rfl ?_; clear hF; intro a hF
      refine s_pu hF (pu_assign rfl) rfl ?_; clear hF; intro a hF
      refine c_nil ?_
      refine ⟨k + 1, ⟨by omega, hF.pick (.cons (k := 4) rfl <| .cons (k := 0) rfl <| .cons (k := 2) rfl <| .cons (k := 3) rfl <| .nil), ?_⟩, by omega⟩
      rw [show 0 + k * 1 = k by omega] at hS
      rw [spl_snoc v32 (wl bl k) 0 _ k (64 - k) (wl_len bl k) (by omega)] at hS
      have e : wl bl (k + 1) = wl bl k ++ [word bl k] := by rw [wl, if_pos (by omega)]
      rw [e, show 64 - (k + 1) = 64 - k - 1 by omega]
      exact hS
    · try simp only [decide_eq_true_eq, decide_eq_false_iff_not, Bool.not_eq_true', Bool.not_eq_false', Bool.not_eq_eq_eq_not, Bool.not_true, Bool.not_false] at hc12
      refine c_skip ?_
      refine n_then ?_
      refine c_seq ?_
      refine region_st 10 hF hS (allV_ne rfl) mix (by kernel_rfl) fun Γ hG => ?_
      refine t_pu hG (fun w hC => pu_move rfl) ?_; clear hG; intro Γ hG
      refine t_pu hG (fun w hC => pu_sub rfl rfl (by first | exact wrap_i64 (by omega) (by omega) | rfl)) ?_; clear hG; intro Γ hG
      refine t_pu hG (fun w hC => pu_iaddr_arn (j := k - 15) art93 rfl rfl (by omega) (by omega)) ?_; clear hG; intro Γ hG
      refine t_pu hG (fun w hC => o_load1 (i := 0) hC.st rfl one62 rfl (by rw [show 0 + (k - 15) * 1 = k - 15 by omega]; exact map_get_app v32 _ _ 0 (by rw [wl_len]; omega))) ?_; clear hG; intro Γ hG
      refine t_pu hG (fun w hC => pu_move rfl) ?_; clear hG; intro Γ hG
      refine t_pu hG (fun w hC => pu_sub rfl rfl (by first | exact wrap_i64 (by omega) (by omega) | rfl)) ?_; clear hG; intro Γ hG
      refine t_pu hG (fun w hC => pu_iaddr_arn (j := k - 2) art93 rfl rfl (by omega) (by omega)) ?_; clear hG; intro Γ hG
      refine t_pu hG (fun w hC => o_load1 (i := 0) hC.st rfl one62 rfl (by rw [show 0 + (k - 2) * 1 = k - 2 by omega]; exact map_get_app v32 _ _ 0 (by rw [wl_len]; omega))) ?_; clear hG; intro Γ hG
      refine t_pu hG (fun w hC => pu_assign rfl) ?_; clear hG; intro Γ hG
      refine t_pu hG (fun w hC => pu_assign rfl) ?_; clear hG; intro Γ hG
      refine t_end hG ?_; clear hG hF; intro a w hC hE hF hP; replace hS := hC.st; clear hC
      clear hE
      clear hP
      refine c_nil ?_
      refine n_then ?_
      refine region_st 29 hF hS (allV_ne rfl) mix (by kernel_rfl) fun Γ hG => ?_
      refine t_pu hG (fun w hC => pu_move rfl) ?_; clear hG; intro Γ hG
      refine t_pu hG (fun w hC => pu_move rfl) ?_; clear hG; intro Γ hG
      refine t_pu hG (fun w hC => pu_sub rfl rfl (by first | exact wrap_i64 (by omega) (by omega) | rfl)) ?_; clear hG; intro Γ hG
      refine t_pu hG (fun w hC => pu_iaddr_arn (j := k - 16) art93 rfl rfl (by omega) (by omega)) ?_; clear hG; intro Γ hG
      refine t_pu hG (fun w hC => o_load1 (i := 0) hC.st rfl one62 rfl (by rw [show 0 + (k - 16) * 1 = k - 16 by omega]; exact map_get_app v32 _ _ 0 (by rw [wl_len]; omega))) ?_; clear hG; intro Γ hG
      refine t_pu hG (fun w hC => pu_move rfl) ?_; clear hG; intro Γ hG
      refine t_callv hG ok54 rfl (fun w hS => (c_turn _ 7 (by omega) (by omega) _ _ hS.view)) ?_; clear hG; intro Γ hG
      refine t_pu hG (fun w hC => pu_move rfl) ?_; clear hG; intro Γ hG
      refine t_callv hG ok54 rfl (fun w hS => (c_turn _ 18 (by omega) (by omega) _ _ hS.view)) ?_; clear hG; intro Γ hG
      refine t_pu hG (fun w hC => p32_xor rfl rfl) ?_; clear hG; intro Γ hG
      refine t_pu hG (fun w hC => pu_move rfl) ?_; clear hG; intro Γ hG
      refine t_pu hG (fun w hC => p32_shr (m := 3) rfl rfl rfl) ?_; clear hG; intro Γ hG
      refine t_pu hG (fun w hC => p32_xor rfl rfl) ?_; clear hG; intro Γ hG
      refine t_pu hG (fun w hC => p32_add rfl rfl) ?_; clear hG; intro Γ hG
      refine t_pu hG (fun w hC => pu_move rfl) ?_; clear hG; intro Γ hG
      refine t_pu hG (fun w hC => pu_sub rfl rfl (by first | exact wrap_i64 (by omega) (by omega) | rfl)) ?_; clear hG; intro Γ hG
      refine t_pu hG (fun w hC => pu_iaddr_arn (j := k - 7) art93 rfl rfl (by omega) (by omega)) ?_; clear hG; intro Γ hG
      refine t_pu hG (fun w hC => o_load1 (i := 0) hC.st rfl one62 rfl (by rw [show 0 + (k - 7) * 1 = k - 7 by omega]; exact map_get_app v32 _ _ 0 (by rw [wl_len]; omega))) ?_; clear hG; intro Γ hG
      refine t_pu hG (fun w hC => p32_add rfl rfl) ?_; clear hG; intro Γ hG
      refine t_pu hG (fun w hC => pu_move rfl) ?_; clear hG; intro Γ hG
      refine t_callv hG ok54 rfl (fun w hS => (c_turn _ 17 (by omega) (by omega) _ _ hS.view)) ?_; clear hG; intro Γ hG
      refine t_pu hG (fun w hC => pu_move rfl) ?_; clear hG; intro Γ hG
      refine t_callv hG ok54 rfl (fun w hS => (c_turn _ 19 (by omega) (by omega) _ _ hS.view)) ?_; clear hG; intro Γ hG
      refine t_pu hG (fun w hC => p32_xor rfl rfl) ?_; clear hG; intro Γ hG
      refine t_pu hG (fun w hC => pu_move rfl) ?_; clear hG; intro Γ hG
      refine t_pu hG (fun w hC => p32_shr (m := 10) rfl rfl rfl) ?_; clear hG; intro Γ hG
      refine t_pu hG (fun w hC => p32_xor rfl rfl) ?_; clear hG; intro Γ hG
      refine t_pu hG (fun w hC => p32_add rfl rfl) ?_; clear hG; intro Γ hG
      refine t_pu hG (fun w hC => pu_iaddr_arn art93 rfl rfl rfl (by omega)) ?_; clear hG; intro Γ hG
      refine t_end hG ?_; clear hG hF; intro a w hC hE hF hP; replace hS := hC.st; clear hC
      clear hE
      clear hP
      refine s_store (i := 0) hF hS rfl rfl rfl rfl sz62 rfl (by simp [wl_len]; omega) ?_; clear hS hF; intro w a hS hF
      refine c_nil ?_
      refine n_block ?_
      refine n_then ?_
      refine c_reg ?_
      refine s_pu hF (pu_move rfl) rfl ?_; clear hF; intro a hF
      refine s_pu hF (pu_add rfl rfl (by first | exact wrap_i64 (by omega) (by omega) | rfl)) rfl ?_; clear hF; intro a hF
      refine s_pu hF (pu_assign rfl) rfl ?_; clear hF; intro a hF
      refine c_nil ?_
      refine ⟨k + 1, ⟨by omega, hF.pick (.cons (k := 4) rfl <| .cons (k := 0) rfl <| .cons (k := 2) rfl <| .cons (k := 3) rfl <| .nil), ?_⟩, by omega⟩
      rw [show 0 + k * 1 = k by omega] at hS
      rw [spl_snoc v32 (wl bl k) 0 _ k (64 - k) (wl_len bl k) (by omega)] at hS
      have e : wl bl (k + 1) = wl bl k ++ [wnext (wl bl k) k] := by rw [wl, if_neg (by omega)]
      rw [e, ← wnext_ref, show 64 - (k + 1) = 64 - k - 1 by omega]
      exact hS
  · try simp only [decide_eq_true_eq, decide_eq_false_iff_not, Bool.not_eq_true', Bool.not_eq_false', Bool.not_eq_eq_eq_not, Bool.not_true, Bool.not_false] at hc8
    obtain rfl : k = 64 := by omega
    rw [show 64 - 64 = 0 from rfl, List.replicate_zero, List.append_nil, show wl bl 64 = sched bl from rfl] at hS
    refine c_exit (x_then (x_then (x_here ?_)))
    refine n_then ?_
    refine c_seq ?_
    refine c_reg ?_
    refine s_pu hF (o_loadA (i := 0) (new := (sched bl).map v32) hS rfl (by rw [List.length_map, sched, wl_len]; exact agg93) rfl (by rw [List.drop_zero]; exact List.take_length)) rfl ?_; clear hF; intro a hF
    refine s_store (i := 1) (new := (sched bl).map v32) hF hS rfl rfl rfl rfl (by rw [List.length_map, sched, wl_len]; exact sz93) (allOne_map _ (fun _ => rfl) _) (by simp [sched, wl_len]) ?_; clear hS hF; intro w a hS hF
    rw [spl_all (by simp [sched, wl_len])] at hS
    refine c_nil ?_
    refine n_then ?_
    refine c_ret ?_
    exact f_ret hF rfl (.cell rfl (o_lvA (cs := (sched bl).map v32) (i := 1) hS rfl (by rw [List.length_map, sched, wl_len]; exact agg93)) (.nil)) (hS.retv rfl)
theorem c_RBlock (h : List (BitVec 32)) (hh : h.length = 8) (ad : Option Addr) (cap : Nat) (bl : List UInt8) (hbl : bl.length = 64) (w0 : World) (h0 : View) (hv : VLe h0 (Full w0)) (hb : SlC 5 1 (flatR fun b => [v8 b]) h0 (.slice ad 64 cap) bl) : Calls Try.prog 36 #[.agg (h.map v32).toArray, .slice ad 64 cap] w0 (Ret w0 h0 fun u _ => u = .agg ((mixS h bl).map v32).toArray) := by
  refine f_enter (args := [.agg (h.map v32).toArray, .slice ad 64 cap]) Try.func36 rfl Try.ntmps36 rfl fun a hF => ?_
  have hS := St.init w0 h0 hv
  refine c_seq ?_
  refine c_reg ?_
  refine s_box (cs := h.map v32) hF hS rfl rfl rfl ?_; clear hS hF; intro b0 w a hS hF
  refine s_alloc hF hS zero63 rfl ?_; clear hS hF; intro b1 w a hS hF
  refine c_nil ?_
  refine n_then ?_
  refine c_seq ?_
  refine c_reg ?_
  refine s_pu hF (pu_move rfl) rfl ?_; clear hF; intro a hF
  refine s_callv hF hS ok53 rfl (c_words ad cap bl hbl _ _ hS.view (hb.monoF hS.base_cv)) rfl ?_; clear hS hF; intro w a hS hF
  refine s_alloc hF hS zero93 rfl ?_; clear hS hF; intro b2 w a hS hF
  refine s_store (i := 0) (new := (sched bl).map v32) hF hS rfl rfl rfl rfl (by rw [List.length_map, sched, wl_len]; exact sz93) (allOne_map _ (fun _ => rfl) _) (by simp [sched, wl_len]) ?_; clear hS hF; intro w a hS hF
  rw [spl_all (by simp [sched, wl_len])] at hS
  refine c_nil ?_
  refine n_then ?_
  refine c_seq ?_
  refine c_reg ?_
  refine s_pu hF (o_loadA (i := 2) (new := h.map v32) hS rfl (by rw [List.length_map, hh]; exact agg63) rfl (by rw [List.drop_zero]; exact List.take_length)) rfl ?_; clear hF; intro a hF
  refine s_alloc hF hS zero63 rfl ?_; clear hS hF; intro b3 w a hS hF
  refine s_store (i := 0) (new := h.map v32) hF hS rfl rfl rfl rfl (by rw [List.length_map, hh]; exact sz63) (allOne_map _ (fun _ => rfl) _) (by simp [hh]) ?_; clear hS hF; intro w a hS hF
  rw [spl_all (by simp [hh])] at hS
  refine c_nil ?_
  refine n_then ?_
  refine c_seq ?_
  refine c_seq ?_
  refine c_reg ?_
  refine s_pu hF (pu_assign rfl) rfl ?_; clear hF; intro a hF
  refine c_nil ?_
  refine n_then ?_
  refine c_block ?_
  refine hS.cut fun O0 F0 hO0 hF0 hS => ?_
  subst hO0
  refine hF.cut (.cons (k := 7) rfl <| .nil) (.cons (k := 2) rfl <| .cons (k := 4) rfl <| .cons (k := 5) rfl <| .cons (k := 6) rfl <| .nil) fun L0 hL0 hF => ?_
  refine c_loop (α := Nat) (fun k a w => k ≤ 64 ∧ Fr a 111 ([(7, .val (.int .i64 k))] ++ L0) ∧ St w0 h0 [] w [(some b3, CellsC 63 ((rnds h bl k).map v32)), (some b2, CellsC 93 ((sched bl).map v32)), (some b1, CellsC 63 (List.replicate 8 (v32 0))), (some b0, CellsC 63 (h.map v32))] F0) (fun k => 64 - k) 0 (⟨by omega, hF, hS⟩) ?_
  subst hF0 hL0
  rintro k a w ⟨hk, hF, hS⟩
  obtain ⟨x0, x1, x2, x3, x4, x5, x6, x7, hx8⟩ := eight (rnds_len hh bl k)
  rw [hx8] at hS
  simp only [List.map_cons, List.map_nil] at hS
  refine c_seq ?_
  refine c_seq ?_
  refine c_reg ?_
  refine s_pu hF (pu_move rfl) rfl ?_; clear hF; intro a hF
  refine s_pu hF (pu_ilt rfl rfl) rfl ?_; clear hF; intro a hF
  refine c_nil ?_
  refine n_then ?_
  refine c_if hF rfl (fun hc17 => ?_) (fun hc17 => ?_)
  · try simp only [decide_eq_true_eq, decide_eq_false_iff_not, Bool.not_eq_true', Bool.not_eq_false', Bool.not_eq_eq_eq_not, Bool.not_true, Bool.not_false] at hc17
    refine c_skip ?_
    refine n_then ?_
    refine c_seq ?_
    refine c_block ?_
    refine c_seq ?_
    refine region_st 6 hF hS (allV_ne rfl) mix (by kernel_rfl) fun Γ hG => ?_
    refine t_pu hG (fun w hC => pu_iaddr_arn (j := 0) art63 rfl rfl rfl (by omega)) ?_; clear hG; intro Γ hG
    refine t_pu hG (fun w hC => o_load1 (i := 0) hC.st rfl one62 rfl rfl) ?_; clear hG; intro Γ hG
    refine t_pu hG (fun w hC => pu_iaddr_arn (j := 4) art63 rfl rfl rfl (by omega)) ?_; clear hG; intro Γ hG
    refine t_pu hG (fun w hC => o_load1 (i := 0) hC.st rfl one62 rfl rfl) ?_; clear hG; intro Γ hG
    refine t_pu hG (fun w hC => pu_assign rfl) ?_; clear hG; intro Γ hG
    refine t_pu hG (fun w hC => pu_assign rfl) ?_; clear hG; intro Γ hG
    refine t_end hG ?_; clear hG hF; intro a w hC hE hF hP; replace hS := hC.st; clear hC
    clear hE
    clear hP
    refine c_nil ?_
    refine n_then ?_
    refine c_seq ?_
    refine region_st 30 hF hS (allV_ne rfl) mix (by kernel_rfl) fun Γ hG => ?_
    refine t_pu hG (fun w hC => pu_iaddr_arn (j := 7) art63 rfl rfl rfl (by omega)) ?_; clear hG; intro Γ hG
    refine t_pu hG (fun w hC => o_load1 (i := 0) hC.st rfl one62 rfl rfl) ?_; clear hG; intro Γ hG
    refine t_pu hG (fun w hC => pu_move rfl) ?_; clear hG; intro Γ hG
    refine t_callv hG ok54 rfl (fun w hS => (c_turn _ 6 (by omega) (by omega) _ _ hS.view)) ?_; clear hG; intro Γ hG
    refine t_pu hG (fun w hC => pu_move rfl) ?_; clear hG; intro Γ hG
    refine t_callv hG ok54 rfl (fun w hS => (c_turn _ 11 (by omega) (by omega) _ _ hS.view)) ?_; clear hG; intro Γ hG
    refine t_pu hG (fun w hC => p32_xor rfl rfl) ?_; clear hG; intro Γ hG
    refine t_pu hG (fun w hC => pu_move rfl) ?_; clear hG; intro Γ hG
    refine t_callv hG ok54 rfl (fun w hS => (c_turn _ 25 (by omega) (by omega) _ _ hS.view)) ?_; clear hG; intro Γ hG
    refine t_pu hG (fun w hC => p32_xor rfl rfl) ?_; clear hG; intro Γ hG
    refine t_pu hG (fun w hC => p32_add rfl rfl) ?_; clear hG; intro Γ hG
    refine t_pu hG (fun w hC => pu_move rfl) ?_; clear hG; intro Γ hG
    refine t_pu hG (fun w hC => pu_iaddr_arn (j := 5) art63 rfl rfl rfl (by omega)) ?_; clear hG; intro Γ hG
    refine t_pu hG (fun w hC => o_load1 (i := 0) hC.st rfl one62 rfl rfl) ?_; clear hG; intro Γ hG
    refine t_pu hG (fun w hC => p32_and rfl rfl) ?_; clear hG; intro Γ hG
    refine t_pu hG (fun w hC => pu_move rfl) ?_; clear hG; intro Γ hG
    refine t_pu hG (fun w hC => p32_xor (a := 4294967295#32) rfl rfl) ?_; clear hG; intro Γ hG
    refine t_pu hG (fun w hC => pu_iaddr_arn (j := 6) art63 rfl rfl rfl (by omega)) ?_; clear hG; intro Γ hG
    refine t_pu hG (fun w hC => o_load1 (i := 0) hC.st rfl one62 rfl rfl) ?_; clear hG; intro Γ hG
    refine t_pu hG (fun w hC => p32_and rfl rfl) ?_; clear hG; intro Γ hG
    refine t_pu hG (fun w hC => p32_xor rfl rfl) ?_; clear hG; intro Γ hG
    refine t_pu hG (fun w hC => p32_add rfl rfl) ?_; clear hG; intro Γ hG
    refine t_pu hG (fun w hC => pu_move rfl) ?_; clear hG; intro Γ hG
    refine t_callv hG ok55 rfl (fun w hS => (c_k k (by omega) _ _ hS.view)) ?_; clear hG; intro Γ hG
    refine t_pu hG (fun w hC => p32_add rfl rfl) ?_; clear hG; intro Γ hG
    refine t_pu hG (fun w hC => pu_move rfl) ?_; clear hG; intro Γ hG
    refine t_pu hG (fun w hC => pu_iaddr_arn art93 rfl rfl rfl (by omega)) ?_; clear hG; intro Γ hG
    refine t_pu hG (fun w hC => o_load1 (i := 1) hC.st rfl one62 rfl (by rw [show 0 + k * 1 = k by omega]; exact map_get v32 (sched bl) 0 (by rw [sched, wl_len]; omega))) ?_; clear hG; intro Γ hG
    refine t_pu hG (fun w hC => p32_add rfl rfl) ?_; clear hG; intro Γ hG
    refine t_pu hG (fun w hC => pu_assign rfl) ?_; clear hG; intro Γ hG
    refine t_end hG ?_; clear hG hF; intro a w hC hE hF hP; replace hS := hC.st; clear hC
    clear hE
    clear hP
    refine c_nil ?_
    refine n_then ?_
    refine c_seq ?_
    refine region_st 25 hF hS (allV_ne rfl) mix (by kernel_rfl) fun Γ hG => ?_
    refine t_pu hG (fun w hC => pu_move rfl) ?_; clear hG; intro Γ hG
    refine t_callv hG ok54 rfl (fun w hS => (c_turn _ 2 (by omega) (by omega) _ _ hS.view)) ?_; clear hG; intro Γ hG
    refine t_pu hG (fun w hC => pu_move rfl) ?_; clear hG; intro Γ hG
    refine t_callv hG ok54 rfl (fun w hS => (c_turn _ 13 (by omega) (by omega) _ _ hS.view)) ?_; clear hG; intro Γ hG
    refine t_pu hG (fun w hC => p32_xor rfl rfl) ?_; clear hG; intro Γ hG
    refine t_pu hG (fun w hC => pu_move rfl) ?_; clear hG; intro Γ hG
    refine t_callv hG ok54 rfl (fun w hS => (c_turn _ 22 (by omega) (by omega) _ _ hS.view)) ?_; clear hG; intro Γ hG
    refine t_pu hG (fun w hC => p32_xor rfl rfl) ?_; clear hG; intro Γ hG
    refine t_pu hG (fun w hC => pu_move rfl) ?_; clear hG; intro Γ hG
    refine t_pu hG (fun w hC => pu_iaddr_arn (j := 1) art63 rfl rfl rfl (by omega)) ?_; clear hG; intro Γ hG
    refine t_pu hG (fun w hC => o_load1 (i := 0) hC.st rfl one62 rfl rfl) ?_; clear hG; intro Γ hG
    refine t_pu hG (fun w hC => p32_and rfl rfl) ?_; clear hG; intro Γ hG
    refine t_pu hG (fun w hC => pu_move rfl) ?_; clear hG; intro Γ hG
    refine t_pu hG (fun w hC => pu_iaddr_arn (j := 2) art63 rfl rfl rfl (by omega)) ?_; clear hG; intro Γ hG
    refine t_pu hG (fun w hC => o_load1 (i := 0) hC.st rfl one62 rfl rfl) ?_; clear hG; intro Γ hG
    refine t_pu hG (fun w hC => p32_and rfl rfl) ?_; clear hG; intro Γ hG
    refine t_pu hG (fun w hC => p32_xor rfl rfl) ?_; clear hG; intro Γ hG
    refine t_pu hG (fun w hC => pu_iaddr_arn (j := 1) art63 rfl rfl rfl (by omega)) ?_; clear hG; intro Γ hG
    refine t_pu hG (fun w hC => o_load1 (i := 0) hC.st rfl one62 rfl rfl) ?_; clear hG; intro Γ hG
    refine t_pu hG (fun w hC => pu_iaddr_arn (j := 2) art63 rfl rfl rfl (by omega)) ?_; clear hG; intro Γ hG
    refine t_pu hG (fun w hC => o_load1 (i := 0) hC.st rfl one62 rfl rfl) ?_; clear hG; intro Γ hG
    refine t_pu hG (fun w hC => p32_and rfl rfl) ?_; clear hG; intro Γ hG
    refine t_pu hG (fun w hC => p32_xor rfl rfl) ?_; clear hG; intro Γ hG
    refine t_pu hG (fun w hC => p32_add rfl rfl) ?_; clear hG; intro Γ hG
    refine t_pu hG (fun w hC => pu_assign rfl) ?_; clear hG; intro Γ hG
    refine t_end hG ?_; clear hG hF; intro a w hC hE hF hP; replace hS := hC.st; clear hC
    clear hE
    clear hP
    refine c_nil ?_
    refine n_then ?_
    refine c_reg ?_
    refine s_pu hF (pu_move rfl) rfl ?_; clear hF; intro a hF
    refine s_pu hF (pu_move rfl) rfl ?_; clear hF; intro a hF
    refine s_pu hF (p32_add rfl rfl) rfl ?_; clear hF; intro a hF
    refine s_pu hF (pu_iaddr_arn (j := 0) art63 rfl rfl rfl (by omega)) rfl ?_; clear hF; intro a hF
    refine s_pu hF (o_load1 (i := 0) hS rfl one62 rfl rfl) rfl ?_; clear hF; intro a hF
    refine s_pu hF (pu_iaddr_arn (j := 1) art63 rfl rfl rfl (by omega)) rfl ?_; clear hF; intro a hF
    refine s_pu hF (o_load1 (i := 0) hS rfl one62 rfl rfl) rfl ?_; clear hF; intro a hF
    refine s_pu hF (pu_iaddr_arn (j := 2) art63 rfl rfl rfl (by omega)) rfl ?_; clear hF; intro a hF
    refine s_pu hF (o_load1 (i := 0) hS rfl one62 rfl rfl) rfl ?_; clear hF; intro a hF
    refine s_pu hF (pu_iaddr_arn (j := 3) art63 rfl rfl rfl (by omega)) rfl ?_; clear hF; intro a hF
    refine s_pu hF (o_load1 (i := 0) hS rfl one62 rfl rfl) rfl ?_; clear hF; intro a hF
    refine s_pu hF (pu_move rfl) rfl ?_; clear hF; intro a hF
    refine s_pu hF (p32_add rfl rfl) rfl ?_; clear hF; intro a hF
    refine s_pu hF (pu_iaddr_arn (j := 4) art63 rfl rfl rfl (by omega)) rfl ?_; clear hF; intro a hF
    refine s_pu hF (o_load1 (i := 0) hS rfl one62 rfl rfl) rfl ?_; clear hF; intro a hF
    refine s_pu hF (pu_iaddr_arn (j := 5) art63 rfl rfl rfl (by omega)) rfl ?_; clear hF; intro a hF
    refine s_pu hF (o_load1 (i := 0) hS rfl one62 rfl rfl) rfl ?_; clear hF; intro a hF
    refine s_pu hF (pu_iaddr_arn (j := 6) art63 rfl rfl rfl (by omega)) rfl ?_; clear hF; intro a hF
    refine s_pu hF (o_load1 (i := 0) hS rfl one62 rfl rfl) rfl ?_; clear hF; intro a hF
    refine s_pu hF (pu_build_ar arrb63 rfl rfl) rfl ?_; clear hF; intro a hF
    refine s_store (i := 0) (new := (rndR [x0, x1, x2, x3, x4, x5, x6, x7] (K.getD k 0) ((sched bl).getD k 0)).map v32) hF hS rfl rfl rfl rfl (by exact sz63) (allOne_map _ (fun _ => rfl) _) (by simp [rndR]) ?_; clear hS hF; intro w a hS hF
    rw [spl_all (by simp [rndR])] at hS
    refine c_nil ?_
    refine n_block ?_
    refine n_then ?_
    refine c_reg ?_
    refine s_pu hF (pu_move rfl) rfl ?_; clear hF; intro a hF
    refine s_pu hF (pu_add rfl rfl (by first | exact wrap_i64 (by omega) (by omega) | rfl)) rfl ?_; clear hF; intro a hF
    refine s_pu hF (pu_assign rfl) rfl ?_; clear hF; intro a hF
    refine c_nil ?_
    have e : rnds h bl (k + 1) = rndR [x0, x1, x2, x3, x4, x5, x6, x7] (K.getD k 0) ((sched bl).getD k 0) := by rw [rnds, hx8, rnd_ref]
    refine ⟨k + 1, ⟨by omega, hF.pick (.cons (k := 7) rfl <| .cons (k := 2) rfl <| .cons (k := 4) rfl <| .cons (k := 5) rfl <| .cons (k := 6) rfl <| .nil), ?_⟩, by omega⟩
    rw [e]
    exact hS
  · try simp only [decide_eq_true_eq, decide_eq_false_iff_not, Bool.not_eq_true', Bool.not_eq_false', Bool.not_eq_eq_eq_not, Bool.not_true, Bool.not_false] at hc17
    obtain rfl : k = 64 := by omega
    have hS : St w0 h0 [] w [(some b3, CellsC 63 ((rnds h bl 64).map v32)), (some b2, CellsC 93 ((sched bl).map v32)), (some b1, CellsC 63 (List.replicate 8 (v32 0))), (some b0, CellsC 63 (h.map v32))] (fun _ => True) := by rw [hx8]; exact hS
    refine c_exit (x_then (x_then (x_here ?_)))
    refine n_then ?_
    refine c_seq ?_
    refine c_seq ?_
    refine c_reg ?_
    refine s_pu hF (pu_assign rfl) rfl ?_; clear hF; intro a hF
    refine c_nil ?_
    refine n_then ?_
    refine c_block ?_
    refine hS.cut fun O1 F1 hO1 hF1 hS => ?_
    subst hO1
    refine hF.cut (.cons (k := 12) rfl <| .nil) (.cons (k := 2) rfl <| .cons (k := 4) rfl <| .cons (k := 6) rfl <| .nil) fun L1 hL1 hF => ?_
    refine c_loop (α := Nat) (fun k a w => k ≤ 8 ∧ Fr a 111 ([(12, .val (.int .i64 k))] ++ L1) ∧ St w0 h0 [] w [(some b3, CellsC 63 ((rnds h bl 64).map v32)), (some b2, CellsC 93 ((sched bl).map v32)), (some b1, CellsC 63 (List.replicate 8 (v32 0))), (some b0, CellsC 63 ((addN h (rnds h bl 64) k).map v32))] F1) (fun k => 8 - k) 0 (⟨by omega, hF, hS⟩) ?_
    subst hF1 hL1
    rintro k a w ⟨hk, hF, hS⟩
    refine c_seq ?_
    refine c_seq ?_
    refine c_reg ?_
    refine s_pu hF (pu_move rfl) rfl ?_; clear hF; intro a hF
    refine s_pu hF (pu_ilt rfl rfl) rfl ?_; clear hF; intro a hF
    refine c_nil ?_
    refine n_then ?_
    refine c_if hF rfl (fun hc98 => ?_) (fun hc98 => ?_)
    · try simp only [decide_eq_true_eq, decide_eq_false_iff_not, Bool.not_eq_true', Bool.not_eq_false', Bool.not_eq_eq_eq_not, Bool.not_true, Bool.not_false] at hc98
      refine c_skip ?_
      refine n_then ?_
      refine c_seq ?_
      refine c_block ?_
      refine region_st 9 hF hS (allV_ne rfl) mix (by kernel_rfl) fun Γ hG => ?_
      refine t_pu hG (fun w hC => pu_move rfl) ?_; clear hG; intro Γ hG
      refine t_pu hG (fun w hC => pu_move rfl) ?_; clear hG; intro Γ hG
      refine t_pu hG (fun w hC => pu_iaddr_arn art63 rfl rfl rfl (by omega)) ?_; clear hG; intro Γ hG
      refine t_pu hG (fun w hC => o_load1 (i := 3) hC.st rfl one62 rfl (by rw [show 0 + k * 1 = k by omega, map_get v32 _ 0 (by rw [addN_len hh (rnds_len hh bl 64) (by omega)]; omega), addN_get hh (rnds_len hh bl 64) (by omega)])) ?_; clear hG; intro Γ hG
      refine t_pu hG (fun w hC => pu_move rfl) ?_; clear hG; intro Γ hG
      refine t_pu hG (fun w hC => pu_iaddr_arn art63 rfl rfl rfl (by omega)) ?_; clear hG; intro Γ hG
      refine t_pu hG (fun w hC => o_load1 (i := 0) hC.st rfl one62 rfl (by rw [show 0 + k * 1 = k by omega]; exact map_get v32 (rnds h bl 64) 0 (by rw [rnds_len hh]; omega))) ?_; clear hG; intro Γ hG
      refine t_pu hG (fun w hC => p32_add rfl rfl) ?_; clear hG; intro Γ hG
      refine t_pu hG (fun w hC => pu_iaddr_arn art63 rfl rfl rfl (by omega)) ?_; clear hG; intro Γ hG
      refine t_end hG ?_; clear hG hF; intro a w hC hE hF hP; replace hS := hC.st; clear hC
      clear hE
      clear hP
      refine s_store (i := 3) hF hS rfl rfl rfl rfl sz62 rfl (by rw [List.length_map, addN_len hh (rnds_len hh bl 64) (by omega)]; simp; omega) ?_; clear hS hF; intro w a hS hF
      rw [show 0 + k * 1 = k by omega, spl_set v32 _ _ k (by rw [addN_len hh (rnds_len hh bl 64) (by omega)]; omega), addN_set hh (rnds_len hh bl 64) (by omega)] at hS
      refine c_nil ?_
      refine n_block ?_
      refine n_then ?_
      refine c_reg ?_
      refine s_pu hF (pu_move rfl) rfl ?_; clear hF; intro a hF
      refine s_pu hF (pu_add rfl rfl (by first | exact wrap_i64 (by omega) (by omega) | rfl)) rfl ?_; clear hF; intro a hF
      refine s_pu hF (pu_assign rfl) rfl ?_; clear hF; intro a hF
      refine c_nil ?_
      exact ⟨k + 1, ⟨by omega, hF.pick (.cons (k := 12) rfl <| .cons (k := 2) rfl <| .cons (k := 4) rfl <| .cons (k := 6) rfl <| .nil), hS⟩, by omega⟩
    · try simp only [decide_eq_true_eq, decide_eq_false_iff_not, Bool.not_eq_true', Bool.not_eq_false', Bool.not_eq_eq_eq_not, Bool.not_true, Bool.not_false] at hc98
      obtain rfl : k = 8 := by omega
      rw [addN_all hh (rnds_len hh bl 64)] at hS
      refine c_exit (x_then (x_then (x_here ?_)))
      refine n_then ?_
      refine c_seq ?_
      refine c_reg ?_
      refine s_pu hF (o_loadA (i := 3) (new := (mixS h bl).map v32) hS rfl (by rw [List.length_map, mixS_len hh]; exact agg63) rfl (by rw [List.drop_zero]; exact List.take_length)) rfl ?_; clear hF; intro a hF
      refine s_store (i := 2) (new := (mixS h bl).map v32) hF hS rfl rfl rfl rfl (by rw [List.length_map, mixS_len hh]; exact sz63) (allOne_map _ (fun _ => rfl) _) (by simp [mixS_len hh]) ?_; clear hS hF; intro w a hS hF
      rw [spl_all (by simp [mixS_len hh])] at hS
      refine c_nil ?_
      refine n_then ?_
      refine c_ret ?_
      exact f_ret hF rfl (.cell rfl (o_lvA (cs := (mixS h bl).map v32) (i := 2) hS rfl (by rw [List.length_map, mixS_len hh]; exact agg63)) (.nil)) (hS.retv rfl)
theorem c_RSum (l : List UInt8) (hl : l.length ≤ 900000000) (w0 : World) (h0 : View) (hv : VLe h0 (Full w0))  : Calls Try.prog 21 #[vs l] w0 (Ret w0 h0 fun u _ => u = vs (dig l)) := by
  refine f_enter (args := [vs l]) Try.func21 rfl Try.ntmps21 rfl fun a hF => ?_
  have hS := St.init w0 h0 hv
  have hXl : (l ++ pad l.length).length ≤ 900000100 := by have := padz_lt l.length; simp [pad, len8]; omega
  refine c_seq ?_
  refine c_reg ?_
  refine s_pu hF (pu_assign rfl) rfl ?_; clear hF; intro a hF
  refine c_nil ?_
  refine n_then ?_
  refine c_seq ?_
  refine c_reg ?_
  refine s_pu hF (pu_build_ar (cs := H0.map v32) (vsl := H0.map v32) arrb63 (by kernel_rfl) (by kernel_rfl)) rfl ?_; clear hF; intro a hF
  refine s_alloc hF hS zero63 rfl ?_; clear hS hF; intro b0 w a hS hF
  refine s_store (i := 0) (new := H0.map v32) hF hS rfl rfl rfl rfl (by exact sz63) (allOne_map _ (fun _ => rfl) _) (by simp [H0]) ?_; clear hS hF; intro w a hS hF
  rw [spl_all (by simp [H0])] at hS
  refine c_nil ?_
  refine n_then ?_
  refine c_seq ?_
  refine c_reg ?_
  refine s_pu hF (pu_move rfl) rfl ?_; clear hF; intro a hF
  refine s_callB hF hS ok35 rfl (c_whole l hl _ _ (VLe.refl _)) rfl ?_; clear hS hF; intro a0 nn c w a hnn hS hF
  have hnn : nn = (l ++ pad l.length).length := by simpa using hnn
  refine s_pu hF (pu_assign rfl) rfl ?_; clear hF; intro a hF
  refine c_nil ?_
  refine n_then ?_
  refine c_seq ?_
  refine c_seq ?_
  refine c_reg ?_
  refine s_pu hF (pu_assign rfl) rfl ?_; clear hF; intro a hF
  refine c_nil ?_
  refine n_then ?_
  refine c_block ?_
  refine hS.cut fun O0 F0 hO0 hF0 hS => ?_
  subst hO0
  have hle := (BufC.le (hS.own _ (List.mem_of_getElem? (rfl : _[0]? = some _)))).2.1
  refine hF.cut (.cons (k := 5) rfl <| .nil) (.cons (k := 3) rfl <| .cons (k := 4) rfl <| .nil) fun L0 hL0 hF => ?_
  refine c_loop (α := Nat) (fun k a w => 64 * k ≤ (l ++ pad l.length).length ∧ Fr a 53 ([(5, .val (.int .i64 ((64 * k : Nat) : Int)))] ++ L0) ∧ St w0 h0 [] w [bufE 5 1 (.slice a0 nn c) ((l ++ pad l.length).map v8), (some b0, CellsC 63 ((blks l k).map v32))] F0) (fun k => (l ++ pad l.length).length - k) 0 (⟨by omega, hF, hS⟩) ?_
  subst hF0 hL0
  rintro k a w ⟨hk, hF, hS⟩
  refine c_seq ?_
  refine c_seq ?_
  refine c_reg ?_
  refine s_pu hF (pu_move rfl) rfl ?_; clear hF; intro a hF
  refine s_pu hF (pu_add rfl rfl (by first | exact wrap_i64 (by omega) (by omega) | rfl)) rfl ?_; clear hF; intro a hF
  refine s_pu hF (pu_move rfl) rfl ?_; clear hF; intro a hF
  refine s_pu hF (pu_len_sl tyL56 rfl rfl) rfl ?_; clear hF; intro a hF
  refine s_pu hF (pu_ile rfl rfl) rfl ?_; clear hF; intro a hF
  refine c_nil ?_
  refine n_then ?_
  refine c_if hF rfl (fun hc15 => ?_) (fun hc15 => ?_)
  · try simp only [decide_eq_true_eq, decide_eq_false_iff_not, Bool.not_eq_true', Bool.not_eq_false', Bool.not_eq_eq_eq_not, Bool.not_true, Bool.not_false] at hc15
    refine c_skip ?_
    refine n_then ?_
    refine c_seq ?_
    refine c_block ?_
    refine region_st 7 hF hS (allV_ne rfl) mix (by kernel_rfl) fun Γ hG => ?_
    refine t_pu hG (fun w hC => o_loadA (i := 1) (new := (blks l k).map v32) hC.st rfl (by rw [List.length_map, blks_len]; exact agg63) rfl (by rw [List.drop_zero]; exact List.take_length)) ?_; clear hG; intro Γ hG
    refine t_pu hG (fun w hC => pu_move rfl) ?_; clear hG; intro Γ hG
    refine t_pu hG (fun w hC => pu_move rfl) ?_; clear hG; intro Γ hG
    refine t_pu hG (fun w hC => pu_move rfl) ?_; clear hG; intro Γ hG
    refine t_pu hG (fun w hC => pu_add rfl rfl (by first | exact wrap_i64 (by omega) (by omega) | rfl)) ?_; clear hG; intro Γ hG
    refine t_pu hG (fun w hC => pu_sl_fton (p := 64 * k) (q := 64 * k + 64) (m := 64) slt56 rfl rfl rfl rfl (by omega) (by omega) (by omega) (by omega)) ?_; clear hG; intro Γ hG
    refine t_calld hG ok36 rfl (fun w1 hS1 => ⟨Full w1, c_RBlock (blks l k) (blks_len l k) _ _ _ (by rw [List.length_take, List.length_drop]; omega) w1 (Full w1) (VLe.refl _) (hS1.bufPart (i := 0) (64 * k) (64 * k + 64) rfl (by omega) (by omega) (by omega))⟩) ?_; clear hG; intro Γ hG
    refine t_end hG ?_; clear hG hF; intro a w hC hE hF hP; replace hS := hC.st; clear hC
    clear hE
    clear hP
    refine s_store (i := 1) (new := (mixS (blks l k) (((l ++ pad l.length).drop (64 * k)).take 64)).map v32) hF hS rfl rfl rfl rfl (by rw [List.length_map, mixS_len (blks_len l k)]; exact sz63) (allOne_map _ (fun _ => rfl) _) (by simp [mixS_len (blks_len l k), blks_len]) ?_; clear hS hF; intro w a hS hF
    rw [spl_all (by simp [mixS_len (blks_len l k), blks_len]), blks_step l k (by omega)] at hS
    refine c_nil ?_
    refine n_block ?_
    refine n_then ?_
    refine c_reg ?_
    refine s_pu hF (pu_move rfl) rfl ?_; clear hF; intro a hF
    refine s_pu hF (pu_add rfl rfl (by first | exact wrap_i64 (by omega) (by omega) | rfl)) rfl ?_; clear hF; intro a hF
    refine s_pu hF (pu_assign rfl) rfl ?_; clear hF; intro a hF
    refine c_nil ?_
    have e : ((64 * k : Nat) : Int) + 64 = ((64 * (k + 1) : Nat) : Int) := by omega
    rw [e] at hF
    exact ⟨k + 1, ⟨by omega, hF.pick (.cons (k := 5) rfl <| .cons (k := 3) rfl <| .cons (k := 4) rfl <| .nil), hS⟩, by omega⟩
  · try simp only [decide_eq_true_eq, decide_eq_false_iff_not, Bool.not_eq_true', Bool.not_eq_false', Bool.not_eq_eq_eq_not, Bool.not_true, Bool.not_false] at hc15
    have hX := blks_all l k (by omega) (by omega)
    obtain ⟨H8, hH8, hl8⟩ : ∃ H, blks l k = H ∧ H.length = 8 := ⟨_, rfl, blks_len l k⟩
    rw [hH8] at hS hX
    refine c_exit (x_then (x_then (x_here ?_)))
    refine n_then ?_
    refine c_seq ?_
    refine c_reg ?_
    refine s_pu hF (pu_assign rfl) rfl ?_; clear hF; intro a hF
    replace hS := hS.newNil 5 1
    refine c_nil ?_
    refine n_then ?_
    refine c_seq ?_
    refine c_seq ?_
    refine c_reg ?_
    refine s_pu hF (pu_assign rfl) rfl ?_; clear hF; intro a hF
    refine c_nil ?_
    refine n_then ?_
    refine c_block ?_
    refine hS.cut fun O1 F1 hO1 hF1 hS => ?_
    subst hO1
    refine hF.cut (.cons (k := 6) rfl <| .cons (k := 7) rfl <| .nil) (.cons (k := 3) rfl <| .nil) fun L1 hL1 hF => ?_
    refine c_loop (α := Nat) (fun k a w => ∃ a1 n1 c1, k ≤ 8 ∧ Fr a 53 ([(6, .val (.slice a1 n1 c1)), (7, .val (.int .i64 k))] ++ L1) ∧ St w0 h0 [] w [bufE 5 1 (.slice a1 n1 c1) ((outS (H8.take k)).map v8), bufE 5 1 (.slice a0 nn c) ((l ++ pad l.length).map v8), (some b0, CellsC 63 (H8.map v32))] F1) (fun k => 8 - k) 0 (⟨_, _, _, by omega, hF, hS⟩) ?_
    subst hF1 hL1
    rintro k a w ⟨a1, n1, c1, hk, hF, hS⟩
    refine c_seq ?_
    refine c_seq ?_
    refine c_reg ?_
    refine s_pu hF (pu_move rfl) rfl ?_; clear hF; intro a hF
    refine s_pu hF (pu_ilt rfl rfl) rfl ?_; clear hF; intro a hF
    refine c_nil ?_
    refine n_then ?_
    refine c_if hF rfl (fun hc26 => ?_) (fun hc26 => ?_)
    · try simp only [decide_eq_true_eq, decide_eq_false_iff_not, Bool.not_eq_true', Bool.not_eq_false', Bool.not_eq_eq_eq_not, Bool.not_true, Bool.not_false] at hc26
      refine c_skip ?_
      refine n_then ?_
      refine c_seq ?_
      refine c_block ?_
      refine region_st 21 hF hS (allV_ne rfl) mix (by kernel_rfl) fun Γ hG => ?_
      refine t_pu hG (fun w hC => pu_move rfl) ?_; clear hG; intro Γ hG
      refine t_pu hG (fun w hC => pu_move rfl) ?_; clear hG; intro Γ hG
      refine t_pu hG (fun w hC => pu_iaddr_arn art63 rfl rfl rfl (by omega)) ?_; clear hG; intro Γ hG
      refine t_pu hG (fun w hC => o_load1 (i := 2) hC.st rfl one62 rfl (by rw [show 0 + k * 1 = k by omega]; exact map_get v32 H8 0 (by omega))) ?_; clear hG; intro Γ hG
      refine t_pu hG (fun w hC => p32_shr (m := 24) rfl rfl rfl) ?_; clear hG; intro Γ hG
      refine t_pu hG (fun w hC => p8_of32 tyI5 ⟨_, tyI62⟩ rfl) ?_; clear hG; intro Γ hG
      refine t_pu hG (fun w hC => pu_move rfl) ?_; clear hG; intro Γ hG
      refine t_pu hG (fun w hC => pu_iaddr_arn art63 rfl rfl rfl (by omega)) ?_; clear hG; intro Γ hG
      refine t_pu hG (fun w hC => o_load1 (i := 2) hC.st rfl one62 rfl (by rw [show 0 + k * 1 = k by omega]; exact map_get v32 H8 0 (by omega))) ?_; clear hG; intro Γ hG
      refine t_pu hG (fun w hC => p32_shr (m := 16) rfl rfl rfl) ?_; clear hG; intro Γ hG
      refine t_pu hG (fun w hC => p8_of32 tyI5 ⟨_, tyI62⟩ rfl) ?_; clear hG; intro Γ hG
      refine t_pu hG (fun w hC => pu_move rfl) ?_; clear hG; intro Γ hG
      refine t_pu hG (fun w hC => pu_iaddr_arn art63 rfl rfl rfl (by omega)) ?_; clear hG; intro Γ hG
      refine t_pu hG (fun w hC => o_load1 (i := 2) hC.st rfl one62 rfl (by rw [show 0 + k * 1 = k by omega]; exact map_get v32 H8 0 (by omega))) ?_; clear hG; intro Γ hG
      refine t_pu hG (fun w hC => p32_shr (m := 8) rfl rfl rfl) ?_; clear hG; intro Γ hG
      refine t_pu hG (fun w hC => p8_of32 tyI5 ⟨_, tyI62⟩ rfl) ?_; clear hG; intro Γ hG
      refine t_pu hG (fun w hC => pu_move rfl) ?_; clear hG; intro Γ hG
      refine t_pu hG (fun w hC => pu_iaddr_arn art63 rfl rfl rfl (by omega)) ?_; clear hG; intro Γ hG
      refine t_pu hG (fun w hC => o_load1 (i := 2) hC.st rfl one62 rfl (by rw [show 0 + k * 1 = k by omega]; exact map_get v32 H8 0 (by omega))) ?_; clear hG; intro Γ hG
      refine t_pu hG (fun w hC => p8_of32 tyI5 ⟨_, tyI62⟩ rfl) ?_; clear hG; intro Γ hG
      refine t_build (xs := [.tmp 34, .tmp 39, .tmp 44, .tmp 48]) hG slt_b56 rfl rfl (by simp [Value.cells]) (by decide) ?_; clear hG; intro Γ hG
      refine t_end hG ?_; clear hG hF; intro a w hC hE hF hP; replace hS := hC.st; clear hC
      clear hE
      obtain ⟨br49, hvr, hrow49⟩ := hP 49 _ rfl; replace hF := hF.openP hvr; clear hvr
      clear hP
      refine s_append (i := 0) hF hS rfl slt_a56_56 rfl rfl (Src.own hrow49.2 rfl rfl) (by simp [cellsL, Value.cells, outS_len]; omega) rfl ?_; clear hS hF; intro a0 nn c0 w a hnn hS hF
      refine s_pu hF (pu_assign rfl) rfl ?_; clear hF; intro a hF
      refine c_nil ?_
      refine n_block ?_
      refine n_then ?_
      refine c_reg ?_
      refine s_pu hF (pu_move rfl) rfl ?_; clear hF; intro a hF
      refine s_pu hF (pu_add rfl rfl (by first | exact wrap_i64 (by omega) (by omega) | rfl)) rfl ?_; clear hF; intro a hF
      refine s_pu hF (pu_assign rfl) rfl ?_; clear hF; intro a hF
      refine c_nil ?_
      refine ⟨k + 1, ⟨_, _, _, by omega, hF.pick (.cons (k := 6) rfl <| .cons (k := 7) rfl <| .cons (k := 3) rfl <| .nil), ?_⟩, by omega⟩
      rw [out_step _ k (by omega)]
      exact hS
    · try simp only [decide_eq_true_eq, decide_eq_false_iff_not, Bool.not_eq_true', Bool.not_eq_false', Bool.not_eq_eq_eq_not, Bool.not_true, Bool.not_false] at hc26
      obtain rfl : k = 8 := by omega
      rw [List.take_of_length_le (by omega)] at hS
      refine c_exit (x_then (x_then (x_here ?_)))
      refine n_then ?_
      refine c_seq ?_
      refine c_reg ?_
      refine s_pu hF (pu_move rfl) rfl ?_; clear hF; intro a hF
      refine s_pu hF (pu_tostr tyL56 tyI5 tyS9 rfl rfl (buf_str (i := 0) hS rfl)) rfl ?_; clear hF; intro a hF
      refine s_pu hF (pu_assign rfl) rfl ?_; clear hF; intro a hF
      refine c_nil ?_
      refine n_then ?_
      refine c_ret ?_
      exact f_ret hF rfl (.tmp rfl (.nil)) (hS.retv (by show vs (outS H8) = _; rw [hX]))
theorem c_RLink (x y : List UInt8) (hsz : x.length + y.length ≤ 900000000) (w0 : World) (h0 : View) (hv : VLe h0 (Full w0))  : Calls Try.prog 40 #[vs x, vs y] w0 (Ret w0 h0 fun u _ => u = vs (linkS x y)) := by
  refine f_enter (args := [vs x, vs y]) Try.func40 rfl Try.ntmps40 rfl fun a hF => ?_
  have hS := St.init w0 h0 hv
  refine c_seq ?_
  refine c_reg ?_
  refine s_pu hF (pu_assign rfl) rfl ?_; clear hF; intro a hF
  refine c_nil ?_
  refine n_then ?_
  refine c_seq ?_
  refine c_reg ?_
  refine s_pu hF (pu_move rfl) rfl ?_; clear hF; intro a hF
  refine s_pu hF (pu_move rfl) rfl ?_; clear hF; intro a hF
  refine s_pu hF (pu_cat rfl rfl (by omega)) rfl ?_; clear hF; intro a hF
  refine s_callv hF hS ok21 rfl (c_RSum (x ++ y) (by rw [List.length_append]; omega) _ _ hS.view) rfl ?_; clear hS hF; intro w a hS hF
  refine s_pu hF (pu_assign rfl) rfl ?_; clear hF; intro a hF
  refine c_nil ?_
  refine n_then ?_
  refine c_ret ?_
  exact f_ret hF rfl (.tmp rfl (.nil)) (hS.retv rfl)
theorem c_RChain (x : List UInt8) (hx : x.length ≤ 1000000) (ad : Option Addr) (cap : Nat) (l : List (List UInt8)) (hsz : ∀ s ∈ l, s.length ≤ 1000000) (hcnt : l.length ≤ 900000000) (w0 : World) (h0 : View) (hv : VLe h0 (Full w0)) (hb : SlC 9 1 (flatR fun s => [vs s]) h0 (.slice ad l.length cap) l) : Calls Try.prog 30 #[vs x, .slice ad l.length cap] w0 (Ret w0 h0 fun u _ => u = vs (chainS x l)) := by
  refine f_enter (args := [vs x, .slice ad l.length cap]) Try.func30 rfl Try.ntmps30 rfl fun a hF => ?_
  have hS := St.init w0 h0 hv
  refine c_seq ?_
  refine c_reg ?_
  refine s_pu hF (pu_assign rfl) rfl ?_; clear hF; intro a hF
  refine c_nil ?_
  refine n_then ?_
  refine c_seq ?_
  refine c_seq ?_
  refine c_reg ?_
  refine s_pu hF (pu_assign rfl) rfl ?_; clear hF; intro a hF
  refine c_nil ?_
  refine n_then ?_
  refine c_block ?_
  refine hS.cut fun O0 F0 hO0 hF0 hS => ?_
  refine hF.cut (.cons (k := 0) rfl <| .cons (k := 5) rfl <| .nil) (.cons (k := 1) rfl <| .nil) fun L0 hL0 hF => ?_
  refine c_loop (α := Nat) (fun k a w => k ≤ l.length ∧ Fr a 19 ([(0, .val (vs (chainS x (l.take k)))), (5, .val (.int .i64 k))] ++ L0) ∧ St w0 h0 [] w O0 F0) (fun k => l.length - k) 0 (⟨by omega, hF, hS⟩) ?_
  subst hO0 hF0 hL0
  rintro k a w ⟨hk, hF, hS⟩
  refine c_seq ?_
  refine c_seq ?_
  refine c_reg ?_
  refine s_pu hF (pu_move rfl) rfl ?_; clear hF; intro a hF
  refine s_pu hF (pu_move rfl) rfl ?_; clear hF; intro a hF
  refine s_pu hF (pu_len_sl tyL24 rfl rfl) rfl ?_; clear hF; intro a hF
  refine s_pu hF (pu_ilt rfl rfl) rfl ?_; clear hF; intro a hF
  refine c_nil ?_
  refine n_then ?_
  refine c_if hF rfl (fun hc9 => ?_) (fun hc9 => ?_)
  · try simp only [decide_eq_true_eq, decide_eq_false_iff_not, Bool.not_eq_true', Bool.not_eq_false', Bool.not_eq_eq_eq_not, Bool.not_true, Bool.not_false] at hc9
    obtain ⟨g, o, ha, hH⟩ := hb.atD [] (i := k) (by omega)
    refine c_skip ?_
    refine n_then ?_
    refine c_seq ?_
    refine c_block ?_
    refine c_reg ?_
    refine s_pu hF (pu_move rfl) rfl ?_; clear hF; intro a hF
    refine s_pu hF (pu_move rfl) rfl ?_; clear hF; intro a hF
    refine s_pu hF (pu_move rfl) rfl ?_; clear hF; intro a hF
    refine s_pu hF (pu_iaddr_sla (j := k) ha slt24 rfl rfl (by omega) (by omega)) rfl ?_; clear hF; intro a hF
    refine s_pu hF (pu_load1 one9 rfl (hH _ hS.base)) rfl ?_; clear hF; intro a hF
    refine s_callv hF hS ok40 rfl (c_RLink _ _ (by have := chain_len x (l.take k) 1000000 hx (by omega); have := hsz _ (getD_mem l k [] (by omega)); omega) _ _ hS.view) rfl ?_; clear hS hF; intro w a hS hF
    refine s_pu hF (pu_assign rfl) rfl ?_; clear hF; intro a hF
    refine c_nil ?_
    refine n_block ?_
    refine n_then ?_
    refine c_reg ?_
    refine s_pu hF (pu_move rfl) rfl ?_; clear hF; intro a hF
    refine s_pu hF (pu_add rfl rfl (by first | exact wrap_i64 (by omega) (by omega) | rfl)) rfl ?_; clear hF; intro a hF
    refine s_pu hF (pu_assign rfl) rfl ?_; clear hF; intro a hF
    refine c_nil ?_
    rw [← chain_step x l k (by omega)] at hF
    exact ⟨k + 1, ⟨by omega, hF.pick (.cons (k := 0) rfl <| .cons (k := 5) rfl <| .cons (k := 1) rfl <| .nil), hS⟩, by omega⟩
  · try simp only [decide_eq_true_eq, decide_eq_false_iff_not, Bool.not_eq_true', Bool.not_eq_false', Bool.not_eq_eq_eq_not, Bool.not_true, Bool.not_false] at hc9
    obtain rfl : k = l.length := by omega
    rw [List.take_length] at hF
    refine c_exit (x_then (x_then (x_here ?_)))
    refine n_then ?_
    refine c_seq ?_
    refine c_reg ?_
    refine s_pu hF (pu_move rfl) rfl ?_; clear hF; intro a hF
    refine s_pu hF (pu_assign rfl) rfl ?_; clear hF; intro a hF
    refine c_nil ?_
    refine n_then ?_
    refine c_ret ?_
    exact f_ret hF rfl (.tmp rfl (.nil)) (hS.retv rfl)
end Go.Proofs.Ytaogkonanncpiaa
