/- What the functions of the program compute, each with its conditions. -/
import Derived.Test.YtopbpdgnjnoddaaDoorDxR
import Derived.Test.YtopbpdgnjnoddaaDoorLexSpec
import Derived.Test.YtopbpdgnjnoddaaDoorRows
set_option linter.unusedSimpArgs false
set_option linter.unusedVariables false
namespace Go.Proofs.YtopbpdgnjnoddaaDoor
open Go Go.Dx Go.RowKit
theorem mix : Tryd.prog.follows .mixedOrders = true := by kernel_rfl
theorem agg26 : AggT Tryd.prog 26 4 := AggT.of (by kernel_rfl) (by kernel_rfl)
theorem agg49 : AggT Tryd.prog 49 5 := AggT.of (by kernel_rfl) (by kernel_rfl)
theorem fld26_0 : FldAt Tryd.prog 26 0 0 := FldAt.of (n := 0) (by kernel_rfl)
theorem fld26_1 : FldAt Tryd.prog 26 1 1 := FldAt.of (n := 0) (by kernel_rfl)
theorem fld26_2 : FldAt Tryd.prog 26 2 2 := FldAt.of (n := 0) (by kernel_rfl)
theorem fld26_3 : FldAt Tryd.prog 26 3 3 := FldAt.of (n := 0) (by kernel_rfl)
theorem fld49_0 : FldAt Tryd.prog 49 0 0 := FldAt.of (n := 3) (by kernel_rfl)
theorem fld49_1 : FldAt Tryd.prog 49 1 4 := FldAt.of (n := 0) (by kernel_rfl)
theorem ok21 : CallOk Tryd.prog 21 := CallOk.of (by kernel_rfl)
theorem ok22 : CallOk Tryd.prog 22 := CallOk.of (by kernel_rfl)
theorem ok23 : CallOk Tryd.prog 23 := CallOk.of (by kernel_rfl)
theorem ok29 : CallOk Tryd.prog 29 := CallOk.of (by kernel_rfl)
theorem ok36 : CallOk Tryd.prog 36 := CallOk.of (by kernel_rfl)
theorem ok37 : CallOk Tryd.prog 37 := CallOk.of (by kernel_rfl)
theorem ok38 : CallOk Tryd.prog 38 := CallOk.of (by kernel_rfl)
theorem ok39 : CallOk Tryd.prog 39 := CallOk.of (by kernel_rfl)
theorem ok40 : CallOk Tryd.prog 40 := CallOk.of (by kernel_rfl)
theorem ok41 : CallOk Tryd.prog 41 := CallOk.of (by kernel_rfl)
theorem ok42 : CallOk Tryd.prog 42 := CallOk.of (by kernel_rfl)
theorem ok43 : CallOk Tryd.prog 43 := CallOk.of (by kernel_rfl)
theorem ok52 : CallOk Tryd.prog 52 := CallOk.of (by kernel_rfl)
theorem ok53 : CallOk Tryd.prog 53 := CallOk.of (by kernel_rfl)
theorem ok54 : CallOk Tryd.prog 54 := CallOk.of (by kernel_rfl)
theorem ok55 : CallOk Tryd.prog 55 := CallOk.of (by kernel_rfl)
theorem ok56 : CallOk Tryd.prog 56 := CallOk.of (by kernel_rfl)
theorem ok64 : CallOk Tryd.prog 64 := CallOk.of (by kernel_rfl)
theorem one24 : OneT Tryd.prog 24 := OneT.of (by kernel_rfl)
theorem one3 : OneT Tryd.prog 3 := OneT.of (by kernel_rfl)
theorem one9 : OneT Tryd.prog 9 := OneT.of (by kernel_rfl)
theorem strb26 : StrB Tryd.prog 26 [(0, 1), (1, 1), (2, 1), (3, 1)] [.int .i64 0, vs [], .int .i64 0, .int .i64 0] := StrB.of (by kernel_rfl) (by kernel_rfl)
theorem strb49 : StrB Tryd.prog 49 [(0, 4), (4, 1)] [.int .i64 0, vs [], .int .i64 0, .int .i64 0, .int .i64 0] := StrB.of (by kernel_rfl) (by kernel_rfl)
theorem sz26 : SzIs Tryd.prog 26 4 := SzIs.of (by kernel_rfl)
theorem sz3 : SzIs Tryd.prog 3 1 := SzIs.of (by kernel_rfl)
theorem sz49 : SzIs Tryd.prog 49 5 := SzIs.of (by kernel_rfl)
theorem sz9 : SzIs Tryd.prog 9 1 := SzIs.of (by kernel_rfl)
theorem tyI3 : Tryd.prog.underlying 3 = some (.int .i64) := by kernel_rfl
theorem tyI5 : Tryd.prog.underlying 5 = some (.int .u8) := by kernel_rfl
theorem tyL22 : Tryd.prog.underlying 22 = some (.slice 26) := by kernel_rfl
theorem tyL39 : Tryd.prog.underlying 39 = some (.slice 9) := by kernel_rfl
theorem tyL54 : Tryd.prog.underlying 54 = some (.slice 5) := by kernel_rfl
theorem tyS9 : Tryd.prog.underlying 9 = some .string := by kernel_rfl
theorem zero49 : ZeroT Tryd.prog 49 [.int .i64 0, vs [], .int .i64 0, .int .i64 0, .int .i64 0] := ZeroT.of (by kernel_rfl)
theorem slt22 : SlT Tryd.prog 22 26 4 := ⟨tyL22, sz26⟩
theorem slt39 : SlT Tryd.prog 39 9 1 := ⟨tyL39, sz9⟩
theorem slt_a22_22 : AppT Tryd.prog 22 22 26 4 40 := AppT.of (sz := 3) tyL22 (by kernel_rfl) (by kernel_rfl)
theorem slt_a54_54 : AppT Tryd.prog 54 54 5 1 1 := AppT.of (sz := 0) tyL54 (by kernel_rfl) (by kernel_rfl)
theorem slt_b22 : BldT Tryd.prog 22 26 4 := BldT.of tyL22 (by kernel_rfl)
theorem slt_b39 : BldT Tryd.prog 39 9 1 := BldT.of tyL39 (by kernel_rfl)
theorem slt_b54 : BldT Tryd.prog 54 5 1 := BldT.of tyL54 (by kernel_rfl)
theorem c_letter (b : UInt8) (w0 : World) (h0 : View) (hv : VLe h0 (Full w0))  : Calls Tryd.prog 36 #[v8 b] w0 (Ret w0 h0 fun u _ => u = .bool (isLet b)) := by
  refine f_enter (args := [v8 b]) Tryd.func36 rfl Tryd.ntmps36 rfl fun a hF => ?_
  have hS := St.init w0 h0 hv
  refine c_seq ?_
  refine c_reg ?_
  refine s_pu hF (pu_assign rfl) rfl ?_; clear hF; intro a hF
  refine c_nil ?_
  refine n_then ?_
  refine c_seq ?_
  refine c_reg ?_
  refine s_pu hF (pu_move rfl) rfl ?_; clear hF; intro a hF
  refine s_pu hF (pu_or rfl rfl (r := low b) rfl) rfl ?_; clear hF; intro a hF
  refine s_pu hF (pu_ige rfl rfl) rfl ?_; clear hF; intro a hF
  refine s_pu hF (pu_move rfl) rfl ?_; clear hF; intro a hF
  refine w_split hF ⟨_, _, (rfl : _[3]? = some _), rfl, rfl⟩ (fun hg1_3 => ?_) (fun hg1_3 => ?_)
  · have hg1_3p := hg1_3
    try simp only [decide_eq_true_eq, decide_eq_false_iff_not, Bool.not_eq_true', Bool.not_eq_false', Bool.not_eq_eq_eq_not, Bool.not_true, Bool.not_false] at hg1_3p
    refine g_pu hF ⟨_, _, (rfl : _[3]? = some _), rfl, rfl⟩ hg1_3 (pu_move rfl) rfl ?_; clear hF; intro a hF
    refine g_pu hF ⟨_, _, (rfl : _[3]? = some _), rfl, rfl⟩ hg1_3 (pu_or rfl rfl (r := low b) rfl) rfl ?_; clear hF; intro a hF
    refine g_pu hF ⟨_, _, (rfl : _[3]? = some _), rfl, rfl⟩ hg1_3 (pu_ile rfl rfl) rfl ?_; clear hF; intro a hF
    refine s_pu hF (pu_pick_t rfl hg1_3 rfl) rfl ?_; clear hF; intro a hF
    refine s_pu hF (pu_move rfl) rfl ?_; clear hF; intro a hF
    refine w_split hF ⟨_, _, (rfl : _[8]? = some _), rfl, rfl⟩ (fun hg1_8 => ?_) (fun hg1_8 => ?_)
    · have hg1_8p := hg1_8
      try simp only [decide_eq_true_eq, decide_eq_false_iff_not, Bool.not_eq_true', Bool.not_eq_false', Bool.not_eq_eq_eq_not, Bool.not_true, Bool.not_false] at hg1_8p
      refine g_no hF ⟨_, _, (rfl : _[8]? = some _), rfl, rfl⟩ hg1_8 rfl ?_; clear hF; intro a hF
      refine g_no hF ⟨_, _, (rfl : _[8]? = some _), rfl, rfl⟩ hg1_8 rfl ?_; clear hF; intro a hF
      refine s_pu hF (pu_pick_t rfl hg1_8 rfl) rfl ?_; clear hF; intro a hF
      refine s_pu hF (pu_assign rfl) rfl ?_; clear hF; intro a hF
      refine c_nil ?_
      refine n_then ?_
      refine c_ret ?_
      exact f_ret hF rfl (.tmp rfl (.nil)) (hS.retv (congrArg Value.bool (by simp_all [isLet, isDig, isWord] <;> (intros; omega))))
    · have hg1_8p := hg1_8
      try simp only [decide_eq_true_eq, decide_eq_false_iff_not, Bool.not_eq_true', Bool.not_eq_false', Bool.not_eq_eq_eq_not, Bool.not_true, Bool.not_false] at hg1_8p
      refine g_pu hF ⟨_, _, (rfl : _[8]? = some _), rfl, rfl⟩ hg1_8 (pu_move rfl) rfl ?_; clear hF; intro a hF
      refine g_pu hF ⟨_, _, (rfl : _[8]? = some _), rfl, rfl⟩ hg1_8 (pu_ieq rfl rfl) rfl ?_; clear hF; intro a hF
      refine s_pu hF (pu_pick_f rfl hg1_8 rfl) rfl ?_; clear hF; intro a hF
      refine s_pu hF (pu_assign rfl) rfl ?_; clear hF; intro a hF
      refine c_nil ?_
      refine n_then ?_
      refine c_ret ?_
      exact f_ret hF rfl (.tmp rfl (.nil)) (hS.retv (congrArg Value.bool (by simp_all [isLet, isDig, isWord] <;> (intros; omega))))
  · have hg1_3p := hg1_3
    try simp only [decide_eq_true_eq, decide_eq_false_iff_not, Bool.not_eq_true', Bool.not_eq_false', Bool.not_eq_eq_eq_not, Bool.not_true, Bool.not_false] at hg1_3p
    refine g_no hF ⟨_, _, (rfl : _[3]? = some _), rfl, rfl⟩ hg1_3 rfl ?_; clear hF; intro a hF
    refine g_no hF ⟨_, _, (rfl : _[3]? = some _), rfl, rfl⟩ hg1_3 rfl ?_; clear hF; intro a hF
    refine g_no hF ⟨_, _, (rfl : _[3]? = some _), rfl, rfl⟩ hg1_3 rfl ?_; clear hF; intro a hF
    refine s_pu hF (pu_pick_f rfl hg1_3 rfl) rfl ?_; clear hF; intro a hF
    refine s_pu hF (pu_move rfl) rfl ?_; clear hF; intro a hF
    refine g_pu hF ⟨_, _, (rfl : _[8]? = some _), rfl, rfl⟩ rfl (pu_move rfl) rfl ?_; clear hF; intro a hF
    refine g_pu hF ⟨_, _, (rfl : _[8]? = some _), rfl, rfl⟩ rfl (pu_ieq rfl rfl) rfl ?_; clear hF; intro a hF
    refine s_pu hF (pu_pick_f rfl rfl rfl) rfl ?_; clear hF; intro a hF
    refine s_pu hF (pu_assign rfl) rfl ?_; clear hF; intro a hF
    refine c_nil ?_
    refine n_then ?_
    refine c_ret ?_
    exact f_ret hF rfl (.tmp rfl (.nil)) (hS.retv (congrArg Value.bool (by simp_all [isLet, isDig, isWord] <;> (intros; omega))))
theorem c_digit (b : UInt8) (w0 : World) (h0 : View) (hv : VLe h0 (Full w0))  : Calls Tryd.prog 38 #[v8 b] w0 (Ret w0 h0 fun u _ => u = .bool (isDig b)) := by
  refine f_enter (args := [v8 b]) Tryd.func38 rfl Tryd.ntmps38 rfl fun a hF => ?_
  have hS := St.init w0 h0 hv
  refine c_seq ?_
  refine c_reg ?_
  refine s_pu hF (pu_assign rfl) rfl ?_; clear hF; intro a hF
  refine c_nil ?_
  refine n_then ?_
  refine c_seq ?_
  refine c_reg ?_
  refine s_pu hF (pu_move rfl) rfl ?_; clear hF; intro a hF
  refine s_pu hF (pu_ige rfl rfl) rfl ?_; clear hF; intro a hF
  refine s_pu hF (pu_move rfl) rfl ?_; clear hF; intro a hF
  refine w_split hF ⟨_, _, (rfl : _[2]? = some _), rfl, rfl⟩ (fun hg1_2 => ?_) (fun hg1_2 => ?_)
  · have hg1_2p := hg1_2
    try simp only [decide_eq_true_eq, decide_eq_false_iff_not, Bool.not_eq_true', Bool.not_eq_false', Bool.not_eq_eq_eq_not, Bool.not_true, Bool.not_false] at hg1_2p
    refine g_pu hF ⟨_, _, (rfl : _[2]? = some _), rfl, rfl⟩ hg1_2 (pu_move rfl) rfl ?_; clear hF; intro a hF
    refine g_pu hF ⟨_, _, (rfl : _[2]? = some _), rfl, rfl⟩ hg1_2 (pu_ile rfl rfl) rfl ?_; clear hF; intro a hF
    refine s_pu hF (pu_pick_t rfl hg1_2 rfl) rfl ?_; clear hF; intro a hF
    refine s_pu hF (pu_assign rfl) rfl ?_; clear hF; intro a hF
    refine c_nil ?_
    refine n_then ?_
    refine c_ret ?_
    exact f_ret hF rfl (.tmp rfl (.nil)) (hS.retv (congrArg Value.bool (by simp_all [isLet, isDig, isWord] <;> (intros; omega))))
  · have hg1_2p := hg1_2
    try simp only [decide_eq_true_eq, decide_eq_false_iff_not, Bool.not_eq_true', Bool.not_eq_false', Bool.not_eq_eq_eq_not, Bool.not_true, Bool.not_false] at hg1_2p
    refine g_no hF ⟨_, _, (rfl : _[2]? = some _), rfl, rfl⟩ hg1_2 rfl ?_; clear hF; intro a hF
    refine g_no hF ⟨_, _, (rfl : _[2]? = some _), rfl, rfl⟩ hg1_2 rfl ?_; clear hF; intro a hF
    refine s_pu hF (pu_pick_f rfl hg1_2 rfl) rfl ?_; clear hF; intro a hF
    refine s_pu hF (pu_assign rfl) rfl ?_; clear hF; intro a hF
    refine c_nil ?_
    refine n_then ?_
    refine c_ret ?_
    exact f_ret hF rfl (.tmp rfl (.nil)) (hS.retv (congrArg Value.bool (by simp_all [isLet, isDig, isWord] <;> (intros; omega))))
theorem c_Rletter (b : UInt8) (w0 : World) (h0 : View) (hv : VLe h0 (Full w0))  : Calls Tryd.prog 52 #[v8 b] w0 (Ret w0 h0 fun u _ => u = .bool (isLet b)) := by
  refine f_enter (args := [v8 b]) Tryd.func52 rfl Tryd.ntmps52 rfl fun a hF => ?_
  have hS := St.init w0 h0 hv
  refine c_seq ?_
  refine c_reg ?_
  refine s_pu hF (pu_assign rfl) rfl ?_; clear hF; intro a hF
  refine c_nil ?_
  refine n_then ?_
  refine c_seq ?_
  refine c_reg ?_
  refine s_pu hF (pu_move rfl) rfl ?_; clear hF; intro a hF
  refine s_pu hF (pu_ige rfl rfl) rfl ?_; clear hF; intro a hF
  refine s_pu hF (pu_move rfl) rfl ?_; clear hF; intro a hF
  refine w_split hF ⟨_, _, (rfl : _[2]? = some _), rfl, rfl⟩ (fun hg1_2 => ?_) (fun hg1_2 => ?_)
  · have hg1_2p := hg1_2
    try simp only [decide_eq_true_eq, decide_eq_false_iff_not, Bool.not_eq_true', Bool.not_eq_false', Bool.not_eq_eq_eq_not, Bool.not_true, Bool.not_false] at hg1_2p
    refine g_pu hF ⟨_, _, (rfl : _[2]? = some _), rfl, rfl⟩ hg1_2 (pu_move rfl) rfl ?_; clear hF; intro a hF
    refine g_pu hF ⟨_, _, (rfl : _[2]? = some _), rfl, rfl⟩ hg1_2 (pu_ile rfl rfl) rfl ?_; clear hF; intro a hF
    refine s_pu hF (pu_pick_t rfl hg1_2 rfl) rfl ?_; clear hF; intro a hF
    refine s_pu hF (pu_move rfl) rfl ?_; clear hF; intro a hF
    refine w_split hF ⟨_, _, (rfl : _[6]? = some _), rfl, rfl⟩ (fun hg1_6 => ?_) (fun hg1_6 => ?_)
    · have hg1_6p := hg1_6
      try simp only [decide_eq_true_eq, decide_eq_false_iff_not, Bool.not_eq_true', Bool.not_eq_false', Bool.not_eq_eq_eq_not, Bool.not_true, Bool.not_false] at hg1_6p
      refine g_no hF ⟨_, _, (rfl : _[6]? = some _), rfl, rfl⟩ hg1_6 rfl ?_; clear hF; intro a hF
      refine g_no hF ⟨_, _, (rfl : _[6]? = some _), rfl, rfl⟩ hg1_6 rfl ?_; clear hF; intro a hF
      refine g_no hF ⟨_, _, (rfl : _[6]? = some _), rfl, rfl⟩ hg1_6 rfl ?_; clear hF; intro a hF
      refine g_noU hF ⟨_, _, (rfl : _[9]? = some _), rfl, rfl⟩ rfl ?_; clear hF; intro a hF
      refine g_noU hF ⟨_, _, (rfl : _[9]? = some _), rfl, rfl⟩ rfl ?_; clear hF; intro a hF
      refine g_no hF ⟨_, _, (rfl : _[6]? = some _), rfl, rfl⟩ hg1_6 rfl ?_; clear hF; intro a hF
      refine s_pu hF (pu_pick_t rfl hg1_6 rfl) rfl ?_; clear hF; intro a hF
      refine s_pu hF (pu_move rfl) rfl ?_; clear hF; intro a hF
      refine g_no hF ⟨_, _, (rfl : _[14]? = some _), rfl, rfl⟩ rfl rfl ?_; clear hF; intro a hF
      refine g_no hF ⟨_, _, (rfl : _[14]? = some _), rfl, rfl⟩ rfl rfl ?_; clear hF; intro a hF
      refine s_pu hF (pu_pick_t rfl rfl rfl) rfl ?_; clear hF; intro a hF
      refine s_pu hF (pu_assign rfl) rfl ?_; clear hF; intro a hF
      refine c_nil ?_
      refine n_then ?_
      refine c_ret ?_
      exact f_ret hF rfl (.tmp rfl (.nil)) (hS.retv (congrArg Value.bool (by rw [isLet_ref]; simp_all <;> (intros; omega))))
    · have hg1_6p := hg1_6
      try simp only [decide_eq_true_eq, decide_eq_false_iff_not, Bool.not_eq_true', Bool.not_eq_false', Bool.not_eq_eq_eq_not, Bool.not_true, Bool.not_false] at hg1_6p
      refine g_pu hF ⟨_, _, (rfl : _[6]? = some _), rfl, rfl⟩ hg1_6 (pu_move rfl) rfl ?_; clear hF; intro a hF
      refine g_pu hF ⟨_, _, (rfl : _[6]? = some _), rfl, rfl⟩ hg1_6 (pu_ige rfl rfl) rfl ?_; clear hF; intro a hF
      refine g_pu hF ⟨_, _, (rfl : _[6]? = some _), rfl, rfl⟩ hg1_6 (pu_move rfl) rfl ?_; clear hF; intro a hF
      refine w_split hF ⟨_, _, (rfl : _[9]? = some _), rfl, rfl⟩ (fun hg1_9 => ?_) (fun hg1_9 => ?_)
      · have hg1_9p := hg1_9
        try simp only [decide_eq_true_eq, decide_eq_false_iff_not, Bool.not_eq_true', Bool.not_eq_false', Bool.not_eq_eq_eq_not, Bool.not_true, Bool.not_false] at hg1_9p
        refine g_pu hF ⟨_, _, (rfl : _[9]? = some _), rfl, rfl⟩ hg1_9 (pu_move rfl) rfl ?_; clear hF; intro a hF
        refine g_pu hF ⟨_, _, (rfl : _[9]? = some _), rfl, rfl⟩ hg1_9 (pu_ile rfl rfl) rfl ?_; clear hF; intro a hF
        refine g_pu hF ⟨_, _, (rfl : _[6]? = some _), rfl, rfl⟩ hg1_6 (pu_pick_t rfl hg1_9 rfl) rfl ?_; clear hF; intro a hF
        refine s_pu hF (pu_pick_f rfl hg1_6 rfl) rfl ?_; clear hF; intro a hF
        refine s_pu hF (pu_move rfl) rfl ?_; clear hF; intro a hF
        refine w_split hF ⟨_, _, (rfl : _[14]? = some _), rfl, rfl⟩ (fun hg1_14 => ?_) (fun hg1_14 => ?_)
        · have hg1_14p := hg1_14
          try simp only [decide_eq_true_eq, decide_eq_false_iff_not, Bool.not_eq_true', Bool.not_eq_false', Bool.not_eq_eq_eq_not, Bool.not_true, Bool.not_false] at hg1_14p
          refine g_no hF ⟨_, _, (rfl : _[14]? = some _), rfl, rfl⟩ hg1_14 rfl ?_; clear hF; intro a hF
          refine g_no hF ⟨_, _, (rfl : _[14]? = some _), rfl, rfl⟩ hg1_14 rfl ?_; clear hF; intro a hF
          refine s_pu hF (pu_pick_t rfl hg1_14 rfl) rfl ?_; clear hF; intro a hF
          refine s_pu hF (pu_assign rfl) rfl ?_; clear hF; intro a hF
          refine c_nil ?_
          refine n_then ?_
          refine c_ret ?_
          exact f_ret hF rfl (.tmp rfl (.nil)) (hS.retv (congrArg Value.bool (by rw [isLet_ref]; simp_all <;> (intros; omega))))
        · have hg1_14p := hg1_14
          try simp only [decide_eq_true_eq, decide_eq_false_iff_not, Bool.not_eq_true', Bool.not_eq_false', Bool.not_eq_eq_eq_not, Bool.not_true, Bool.not_false] at hg1_14p
          refine g_pu hF ⟨_, _, (rfl : _[14]? = some _), rfl, rfl⟩ hg1_14 (pu_move rfl) rfl ?_; clear hF; intro a hF
          refine g_pu hF ⟨_, _, (rfl : _[14]? = some _), rfl, rfl⟩ hg1_14 (pu_ieq rfl rfl) rfl ?_; clear hF; intro a hF
          refine s_pu hF (pu_pick_f rfl hg1_14 rfl) rfl ?_; clear hF; intro a hF
          refine s_pu hF (pu_assign rfl) rfl ?_; clear hF; intro a hF
          refine c_nil ?_
          refine n_then ?_
          refine c_ret ?_
          exact f_ret hF rfl (.tmp rfl (.nil)) (hS.retv (congrArg Value.bool (by rw [isLet_ref]; simp_all <;> (intros; omega))))
      · have hg1_9p := hg1_9
        try simp only [decide_eq_true_eq, decide_eq_false_iff_not, Bool.not_eq_true', Bool.not_eq_false', Bool.not_eq_eq_eq_not, Bool.not_true, Bool.not_false] at hg1_9p
        refine g_no hF ⟨_, _, (rfl : _[9]? = some _), rfl, rfl⟩ hg1_9 rfl ?_; clear hF; intro a hF
        refine g_no hF ⟨_, _, (rfl : _[9]? = some _), rfl, rfl⟩ hg1_9 rfl ?_; clear hF; intro a hF
        refine g_pu hF ⟨_, _, (rfl : _[6]? = some _), rfl, rfl⟩ hg1_6 (pu_pick_f rfl hg1_9 rfl) rfl ?_; clear hF; intro a hF
        refine s_pu hF (pu_pick_f rfl hg1_6 rfl) rfl ?_; clear hF; intro a hF
        refine s_pu hF (pu_move rfl) rfl ?_; clear hF; intro a hF
        refine g_pu hF ⟨_, _, (rfl : _[14]? = some _), rfl, rfl⟩ rfl (pu_move rfl) rfl ?_; clear hF; intro a hF
        refine g_pu hF ⟨_, _, (rfl : _[14]? = some _), rfl, rfl⟩ rfl (pu_ieq rfl rfl) rfl ?_; clear hF; intro a hF
        refine s_pu hF (pu_pick_f rfl rfl rfl) rfl ?_; clear hF; intro a hF
        refine s_pu hF (pu_assign rfl) rfl ?_; clear hF; intro a hF
        refine c_nil ?_
        refine n_then ?_
        refine c_ret ?_
        exact f_ret hF rfl (.tmp rfl (.nil)) (hS.retv (congrArg Value.bool (by rw [isLet_ref]; simp_all <;> (intros; omega))))
  · have hg1_2p := hg1_2
    try simp only [decide_eq_true_eq, decide_eq_false_iff_not, Bool.not_eq_true', Bool.not_eq_false', Bool.not_eq_eq_eq_not, Bool.not_true, Bool.not_false] at hg1_2p
    refine g_no hF ⟨_, _, (rfl : _[2]? = some _), rfl, rfl⟩ hg1_2 rfl ?_; clear hF; intro a hF
    refine g_no hF ⟨_, _, (rfl : _[2]? = some _), rfl, rfl⟩ hg1_2 rfl ?_; clear hF; intro a hF
    refine s_pu hF (pu_pick_f rfl hg1_2 rfl) rfl ?_; clear hF; intro a hF
    refine s_pu hF (pu_move rfl) rfl ?_; clear hF; intro a hF
    refine g_pu hF ⟨_, _, (rfl : _[6]? = some _), rfl, rfl⟩ rfl (pu_move rfl) rfl ?_; clear hF; intro a hF
    refine g_pu hF ⟨_, _, (rfl : _[6]? = some _), rfl, rfl⟩ rfl (pu_ige rfl rfl) rfl ?_; clear hF; intro a hF
    refine g_pu hF ⟨_, _, (rfl : _[6]? = some _), rfl, rfl⟩ rfl (pu_move rfl) rfl ?_; clear hF; intro a hF
    refine w_split hF ⟨_, _, (rfl : _[9]? = some _), rfl, rfl⟩ (fun hg1_9 => ?_) (fun hg1_9 => ?_)
    · have hg1_9p := hg1_9
      try simp only [decide_eq_true_eq, decide_eq_false_iff_not, Bool.not_eq_true', Bool.not_eq_false', Bool.not_eq_eq_eq_not, Bool.not_true, Bool.not_false] at hg1_9p
      refine g_pu hF ⟨_, _, (rfl : _[9]? = some _), rfl, rfl⟩ hg1_9 (pu_move rfl) rfl ?_; clear hF; intro a hF
      refine g_pu hF ⟨_, _, (rfl : _[9]? = some _), rfl, rfl⟩ hg1_9 (pu_ile rfl rfl) rfl ?_; clear hF; intro a hF
      refine g_pu hF ⟨_, _, (rfl : _[6]? = some _), rfl, rfl⟩ rfl (pu_pick_t rfl hg1_9 rfl) rfl ?_; clear hF; intro a hF
      refine s_pu hF (pu_pick_f rfl rfl rfl) rfl ?_; clear hF; intro a hF
      refine s_pu hF (pu_move rfl) rfl ?_; clear hF; intro a hF
      refine w_split hF ⟨_, _, (rfl : _[14]? = some _), rfl, rfl⟩ (fun hg1_14 => ?_) (fun hg1_14 => ?_)
      · have hg1_14p := hg1_14
        try simp only [decide_eq_true_eq, decide_eq_false_iff_not, Bool.not_eq_true', Bool.not_eq_false', Bool.not_eq_eq_eq_not, Bool.not_true, Bool.not_false] at hg1_14p
        refine g_no hF ⟨_, _, (rfl : _[14]? = some _), rfl, rfl⟩ hg1_14 rfl ?_; clear hF; intro a hF
        refine g_no hF ⟨_, _, (rfl : _[14]? = some _), rfl, rfl⟩ hg1_14 rfl ?_; clear hF; intro a hF
        refine s_pu hF (pu_pick_t rfl hg1_14 rfl) rfl ?_; clear hF; intro a hF
        refine s_pu hF (pu_assign rfl) rfl ?_; clear hF; intro a hF
        refine c_nil ?_
        refine n_then ?_
        refine c_ret ?_
        exact f_ret hF rfl (.tmp rfl (.nil)) (hS.retv (congrArg Value.bool (by rw [isLet_ref]; simp_all <;> (intros; omega))))
      · have hg1_14p := hg1_14
        try simp only [decide_eq_true_eq, decide_eq_false_iff_not, Bool.not_eq_true', Bool.not_eq_false', Bool.not_eq_eq_eq_not, Bool.not_true, Bool.not_false] at hg1_14p
        refine g_pu hF ⟨_, _, (rfl : _[14]? = some _), rfl, rfl⟩ hg1_14 (pu_move rfl) rfl ?_; clear hF; intro a hF
        refine g_pu hF ⟨_, _, (rfl : _[14]? = some _), rfl, rfl⟩ hg1_14 (pu_ieq rfl rfl) rfl ?_; clear hF; intro a hF
        refine s_pu hF (pu_pick_f rfl hg1_14 rfl) rfl ?_; clear hF; intro a hF
        refine s_pu hF (pu_assign rfl) rfl ?_; clear hF; intro a hF
        refine c_nil ?_
        refine n_then ?_
        refine c_ret ?_
        exact f_ret hF rfl (.tmp rfl (.nil)) (hS.retv (congrArg Value.bool (by rw [isLet_ref]; simp_all <;> (intros; omega))))
    · have hg1_9p := hg1_9
      try simp only [decide_eq_true_eq, decide_eq_false_iff_not, Bool.not_eq_true', Bool.not_eq_false', Bool.not_eq_eq_eq_not, Bool.not_true, Bool.not_false] at hg1_9p
      refine g_no hF ⟨_, _, (rfl : _[9]? = some _), rfl, rfl⟩ hg1_9 rfl ?_; clear hF; intro a hF
      refine g_no hF ⟨_, _, (rfl : _[9]? = some _), rfl, rfl⟩ hg1_9 rfl ?_; clear hF; intro a hF
      refine g_pu hF ⟨_, _, (rfl : _[6]? = some _), rfl, rfl⟩ rfl (pu_pick_f rfl hg1_9 rfl) rfl ?_; clear hF; intro a hF
      refine s_pu hF (pu_pick_f rfl rfl rfl) rfl ?_; clear hF; intro a hF
      refine s_pu hF (pu_move rfl) rfl ?_; clear hF; intro a hF
      refine g_pu hF ⟨_, _, (rfl : _[14]? = some _), rfl, rfl⟩ rfl (pu_move rfl) rfl ?_; clear hF; intro a hF
      refine g_pu hF ⟨_, _, (rfl : _[14]? = some _), rfl, rfl⟩ rfl (pu_ieq rfl rfl) rfl ?_; clear hF; intro a hF
      refine s_pu hF (pu_pick_f rfl rfl rfl) rfl ?_; clear hF; intro a hF
      refine s_pu hF (pu_assign rfl) rfl ?_; clear hF; intro a hF
      refine c_nil ?_
      refine n_then ?_
      refine c_ret ?_
      exact f_ret hF rfl (.tmp rfl (.nil)) (hS.retv (congrArg Value.bool (by rw [isLet_ref]; simp_all <;> (intros; omega))))
theorem c_Rdigit (b : UInt8) (w0 : World) (h0 : View) (hv : VLe h0 (Full w0))  : Calls Tryd.prog 53 #[v8 b] w0 (Ret w0 h0 fun u _ => u = .bool (isDig b)) := by
  refine f_enter (args := [v8 b]) Tryd.func53 rfl Tryd.ntmps53 rfl fun a hF => ?_
  have hS := St.init w0 h0 hv
  refine c_seq ?_
  refine c_reg ?_
  refine s_pu hF (pu_assign rfl) rfl ?_; clear hF; intro a hF
  refine c_nil ?_
  refine n_then ?_
  refine c_seq ?_
  refine c_reg ?_
  refine s_pu hF (pu_move rfl) rfl ?_; clear hF; intro a hF
  refine s_pu hF (pu_ige rfl rfl) rfl ?_; clear hF; intro a hF
  refine s_pu hF (pu_move rfl) rfl ?_; clear hF; intro a hF
  refine w_split hF ⟨_, _, (rfl : _[2]? = some _), rfl, rfl⟩ (fun hg1_2 => ?_) (fun hg1_2 => ?_)
  · have hg1_2p := hg1_2
    try simp only [decide_eq_true_eq, decide_eq_false_iff_not, Bool.not_eq_true', Bool.not_eq_false', Bool.not_eq_eq_eq_not, Bool.not_true, Bool.not_false] at hg1_2p
    refine g_pu hF ⟨_, _, (rfl : _[2]? = some _), rfl, rfl⟩ hg1_2 (pu_move rfl) rfl ?_; clear hF; intro a hF
    refine g_pu hF ⟨_, _, (rfl : _[2]? = some _), rfl, rfl⟩ hg1_2 (pu_ile rfl rfl) rfl ?_; clear hF; intro a hF
    refine s_pu hF (pu_pick_t rfl hg1_2 rfl) rfl ?_; clear hF; intro a hF
    refine s_pu hF (pu_assign rfl) rfl ?_; clear hF; intro a hF
    refine c_nil ?_
    refine n_then ?_
    refine c_ret ?_
    exact f_ret hF rfl (.tmp rfl (.nil)) (hS.retv (congrArg Value.bool (by simp_all [isLet, isDig, isWord] <;> (intros; omega))))
  · have hg1_2p := hg1_2
    try simp only [decide_eq_true_eq, decide_eq_false_iff_not, Bool.not_eq_true', Bool.not_eq_false', Bool.not_eq_eq_eq_not, Bool.not_true, Bool.not_false] at hg1_2p
    refine g_no hF ⟨_, _, (rfl : _[2]? = some _), rfl, rfl⟩ hg1_2 rfl ?_; clear hF; intro a hF
    refine g_no hF ⟨_, _, (rfl : _[2]? = some _), rfl, rfl⟩ hg1_2 rfl ?_; clear hF; intro a hF
    refine s_pu hF (pu_pick_f rfl hg1_2 rfl) rfl ?_; clear hF; intro a hF
    refine s_pu hF (pu_assign rfl) rfl ?_; clear hF; intro a hF
    refine c_nil ?_
    refine n_then ?_
    refine c_ret ?_
    exact f_ret hF rfl (.tmp rfl (.nil)) (hS.retv (congrArg Value.bool (by simp_all [isLet, isDig, isWord] <;> (intros; omega))))
theorem c_word1 (b : UInt8) (w0 : World) (h0 : View) (hv : VLe h0 (Full w0))  : Calls Tryd.prog 43 #[v8 b] w0 (Ret w0 h0 fun u _ => u = .bool (isWord b)) := by
  refine f_enter (args := [v8 b]) Tryd.func43 rfl Tryd.ntmps43 rfl fun a hF => ?_
  have hS := St.init w0 h0 hv
  refine c_seq ?_
  refine c_reg ?_
  refine s_pu hF (pu_assign rfl) rfl ?_; clear hF; intro a hF
  refine c_nil ?_
  refine n_then ?_
  refine c_seq ?_
  refine c_reg ?_
  refine s_pu hF (pu_move rfl) rfl ?_; clear hF; intro a hF
  refine s_callv hF hS ok36 rfl (c_letter b _ _ hS.view) rfl ?_; clear hS hF; intro w a hS hF
  refine s_pu hF (pu_move rfl) rfl ?_; clear hF; intro a hF
  refine w_split hF ⟨_, _, (rfl : _[2]? = some _), rfl, rfl⟩ (fun hg1_2 => ?_) (fun hg1_2 => ?_)
  · have hg1_2p := hg1_2
    try simp only [decide_eq_true_eq, decide_eq_false_iff_not, Bool.not_eq_true', Bool.not_eq_false', Bool.not_eq_eq_eq_not, Bool.not_true, Bool.not_false] at hg1_2p
    refine g_no hF ⟨_, _, (rfl : _[2]? = some _), rfl, rfl⟩ hg1_2 rfl ?_; clear hF; intro a hF
    refine g_no hF ⟨_, _, (rfl : _[2]? = some _), rfl, rfl⟩ hg1_2 rfl ?_; clear hF; intro a hF
    refine s_pu hF (pu_pick_t rfl hg1_2 rfl) rfl ?_; clear hF; intro a hF
    refine s_pu hF (pu_assign rfl) rfl ?_; clear hF; intro a hF
    refine c_nil ?_
    refine n_then ?_
    refine c_ret ?_
    exact f_ret hF rfl (.tmp rfl (.nil)) (hS.retv (congrArg Value.bool (by simp_all [isLet, isDig, isWord] <;> (intros; omega))))
  · have hg1_2p := hg1_2
    try simp only [decide_eq_true_eq, decide_eq_false_iff_not, Bool.not_eq_true', Bool.not_eq_false', Bool.not_eq_eq_eq_not, Bool.not_true, Bool.not_false] at hg1_2p
    refine g_pu hF ⟨_, _, (rfl : _[2]? = some _), rfl, rfl⟩ hg1_2 (pu_move rfl) rfl ?_; clear hF; intro a hF
    refine g_callv hF hS ⟨_, _, (rfl : _[2]? = some _), rfl, rfl⟩ hg1_2 ok38 rfl (c_digit b _ _ hS.view) rfl ?_; clear hS hF; intro w a hS hF
    refine s_pu hF (pu_pick_f rfl hg1_2 rfl) rfl ?_; clear hF; intro a hF
    refine s_pu hF (pu_assign rfl) rfl ?_; clear hF; intro a hF
    refine c_nil ?_
    refine n_then ?_
    refine c_ret ?_
    exact f_ret hF rfl (.tmp rfl (.nil)) (hS.retv (congrArg Value.bool (by simp_all [isLet, isDig, isWord] <;> (intros; omega))))
theorem c_run (s : List UInt8) (g : FuncId) (p : UInt8 → Bool) (hg : CallOk Tryd.prog g) (w0 : World) (h0 : View) (hv : VLe h0 (Full w0)) (hp : ∀ b w', VLe h0 (Full w') → Calls Tryd.prog g #[v8 b] w' (Ret w' (Full w') fun u _ => u = .bool (p b))) (hs : s.length ≤ 1000000) : Calls Tryd.prog 42 #[vs s, .func (.func g) #[] #[]] w0 (Ret w0 h0 fun u _ => u = .int .i64 ((s.takeWhile p).length : Nat)) := by
  refine f_enter (args := [vs s, .func (.func g) #[] #[]]) Tryd.func42 rfl Tryd.ntmps42 rfl fun a hF => ?_
  have hS := St.init w0 h0 hv
  refine c_seq ?_
  refine c_reg ?_
  refine s_pu hF (pu_assign rfl) rfl ?_; clear hF; intro a hF
  refine c_nil ?_
  refine n_then ?_
  refine c_seq ?_
  refine c_seq ?_
  refine c_reg ?_
  refine s_pu hF (pu_move rfl) rfl ?_; clear hF; intro a hF
  refine s_pu hF (pu_len_s tyS9 rfl rfl) rfl ?_; clear hF; intro a hF
  refine s_pu hF (pu_move rfl) rfl ?_; clear hF; intro a hF
  refine c_nil ?_
  refine n_then ?_
  refine c_block ?_
  refine hS.cut fun O0 F0 hO0 hF0 hS => ?_
  refine hF.cut (.cons (k := 8) rfl <| .nil) (.cons (k := 0) rfl <| .cons (k := 1) rfl <| .cons (k := 7) rfl <| .nil) fun L0 hL0 hF => ?_
  refine c_loop (α := Nat) (fun k a w => k ≤ s.length ∧ (s.take k).all p = true ∧ Fr a 21 ([(8, .val (.int .i64 k))] ++ L0) ∧ St w0 h0 [] w O0 F0) (fun k => s.length - k) 0 (⟨by omega, by simp, hF, hS⟩) ?_
  subst hO0 hF0 hL0
  rintro k a w ⟨hk, ha, hF, hS⟩
  refine c_seq ?_
  refine c_reg ?_
  refine s_pu hF (pu_ilt rfl rfl) rfl ?_; clear hF; intro a hF
  refine c_nil ?_
  refine n_then ?_
  refine c_seq ?_
  refine c_if hF rfl (fun hc9 => ?_) (fun hc9 => ?_)
  · try simp only [decide_eq_true_eq, decide_eq_false_iff_not, Bool.not_eq_true', Bool.not_eq_false', Bool.not_eq_eq_eq_not, Bool.not_true, Bool.not_false] at hc9
    refine c_skip ?_
    refine n_then ?_
    refine c_seq ?_
    refine c_block ?_
    refine c_seq ?_
    refine c_reg ?_
    refine s_pu hF (pu_move rfl) rfl ?_; clear hF; intro a hF
    refine s_pu hF (pu_assign rfl) rfl ?_; clear hF; intro a hF
    refine c_nil ?_
    refine n_then ?_
    refine c_seq ?_
    refine c_reg ?_
    refine s_pu hF (pu_move rfl) rfl ?_; clear hF; intro a hF
    refine s_pu hF (pu_move rfl) rfl ?_; clear hF; intro a hF
    refine s_pu hF (pu_move rfl) rfl ?_; clear hF; intro a hF
    refine s_pu hF (pu_idxn tyS9 rfl rfl rfl (by omega)) rfl ?_; clear hF; intro a hF
    refine s_callF hF hS hg rfl rfl (hp _ _ hS.base) rfl ?_; clear hS hF; intro w a hS hF
    refine s_pu hF (pu_not rfl) rfl ?_; clear hF; intro a hF
    refine c_nil ?_
    refine n_then ?_
    refine c_if hF rfl (fun hc16 => ?_) (fun hc16 => ?_)
    · try simp only [decide_eq_true_eq, decide_eq_false_iff_not, Bool.not_eq_true', Bool.not_eq_false', Bool.not_eq_eq_eq_not, Bool.not_true, Bool.not_false] at hc16
      refine c_seq ?_
      refine c_reg ?_
      refine s_pu hF (pu_move rfl) rfl ?_; clear hF; intro a hF
      refine s_pu hF (pu_assign rfl) rfl ?_; clear hF; intro a hF
      refine c_nil ?_
      refine n_then ?_
      refine c_ret (r_block (r_then (r_then (r_block (r_then ?_)))))
      exact f_ret hF rfl (.tmp rfl (.nil)) (hS.retv (by rw [tw_len p s k ha hk (.inr hc16)]; rfl))
    · try simp only [decide_eq_true_eq, decide_eq_false_iff_not, Bool.not_eq_true', Bool.not_eq_false', Bool.not_eq_eq_eq_not, Bool.not_true, Bool.not_false] at hc16
      refine c_skip ?_
      refine n_block ?_
      refine n_then ?_
      refine c_reg ?_
      refine s_pu hF (pu_add rfl rfl (by first | exact wrap_i64 (by omega) (by omega) | rfl)) rfl ?_; clear hF; intro a hF
      refine s_pu hF (pu_move rfl) rfl ?_; clear hF; intro a hF
      refine c_nil ?_
      exact ⟨k + 1, ⟨by omega, all_snoc p s k (by omega) ha hc16, hF.pick (.cons (k := 8) rfl <| .cons (k := 0) rfl <| .cons (k := 1) rfl <| .cons (k := 7) rfl <| .nil), hS⟩, by omega⟩
  · try simp only [decide_eq_true_eq, decide_eq_false_iff_not, Bool.not_eq_true', Bool.not_eq_false', Bool.not_eq_eq_eq_not, Bool.not_true, Bool.not_false] at hc9
    obtain rfl : k = s.length := by omega
    refine c_exit (x_then (x_then (x_here ?_)))
    refine n_then ?_
    refine c_seq ?_
    refine c_reg ?_
    refine s_pu hF (pu_move rfl) rfl ?_; clear hF; intro a hF
    refine s_pu hF (pu_len_s tyS9 rfl rfl) rfl ?_; clear hF; intro a hF
    refine s_pu hF (pu_assign rfl) rfl ?_; clear hF; intro a hF
    refine c_nil ?_
    refine n_then ?_
    refine c_ret ?_
    exact f_ret hF rfl (.tmp rfl (.nil)) (hS.retv (by rw [tw_len p s _ ha hk (.inl rfl)]; rfl))
theorem c_runD (s : List UInt8) (hs : s.length ≤ 1000000) (w0 : World) (h0 : View) (hv : VLe h0 (Full w0)) : Calls Tryd.prog 42 #[vs s, .func (.func 38) #[] #[]] w0 (Ret w0 h0 fun u _ => u = .int .i64 (digN s : Nat)) :=
  c_run s 38 isDig ok38 w0 h0 hv (fun b w1 _ => c_digit b w1 (Full w1) (VLe.refl _)) hs

theorem c_word (s : List UInt8) (hs : s.length ≤ 1000000) (w0 : World) (h0 : View) (hv : VLe h0 (Full w0))  : Calls Tryd.prog 22 #[vs s] w0 (Ret w0 h0 fun u _ => u = .int .i64 (wordN s : Nat)) := by
  refine f_enter (args := [vs s]) Tryd.func22 rfl Tryd.ntmps22 rfl fun a hF => ?_
  have hS := St.init w0 h0 hv
  refine c_seq ?_
  refine c_reg ?_
  refine s_pu hF (pu_assign rfl) rfl ?_; clear hF; intro a hF
  refine c_nil ?_
  refine n_then ?_
  refine c_seq ?_
  refine c_seq ?_
  refine c_reg ?_
  refine s_pu hF (pu_move rfl) rfl ?_; clear hF; intro a hF
  refine s_pu hF (pu_seq rfl rfl) rfl ?_; clear hF; intro a hF
  refine s_pu hF (pu_move rfl) rfl ?_; clear hF; intro a hF
  refine w_split hF ⟨_, _, (rfl : _[2]? = some _), rfl, rfl⟩ (fun hg1_2 => ?_) (fun hg1_2 => ?_)
  · have hg1_2p := hg1_2
    try simp only [decide_eq_true_eq, decide_eq_false_iff_not, Bool.not_eq_true', Bool.not_eq_false', Bool.not_eq_eq_eq_not, Bool.not_true, Bool.not_false] at hg1_2p
    subst hg1_2p
    refine g_no hF ⟨_, _, (rfl : _[2]? = some _), rfl, rfl⟩ hg1_2 rfl ?_; clear hF; intro a hF
    refine g_no hF ⟨_, _, (rfl : _[2]? = some _), rfl, rfl⟩ hg1_2 rfl ?_; clear hF; intro a hF
    refine g_no hF ⟨_, _, (rfl : _[2]? = some _), rfl, rfl⟩ hg1_2 rfl ?_; clear hF; intro a hF
    refine g_no hF ⟨_, _, (rfl : _[2]? = some _), rfl, rfl⟩ hg1_2 rfl ?_; clear hF; intro a hF
    refine s_pu hF (pu_pick_t rfl hg1_2 rfl) rfl ?_; clear hF; intro a hF
    refine c_nil ?_
    refine n_then ?_
    refine c_ift hF rfl rfl ?_
    refine c_seq ?_
    refine c_reg ?_
    refine s_pu hF (pu_assign rfl) rfl ?_; clear hF; intro a hF
    refine c_nil ?_
    refine n_then ?_
    refine c_ret (r_then ?_)
    exact f_ret hF rfl (.tmp rfl (.nil)) (hS.retv rfl)
  · have hg1_2p := hg1_2
    try simp only [decide_eq_true_eq, decide_eq_false_iff_not, Bool.not_eq_true', Bool.not_eq_false', Bool.not_eq_eq_eq_not, Bool.not_true, Bool.not_false] at hg1_2p
    have hpos : 0 < s.length := List.length_pos_iff.2 hg1_2p
    refine g_pu hF ⟨_, _, (rfl : _[2]? = some _), rfl, rfl⟩ hg1_2 (pu_move rfl) rfl ?_; clear hF; intro a hF
    refine g_pu hF ⟨_, _, (rfl : _[2]? = some _), rfl, rfl⟩ hg1_2 (pu_idxn (j := 0) tyS9 rfl rfl rfl (by omega)) rfl ?_; clear hF; intro a hF
    refine g_callv hF hS ⟨_, _, (rfl : _[2]? = some _), rfl, rfl⟩ hg1_2 ok36 rfl (c_letter _ _ _ hS.view) rfl ?_; clear hS hF; intro w a hS hF
    refine g_pu hF ⟨_, _, (rfl : _[2]? = some _), rfl, rfl⟩ hg1_2 (pu_not rfl) rfl ?_; clear hF; intro a hF
    refine s_pu hF (pu_pick_f rfl hg1_2 rfl) rfl ?_; clear hF; intro a hF
    refine c_nil ?_
    refine n_then ?_
    refine c_if hF rfl (fun hc10 => ?_) (fun hc10 => ?_)
    · try simp only [decide_eq_true_eq, decide_eq_false_iff_not, Bool.not_eq_true', Bool.not_eq_false', Bool.not_eq_eq_eq_not, Bool.not_true, Bool.not_false] at hc10
      have hw := wordN_zero s (.inr hc10)
      refine c_seq ?_
      refine c_reg ?_
      refine s_pu hF (pu_assign rfl) rfl ?_; clear hF; intro a hF
      refine c_nil ?_
      refine n_then ?_
      refine c_ret (r_then ?_)
      exact f_ret hF rfl (.tmp rfl (.nil)) (hS.retv (by rw [hw]; rfl))
    · try simp only [decide_eq_true_eq, decide_eq_false_iff_not, Bool.not_eq_true', Bool.not_eq_false', Bool.not_eq_eq_eq_not, Bool.not_true, Bool.not_false] at hc10
      have hw := wordN_pos s hg1_2p hc10
      refine c_skip ?_
      refine n_then ?_
      refine c_seq ?_
      refine c_reg ?_
      refine s_pu hF (pu_move rfl) rfl ?_; clear hF; intro a hF
      refine s_callv hF hS ok42 rfl (c_run s 43 isWord ok43 _ _ hS.view (fun b w1 hw => c_word1 b w1 (Full w1) (VLe.refl _)) hs) rfl ?_; clear hS hF; intro w a hS hF
      refine s_pu hF (pu_assign rfl) rfl ?_; clear hF; intro a hF
      refine c_nil ?_
      refine n_then ?_
      refine c_ret ?_
      exact f_ret hF rfl (.tmp rfl (.nil)) (hS.retv (by rw [hw]; rfl))
theorem c_reserved (s : List UInt8) (w0 : World) (h0 : View) (hv : VLe h0 (Full w0))  : Calls Tryd.prog 23 #[vs s] w0 (Ret w0 h0 fun u _ => u = .bool (resS s)) := by
  refine f_enter (args := [vs s]) Tryd.func23 rfl Tryd.ntmps23 rfl fun a hF => ?_
  have hS := St.init w0 h0 hv
  refine c_seq ?_
  refine c_reg ?_
  refine s_pu hF (pu_assign rfl) rfl ?_; clear hF; intro a hF
  refine c_nil ?_
  refine n_then ?_
  refine c_seq ?_
  refine c_seq ?_
  refine c_reg ?_
  refine s_pu hF (pu_move rfl) rfl ?_; clear hF; intro a hF
  refine c_nil ?_
  refine n_then ?_
  refine c_block ?_
  refine c_seq ?_
  refine c_seq ?_
  refine c_reg ?_
  refine s_pu hF (pu_seq rfl rfl) rfl ?_; clear hF; intro a hF
  refine s_pu hF (pu_assign rfl) rfl ?_; clear hF; intro a hF
  refine c_nil ?_
  refine n_then ?_
  refine c_if hF rfl (fun hc4 => ?_) (fun hc4 => ?_)
  · try simp only [decide_eq_true_eq, decide_eq_false_iff_not, Bool.not_eq_true', Bool.not_eq_false', Bool.not_eq_eq_eq_not, Bool.not_true, Bool.not_false] at hc4
    refine c_skip ?_
    refine n_then ?_
    refine c_if hF rfl (fun hc4 => ?_) (fun hc4 => ?_)
    · try simp only [decide_eq_true_eq, decide_eq_false_iff_not, Bool.not_eq_true', Bool.not_eq_false', Bool.not_eq_eq_eq_not, Bool.not_true, Bool.not_false] at hc4
      refine c_seq ?_
      refine c_reg ?_
      refine s_pu hF (pu_assign rfl) rfl ?_; clear hF; intro a hF
      refine c_nil ?_
      refine n_then ?_
      refine c_ret (r_block (r_then ?_))
      exact f_ret hF rfl (.tmp rfl (.nil)) (hS.retv (congrArg Value.bool (by simp_all [resS, resvL])))
    · try simp only [decide_eq_true_eq, decide_eq_false_iff_not, Bool.not_eq_true', Bool.not_eq_false', Bool.not_eq_eq_eq_not, Bool.not_true, Bool.not_false] at hc4
      refine c_skip ?_
      refine n_block ?_
      refine n_then ?_
      refine c_seq ?_
      refine c_reg ?_
      refine s_pu hF (pu_assign rfl) rfl ?_; clear hF; intro a hF
      refine c_nil ?_
      refine n_then ?_
      refine c_ret ?_
      exact f_ret hF rfl (.tmp rfl (.nil)) (hS.retv (congrArg Value.bool (by simp_all [resS, resvL])))
  · try simp only [decide_eq_true_eq, decide_eq_false_iff_not, Bool.not_eq_true', Bool.not_eq_false', Bool.not_eq_eq_eq_not, Bool.not_true, Bool.not_false] at hc4
    refine c_seq ?_
    refine c_reg ?_
    refine s_pu hF (pu_seq rfl rfl) rfl ?_; clear hF; intro a hF
    refine s_pu hF (pu_assign rfl) rfl ?_; clear hF; intro a hF
    refine c_nil ?_
    refine n_then ?_
    refine c_if hF rfl (fun hc4 => ?_) (fun hc4 => ?_)
    · try simp only [decide_eq_true_eq, decide_eq_false_iff_not, Bool.not_eq_true', Bool.not_eq_false', Bool.not_eq_eq_eq_not, Bool.not_true, Bool.not_false] at hc4
      refine c_skip ?_
      refine n_then ?_
      refine c_if hF rfl (fun hc4 => ?_) (fun hc4 => ?_)
      · try simp only [decide_eq_true_eq, decide_eq_false_iff_not, Bool.not_eq_true', Bool.not_eq_false', Bool.not_eq_eq_eq_not, Bool.not_true, Bool.not_false] at hc4
        refine c_seq ?_
        refine c_reg ?_
        refine s_pu hF (pu_assign rfl) rfl ?_; clear hF; intro a hF
        refine c_nil ?_
        refine n_then ?_
        refine c_ret (r_block (r_then ?_))
        exact f_ret hF rfl (.tmp rfl (.nil)) (hS.retv (congrArg Value.bool (by simp_all [resS, resvL])))
      · try simp only [decide_eq_true_eq, decide_eq_false_iff_not, Bool.not_eq_true', Bool.not_eq_false', Bool.not_eq_eq_eq_not, Bool.not_true, Bool.not_false] at hc4
        refine c_skip ?_
        refine n_block ?_
        refine n_then ?_
        refine c_seq ?_
        refine c_reg ?_
        refine s_pu hF (pu_assign rfl) rfl ?_; clear hF; intro a hF
        refine c_nil ?_
        refine n_then ?_
        refine c_ret ?_
        exact f_ret hF rfl (.tmp rfl (.nil)) (hS.retv (congrArg Value.bool (by simp_all [resS, resvL])))
    · try simp only [decide_eq_true_eq, decide_eq_false_iff_not, Bool.not_eq_true', Bool.not_eq_false', Bool.not_eq_eq_eq_not, Bool.not_true, Bool.not_false] at hc4
      refine c_seq ?_
      refine c_reg ?_
      refine s_pu hF (pu_seq rfl rfl) rfl ?_; clear hF; intro a hF
      refine s_pu hF (pu_assign rfl) rfl ?_; clear hF; intro a hF
      refine c_nil ?_
      refine n_then ?_
      refine c_if hF rfl (fun hc4 => ?_) (fun hc4 => ?_)
      · try simp only [decide_eq_true_eq, decide_eq_false_iff_not, Bool.not_eq_true', Bool.not_eq_false', Bool.not_eq_eq_eq_not, Bool.not_true, Bool.not_false] at hc4
        refine c_skip ?_
        refine n_then ?_
        refine c_if hF rfl (fun hc4 => ?_) (fun hc4 => ?_)
        · try simp only [decide_eq_true_eq, decide_eq_false_iff_not, Bool.not_eq_true', Bool.not_eq_false', Bool.not_eq_eq_eq_not, Bool.not_true, Bool.not_false] at hc4
          refine c_seq ?_
          refine c_reg ?_
          refine s_pu hF (pu_assign rfl) rfl ?_; clear hF; intro a hF
          refine c_nil ?_
          refine n_then ?_
          refine c_ret (r_block (r_then ?_))
          exact f_ret hF rfl (.tmp rfl (.nil)) (hS.retv (congrArg Value.bool (by simp_all [resS, resvL])))
        · try simp only [decide_eq_true_eq, decide_eq_false_iff_not, Bool.not_eq_true', Bool.not_eq_false', Bool.not_eq_eq_eq_not, Bool.not_true, Bool.not_false] at hc4
          refine c_skip ?_
          refine n_block ?_
          refine n_then ?_
          refine c_seq ?_
          refine c_reg ?_
          refine s_pu hF (pu_assign rfl) rfl ?_; clear hF; intro a hF
          refine c_nil ?_
          refine n_then ?_
          refine c_ret ?_
          exact f_ret hF rfl (.tmp rfl (.nil)) (hS.retv (congrArg Value.bool (by simp_all [resS, resvL])))
      · try simp only [decide_eq_true_eq, decide_eq_false_iff_not, Bool.not_eq_true', Bool.not_eq_false', Bool.not_eq_eq_eq_not, Bool.not_true, Bool.not_false] at hc4
        refine c_seq ?_
        refine c_reg ?_
        refine s_pu hF (pu_seq rfl rfl) rfl ?_; clear hF; intro a hF
        refine s_pu hF (pu_assign rfl) rfl ?_; clear hF; intro a hF
        refine c_nil ?_
        refine n_then ?_
        refine c_if hF rfl (fun hc4 => ?_) (fun hc4 => ?_)
        · try simp only [decide_eq_true_eq, decide_eq_false_iff_not, Bool.not_eq_true', Bool.not_eq_false', Bool.not_eq_eq_eq_not, Bool.not_true, Bool.not_false] at hc4
          refine c_skip ?_
          refine n_then ?_
          refine c_if hF rfl (fun hc4 => ?_) (fun hc4 => ?_)
          · try simp only [decide_eq_true_eq, decide_eq_false_iff_not, Bool.not_eq_true', Bool.not_eq_false', Bool.not_eq_eq_eq_not, Bool.not_true, Bool.not_false] at hc4
            refine c_seq ?_
            refine c_reg ?_
            refine s_pu hF (pu_assign rfl) rfl ?_; clear hF; intro a hF
            refine c_nil ?_
            refine n_then ?_
            refine c_ret (r_block (r_then ?_))
            exact f_ret hF rfl (.tmp rfl (.nil)) (hS.retv (congrArg Value.bool (by simp_all [resS, resvL])))
          · try simp only [decide_eq_true_eq, decide_eq_false_iff_not, Bool.not_eq_true', Bool.not_eq_false', Bool.not_eq_eq_eq_not, Bool.not_true, Bool.not_false] at hc4
            refine c_skip ?_
            refine n_block ?_
            refine n_then ?_
            refine c_seq ?_
            refine c_reg ?_
            refine s_pu hF (pu_assign rfl) rfl ?_; clear hF; intro a hF
            refine c_nil ?_
            refine n_then ?_
            refine c_ret ?_
            exact f_ret hF rfl (.tmp rfl (.nil)) (hS.retv (congrArg Value.bool (by simp_all [resS, resvL])))
        · try simp only [decide_eq_true_eq, decide_eq_false_iff_not, Bool.not_eq_true', Bool.not_eq_false', Bool.not_eq_eq_eq_not, Bool.not_true, Bool.not_false] at hc4
          refine c_seq ?_
          refine c_reg ?_
          refine s_pu hF (pu_seq rfl rfl) rfl ?_; clear hF; intro a hF
          refine s_pu hF (pu_assign rfl) rfl ?_; clear hF; intro a hF
          refine c_nil ?_
          refine n_then ?_
          refine c_if hF rfl (fun hc4 => ?_) (fun hc4 => ?_)
          · try simp only [decide_eq_true_eq, decide_eq_false_iff_not, Bool.not_eq_true', Bool.not_eq_false', Bool.not_eq_eq_eq_not, Bool.not_true, Bool.not_false] at hc4
            refine c_skip ?_
            refine n_then ?_
            refine c_if hF rfl (fun hc4 => ?_) (fun hc4 => ?_)
            · try simp only [decide_eq_true_eq, decide_eq_false_iff_not, Bool.not_eq_true', Bool.not_eq_false', Bool.not_eq_eq_eq_not, Bool.not_true, Bool.not_false] at hc4
              refine c_seq ?_
              refine c_reg ?_
              refine s_pu hF (pu_assign rfl) rfl ?_; clear hF; intro a hF
              refine c_nil ?_
              refine n_then ?_
              refine c_ret (r_block (r_then ?_))
              exact f_ret hF rfl (.tmp rfl (.nil)) (hS.retv (congrArg Value.bool (by simp_all [resS, resvL])))
            · try simp only [decide_eq_true_eq, decide_eq_false_iff_not, Bool.not_eq_true', Bool.not_eq_false', Bool.not_eq_eq_eq_not, Bool.not_true, Bool.not_false] at hc4
              refine c_skip ?_
              refine n_block ?_
              refine n_then ?_
              refine c_seq ?_
              refine c_reg ?_
              refine s_pu hF (pu_assign rfl) rfl ?_; clear hF; intro a hF
              refine c_nil ?_
              refine n_then ?_
              refine c_ret ?_
              exact f_ret hF rfl (.tmp rfl (.nil)) (hS.retv (congrArg Value.bool (by simp_all [resS, resvL])))
          · try simp only [decide_eq_true_eq, decide_eq_false_iff_not, Bool.not_eq_true', Bool.not_eq_false', Bool.not_eq_eq_eq_not, Bool.not_true, Bool.not_false] at hc4
            refine c_seq ?_
            refine c_reg ?_
            refine s_pu hF (pu_seq rfl rfl) rfl ?_; clear hF; intro a hF
            refine s_pu hF (pu_assign rfl) rfl ?_; clear hF; intro a hF
            refine c_nil ?_
            refine n_then ?_
            refine c_if hF rfl (fun hc4 => ?_) (fun hc4 => ?_)
            · try simp only [decide_eq_true_eq, decide_eq_false_iff_not, Bool.not_eq_true', Bool.not_eq_false', Bool.not_eq_eq_eq_not, Bool.not_true, Bool.not_false] at hc4
              refine c_skip ?_
              refine n_then ?_
              refine c_if hF rfl (fun hc4 => ?_) (fun hc4 => ?_)
              · try simp only [decide_eq_true_eq, decide_eq_false_iff_not, Bool.not_eq_true', Bool.not_eq_false', Bool.not_eq_eq_eq_not, Bool.not_true, Bool.not_false] at hc4
                refine c_seq ?_
                refine c_reg ?_
                refine s_pu hF (pu_assign rfl) rfl ?_; clear hF; intro a hF
                refine c_nil ?_
                refine n_then ?_
                refine c_ret (r_block (r_then ?_))
                exact f_ret hF rfl (.tmp rfl (.nil)) (hS.retv (congrArg Value.bool (by simp_all [resS, resvL])))
              · try simp only [decide_eq_true_eq, decide_eq_false_iff_not, Bool.not_eq_true', Bool.not_eq_false', Bool.not_eq_eq_eq_not, Bool.not_true, Bool.not_false] at hc4
                refine c_skip ?_
                refine n_block ?_
                refine n_then ?_
                refine c_seq ?_
                refine c_reg ?_
                refine s_pu hF (pu_assign rfl) rfl ?_; clear hF; intro a hF
                refine c_nil ?_
                refine n_then ?_
                refine c_ret ?_
                exact f_ret hF rfl (.tmp rfl (.nil)) (hS.retv (congrArg Value.bool (by simp_all [resS, resvL])))
            · try simp only [decide_eq_true_eq, decide_eq_false_iff_not, Bool.not_eq_true', Bool.not_eq_false', Bool.not_eq_eq_eq_not, Bool.not_true, Bool.not_false] at hc4
              refine c_seq ?_
              refine c_reg ?_
              refine s_pu hF (pu_seq rfl rfl) rfl ?_; clear hF; intro a hF
              refine s_pu hF (pu_assign rfl) rfl ?_; clear hF; intro a hF
              refine c_nil ?_
              refine n_then ?_
              refine c_if hF rfl (fun hc4 => ?_) (fun hc4 => ?_)
              · try simp only [decide_eq_true_eq, decide_eq_false_iff_not, Bool.not_eq_true', Bool.not_eq_false', Bool.not_eq_eq_eq_not, Bool.not_true, Bool.not_false] at hc4
                refine c_skip ?_
                refine n_then ?_
                refine c_if hF rfl (fun hc4 => ?_) (fun hc4 => ?_)
                · try simp only [decide_eq_true_eq, decide_eq_false_iff_not, Bool.not_eq_true', Bool.not_eq_false', Bool.not_eq_eq_eq_not, Bool.not_true, Bool.not_false] at hc4
                  refine c_seq ?_
                  refine c_reg ?_
                  refine s_pu hF (pu_assign rfl) rfl ?_; clear hF; intro a hF
                  refine c_nil ?_
                  refine n_then ?_
                  refine c_ret (r_block (r_then ?_))
                  exact f_ret hF rfl (.tmp rfl (.nil)) (hS.retv (congrArg Value.bool (by simp_all [resS, resvL])))
                · try simp only [decide_eq_true_eq, decide_eq_false_iff_not, Bool.not_eq_true', Bool.not_eq_false', Bool.not_eq_eq_eq_not, Bool.not_true, Bool.not_false] at hc4
                  refine c_skip ?_
                  refine n_block ?_
                  refine n_then ?_
                  refine c_seq ?_
                  refine c_reg ?_
                  refine s_pu hF (pu_assign rfl) rfl ?_; clear hF; intro a hF
                  refine c_nil ?_
                  refine n_then ?_
                  refine c_ret ?_
                  exact f_ret hF rfl (.tmp rfl (.nil)) (hS.retv (congrArg Value.bool (by simp_all [resS, resvL])))
              · try simp only [decide_eq_true_eq, decide_eq_false_iff_not, Bool.not_eq_true', Bool.not_eq_false', Bool.not_eq_eq_eq_not, Bool.not_true, Bool.not_false] at hc4
                refine c_seq ?_
                refine c_reg ?_
                refine s_pu hF (pu_seq rfl rfl) rfl ?_; clear hF; intro a hF
                refine s_pu hF (pu_assign rfl) rfl ?_; clear hF; intro a hF
                refine c_nil ?_
                refine n_then ?_
                refine c_if hF rfl (fun hc4 => ?_) (fun hc4 => ?_)
                · try simp only [decide_eq_true_eq, decide_eq_false_iff_not, Bool.not_eq_true', Bool.not_eq_false', Bool.not_eq_eq_eq_not, Bool.not_true, Bool.not_false] at hc4
                  refine c_skip ?_
                  refine n_then ?_
                  refine c_if hF rfl (fun hc4 => ?_) (fun hc4 => ?_)
                  · try simp only [decide_eq_true_eq, decide_eq_false_iff_not, Bool.not_eq_true', Bool.not_eq_false', Bool.not_eq_eq_eq_not, Bool.not_true, Bool.not_false] at hc4
                    refine c_seq ?_
                    refine c_reg ?_
                    refine s_pu hF (pu_assign rfl) rfl ?_; clear hF; intro a hF
                    refine c_nil ?_
                    refine n_then ?_
                    refine c_ret (r_block (r_then ?_))
                    exact f_ret hF rfl (.tmp rfl (.nil)) (hS.retv (congrArg Value.bool (by simp_all [resS, resvL])))
                  · try simp only [decide_eq_true_eq, decide_eq_false_iff_not, Bool.not_eq_true', Bool.not_eq_false', Bool.not_eq_eq_eq_not, Bool.not_true, Bool.not_false] at hc4
                    refine c_skip ?_
                    refine n_block ?_
                    refine n_then ?_
                    refine c_seq ?_
                    refine c_reg ?_
                    refine s_pu hF (pu_assign rfl) rfl ?_; clear hF; intro a hF
                    refine c_nil ?_
                    refine n_then ?_
                    refine c_ret ?_
                    exact f_ret hF rfl (.tmp rfl (.nil)) (hS.retv (congrArg Value.bool (by simp_all [resS, resvL])))
                · try simp only [decide_eq_true_eq, decide_eq_false_iff_not, Bool.not_eq_true', Bool.not_eq_false', Bool.not_eq_eq_eq_not, Bool.not_true, Bool.not_false] at hc4
                  refine c_reg ?_
                  refine s_pu hF (pu_seq rfl rfl) rfl ?_; clear hF; intro a hF
                  refine s_pu hF (pu_assign rfl) rfl ?_; clear hF; intro a hF
                  refine c_nil ?_
                  refine n_then ?_
                  refine c_if hF rfl (fun hc4 => ?_) (fun hc4 => ?_)
                  · try simp only [decide_eq_true_eq, decide_eq_false_iff_not, Bool.not_eq_true', Bool.not_eq_false', Bool.not_eq_eq_eq_not, Bool.not_true, Bool.not_false] at hc4
                    refine c_seq ?_
                    refine c_reg ?_
                    refine s_pu hF (pu_assign rfl) rfl ?_; clear hF; intro a hF
                    refine c_nil ?_
                    refine n_then ?_
                    refine c_ret (r_block (r_then ?_))
                    exact f_ret hF rfl (.tmp rfl (.nil)) (hS.retv (congrArg Value.bool (by simp_all [resS, resvL])))
                  · try simp only [decide_eq_true_eq, decide_eq_false_iff_not, Bool.not_eq_true', Bool.not_eq_false', Bool.not_eq_eq_eq_not, Bool.not_true, Bool.not_false] at hc4
                    refine c_skip ?_
                    refine n_block ?_
                    refine n_then ?_
                    refine c_seq ?_
                    refine c_reg ?_
                    refine s_pu hF (pu_assign rfl) rfl ?_; clear hF; intro a hF
                    refine c_nil ?_
                    refine n_then ?_
                    refine c_ret ?_
                    exact f_ret hF rfl (.tmp rfl (.nil)) (hS.retv (congrArg Value.bool (by simp_all [resS, resvL])))
theorem c_Name (s : List UInt8) (hs : s.length ≤ 1000000) (w0 : World) (h0 : View) (hv : VLe h0 (Full w0))  : Calls Tryd.prog 13 #[vs s] w0 (Ret w0 h0 fun u _ => u = .bool (nameOk s)) := by
  refine f_enter (args := [vs s]) Tryd.func13 rfl Tryd.ntmps13 rfl fun a hF => ?_
  have hS := St.init w0 h0 hv
  refine c_seq ?_
  refine c_reg ?_
  refine s_pu hF (pu_assign rfl) rfl ?_; clear hF; intro a hF
  refine c_nil ?_
  refine n_then ?_
  refine c_seq ?_
  refine c_reg ?_
  refine s_pu hF (pu_move rfl) rfl ?_; clear hF; intro a hF
  refine s_pu hF (pu_sne rfl rfl) rfl ?_; clear hF; intro a hF
  refine s_pu hF (pu_move rfl) rfl ?_; clear hF; intro a hF
  refine w_split hF ⟨_, _, (rfl : _[2]? = some _), rfl, rfl⟩ (fun hg1_2 => ?_) (fun hg1_2 => ?_)
  · have hg1_2p := hg1_2
    try simp only [decide_eq_true_eq, decide_eq_false_iff_not, Bool.not_eq_true', Bool.not_eq_false', Bool.not_eq_eq_eq_not, Bool.not_true, Bool.not_false] at hg1_2p
    refine g_pu hF ⟨_, _, (rfl : _[2]? = some _), rfl, rfl⟩ hg1_2 (pu_move rfl) rfl ?_; clear hF; intro a hF
    refine g_callv hF hS ⟨_, _, (rfl : _[2]? = some _), rfl, rfl⟩ hg1_2 ok22 rfl (c_word s hs _ _ hS.view) rfl ?_; clear hS hF; intro w a hS hF
    refine g_pu hF ⟨_, _, (rfl : _[2]? = some _), rfl, rfl⟩ hg1_2 (pu_move rfl) rfl ?_; clear hF; intro a hF
    refine g_pu hF ⟨_, _, (rfl : _[2]? = some _), rfl, rfl⟩ hg1_2 (pu_len_s tyS9 rfl rfl) rfl ?_; clear hF; intro a hF
    refine g_pu hF ⟨_, _, (rfl : _[2]? = some _), rfl, rfl⟩ hg1_2 (pu_ieq rfl rfl) rfl ?_; clear hF; intro a hF
    refine s_pu hF (pu_pick_t rfl hg1_2 rfl) rfl ?_; clear hF; intro a hF
    refine s_pu hF (pu_move rfl) rfl ?_; clear hF; intro a hF
    refine w_split hF ⟨_, _, (rfl : _[9]? = some _), rfl, rfl⟩ (fun hg1_9 => ?_) (fun hg1_9 => ?_)
    · have hg1_9p := hg1_9
      try simp only [decide_eq_true_eq, decide_eq_false_iff_not, Bool.not_eq_true', Bool.not_eq_false', Bool.not_eq_eq_eq_not, Bool.not_true, Bool.not_false] at hg1_9p
      refine g_pu hF ⟨_, _, (rfl : _[9]? = some _), rfl, rfl⟩ hg1_9 (pu_move rfl) rfl ?_; clear hF; intro a hF
      refine g_pu hF ⟨_, _, (rfl : _[9]? = some _), rfl, rfl⟩ hg1_9 (pu_len_s tyS9 rfl rfl) rfl ?_; clear hF; intro a hF
      refine g_pu hF ⟨_, _, (rfl : _[9]? = some _), rfl, rfl⟩ hg1_9 (pu_ile rfl rfl) rfl ?_; clear hF; intro a hF
      refine s_pu hF (pu_pick_t rfl hg1_9 rfl) rfl ?_; clear hF; intro a hF
      refine s_pu hF (pu_move rfl) rfl ?_; clear hF; intro a hF
      refine w_split hF ⟨_, _, (rfl : _[14]? = some _), rfl, rfl⟩ (fun hg1_14 => ?_) (fun hg1_14 => ?_)
      · have hg1_14p := hg1_14
        try simp only [decide_eq_true_eq, decide_eq_false_iff_not, Bool.not_eq_true', Bool.not_eq_false', Bool.not_eq_eq_eq_not, Bool.not_true, Bool.not_false] at hg1_14p
        refine g_pu hF ⟨_, _, (rfl : _[14]? = some _), rfl, rfl⟩ hg1_14 (pu_move rfl) rfl ?_; clear hF; intro a hF
        refine g_callv hF hS ⟨_, _, (rfl : _[14]? = some _), rfl, rfl⟩ hg1_14 ok23 rfl (c_reserved s _ _ hS.view) rfl ?_; clear hS hF; intro w a hS hF
        refine g_pu hF ⟨_, _, (rfl : _[14]? = some _), rfl, rfl⟩ hg1_14 (pu_not rfl) rfl ?_; clear hF; intro a hF
        refine s_pu hF (pu_pick_t rfl hg1_14 rfl) rfl ?_; clear hF; intro a hF
        refine s_pu hF (pu_assign rfl) rfl ?_; clear hF; intro a hF
        refine c_nil ?_
        refine n_then ?_
        refine c_ret ?_
        exact f_ret hF rfl (.tmp rfl (.nil)) (hS.retv (congrArg Value.bool (by simp_all [nameOk] <;> (intros; omega))))
      · have hg1_14p := hg1_14
        try simp only [decide_eq_true_eq, decide_eq_false_iff_not, Bool.not_eq_true', Bool.not_eq_false', Bool.not_eq_eq_eq_not, Bool.not_true, Bool.not_false] at hg1_14p
        refine g_no hF ⟨_, _, (rfl : _[14]? = some _), rfl, rfl⟩ hg1_14 rfl ?_; clear hF; intro a hF
        refine g_no hF ⟨_, _, (rfl : _[14]? = some _), rfl, rfl⟩ hg1_14 rfl ?_; clear hF; intro a hF
        refine g_no hF ⟨_, _, (rfl : _[14]? = some _), rfl, rfl⟩ hg1_14 rfl ?_; clear hF; intro a hF
        refine s_pu hF (pu_pick_f rfl hg1_14 rfl) rfl ?_; clear hF; intro a hF
        refine s_pu hF (pu_assign rfl) rfl ?_; clear hF; intro a hF
        refine c_nil ?_
        refine n_then ?_
        refine c_ret ?_
        exact f_ret hF rfl (.tmp rfl (.nil)) (hS.retv (congrArg Value.bool (by simp_all [nameOk] <;> (intros; omega))))
    · have hg1_9p := hg1_9
      try simp only [decide_eq_true_eq, decide_eq_false_iff_not, Bool.not_eq_true', Bool.not_eq_false', Bool.not_eq_eq_eq_not, Bool.not_true, Bool.not_false] at hg1_9p
      refine g_no hF ⟨_, _, (rfl : _[9]? = some _), rfl, rfl⟩ hg1_9 rfl ?_; clear hF; intro a hF
      refine g_no hF ⟨_, _, (rfl : _[9]? = some _), rfl, rfl⟩ hg1_9 rfl ?_; clear hF; intro a hF
      refine g_no hF ⟨_, _, (rfl : _[9]? = some _), rfl, rfl⟩ hg1_9 rfl ?_; clear hF; intro a hF
      refine s_pu hF (pu_pick_f rfl hg1_9 rfl) rfl ?_; clear hF; intro a hF
      refine s_pu hF (pu_move rfl) rfl ?_; clear hF; intro a hF
      refine g_no hF ⟨_, _, (rfl : _[14]? = some _), rfl, rfl⟩ rfl rfl ?_; clear hF; intro a hF
      refine g_no hF ⟨_, _, (rfl : _[14]? = some _), rfl, rfl⟩ rfl rfl ?_; clear hF; intro a hF
      refine g_no hF ⟨_, _, (rfl : _[14]? = some _), rfl, rfl⟩ rfl rfl ?_; clear hF; intro a hF
      refine s_pu hF (pu_pick_f rfl rfl rfl) rfl ?_; clear hF; intro a hF
      refine s_pu hF (pu_assign rfl) rfl ?_; clear hF; intro a hF
      refine c_nil ?_
      refine n_then ?_
      refine c_ret ?_
      exact f_ret hF rfl (.tmp rfl (.nil)) (hS.retv (congrArg Value.bool (by simp_all [nameOk] <;> (intros; omega))))
  · have hg1_2p := hg1_2
    try simp only [decide_eq_true_eq, decide_eq_false_iff_not, Bool.not_eq_true', Bool.not_eq_false', Bool.not_eq_eq_eq_not, Bool.not_true, Bool.not_false] at hg1_2p
    refine g_no hF ⟨_, _, (rfl : _[2]? = some _), rfl, rfl⟩ hg1_2 rfl ?_; clear hF; intro a hF
    refine g_no hF ⟨_, _, (rfl : _[2]? = some _), rfl, rfl⟩ hg1_2 rfl ?_; clear hF; intro a hF
    refine g_no hF ⟨_, _, (rfl : _[2]? = some _), rfl, rfl⟩ hg1_2 rfl ?_; clear hF; intro a hF
    refine g_no hF ⟨_, _, (rfl : _[2]? = some _), rfl, rfl⟩ hg1_2 rfl ?_; clear hF; intro a hF
    refine g_no hF ⟨_, _, (rfl : _[2]? = some _), rfl, rfl⟩ hg1_2 rfl ?_; clear hF; intro a hF
    refine s_pu hF (pu_pick_f rfl hg1_2 rfl) rfl ?_; clear hF; intro a hF
    refine s_pu hF (pu_move rfl) rfl ?_; clear hF; intro a hF
    refine g_no hF ⟨_, _, (rfl : _[9]? = some _), rfl, rfl⟩ rfl rfl ?_; clear hF; intro a hF
    refine g_no hF ⟨_, _, (rfl : _[9]? = some _), rfl, rfl⟩ rfl rfl ?_; clear hF; intro a hF
    refine g_no hF ⟨_, _, (rfl : _[9]? = some _), rfl, rfl⟩ rfl rfl ?_; clear hF; intro a hF
    refine s_pu hF (pu_pick_f rfl rfl rfl) rfl ?_; clear hF; intro a hF
    refine s_pu hF (pu_move rfl) rfl ?_; clear hF; intro a hF
    refine g_no hF ⟨_, _, (rfl : _[14]? = some _), rfl, rfl⟩ rfl rfl ?_; clear hF; intro a hF
    refine g_no hF ⟨_, _, (rfl : _[14]? = some _), rfl, rfl⟩ rfl rfl ?_; clear hF; intro a hF
    refine g_no hF ⟨_, _, (rfl : _[14]? = some _), rfl, rfl⟩ rfl rfl ?_; clear hF; intro a hF
    refine s_pu hF (pu_pick_f rfl rfl rfl) rfl ?_; clear hF; intro a hF
    refine s_pu hF (pu_assign rfl) rfl ?_; clear hF; intro a hF
    refine c_nil ?_
    refine n_then ?_
    refine c_ret ?_
    exact f_ret hF rfl (.tmp rfl (.nil)) (hS.retv (congrArg Value.bool (by simp_all [nameOk] <;> (intros; omega))))
theorem c_HasPrefixL (s m : List UInt8) (w0 : World) (h0 : View) (hv : VLe h0 (Full w0))  : Calls Tryd.prog 64 #[vs s, vs m] w0 (Ret w0 h0 fun u _ => u = .bool (pre s m)) := by
  refine f_enter (args := [vs s, vs m]) Tryd.func64 rfl Tryd.ntmps64 rfl fun a hF => ?_
  have hS := St.init w0 h0 hv
  refine c_seq ?_
  refine c_reg ?_
  refine s_pu hF (pu_assign rfl) rfl ?_; clear hF; intro a hF
  refine c_nil ?_
  refine n_then ?_
  refine c_seq ?_
  refine c_reg ?_
  refine s_pu hF (pu_move rfl) rfl ?_; clear hF; intro a hF
  refine s_pu hF (pu_len_s tyS9 rfl rfl) rfl ?_; clear hF; intro a hF
  refine s_pu hF (pu_move rfl) rfl ?_; clear hF; intro a hF
  refine s_pu hF (pu_len_s tyS9 rfl rfl) rfl ?_; clear hF; intro a hF
  refine s_pu hF (pu_ige rfl rfl) rfl ?_; clear hF; intro a hF
  refine s_pu hF (pu_move rfl) rfl ?_; clear hF; intro a hF
  refine w_split hF ⟨_, _, (rfl : _[5]? = some _), rfl, rfl⟩ (fun hg1_5 => ?_) (fun hg1_5 => ?_)
  · have hg1_5p := hg1_5
    try simp only [decide_eq_true_eq, decide_eq_false_iff_not, Bool.not_eq_true', Bool.not_eq_false', Bool.not_eq_eq_eq_not, Bool.not_true, Bool.not_false] at hg1_5p
    refine g_pu hF ⟨_, _, (rfl : _[5]? = some _), rfl, rfl⟩ hg1_5 (pu_move rfl) rfl ?_; clear hF; intro a hF
    refine g_pu hF ⟨_, _, (rfl : _[5]? = some _), rfl, rfl⟩ hg1_5 (pu_move rfl) rfl ?_; clear hF; intro a hF
    refine g_pu hF ⟨_, _, (rfl : _[5]? = some _), rfl, rfl⟩ hg1_5 (pu_len_s tyS9 rfl rfl) rfl ?_; clear hF; intro a hF
    refine g_pu hF ⟨_, _, (rfl : _[5]? = some _), rfl, rfl⟩ hg1_5 (pu_to tyS9 rfl rfl (by omega) (by omega)) rfl ?_; clear hF; intro a hF
    refine g_pu hF ⟨_, _, (rfl : _[5]? = some _), rfl, rfl⟩ hg1_5 (pu_move rfl) rfl ?_; clear hF; intro a hF
    refine g_pu hF ⟨_, _, (rfl : _[5]? = some _), rfl, rfl⟩ hg1_5 (pu_seq rfl rfl) rfl ?_; clear hF; intro a hF
    refine s_pu hF (pu_pick_t rfl hg1_5 rfl) rfl ?_; clear hF; intro a hF
    refine s_pu hF (pu_assign rfl) rfl ?_; clear hF; intro a hF
    refine c_nil ?_
    refine n_then ?_
    refine c_ret ?_
    exact f_ret hF rfl (.tmp rfl (.nil)) (hS.retv (congrArg Value.bool (by simp_all [pre] <;> omega)))
  · have hg1_5p := hg1_5
    try simp only [decide_eq_true_eq, decide_eq_false_iff_not, Bool.not_eq_true', Bool.not_eq_false', Bool.not_eq_eq_eq_not, Bool.not_true, Bool.not_false] at hg1_5p
    refine g_no hF ⟨_, _, (rfl : _[5]? = some _), rfl, rfl⟩ hg1_5 rfl ?_; clear hF; intro a hF
    refine g_no hF ⟨_, _, (rfl : _[5]? = some _), rfl, rfl⟩ hg1_5 rfl ?_; clear hF; intro a hF
    refine g_no hF ⟨_, _, (rfl : _[5]? = some _), rfl, rfl⟩ hg1_5 rfl ?_; clear hF; intro a hF
    refine g_no hF ⟨_, _, (rfl : _[5]? = some _), rfl, rfl⟩ hg1_5 rfl ?_; clear hF; intro a hF
    refine g_no hF ⟨_, _, (rfl : _[5]? = some _), rfl, rfl⟩ hg1_5 rfl ?_; clear hF; intro a hF
    refine g_no hF ⟨_, _, (rfl : _[5]? = some _), rfl, rfl⟩ hg1_5 rfl ?_; clear hF; intro a hF
    refine s_pu hF (pu_pick_f rfl hg1_5 rfl) rfl ?_; clear hF; intro a hF
    refine s_pu hF (pu_assign rfl) rfl ?_; clear hF; intro a hF
    refine c_nil ?_
    refine n_then ?_
    refine c_ret ?_
    exact f_ret hF rfl (.tmp rfl (.nil)) (hS.retv (congrArg Value.bool (by simp_all [pre] <;> omega)))
theorem c_HasPrefix (s m : List UInt8) (w0 : World) (h0 : View) (hv : VLe h0 (Full w0))  : Calls Tryd.prog 56 #[vs s, vs m] w0 (Ret w0 h0 fun u _ => u = .bool (pre s m)) := by
  refine f_enter (args := [vs s, vs m]) Tryd.func56 rfl Tryd.ntmps56 rfl fun a hF => ?_
  have hS := St.init w0 h0 hv
  refine c_seq ?_
  refine c_reg ?_
  refine s_pu hF (pu_assign rfl) rfl ?_; clear hF; intro a hF
  refine c_nil ?_
  refine n_then ?_
  refine c_seq ?_
  refine c_reg ?_
  refine s_pu hF (pu_move rfl) rfl ?_; clear hF; intro a hF
  refine s_pu hF (pu_move rfl) rfl ?_; clear hF; intro a hF
  refine s_callv hF hS ok64 rfl (c_HasPrefixL s m _ _ hS.view) rfl ?_; clear hS hF; intro w a hS hF
  refine s_pu hF (pu_assign rfl) rfl ?_; clear hF; intro a hF
  refine c_nil ?_
  refine n_then ?_
  refine c_ret ?_
  exact f_ret hF rfl (.tmp rfl (.nil)) (hS.retv rfl)
theorem c_marks (w0 : World) (h0 : View) (hv : VLe h0 (Full w0)) : Calls Tryd.prog 29 #[] w0 (RetM [] w0 fun v w' => ∃ b, v = .slice (some ⟨b, 0, none⟩) 16 16 ∧ NewRow w0 9 (cellsL (marksL.map vs)) b w') := by
  refine f_enter (args := []) Tryd.func29 rfl Tryd.ntmps29 rfl fun a hF => ?_
  have hS := St.init w0 h0 hv
  refine c_seq ?_
  refine c_reg ?_
  refine s_pu hF (pu_assign rfl) rfl ?_; clear hF; intro a hF
  refine c_nil ?_
  refine n_then ?_
  refine c_seq ?_
  refine c_reg ?_
  refine s_build (xs := [.const (.string ⟨#[46, 46]⟩), .const (.string ⟨#[33, 61]⟩), .const (.string ⟨#[60, 61]⟩), .const (.string ⟨#[62, 61]⟩), .const (.string ⟨#[40]⟩), .const (.string ⟨#[41]⟩), .const (.string ⟨#[91]⟩), .const (.string ⟨#[93]⟩), .const (.string ⟨#[44]⟩), .const (.string ⟨#[43]⟩), .const (.string ⟨#[45]⟩), .const (.string ⟨#[42]⟩), .const (.string ⟨#[47]⟩), .const (.string ⟨#[61]⟩), .const (.string ⟨#[60]⟩), .const (.string ⟨#[62]⟩)]) hF hS slt_b39 rfl rfl (by simp [Value.cells]) (by decide) rfl ?_; clear hS hF; intro b0 w a hS hF
  refine s_pu hF (pu_assign rfl) rfl ?_; clear hF; intro a hF
  refine c_nil ?_
  refine n_then ?_
  refine c_ret ?_
  refine f_ret hF rfl (.tmp rfl (.nil)) ?_
  refine hS.retM ⟨_, rfl, (hS.fresh _ (by simp [ids])).1.resolve_right (by simp), hS.at (i := 0) rfl⟩
theorem c_Rmarks (w0 : World) (h0 : View) (hv : VLe h0 (Full w0)) : Calls Tryd.prog 35 #[] w0 (RetM [] w0 fun v w' => ∃ b, v = .slice (some ⟨b, 0, none⟩) 16 16 ∧ NewRow w0 9 (cellsL (marksL.map vs)) b w') := by
  refine f_enter (args := []) Tryd.func35 rfl Tryd.ntmps35 rfl fun a hF => ?_
  have hS := St.init w0 h0 hv
  refine c_seq ?_
  refine c_reg ?_
  refine s_pu hF (pu_assign rfl) rfl ?_; clear hF; intro a hF
  refine c_nil ?_
  refine n_then ?_
  refine c_seq ?_
  refine c_reg ?_
  refine s_build (xs := [.const (.string ⟨#[46, 46]⟩), .const (.string ⟨#[33, 61]⟩), .const (.string ⟨#[60, 61]⟩), .const (.string ⟨#[62, 61]⟩), .const (.string ⟨#[40]⟩), .const (.string ⟨#[41]⟩), .const (.string ⟨#[91]⟩), .const (.string ⟨#[93]⟩), .const (.string ⟨#[44]⟩), .const (.string ⟨#[43]⟩), .const (.string ⟨#[45]⟩), .const (.string ⟨#[42]⟩), .const (.string ⟨#[47]⟩), .const (.string ⟨#[61]⟩), .const (.string ⟨#[60]⟩), .const (.string ⟨#[62]⟩)]) hF hS slt_b39 rfl rfl (by simp [Value.cells]) (by decide) rfl ?_; clear hS hF; intro b0 w a hS hF
  refine s_pu hF (pu_assign rfl) rfl ?_; clear hF; intro a hF
  refine c_nil ?_
  refine n_then ?_
  refine c_ret ?_
  refine f_ret hF rfl (.tmp rfl (.nil)) ?_
  refine hS.retM ⟨_, rfl, (hS.fresh _ (by simp [ids])).1.resolve_right (by simp), hS.at (i := 0) rfl⟩
theorem c_IndexFunc (ad : Option Addr) (cap : Nat) (l : List (List UInt8)) (g : FuncId) (cs : List Value) (p : List UInt8 → Bool) (hg : CallOk Tryd.prog g) (w0 : World) (h0 : View) (hv : VLe h0 (Full w0)) (hb : SlC 9 1 (flatR fun s => [vs s]) h0 (.slice ad l.length cap) l) (hp : ∀ b w', VLe h0 (Full w') → Calls Tryd.prog g ([] ++ [vs b] ++ cs).toArray w' (Ret w' (Full w') fun u _ => u = .bool (p b))) (hl : l.length ≤ 1000000) : Calls Tryd.prog 54 #[.slice ad l.length cap, .func (.func g) #[] cs.toArray] w0 (Ret w0 h0 fun u _ => u = .int .i64 (ixF p l)) := by
  refine f_enter (args := [.slice ad l.length cap, .func (.func g) #[] cs.toArray]) Tryd.func54 rfl Tryd.ntmps54 rfl fun a hF => ?_
  have hS := St.init w0 h0 hv
  refine c_seq ?_
  refine c_reg ?_
  refine s_pu hF (pu_assign rfl) rfl ?_; clear hF; intro a hF
  refine c_nil ?_
  refine n_then ?_
  refine c_seq ?_
  refine c_seq ?_
  refine c_reg ?_
  refine s_pu hF (pu_move rfl) rfl ?_; clear hF; intro a hF
  refine s_pu hF (pu_len_sl tyL39 rfl rfl) rfl ?_; clear hF; intro a hF
  refine s_pu hF (pu_move rfl) rfl ?_; clear hF; intro a hF
  refine c_nil ?_
  refine n_then ?_
  refine c_block ?_
  refine hS.cut fun O0 F0 hO0 hF0 hS => ?_
  refine hF.cut (.cons (k := 8) rfl <| .nil) (.cons (k := 0) rfl <| .cons (k := 1) rfl <| .cons (k := 7) rfl <| .nil) fun L0 hL0 hF => ?_
  refine c_loop (α := Nat) (fun k a w => k ≤ l.length ∧ (l.take k).any p = false ∧ Fr a 19 ([(8, .val (.int .i64 k))] ++ L0) ∧ St w0 h0 [] w O0 F0) (fun k => l.length - k) 0 (⟨by omega, by simp, hF, hS⟩) ?_
  subst hO0 hF0 hL0
  rintro k a w ⟨hk, ha0, hF, hS⟩
  refine c_seq ?_
  refine c_reg ?_
  refine s_pu hF (pu_ilt rfl rfl) rfl ?_; clear hF; intro a hF
  refine c_nil ?_
  refine n_then ?_
  refine c_seq ?_
  refine c_if hF rfl (fun hc9 => ?_) (fun hc9 => ?_)
  · try simp only [decide_eq_true_eq, decide_eq_false_iff_not, Bool.not_eq_true', Bool.not_eq_false', Bool.not_eq_eq_eq_not, Bool.not_true, Bool.not_false] at hc9
    obtain ⟨g1, o, ha, hH⟩ := hb.atD [] (i := k) (by omega)
    refine c_skip ?_
    refine n_then ?_
    refine c_seq ?_
    refine c_block ?_
    refine c_seq ?_
    refine c_reg ?_
    refine s_pu hF (pu_move rfl) rfl ?_; clear hF; intro a hF
    refine s_pu hF (pu_assign rfl) rfl ?_; clear hF; intro a hF
    refine c_nil ?_
    refine n_then ?_
    refine c_seq ?_
    refine c_reg ?_
    refine s_pu hF (pu_move rfl) rfl ?_; clear hF; intro a hF
    refine s_pu hF (pu_move rfl) rfl ?_; clear hF; intro a hF
    refine s_pu hF (pu_move rfl) rfl ?_; clear hF; intro a hF
    refine s_pu hF (pu_iaddr_sla (j := k) ha slt39 rfl rfl (by omega) (by omega)) rfl ?_; clear hF; intro a hF
    refine s_pu hF (pu_load1 one9 rfl (hH _ hS.base)) rfl ?_; clear hF; intro a hF
    refine s_callF (first := []) (cap := cs) hF hS hg rfl rfl (hp _ _ hS.base) rfl ?_; clear hS hF; intro w a hS hF
    refine c_nil ?_
    refine n_then ?_
    refine c_if hF rfl (fun hc16 => ?_) (fun hc16 => ?_)
    · try simp only [decide_eq_true_eq, decide_eq_false_iff_not, Bool.not_eq_true', Bool.not_eq_false', Bool.not_eq_eq_eq_not, Bool.not_true, Bool.not_false] at hc16
      refine c_seq ?_
      refine c_reg ?_
      refine s_pu hF (pu_move rfl) rfl ?_; clear hF; intro a hF
      refine s_pu hF (pu_assign rfl) rfl ?_; clear hF; intro a hF
      refine c_nil ?_
      refine n_then ?_
      refine c_ret (r_block (r_then (r_then (r_block (r_then ?_)))))
      exact f_ret hF rfl (.tmp rfl (.nil)) (hS.retv (by rw [ixF_at p l k (by omega) ha0 hc16]; rfl))
    · try simp only [decide_eq_true_eq, decide_eq_false_iff_not, Bool.not_eq_true', Bool.not_eq_false', Bool.not_eq_eq_eq_not, Bool.not_true, Bool.not_false] at hc16
      refine c_skip ?_
      refine n_block ?_
      refine n_then ?_
      refine c_reg ?_
      refine s_pu hF (pu_add rfl rfl (by first | exact wrap_i64 (by omega) (by omega) | rfl)) rfl ?_; clear hF; intro a hF
      refine s_pu hF (pu_move rfl) rfl ?_; clear hF; intro a hF
      refine c_nil ?_
      exact ⟨k + 1, ⟨by omega, any_snoc p l k (by omega) ha0 hc16, hF.pick (.cons (k := 8) rfl <| .cons (k := 0) rfl <| .cons (k := 1) rfl <| .cons (k := 7) rfl <| .nil), hS⟩, by omega⟩
  · try simp only [decide_eq_true_eq, decide_eq_false_iff_not, Bool.not_eq_true', Bool.not_eq_false', Bool.not_eq_eq_eq_not, Bool.not_true, Bool.not_false] at hc9
    obtain rfl : k = l.length := by omega
    refine c_exit (x_then (x_then (x_here ?_)))
    refine n_then ?_
    refine c_seq ?_
    refine c_reg ?_
    refine s_pu hF (pu_assign rfl) rfl ?_; clear hF; intro a hF
    refine c_nil ?_
    refine n_then ?_
    refine c_ret ?_
    exact f_ret hF rfl (.tmp rfl (.nil)) (hS.retv (by rw [ixF_none p l (by rw [List.take_length] at ha0; exact ha0)]; rfl))
theorem c_mark1 (m s : List UInt8) (b : Nat) (w0 : World) (h0 : View) (hv : VLe h0 (Full w0)) (hb : ∀ w, VLe h0 (Full w) → w.cell? ⟨b, 0, none⟩ = some (vs s)) : Calls Tryd.prog 55 #[vs m, .pointer (some ⟨b, 0, none⟩)] w0 (Ret w0 h0 fun u _ => u = .bool (pre s m)) := by
  refine f_enter (args := [vs m, .pointer (some ⟨b, 0, none⟩)]) Tryd.func55 rfl Tryd.ntmps55 rfl fun a hF => ?_
  have hS := St.init w0 h0 hv
  refine c_seq ?_
  refine c_reg ?_
  refine s_pu hF (pu_assign rfl) rfl ?_; clear hF; intro a hF
  refine c_nil ?_
  refine n_then ?_
  refine c_seq ?_
  refine c_reg ?_
  refine s_pu hF (pu_load1 one9 rfl (hb _ hS.base)) rfl ?_; clear hF; intro a hF
  refine s_pu hF (pu_move rfl) rfl ?_; clear hF; intro a hF
  refine s_callv hF hS ok56 rfl (c_HasPrefix s m _ _ hS.view) rfl ?_; clear hS hF; intro w a hS hF
  refine s_pu hF (pu_assign rfl) rfl ?_; clear hF; intro a hF
  refine c_nil ?_
  refine n_then ?_
  refine c_ret ?_
  exact f_ret hF rfl (.tmp rfl (.nil)) (hS.retv rfl)
theorem c_mark (s : List UInt8) (w0 : World) (h0 : View) (hv : VLe h0 (Full w0))  : Calls Tryd.prog 41 #[vs s] w0 (Ret w0 h0 fun u _ => u = resA (markG s marksL)) := by
  refine f_enter (args := [vs s]) Tryd.func41 rfl Tryd.ntmps41 rfl fun a hF => ?_
  have hS := St.init w0 h0 hv
  refine c_seq ?_
  refine c_reg ?_
  refine s_box hF hS rfl rfl rfl ?_; clear hS hF; intro b0 w a hS hF
  refine s_alloc hF hS zero49 rfl ?_; clear hS hF; intro b1 w a hS hF
  refine s_pu hF (pu_assign rfl) rfl ?_; clear hF; intro a hF
  refine c_nil ?_
  refine n_then ?_
  refine c_seq ?_
  refine c_reg ?_
  refine s_callG hF ok29 rfl (c_marks _ _ (VLe.refl _)) rfl ?_; clear hF; rintro _ w1 a hk1 ⟨mb, rfl, hmb⟩ hF; replace hS := hS.addRow hk1 hmb; clear hk1 hmb
  refine s_pu hF (pu_assign rfl) rfl ?_; clear hF; intro a hF
  refine c_nil ?_
  refine n_then ?_
  refine c_seq ?_
  refine c_reg ?_
  refine s_pu hF (pu_move rfl) rfl ?_; clear hF; intro a hF
  refine s_pu hF (pu_mkfunc rfl) rfl ?_; clear hF; intro a hF
  have hrow := hS.at (i := 0) rfl
  have hbox := hS.at (i := 2) rfl
  refine s_calld hF hS ok54 rfl (c_IndexFunc _ 16 marksL 55 [.pointer (some ⟨b0, 0, none⟩)] (pre s) ok55 w1 (Full w1) (VLe.refl _) (SlC.ofRow (by simp) (h := Full w1) hrow rfl (by simp [marksL]) (by simp [maxLen]) rfl) (fun m w2 hw2 => c_mark1 m s b0 w2 (Full w2) (VLe.refl _) (fun w3 hw3 => (cell_row (hw3 _ _ (hw2 _ _ hbox))).trans rfl)) (by simp [marksL])) rfl ?_; clear hS hF hrow hbox; intro w a hS hF
  refine s_pu hF (pu_assign rfl) rfl ?_; clear hF; intro a hF
  refine c_nil ?_
  refine n_then ?_
  refine c_seq ?_
  refine c_seq ?_
  refine c_reg ?_
  refine s_pu hF (pu_move rfl) rfl ?_; clear hF; intro a hF
  refine s_pu hF (pu_ilt rfl rfl) rfl ?_; clear hF; intro a hF
  refine c_nil ?_
  refine n_then ?_
  refine c_if hF rfl (fun hc11 => ?_) (fun hc11 => ?_)
  · try simp only [decide_eq_true_eq, decide_eq_false_iff_not, Bool.not_eq_true', Bool.not_eq_false', Bool.not_eq_eq_eq_not, Bool.not_true, Bool.not_false] at hc11
    have hmk := mark_none s hc11
    refine c_seq ?_
    refine c_reg ?_
    refine s_pu hF (pu_build_st (cs := tokC t0 ++ [Value.int .i64 0]) strb49 rfl rfl) rfl ?_; clear hF; intro a hF
    refine s_store (i := 1) (new := tokC t0 ++ [Value.int .i64 0]) hF hS rfl rfl rfl rfl sz49 rfl (by simp [tokC]) ?_; clear hS hF; intro w a hS hF
    rw [spl_all (by simp [tokC])] at hS
    refine s_pu hF (pu_assign rfl) rfl ?_; clear hF; intro a hF
    refine c_nil ?_
    refine n_then ?_
    refine c_ret (r_then ?_)
    exact f_ret hF rfl (.cell rfl (o_lvA (i := 1) hS rfl agg49) (.tmp rfl (.nil))) (hS.retv (by rw [hmk]; rfl))
  · try simp only [decide_eq_true_eq, decide_eq_false_iff_not, Bool.not_eq_true', Bool.not_eq_false', Bool.not_eq_eq_eq_not, Bool.not_true, Bool.not_false] at hc11
    obtain ⟨i, hi, hix, hmk⟩ := mark_found s hc11
    rw [hix] at hF
    refine c_skip ?_
    refine n_then ?_
    refine c_seq ?_
    refine region_st 11 hF hS (allV_ne rfl) mix (by kernel_rfl) fun Γ hG => ?_
    refine t_pu hG (fun w hC => pu_move rfl) ?_; clear hG; intro Γ hG
    refine t_pu hG (fun w hC => pu_move rfl) ?_; clear hG; intro Γ hG
    refine t_pu hG (fun w hC => pu_iaddr_sla (j := i) rfl slt39 rfl rfl (by omega) (by omega)) ?_; clear hG; intro Γ hG
    refine t_pu hG (fun w hC => o_load1 (i := 0) hC.st rfl one9 rfl (marks_get i hi)) ?_; clear hG; intro Γ hG
    refine t_pu hG (fun w hC => pu_build_st (cs := tokC ⟨4, marksL.getD i [], 0, 0⟩) strb26 rfl rfl) ?_; clear hG; intro Γ hG
    refine t_pu hG (fun w hC => pu_move rfl) ?_; clear hG; intro Γ hG
    refine t_pu hG (fun w hC => pu_move rfl) ?_; clear hG; intro Γ hG
    refine t_pu hG (fun w hC => pu_iaddr_sla (j := i) rfl slt39 rfl rfl (by omega) (by omega)) ?_; clear hG; intro Γ hG
    refine t_pu hG (fun w hC => o_load1 (i := 0) hC.st rfl one9 rfl (marks_get i hi)) ?_; clear hG; intro Γ hG
    refine t_pu hG (fun w hC => pu_len_s tyS9 rfl rfl) ?_; clear hG; intro Γ hG
    refine t_pu hG (fun w hC => pu_build_st (cs := tokC ⟨4, marksL.getD i [], 0, 0⟩ ++ [Value.int .i64 ((marksL.getD i []).length : Nat)]) strb49 rfl rfl) ?_; clear hG; intro Γ hG
    refine t_end hG ?_; clear hG hF; intro a w hC hE hF hP; replace hS := hC.st; clear hC
    clear hE
    clear hP
    refine s_store (i := 1) (new := tokC ⟨4, marksL.getD i [], 0, 0⟩ ++ [Value.int .i64 ((marksL.getD i []).length : Nat)]) hF hS rfl rfl rfl rfl sz49 rfl (by simp [tokC]) ?_; clear hS hF; intro w a hS hF
    rw [spl_all (by simp [tokC])] at hS
    refine s_pu hF (pu_assign rfl) rfl ?_; clear hF; intro a hF
    refine c_nil ?_
    refine n_then ?_
    refine c_ret ?_
    exact f_ret hF rfl (.cell rfl (o_lvA (i := 1) hS rfl agg49) (.tmp rfl (.nil))) (hS.retv (by rw [hmk]; rfl))
theorem c_name (s : List UInt8) (hs : s.length ≤ 1000000) (w0 : World) (h0 : View) (hv : VLe h0 (Full w0))  : Calls Tryd.prog 37 #[vs s] w0 (Ret w0 h0 fun u _ => u = resA (nameS s)) := by
  refine f_enter (args := [vs s]) Tryd.func37 rfl Tryd.ntmps37 rfl fun a hF => ?_
  have hS := St.init w0 h0 hv
  have hwl := wordN_le s
  refine c_seq ?_
  refine c_reg ?_
  refine s_alloc hF hS zero49 rfl ?_; clear hS hF; intro b0 w a hS hF
  refine s_pu hF (pu_assign rfl) rfl ?_; clear hF; intro a hF
  refine c_nil ?_
  refine n_then ?_
  refine c_seq ?_
  refine c_reg ?_
  refine s_pu hF (pu_move rfl) rfl ?_; clear hF; intro a hF
  refine s_callv hF hS ok22 rfl (c_word s hs _ _ hS.view) rfl ?_; clear hS hF; intro w a hS hF
  refine s_pu hF (pu_assign rfl) rfl ?_; clear hF; intro a hF
  refine c_nil ?_
  refine n_then ?_
  refine c_seq ?_
  refine c_seq ?_
  refine c_reg ?_
  refine s_pu hF (pu_move rfl) rfl ?_; clear hF; intro a hF
  refine s_pu hF (pu_igt rfl rfl) rfl ?_; clear hF; intro a hF
  refine c_nil ?_
  refine n_then ?_
  refine c_if hF rfl (fun hc8 => ?_) (fun hc8 => ?_)
  · try simp only [decide_eq_true_eq, decide_eq_false_iff_not, Bool.not_eq_true', Bool.not_eq_false', Bool.not_eq_eq_eq_not, Bool.not_true, Bool.not_false] at hc8
    refine c_seq ?_
    refine c_reg ?_
    refine s_pu hF (pu_build_st (cs := tokC t0 ++ [Value.int .i64 0]) strb49 rfl rfl) rfl ?_; clear hF; intro a hF
    refine s_store (i := 0) (new := tokC t0 ++ [Value.int .i64 0]) hF hS rfl rfl rfl rfl sz49 rfl (by simp [tokC]) ?_; clear hS hF; intro w a hS hF
    rw [spl_all (by simp [tokC])] at hS
    refine s_pu hF (pu_assign rfl) rfl ?_; clear hF; intro a hF
    refine c_nil ?_
    refine n_then ?_
    refine c_ret (r_then ?_)
    exact f_ret hF rfl (.cell rfl (o_lvA (i := 0) hS rfl agg49) (.tmp rfl (.nil))) (hS.retv (by rw [nameS, if_pos (by omega)]; rfl))
  · try simp only [decide_eq_true_eq, decide_eq_false_iff_not, Bool.not_eq_true', Bool.not_eq_false', Bool.not_eq_eq_eq_not, Bool.not_true, Bool.not_false] at hc8
    refine c_skip ?_
    refine n_then ?_
    refine c_seq ?_
    refine c_reg ?_
    refine s_pu hF (pu_move rfl) rfl ?_; clear hF; intro a hF
    refine s_pu hF (pu_move rfl) rfl ?_; clear hF; intro a hF
    refine s_pu hF (pu_to tyS9 rfl rfl (by omega) (by omega)) rfl ?_; clear hF; intro a hF
    refine s_pu hF (pu_build_st (cs := tokC ⟨1, s.take (wordN s), 0, 0⟩) strb26 rfl rfl) rfl ?_; clear hF; intro a hF
    refine s_pu hF (pu_move rfl) rfl ?_; clear hF; intro a hF
    refine s_pu hF (pu_build_st (cs := tokC ⟨1, s.take (wordN s), 0, 0⟩ ++ [Value.int .i64 (wordN s : Nat)]) strb49 rfl rfl) rfl ?_; clear hF; intro a hF
    refine s_store (i := 0) (new := tokC ⟨1, s.take (wordN s), 0, 0⟩ ++ [Value.int .i64 (wordN s : Nat)]) hF hS rfl rfl rfl rfl sz49 rfl (by simp [tokC]) ?_; clear hS hF; intro w a hS hF
    rw [spl_all (by simp [tokC])] at hS
    refine s_pu hF (pu_assign rfl) rfl ?_; clear hF; intro a hF
    refine c_nil ?_
    refine n_then ?_
    refine c_ret ?_
    exact f_ret hF rfl (.cell rfl (o_lvA (i := 0) hS rfl agg49) (.tmp rfl (.nil))) (hS.retv (by rw [nameS, if_neg (by omega)]; rfl))
theorem c_number (s : List UInt8) (hs : s.length ≤ 1000000) (w0 : World) (h0 : View) (hv : VLe h0 (Full w0))  : Calls Tryd.prog 39 #[vs s] w0 (Ret w0 h0 fun u _ => u = resA (numS s)) := by
  refine f_enter (args := [vs s]) Tryd.func39 rfl Tryd.ntmps39 rfl fun a hF => ?_
  have hS := St.init w0 h0 hv
  have hdl := digN_le s
  refine c_seq ?_
  refine c_reg ?_
  refine s_alloc hF hS zero49 rfl ?_; clear hS hF; intro b0 w a hS hF
  refine s_pu hF (pu_assign rfl) rfl ?_; clear hF; intro a hF
  refine c_nil ?_
  refine n_then ?_
  refine c_seq ?_
  refine c_reg ?_
  refine s_pu hF (pu_move rfl) rfl ?_; clear hF; intro a hF
  refine s_callv hF hS ok42 rfl (c_runD s hs _ _ hS.view) rfl ?_; clear hS hF; intro w a hS hF
  refine s_pu hF (pu_assign rfl) rfl ?_; clear hF; intro a hF
  refine c_nil ?_
  refine n_then ?_
  refine c_seq ?_
  refine c_seq ?_
  refine c_reg ?_
  refine s_pu hF (pu_move rfl) rfl ?_; clear hF; intro a hF
  refine s_pu hF (pu_igt rfl rfl) rfl ?_; clear hF; intro a hF
  refine s_pu hF (pu_move rfl) rfl ?_; clear hF; intro a hF
  refine w_split hF ⟨_, _, (rfl : _[2]? = some _), rfl, rfl⟩ (fun hg2_2 => ?_) (fun hg2_2 => ?_)
  · have hg2_2p := hg2_2
    try simp only [decide_eq_true_eq, decide_eq_false_iff_not, Bool.not_eq_true', Bool.not_eq_false', Bool.not_eq_eq_eq_not, Bool.not_true, Bool.not_false] at hg2_2p
    refine g_pu hF ⟨_, _, (rfl : _[2]? = some _), rfl, rfl⟩ hg2_2 (pu_move rfl) rfl ?_; clear hF; intro a hF
    refine g_pu hF ⟨_, _, (rfl : _[2]? = some _), rfl, rfl⟩ hg2_2 (pu_idxn (j := 0) tyS9 rfl rfl rfl (by omega)) rfl ?_; clear hF; intro a hF
    refine g_pu hF ⟨_, _, (rfl : _[2]? = some _), rfl, rfl⟩ hg2_2 (pu_ieq rfl rfl) rfl ?_; clear hF; intro a hF
    refine s_pu hF (pu_pick_t rfl hg2_2 rfl) rfl ?_; clear hF; intro a hF
    refine c_nil ?_
    refine n_then ?_
    refine c_if hF rfl (fun hc16 => ?_) (fun hc16 => ?_)
    · try simp only [decide_eq_true_eq, decide_eq_false_iff_not, Bool.not_eq_true', Bool.not_eq_false', Bool.not_eq_eq_eq_not, Bool.not_true, Bool.not_false] at hc16
      refine c_seq ?_
      refine c_reg ?_
      refine s_pu hF (pu_build_st (cs := tokC t0 ++ [Value.int .i64 0]) strb49 rfl rfl) rfl ?_; clear hF; intro a hF
      refine s_store (i := 0) (new := tokC t0 ++ [Value.int .i64 0]) hF hS rfl rfl rfl rfl sz49 rfl (by simp [tokC]) ?_; clear hS hF; intro w a hS hF
      rw [spl_all (by simp [tokC])] at hS
      refine s_pu hF (pu_assign rfl) rfl ?_; clear hF; intro a hF
      refine c_nil ?_
      refine n_then ?_
      refine c_ret (r_then ?_)
      exact f_ret hF rfl (.cell rfl (o_lvA (i := 0) hS rfl agg49) (.tmp rfl (.nil))) (hS.retv (by rw [numS, if_pos ⟨by omega, hc16⟩]; rfl))
    · try simp only [decide_eq_true_eq, decide_eq_false_iff_not, Bool.not_eq_true', Bool.not_eq_false', Bool.not_eq_eq_eq_not, Bool.not_true, Bool.not_false] at hc16
      refine c_skip ?_
      refine n_then ?_
      refine c_seq ?_
      refine c_reg ?_
      refine s_pu hF (pu_assign rfl) rfl ?_; clear hF; intro a hF
      refine c_nil ?_
      refine n_then ?_
      refine c_seq ?_
      refine c_seq ?_
      refine c_reg ?_
      refine s_pu hF (pu_move rfl) rfl ?_; clear hF; intro a hF
      refine s_pu hF (pu_move rfl) rfl ?_; clear hF; intro a hF
      refine c_nil ?_
      refine n_then ?_
      refine c_block ?_
      refine hS.cut fun O0 F0 hO0 hF0 hS => ?_
      refine hF.cut (.cons (k := 5) rfl <| .cons (k := 19) rfl <| .nil) (.cons (k := 0) rfl <| .cons (k := 2) rfl <| .cons (k := 4) rfl <| .cons (k := 18) rfl <| .nil) fun L0 hL0 hF => ?_
      refine c_loop (α := Nat) (fun k a w => ∃ (v : Nat), k ≤ digN s ∧ numF (s.take k) = some v ∧ (v : Int) ≤ 9223372036854775807 ∧ Fr a 42 ([(5, .val (.int .i64 v)), (19, .val (.int .i64 k))] ++ L0) ∧ St w0 h0 [] w O0 F0) (fun k => digN s - k) 0 (⟨0, by omega, rfl, by omega, hF, hS⟩) ?_
      subst hO0 hF0 hL0
      rintro k a w ⟨v, hk, hnf, hv63, hF, hS⟩
      refine c_seq ?_
      refine c_reg ?_
      refine s_pu hF (pu_ilt rfl rfl) rfl ?_; clear hF; intro a hF
      refine c_nil ?_
      refine n_then ?_
      refine c_seq ?_
      refine c_if hF rfl (fun hc20 => ?_) (fun hc20 => ?_)
      · try simp only [decide_eq_true_eq, decide_eq_false_iff_not, Bool.not_eq_true', Bool.not_eq_false', Bool.not_eq_eq_eq_not, Bool.not_true, Bool.not_false] at hc20
        have hd48 := dig_at s k (by omega)
        have hsn := numF_snoc s k (by omega)
        rw [hnf] at hsn
        refine c_skip ?_
        refine n_then ?_
        refine c_seq ?_
        refine c_block ?_
        refine c_seq ?_
        refine c_reg ?_
        refine s_pu hF (pu_move rfl) rfl ?_; clear hF; intro a hF
        refine s_pu hF (pu_assign rfl) rfl ?_; clear hF; intro a hF
        refine c_nil ?_
        refine n_then ?_
        refine c_seq ?_
        refine c_reg ?_
        refine s_pu hF (pu_move rfl) rfl ?_; clear hF; intro a hF
        refine s_pu hF (pu_move rfl) rfl ?_; clear hF; intro a hF
        refine s_pu hF (pu_idxn tyS9 rfl rfl rfl (by omega)) rfl ?_; clear hF; intro a hF
        refine s_pu hF (pu_sub rfl rfl (r := (((s.getD k 0).toNat - 48 : Nat) : Int)) (by rw [wrap_u8 (by omega) (by omega)]; omega)) rfl ?_; clear hF; intro a hF
        refine s_pu hF (pu_conv tyI3 ⟨_, tyI5⟩ rfl (wrap_i64 (by omega) (by omega))) rfl ?_; clear hF; intro a hF
        refine s_pu hF (pu_assign rfl) rfl ?_; clear hF; intro a hF
        refine c_nil ?_
        refine n_then ?_
        refine c_seq ?_
        refine c_seq ?_
        refine c_reg ?_
        refine s_pu hF (pu_move rfl) rfl ?_; clear hF; intro a hF
        refine s_pu hF (pu_move rfl) rfl ?_; clear hF; intro a hF
        refine s_pu hF (pu_sub rfl rfl (by first | exact wrap_i64 (by omega) (by omega) | rfl)) rfl ?_; clear hF; intro a hF
        refine s_pu hF (pu_quo rfl rfl (by omega) (r := (((9223372036854775807 - ((s.getD k 0).toNat - 48 : Nat)) / 10 : Nat) : Int)) (by rw [Int.tdiv_eq_ediv_of_nonneg (by omega), wrap_i64 (by omega) (by omega)]; omega)) rfl ?_; clear hF; intro a hF
        refine s_pu hF (pu_igt rfl rfl) rfl ?_; clear hF; intro a hF
        refine c_nil ?_
        refine n_then ?_
        refine c_if hF rfl (fun hc31 => ?_) (fun hc31 => ?_)
        · try simp only [decide_eq_true_eq, decide_eq_false_iff_not, Bool.not_eq_true', Bool.not_eq_false', Bool.not_eq_eq_eq_not, Bool.not_true, Bool.not_false] at hc31
          rw [numStep, Option.bind_some, if_pos (by omega)] at hsn
          refine c_seq ?_
          refine c_reg ?_
          refine s_pu hF (pu_build_st (cs := tokC t0 ++ [Value.int .i64 0]) strb49 rfl rfl) rfl ?_; clear hF; intro a hF
          refine s_store (i := 0) (new := tokC t0 ++ [Value.int .i64 0]) hF hS rfl rfl rfl rfl sz49 rfl (by simp [tokC]) ?_; clear hS hF; intro w a hS hF
          rw [spl_all (by simp [tokC])] at hS
          refine s_pu hF (pu_assign rfl) rfl ?_; clear hF; intro a hF
          refine c_nil ?_
          refine n_then ?_
          refine c_ret (r_then (r_block (r_then (r_then (r_block (r_then ?_))))))
          exact f_ret hF rfl (.cell rfl (o_lvA (i := 0) hS rfl agg49) (.tmp rfl (.nil))) (hS.retv (by rw [numS, if_neg (by first | (rintro ⟨h1, h2⟩; omega) | (rintro ⟨h1, h2⟩; exact hc16 h2)), numF_none s (k + 1) (digN s) (by omega) hsn]; rfl))
        · try simp only [decide_eq_true_eq, decide_eq_false_iff_not, Bool.not_eq_true', Bool.not_eq_false', Bool.not_eq_eq_eq_not, Bool.not_true, Bool.not_false] at hc31
          rw [numStep, Option.bind_some, if_neg (by omega)] at hsn
          refine c_skip ?_
          refine n_then ?_
          refine c_reg ?_
          refine s_pu hF (pu_move rfl) rfl ?_; clear hF; intro a hF
          refine s_pu hF (pu_mul rfl rfl (by first | exact wrap_i64 (by omega) (by omega) | rfl)) rfl ?_; clear hF; intro a hF
          refine s_pu hF (pu_move rfl) rfl ?_; clear hF; intro a hF
          refine s_pu hF (pu_add rfl rfl (by first | exact wrap_i64 (by omega) (by omega) | rfl)) rfl ?_; clear hF; intro a hF
          refine s_pu hF (pu_assign rfl) rfl ?_; clear hF; intro a hF
          refine c_nil ?_
          refine n_block ?_
          refine n_then ?_
          refine c_reg ?_
          refine s_pu hF (pu_add rfl rfl (by first | exact wrap_i64 (by omega) (by omega) | rfl)) rfl ?_; clear hF; intro a hF
          refine s_pu hF (pu_move rfl) rfl ?_; clear hF; intro a hF
          refine c_nil ?_
          have e : (v : Int) * 10 + (((s.getD k 0).toNat - 48 : Nat) : Int) = ((10 * v + ((s.getD k 0).toNat - 48 : Nat) : Nat) : Int) := by omega
          rw [e] at hF
          exact ⟨k + 1, ⟨_, by omega, hsn, by omega, hF.pick (.cons (k := 5) rfl <| .cons (k := 19) rfl <| .cons (k := 0) rfl <| .cons (k := 2) rfl <| .cons (k := 4) rfl <| .cons (k := 18) rfl <| .nil), hS⟩, by omega⟩
      · try simp only [decide_eq_true_eq, decide_eq_false_iff_not, Bool.not_eq_true', Bool.not_eq_false', Bool.not_eq_eq_eq_not, Bool.not_true, Bool.not_false] at hc20
        obtain rfl : k = digN s := by omega
        refine c_exit (x_then (x_then (x_here ?_)))
        refine n_then ?_
        refine c_seq ?_
        refine c_reg ?_
        refine s_pu hF (pu_move rfl) rfl ?_; clear hF; intro a hF
        refine s_pu hF (pu_build_st (cs := tokC ⟨2, [], (v : Int), 0⟩) strb26 rfl rfl) rfl ?_; clear hF; intro a hF
        refine s_pu hF (pu_move rfl) rfl ?_; clear hF; intro a hF
        refine s_pu hF (pu_build_st (cs := tokC ⟨2, [], (v : Int), 0⟩ ++ [Value.int .i64 (digN s : Nat)]) strb49 rfl rfl) rfl ?_; clear hF; intro a hF
        refine s_store (i := 0) (new := tokC ⟨2, [], (v : Int), 0⟩ ++ [Value.int .i64 (digN s : Nat)]) hF hS rfl rfl rfl rfl sz49 rfl (by simp [tokC]) ?_; clear hS hF; intro w a hS hF
        rw [spl_all (by simp [tokC])] at hS
        refine s_pu hF (pu_assign rfl) rfl ?_; clear hF; intro a hF
        refine c_nil ?_
        refine n_then ?_
        refine c_ret ?_
        exact f_ret hF rfl (.cell rfl (o_lvA (i := 0) hS rfl agg49) (.tmp rfl (.nil))) (hS.retv (by rw [numS, if_neg (by first | (rintro ⟨h1, h2⟩; omega) | (rintro ⟨h1, h2⟩; exact hc16 h2)), hnf]; rfl))
  · have hg2_2p := hg2_2
    try simp only [decide_eq_true_eq, decide_eq_false_iff_not, Bool.not_eq_true', Bool.not_eq_false', Bool.not_eq_eq_eq_not, Bool.not_true, Bool.not_false] at hg2_2p
    refine g_no hF ⟨_, _, (rfl : _[2]? = some _), rfl, rfl⟩ hg2_2 rfl ?_; clear hF; intro a hF
    refine g_no hF ⟨_, _, (rfl : _[2]? = some _), rfl, rfl⟩ hg2_2 rfl ?_; clear hF; intro a hF
    refine g_no hF ⟨_, _, (rfl : _[2]? = some _), rfl, rfl⟩ hg2_2 rfl ?_; clear hF; intro a hF
    refine s_pu hF (pu_pick_f rfl hg2_2 rfl) rfl ?_; clear hF; intro a hF
    refine c_nil ?_
    refine n_then ?_
    refine c_iff hF rfl rfl ?_
    refine c_skip ?_
    refine n_then ?_
    refine c_seq ?_
    refine c_reg ?_
    refine s_pu hF (pu_assign rfl) rfl ?_; clear hF; intro a hF
    refine c_nil ?_
    refine n_then ?_
    refine c_seq ?_
    refine c_seq ?_
    refine c_reg ?_
    refine s_pu hF (pu_move rfl) rfl ?_; clear hF; intro a hF
    refine s_pu hF (pu_move rfl) rfl ?_; clear hF; intro a hF
    refine c_nil ?_
    refine n_then ?_
    refine c_block ?_
    refine hS.cut fun O1 F1 hO1 hF1 hS => ?_
    refine hF.cut (.cons (k := 5) rfl <| .cons (k := 19) rfl <| .nil) (.cons (k := 0) rfl <| .cons (k := 2) rfl <| .cons (k := 4) rfl <| .cons (k := 18) rfl <| .nil) fun L1 hL1 hF => ?_
    refine c_loop (α := Nat) (fun k a w => ∃ (v : Nat), k ≤ digN s ∧ numF (s.take k) = some v ∧ (v : Int) ≤ 9223372036854775807 ∧ Fr a 42 ([(5, .val (.int .i64 v)), (19, .val (.int .i64 k))] ++ L1) ∧ St w0 h0 [] w O1 F1) (fun k => digN s - k) 0 (⟨0, by omega, rfl, by omega, hF, hS⟩) ?_
    subst hO1 hF1 hL1
    rintro k a w ⟨v, hk, hnf, hv63, hF, hS⟩
    refine c_seq ?_
    refine c_reg ?_
    refine s_pu hF (pu_ilt rfl rfl) rfl ?_; clear hF; intro a hF
    refine c_nil ?_
    refine n_then ?_
    refine c_seq ?_
    refine c_if hF rfl (fun hc20 => ?_) (fun hc20 => ?_)
    · try simp only [decide_eq_true_eq, decide_eq_false_iff_not, Bool.not_eq_true', Bool.not_eq_false', Bool.not_eq_eq_eq_not, Bool.not_true, Bool.not_false] at hc20
      have hd48 := dig_at s k (by omega)
      have hsn := numF_snoc s k (by omega)
      rw [hnf] at hsn
      refine c_skip ?_
      refine n_then ?_
      refine c_seq ?_
      refine c_block ?_
      refine c_seq ?_
      refine c_reg ?_
      refine s_pu hF (pu_move rfl) rfl ?_; clear hF; intro a hF
      refine s_pu hF (pu_assign rfl) rfl ?_; clear hF; intro a hF
      refine c_nil ?_
      refine n_then ?_
      refine c_seq ?_
      refine c_reg ?_
      refine s_pu hF (pu_move rfl) rfl ?_; clear hF; intro a hF
      refine s_pu hF (pu_move rfl) rfl ?_; clear hF; intro a hF
      refine s_pu hF (pu_idxn tyS9 rfl rfl rfl (by omega)) rfl ?_; clear hF; intro a hF
      refine s_pu hF (pu_sub rfl rfl (r := (((s.getD k 0).toNat - 48 : Nat) : Int)) (by rw [wrap_u8 (by omega) (by omega)]; omega)) rfl ?_; clear hF; intro a hF
      refine s_pu hF (pu_conv tyI3 ⟨_, tyI5⟩ rfl (wrap_i64 (by omega) (by omega))) rfl ?_; clear hF; intro a hF
      refine s_pu hF (pu_assign rfl) rfl ?_; clear hF; intro a hF
      refine c_nil ?_
      refine n_then ?_
      refine c_seq ?_
      refine c_seq ?_
      refine c_reg ?_
      refine s_pu hF (pu_move rfl) rfl ?_; clear hF; intro a hF
      refine s_pu hF (pu_move rfl) rfl ?_; clear hF; intro a hF
      refine s_pu hF (pu_sub rfl rfl (by first | exact wrap_i64 (by omega) (by omega) | rfl)) rfl ?_; clear hF; intro a hF
      refine s_pu hF (pu_quo rfl rfl (by omega) (r := (((9223372036854775807 - ((s.getD k 0).toNat - 48 : Nat)) / 10 : Nat) : Int)) (by rw [Int.tdiv_eq_ediv_of_nonneg (by omega), wrap_i64 (by omega) (by omega)]; omega)) rfl ?_; clear hF; intro a hF
      refine s_pu hF (pu_igt rfl rfl) rfl ?_; clear hF; intro a hF
      refine c_nil ?_
      refine n_then ?_
      refine c_if hF rfl (fun hc31 => ?_) (fun hc31 => ?_)
      · try simp only [decide_eq_true_eq, decide_eq_false_iff_not, Bool.not_eq_true', Bool.not_eq_false', Bool.not_eq_eq_eq_not, Bool.not_true, Bool.not_false] at hc31
        rw [numStep, Option.bind_some, if_pos (by omega)] at hsn
        refine c_seq ?_
        refine c_reg ?_
        refine s_pu hF (pu_build_st (cs := tokC t0 ++ [Value.int .i64 0]) strb49 rfl rfl) rfl ?_; clear hF; intro a hF
        refine s_store (i := 0) (new := tokC t0 ++ [Value.int .i64 0]) hF hS rfl rfl rfl rfl sz49 rfl (by simp [tokC]) ?_; clear hS hF; intro w a hS hF
        rw [spl_all (by simp [tokC])] at hS
        refine s_pu hF (pu_assign rfl) rfl ?_; clear hF; intro a hF
        refine c_nil ?_
        refine n_then ?_
        refine c_ret (r_then (r_block (r_then (r_then (r_block (r_then ?_))))))
        exact f_ret hF rfl (.cell rfl (o_lvA (i := 0) hS rfl agg49) (.tmp rfl (.nil))) (hS.retv (by rw [numS, if_neg (by first | (rintro ⟨h1, h2⟩; omega) | (rintro ⟨h1, h2⟩; exact hc16 h2)), numF_none s (k + 1) (digN s) (by omega) hsn]; rfl))
      · try simp only [decide_eq_true_eq, decide_eq_false_iff_not, Bool.not_eq_true', Bool.not_eq_false', Bool.not_eq_eq_eq_not, Bool.not_true, Bool.not_false] at hc31
        rw [numStep, Option.bind_some, if_neg (by omega)] at hsn
        refine c_skip ?_
        refine n_then ?_
        refine c_reg ?_
        refine s_pu hF (pu_move rfl) rfl ?_; clear hF; intro a hF
        refine s_pu hF (pu_mul rfl rfl (by first | exact wrap_i64 (by omega) (by omega) | rfl)) rfl ?_; clear hF; intro a hF
        refine s_pu hF (pu_move rfl) rfl ?_; clear hF; intro a hF
        refine s_pu hF (pu_add rfl rfl (by first | exact wrap_i64 (by omega) (by omega) | rfl)) rfl ?_; clear hF; intro a hF
        refine s_pu hF (pu_assign rfl) rfl ?_; clear hF; intro a hF
        refine c_nil ?_
        refine n_block ?_
        refine n_then ?_
        refine c_reg ?_
        refine s_pu hF (pu_add rfl rfl (by first | exact wrap_i64 (by omega) (by omega) | rfl)) rfl ?_; clear hF; intro a hF
        refine s_pu hF (pu_move rfl) rfl ?_; clear hF; intro a hF
        refine c_nil ?_
        have e : (v : Int) * 10 + (((s.getD k 0).toNat - 48 : Nat) : Int) = ((10 * v + ((s.getD k 0).toNat - 48 : Nat) : Nat) : Int) := by omega
        rw [e] at hF
        exact ⟨k + 1, ⟨_, by omega, hsn, by omega, hF.pick (.cons (k := 5) rfl <| .cons (k := 19) rfl <| .cons (k := 0) rfl <| .cons (k := 2) rfl <| .cons (k := 4) rfl <| .cons (k := 18) rfl <| .nil), hS⟩, by omega⟩
    · try simp only [decide_eq_true_eq, decide_eq_false_iff_not, Bool.not_eq_true', Bool.not_eq_false', Bool.not_eq_eq_eq_not, Bool.not_true, Bool.not_false] at hc20
      obtain rfl : k = digN s := by omega
      refine c_exit (x_then (x_then (x_here ?_)))
      refine n_then ?_
      refine c_seq ?_
      refine c_reg ?_
      refine s_pu hF (pu_move rfl) rfl ?_; clear hF; intro a hF
      refine s_pu hF (pu_build_st (cs := tokC ⟨2, [], (v : Int), 0⟩) strb26 rfl rfl) rfl ?_; clear hF; intro a hF
      refine s_pu hF (pu_move rfl) rfl ?_; clear hF; intro a hF
      refine s_pu hF (pu_build_st (cs := tokC ⟨2, [], (v : Int), 0⟩ ++ [Value.int .i64 (digN s : Nat)]) strb49 rfl rfl) rfl ?_; clear hF; intro a hF
      refine s_store (i := 0) (new := tokC ⟨2, [], (v : Int), 0⟩ ++ [Value.int .i64 (digN s : Nat)]) hF hS rfl rfl rfl rfl sz49 rfl (by simp [tokC]) ?_; clear hS hF; intro w a hS hF
      rw [spl_all (by simp [tokC])] at hS
      refine s_pu hF (pu_assign rfl) rfl ?_; clear hF; intro a hF
      refine c_nil ?_
      refine n_then ?_
      refine c_ret ?_
      exact f_ret hF rfl (.cell rfl (o_lvA (i := 0) hS rfl agg49) (.tmp rfl (.nil))) (hS.retv (by rw [numS, if_neg (by first | (rintro ⟨h1, h2⟩; omega) | (rintro ⟨h1, h2⟩; exact hc16 h2)), hnf]; rfl))
set_option maxHeartbeats 1000000 in
theorem c_text (s : List UInt8) (hs0 : 0 < s.length) (hs : s.length ≤ 1000000) (w0 : World) (h0 : View) (hv : VLe h0 (Full w0))  : Calls Tryd.prog 40 #[vs s] w0 (Ret w0 h0 fun u _ => u = resA (textS s)) := by
  refine f_enter (args := [vs s]) Tryd.func40 rfl Tryd.ntmps40 rfl fun a hF => ?_
  have hS := St.init w0 h0 hv
  refine c_seq ?_
  refine c_reg ?_
  refine s_alloc hF hS zero49 rfl ?_; clear hS hF; intro b0 w a hS hF
  refine s_pu hF (pu_assign rfl) rfl ?_; clear hF; intro a hF
  refine c_nil ?_
  refine n_then ?_
  refine c_seq ?_
  refine c_reg ?_
  refine s_pu hF (pu_assign rfl) rfl ?_; clear hF; intro a hF
  replace hS := hS.newNil 5 1
  refine c_nil ?_
  refine n_then ?_
  refine c_seq ?_
  refine c_seq ?_
  refine c_reg ?_
  refine s_pu hF (pu_assign rfl) rfl ?_; clear hF; intro a hF
  refine c_nil ?_
  refine n_then ?_
  refine c_block ?_
  refine hS.cut fun O0 F0 hO0 hF0 hS => ?_
  subst hO0
  refine hF.cut (.cons (k := 4) rfl <| .cons (k := 5) rfl <| .nil) (.cons (k := 0) rfl <| .cons (k := 2) rfl <| .nil) fun L0 hL0 hF => ?_
  refine c_loop (α := Nat × List UInt8) (fun x a w => ∃ a0 c, textG s x.1 x.2 = textS s ∧ 1 ≤ x.1 ∧ x.1 ≤ s.length ∧ x.2.length ≤ x.1 ∧ Fr a 71 ([(4, .val (.slice a0 x.2.length c)), (5, .val (.int .i64 (x.1 : Nat)))] ++ L0) ∧ St w0 h0 [] w [bufE 5 1 (.slice a0 x.2.length c) (x.2.map v8), (some b0, CellsC 49 (tokC t0 ++ [Value.int .i64 0]))] F0) (fun x => s.length - x.1) (1, []) (⟨none, 0, rfl, Nat.le_refl 1, hs0, Nat.zero_le _, hF, hS⟩) ?_
  subst hF0 hL0
  rintro ⟨i, b⟩ a w ⟨a0, c, htx, h1i, his, hbl, hF, hS⟩
  dsimp only at htx h1i his hbl hF hS
  refine c_seq ?_
  refine c_seq ?_
  refine c_reg ?_
  refine s_pu hF (pu_move rfl) rfl ?_; clear hF; intro a hF
  refine s_pu hF (pu_move rfl) rfl ?_; clear hF; intro a hF
  refine s_pu hF (pu_len_s tyS9 rfl rfl) rfl ?_; clear hF; intro a hF
  refine s_pu hF (pu_ilt rfl rfl) rfl ?_; clear hF; intro a hF
  refine c_nil ?_
  refine n_then ?_
  refine c_if hF rfl (fun hc10 => ?_) (fun hc10 => ?_)
  · try simp only [decide_eq_true_eq, decide_eq_false_iff_not, Bool.not_eq_true', Bool.not_eq_false', Bool.not_eq_eq_eq_not, Bool.not_true, Bool.not_false] at hc10
    refine c_skip ?_
    refine n_then ?_
    refine c_seq ?_
    refine c_block ?_
    refine c_seq ?_
    refine c_reg ?_
    refine s_pu hF (pu_move rfl) rfl ?_; clear hF; intro a hF
    refine s_pu hF (pu_move rfl) rfl ?_; clear hF; intro a hF
    refine s_pu hF (pu_idxn tyS9 rfl rfl rfl (by omega)) rfl ?_; clear hF; intro a hF
    refine s_pu hF (pu_assign rfl) rfl ?_; clear hF; intro a hF
    refine c_nil ?_
    refine n_then ?_
    refine c_seq ?_
    refine c_block ?_
    refine c_seq ?_
    refine c_reg ?_
    refine s_pu hF (pu_move rfl) rfl ?_; clear hF; intro a hF
    refine s_pu hF (pu_ieq rfl rfl) rfl ?_; clear hF; intro a hF
    refine s_pu hF (pu_move rfl) rfl ?_; clear hF; intro a hF
    refine w_split hF ⟨_, _, (rfl : _[2]? = some _), rfl, rfl⟩ (fun hg6_2 => ?_) (fun hg6_2 => ?_)
    · have hg6_2p := hg6_2
      try simp only [decide_eq_true_eq, decide_eq_false_iff_not, Bool.not_eq_true', Bool.not_eq_false', Bool.not_eq_eq_eq_not, Bool.not_true, Bool.not_false] at hg6_2p
      refine g_pu hF ⟨_, _, (rfl : _[2]? = some _), rfl, rfl⟩ hg6_2 (pu_move rfl) rfl ?_; clear hF; intro a hF
      refine g_pu hF ⟨_, _, (rfl : _[2]? = some _), rfl, rfl⟩ hg6_2 (pu_len_sl tyL54 rfl rfl) rfl ?_; clear hF; intro a hF
      refine g_pu hF ⟨_, _, (rfl : _[2]? = some _), rfl, rfl⟩ hg6_2 (pu_igt rfl rfl) rfl ?_; clear hF; intro a hF
      refine s_pu hF (pu_pick_t rfl hg6_2 rfl) rfl ?_; clear hF; intro a hF
      refine s_pu hF (pu_assign rfl) rfl ?_; clear hF; intro a hF
      refine c_nil ?_
      refine n_then ?_
      refine c_if hF rfl (fun hc16 => ?_) (fun hc16 => ?_)
      · try simp only [decide_eq_true_eq, decide_eq_false_iff_not, Bool.not_eq_true', Bool.not_eq_false', Bool.not_eq_eq_eq_not, Bool.not_true, Bool.not_false] at hc16
        refine c_seq ?_
        refine c_reg ?_
        refine s_pu hF (pu_build_st (cs := tokC t0 ++ [Value.int .i64 0]) strb49 rfl rfl) rfl ?_; clear hF; intro a hF
        refine s_store (i := 1) (new := tokC t0 ++ [Value.int .i64 0]) hF hS rfl rfl rfl rfl sz49 rfl (by simp [tokC]) ?_; clear hS hF; intro w a hS hF
        rw [spl_all (by simp [tokC])] at hS
        refine s_pu hF (pu_assign rfl) rfl ?_; clear hF; intro a hF
        refine c_nil ?_
        refine n_then ?_
        refine c_ret (r_block (r_then (r_block (r_then (r_then (r_block (r_then ?_)))))))
        exact f_ret hF rfl (.cell rfl (o_lvA (i := 1) hS rfl agg49) (.tmp rfl (.nil))) (hS.retv (by rw [← htx, tx_big (by omega) hg6_2p (by omega)]; rfl))
      · try simp only [decide_eq_true_eq, decide_eq_false_iff_not, Bool.not_eq_true', Bool.not_eq_false', Bool.not_eq_eq_eq_not, Bool.not_true, Bool.not_false] at hc16
        refine c_seq ?_
        refine c_reg ?_
        refine s_pu hF (pu_move rfl) rfl ?_; clear hF; intro a hF
        refine s_pu hF (pu_ieq rfl rfl) rfl ?_; clear hF; intro a hF
        refine s_pu hF (pu_assign rfl) rfl ?_; clear hF; intro a hF
        refine c_nil ?_
        refine n_then ?_
        refine c_if hF rfl (fun hc25 => ?_) (fun hc25 => ?_)
        · try simp only [decide_eq_true_eq, decide_eq_false_iff_not, Bool.not_eq_true', Bool.not_eq_false', Bool.not_eq_eq_eq_not, Bool.not_true, Bool.not_false] at hc25
          refine c_seq ?_
          refine c_reg ?_
          refine s_pu hF (pu_move rfl) rfl ?_; clear hF; intro a hF
          refine s_pu hF (pu_tostr tyL54 tyI5 tyS9 rfl rfl (buf_str (i := 0) hS rfl)) rfl ?_; clear hF; intro a hF
          refine s_pu hF (pu_build_st (cs := tokC ⟨3, b, 0, 0⟩) strb26 rfl rfl) rfl ?_; clear hF; intro a hF
          refine s_pu hF (pu_move rfl) rfl ?_; clear hF; intro a hF
          refine s_pu hF (pu_add rfl rfl (by first | exact wrap_i64 (by omega) (by omega) | rfl)) rfl ?_; clear hF; intro a hF
          refine s_pu hF (pu_build_st (cs := tokC ⟨3, b, 0, 0⟩ ++ [Value.int .i64 ((i : Int) + 1)]) strb49 rfl rfl) rfl ?_; clear hF; intro a hF
          refine s_store (i := 1) (new := tokC ⟨3, b, 0, 0⟩ ++ [Value.int .i64 ((i : Int) + 1)]) hF hS rfl rfl rfl rfl sz49 rfl (by simp [tokC]) ?_; clear hS hF; intro w a hS hF
          rw [spl_all (by simp [tokC])] at hS
          refine s_pu hF (pu_assign rfl) rfl ?_; clear hF; intro a hF
          refine c_nil ?_
          refine n_then ?_
          refine c_ret (r_block (r_then (r_block (r_then (r_then (r_block (r_then ?_)))))))
          exact f_ret hF rfl (.cell rfl (o_lvA (i := 1) hS rfl agg49) (.tmp rfl (.nil))) (hS.retv (by rw [← htx, tx_end (by omega) hc25 (by omega)]; rfl))
        · try simp only [decide_eq_true_eq, decide_eq_false_iff_not, Bool.not_eq_true', Bool.not_eq_false', Bool.not_eq_eq_eq_not, Bool.not_true, Bool.not_false] at hc25
          refine c_seq ?_
          refine c_reg ?_
          refine s_pu hF (pu_move rfl) rfl ?_; clear hF; intro a hF
          refine s_pu hF (pu_ieq rfl rfl) rfl ?_; clear hF; intro a hF
          refine s_pu hF (pu_assign rfl) rfl ?_; clear hF; intro a hF
          refine c_nil ?_
          refine n_then ?_
          refine c_if hF rfl (fun hc34 => ?_) (fun hc34 => ?_)
          · try simp only [decide_eq_true_eq, decide_eq_false_iff_not, Bool.not_eq_true', Bool.not_eq_false', Bool.not_eq_eq_eq_not, Bool.not_true, Bool.not_false] at hc34
            refine c_seq ?_
            refine c_reg ?_
            refine s_pu hF (pu_move rfl) rfl ?_; clear hF; intro a hF
            refine s_pu hF (pu_add rfl rfl (by first | exact wrap_i64 (by omega) (by omega) | rfl)) rfl ?_; clear hF; intro a hF
            refine s_pu hF (pu_assign rfl) rfl ?_; clear hF; intro a hF
            rw [show ((i : Int) + 1) = ((i + 1 : Nat) : Int) by omega] at hF
            refine c_nil ?_
            refine n_then ?_
            refine c_seq ?_
            refine c_reg ?_
            refine s_pu hF (pu_move rfl) rfl ?_; clear hF; intro a hF
            refine s_pu hF (pu_move rfl) rfl ?_; clear hF; intro a hF
            refine s_pu hF (pu_len_s tyS9 rfl rfl) rfl ?_; clear hF; intro a hF
            refine s_pu hF (pu_ieq rfl rfl) rfl ?_; clear hF; intro a hF
            refine s_pu hF (pu_move rfl) rfl ?_; clear hF; intro a hF
            refine w_split hF ⟨_, _, (rfl : _[4]? = some _), rfl, rfl⟩ (fun hg12_4 => ?_) (fun hg12_4 => ?_)
            · have hg12_4p := hg12_4
              try simp only [decide_eq_true_eq, decide_eq_false_iff_not, Bool.not_eq_true', Bool.not_eq_false', Bool.not_eq_eq_eq_not, Bool.not_true, Bool.not_false] at hg12_4p
              refine g_no hF ⟨_, _, (rfl : _[4]? = some _), rfl, rfl⟩ hg12_4 rfl ?_; clear hF; intro a hF
              refine g_no hF ⟨_, _, (rfl : _[4]? = some _), rfl, rfl⟩ hg12_4 rfl ?_; clear hF; intro a hF
              refine g_no hF ⟨_, _, (rfl : _[4]? = some _), rfl, rfl⟩ hg12_4 rfl ?_; clear hF; intro a hF
              refine g_no hF ⟨_, _, (rfl : _[4]? = some _), rfl, rfl⟩ hg12_4 rfl ?_; clear hF; intro a hF
              refine g_no hF ⟨_, _, (rfl : _[4]? = some _), rfl, rfl⟩ hg12_4 rfl ?_; clear hF; intro a hF
              refine g_noU hF ⟨_, _, (rfl : _[9]? = some _), rfl, rfl⟩ rfl ?_; clear hF; intro a hF
              refine g_noU hF ⟨_, _, (rfl : _[9]? = some _), rfl, rfl⟩ rfl ?_; clear hF; intro a hF
              refine g_noU hF ⟨_, _, (rfl : _[9]? = some _), rfl, rfl⟩ rfl ?_; clear hF; intro a hF
              refine g_noU hF ⟨_, _, (rfl : _[9]? = some _), rfl, rfl⟩ rfl ?_; clear hF; intro a hF
              refine g_no hF ⟨_, _, (rfl : _[4]? = some _), rfl, rfl⟩ hg12_4 rfl ?_; clear hF; intro a hF
              refine s_pu hF (pu_pick_t rfl hg12_4 rfl) rfl ?_; clear hF; intro a hF
              refine c_nil ?_
              refine n_then ?_
              refine c_ift hF rfl rfl ?_
              refine c_seq ?_
              refine c_reg ?_
              refine s_pu hF (pu_build_st (cs := tokC t0 ++ [Value.int .i64 0]) strb49 rfl rfl) rfl ?_; clear hF; intro a hF
              refine s_store (i := 1) (new := tokC t0 ++ [Value.int .i64 0]) hF hS rfl rfl rfl rfl sz49 rfl (by simp [tokC]) ?_; clear hS hF; intro w a hS hF
              rw [spl_all (by simp [tokC])] at hS
              refine s_pu hF (pu_assign rfl) rfl ?_; clear hF; intro a hF
              refine c_nil ?_
              refine n_then ?_
              refine c_ret (r_block (r_then (r_block (r_then (r_then (r_block (r_then ?_)))))))
              exact f_ret hF rfl (.cell rfl (o_lvA (i := 1) hS rfl agg49) (.tmp rfl (.nil))) (hS.retv (by rw [← htx, tx_bad (by omega) hc25 hc34 (by first | (left; omega) | (right; exact ⟨hg12_9p, hc54⟩))]; rfl))
            · have hg12_4p := hg12_4
              try simp only [decide_eq_true_eq, decide_eq_false_iff_not, Bool.not_eq_true', Bool.not_eq_false', Bool.not_eq_eq_eq_not, Bool.not_true, Bool.not_false] at hg12_4p
              refine g_pu hF ⟨_, _, (rfl : _[4]? = some _), rfl, rfl⟩ hg12_4 (pu_move rfl) rfl ?_; clear hF; intro a hF
              refine g_pu hF ⟨_, _, (rfl : _[4]? = some _), rfl, rfl⟩ hg12_4 (pu_move rfl) rfl ?_; clear hF; intro a hF
              refine g_pu hF ⟨_, _, (rfl : _[4]? = some _), rfl, rfl⟩ hg12_4 (pu_idxn tyS9 rfl rfl rfl (by omega)) rfl ?_; clear hF; intro a hF
              refine g_pu hF ⟨_, _, (rfl : _[4]? = some _), rfl, rfl⟩ hg12_4 (pu_ine rfl rfl) rfl ?_; clear hF; intro a hF
              refine g_pu hF ⟨_, _, (rfl : _[4]? = some _), rfl, rfl⟩ hg12_4 (pu_move rfl) rfl ?_; clear hF; intro a hF
              refine w_split hF ⟨_, _, (rfl : _[9]? = some _), rfl, rfl⟩ (fun hg12_9 => ?_) (fun hg12_9 => ?_)
              · have hg12_9p := hg12_9
                try simp only [decide_eq_true_eq, decide_eq_false_iff_not, Bool.not_eq_true', Bool.not_eq_false', Bool.not_eq_eq_eq_not, Bool.not_true, Bool.not_false] at hg12_9p
                refine g_pu hF ⟨_, _, (rfl : _[9]? = some _), rfl, rfl⟩ hg12_9 (pu_move rfl) rfl ?_; clear hF; intro a hF
                refine g_pu hF ⟨_, _, (rfl : _[9]? = some _), rfl, rfl⟩ hg12_9 (pu_move rfl) rfl ?_; clear hF; intro a hF
                refine g_pu hF ⟨_, _, (rfl : _[9]? = some _), rfl, rfl⟩ hg12_9 (pu_idxn tyS9 rfl rfl rfl (by omega)) rfl ?_; clear hF; intro a hF
                refine g_pu hF ⟨_, _, (rfl : _[9]? = some _), rfl, rfl⟩ hg12_9 (pu_ine rfl rfl) rfl ?_; clear hF; intro a hF
                refine g_pu hF ⟨_, _, (rfl : _[4]? = some _), rfl, rfl⟩ hg12_4 (pu_pick_t rfl hg12_9 rfl) rfl ?_; clear hF; intro a hF
                refine s_pu hF (pu_pick_f rfl hg12_4 rfl) rfl ?_; clear hF; intro a hF
                refine c_nil ?_
                refine n_then ?_
                refine c_if hF rfl (fun hc54 => ?_) (fun hc54 => ?_)
                · try simp only [decide_eq_true_eq, decide_eq_false_iff_not, Bool.not_eq_true', Bool.not_eq_false', Bool.not_eq_eq_eq_not, Bool.not_true, Bool.not_false] at hc54
                  refine c_seq ?_
                  refine c_reg ?_
                  refine s_pu hF (pu_build_st (cs := tokC t0 ++ [Value.int .i64 0]) strb49 rfl rfl) rfl ?_; clear hF; intro a hF
                  refine s_store (i := 1) (new := tokC t0 ++ [Value.int .i64 0]) hF hS rfl rfl rfl rfl sz49 rfl (by simp [tokC]) ?_; clear hS hF; intro w a hS hF
                  rw [spl_all (by simp [tokC])] at hS
                  refine s_pu hF (pu_assign rfl) rfl ?_; clear hF; intro a hF
                  refine c_nil ?_
                  refine n_then ?_
                  refine c_ret (r_block (r_then (r_block (r_then (r_then (r_block (r_then ?_)))))))
                  exact f_ret hF rfl (.cell rfl (o_lvA (i := 1) hS rfl agg49) (.tmp rfl (.nil))) (hS.retv (by rw [← htx, tx_bad (by omega) hc25 hc34 (by first | (left; omega) | (right; exact ⟨hg12_9p, hc54⟩))]; rfl))
                · try simp only [decide_eq_true_eq, decide_eq_false_iff_not, Bool.not_eq_true', Bool.not_eq_false', Bool.not_eq_eq_eq_not, Bool.not_true, Bool.not_false] at hc54
                  refine c_skip ?_
                  refine n_block ?_
                  refine n_then ?_
                  refine c_reg ?_
                  refine s_pu hF (pu_move rfl) rfl ?_; clear hF; intro a hF
                  refine s_pu hF (pu_move rfl) rfl ?_; clear hF; intro a hF
                  refine s_pu hF (pu_move rfl) rfl ?_; clear hF; intro a hF
                  refine s_pu hF (pu_idxn tyS9 rfl rfl rfl (by omega)) rfl ?_; clear hF; intro a hF
                  refine s_build (xs := [.tmp 67]) hF hS slt_b54 rfl rfl (by simp [Value.cells]) (by decide) rfl ?_; clear hS hF; intro b2 w a hS hF
                  refine s_append (i := 1) hF hS rfl slt_a54_54 rfl rfl (Src.own (hS.at (i := 0) rfl) rfl rfl) (by simp [cellsL, Value.cells]; omega) rfl ?_; clear hS hF; intro a0 nn c0 w a hnn hS hF
                  refine s_pu hF (pu_assign rfl) rfl ?_; clear hF; intro a hF
                  refine c_nil ?_
                  refine n_block ?_
                  refine n_then ?_
                  refine c_reg ?_
                  refine s_pu hF (pu_move rfl) rfl ?_; clear hF; intro a hF
                  refine s_pu hF (pu_add rfl rfl (by first | exact wrap_i64 (by omega) (by omega) | rfl)) rfl ?_; clear hF; intro a hF
                  refine s_pu hF (pu_assign rfl) rfl ?_; clear hF; intro a hF
                  first | rw [show ((i : Int) + 1) = ((i + 1 : Nat) : Int) by omega] at hF | rw [show (((i + 1 : Nat) : Int) + 1) = ((i + 2 : Nat) : Int) by omega] at hF
                  refine c_nil ?_
                  replace hS := hS.forget 0
                  first | ((have hnn2 : nn = (b ++ [s.getD (i + 1) 0]).length := by (simp [cellsL, Value.cells] at hnn ⊢; omega)); subst hnn2; refine ⟨(i + 2, b ++ [s.getD (i + 1) 0]), ⟨a0, c0, (tx_esc (by omega) hc25 hc34 (by rintro (h | ⟨h1, h2⟩) <;> first | omega | exact h1 hg12_9p | exact h2 hc54)).symm.trans htx, by dsimp only; omega, by dsimp only; omega, by simp; omega, hF.pick (.cons (k := 4) rfl <| .cons (k := 5) rfl <| .cons (k := 0) rfl <| .cons (k := 2) rfl <| .nil), ?_⟩, by dsimp only; omega⟩; rw [List.map_append]; exact hS) | ((have hnn2 : nn = (b ++ [s.getD i 0]).length := by (simp [cellsL, Value.cells] at hnn ⊢; omega)); subst hnn2; refine ⟨(i + 1, b ++ [s.getD i 0]), ⟨a0, c0, (tx_ch (by omega) hc25 hc34 (by unfold bt; rintro (h | h) <;> omega)).symm.trans htx, by dsimp only; omega, by dsimp only; omega, by simp; omega, hF.pick (.cons (k := 4) rfl <| .cons (k := 5) rfl <| .cons (k := 0) rfl <| .cons (k := 2) rfl <| .nil), ?_⟩, by dsimp only; omega⟩; rw [List.map_append]; exact hS)
              · have hg12_9p := hg12_9
                try simp only [decide_eq_true_eq, decide_eq_false_iff_not, Bool.not_eq_true', Bool.not_eq_false', Bool.not_eq_eq_eq_not, Bool.not_true, Bool.not_false] at hg12_9p
                refine g_no hF ⟨_, _, (rfl : _[9]? = some _), rfl, rfl⟩ hg12_9 rfl ?_; clear hF; intro a hF
                refine g_no hF ⟨_, _, (rfl : _[9]? = some _), rfl, rfl⟩ hg12_9 rfl ?_; clear hF; intro a hF
                refine g_no hF ⟨_, _, (rfl : _[9]? = some _), rfl, rfl⟩ hg12_9 rfl ?_; clear hF; intro a hF
                refine g_no hF ⟨_, _, (rfl : _[9]? = some _), rfl, rfl⟩ hg12_9 rfl ?_; clear hF; intro a hF
                refine g_pu hF ⟨_, _, (rfl : _[4]? = some _), rfl, rfl⟩ hg12_4 (pu_pick_f rfl hg12_9 rfl) rfl ?_; clear hF; intro a hF
                refine s_pu hF (pu_pick_f rfl hg12_4 rfl) rfl ?_; clear hF; intro a hF
                refine c_nil ?_
                refine n_then ?_
                refine c_iff hF rfl rfl ?_
                refine c_skip ?_
                refine n_block ?_
                refine n_then ?_
                refine c_reg ?_
                refine s_pu hF (pu_move rfl) rfl ?_; clear hF; intro a hF
                refine s_pu hF (pu_move rfl) rfl ?_; clear hF; intro a hF
                refine s_pu hF (pu_move rfl) rfl ?_; clear hF; intro a hF
                refine s_pu hF (pu_idxn tyS9 rfl rfl rfl (by omega)) rfl ?_; clear hF; intro a hF
                refine s_build (xs := [.tmp 67]) hF hS slt_b54 rfl rfl (by simp [Value.cells]) (by decide) rfl ?_; clear hS hF; intro b2 w a hS hF
                refine s_append (i := 1) hF hS rfl slt_a54_54 rfl rfl (Src.own (hS.at (i := 0) rfl) rfl rfl) (by simp [cellsL, Value.cells]; omega) rfl ?_; clear hS hF; intro a0 nn c0 w a hnn hS hF
                refine s_pu hF (pu_assign rfl) rfl ?_; clear hF; intro a hF
                refine c_nil ?_
                refine n_block ?_
                refine n_then ?_
                refine c_reg ?_
                refine s_pu hF (pu_move rfl) rfl ?_; clear hF; intro a hF
                refine s_pu hF (pu_add rfl rfl (by first | exact wrap_i64 (by omega) (by omega) | rfl)) rfl ?_; clear hF; intro a hF
                refine s_pu hF (pu_assign rfl) rfl ?_; clear hF; intro a hF
                first | rw [show ((i : Int) + 1) = ((i + 1 : Nat) : Int) by omega] at hF | rw [show (((i + 1 : Nat) : Int) + 1) = ((i + 2 : Nat) : Int) by omega] at hF
                refine c_nil ?_
                replace hS := hS.forget 0
                first | ((have hnn2 : nn = (b ++ [s.getD (i + 1) 0]).length := by (simp [cellsL, Value.cells] at hnn ⊢; omega)); subst hnn2; refine ⟨(i + 2, b ++ [s.getD (i + 1) 0]), ⟨a0, c0, (tx_esc (by omega) hc25 hc34 (by rintro (h | ⟨h1, h2⟩) <;> first | omega | exact h1 hg12_9p | exact h2 hc54)).symm.trans htx, by dsimp only; omega, by dsimp only; omega, by simp; omega, hF.pick (.cons (k := 4) rfl <| .cons (k := 5) rfl <| .cons (k := 0) rfl <| .cons (k := 2) rfl <| .nil), ?_⟩, by dsimp only; omega⟩; rw [List.map_append]; exact hS) | ((have hnn2 : nn = (b ++ [s.getD i 0]).length := by (simp [cellsL, Value.cells] at hnn ⊢; omega)); subst hnn2; refine ⟨(i + 1, b ++ [s.getD i 0]), ⟨a0, c0, (tx_ch (by omega) hc25 hc34 (by unfold bt; rintro (h | h) <;> omega)).symm.trans htx, by dsimp only; omega, by dsimp only; omega, by simp; omega, hF.pick (.cons (k := 4) rfl <| .cons (k := 5) rfl <| .cons (k := 0) rfl <| .cons (k := 2) rfl <| .nil), ?_⟩, by dsimp only; omega⟩; rw [List.map_append]; exact hS)
          · try simp only [decide_eq_true_eq, decide_eq_false_iff_not, Bool.not_eq_true', Bool.not_eq_false', Bool.not_eq_eq_eq_not, Bool.not_true, Bool.not_false] at hc34
            refine c_seq ?_
            refine c_reg ?_
            refine s_pu hF (pu_move rfl) rfl ?_; clear hF; intro a hF
            refine s_pu hF (pu_ilt rfl rfl) rfl ?_; clear hF; intro a hF
            refine s_pu hF (pu_move rfl) rfl ?_; clear hF; intro a hF
            refine w_split hF ⟨_, _, (rfl : _[2]? = some _), rfl, rfl⟩ (fun hg14_2 => ?_) (fun hg14_2 => ?_)
            · have hg14_2p := hg14_2
              try simp only [decide_eq_true_eq, decide_eq_false_iff_not, Bool.not_eq_true', Bool.not_eq_false', Bool.not_eq_eq_eq_not, Bool.not_true, Bool.not_false] at hg14_2p
              refine g_no hF ⟨_, _, (rfl : _[2]? = some _), rfl, rfl⟩ hg14_2 rfl ?_; clear hF; intro a hF
              refine g_no hF ⟨_, _, (rfl : _[2]? = some _), rfl, rfl⟩ hg14_2 rfl ?_; clear hF; intro a hF
              refine s_pu hF (pu_pick_t rfl hg14_2 rfl) rfl ?_; clear hF; intro a hF
              refine s_pu hF (pu_assign rfl) rfl ?_; clear hF; intro a hF
              refine c_nil ?_
              refine n_then ?_
              refine c_ift hF rfl rfl ?_
              refine c_seq ?_
              refine c_reg ?_
              refine s_pu hF (pu_build_st (cs := tokC t0 ++ [Value.int .i64 0]) strb49 rfl rfl) rfl ?_; clear hF; intro a hF
              refine s_store (i := 1) (new := tokC t0 ++ [Value.int .i64 0]) hF hS rfl rfl rfl rfl sz49 rfl (by simp [tokC]) ?_; clear hS hF; intro w a hS hF
              rw [spl_all (by simp [tokC])] at hS
              refine s_pu hF (pu_assign rfl) rfl ?_; clear hF; intro a hF
              refine c_nil ?_
              refine n_then ?_
              refine c_ret (r_block (r_then (r_block (r_then (r_then (r_block (r_then ?_)))))))
              exact f_ret hF rfl (.cell rfl (o_lvA (i := 1) hS rfl agg49) (.tmp rfl (.nil))) (hS.retv (by rw [← htx, tx_ctl (by omega) hc25 hc34 (by first | (left; exact hg14_2p) | (right; exact hc56))]; rfl))
            · have hg14_2p := hg14_2
              try simp only [decide_eq_true_eq, decide_eq_false_iff_not, Bool.not_eq_true', Bool.not_eq_false', Bool.not_eq_eq_eq_not, Bool.not_true, Bool.not_false] at hg14_2p
              refine g_pu hF ⟨_, _, (rfl : _[2]? = some _), rfl, rfl⟩ hg14_2 (pu_move rfl) rfl ?_; clear hF; intro a hF
              refine g_pu hF ⟨_, _, (rfl : _[2]? = some _), rfl, rfl⟩ hg14_2 (pu_igt rfl rfl) rfl ?_; clear hF; intro a hF
              refine s_pu hF (pu_pick_f rfl hg14_2 rfl) rfl ?_; clear hF; intro a hF
              refine s_pu hF (pu_assign rfl) rfl ?_; clear hF; intro a hF
              refine c_nil ?_
              refine n_then ?_
              refine c_if hF rfl (fun hc56 => ?_) (fun hc56 => ?_)
              · try simp only [decide_eq_true_eq, decide_eq_false_iff_not, Bool.not_eq_true', Bool.not_eq_false', Bool.not_eq_eq_eq_not, Bool.not_true, Bool.not_false] at hc56
                refine c_seq ?_
                refine c_reg ?_
                refine s_pu hF (pu_build_st (cs := tokC t0 ++ [Value.int .i64 0]) strb49 rfl rfl) rfl ?_; clear hF; intro a hF
                refine s_store (i := 1) (new := tokC t0 ++ [Value.int .i64 0]) hF hS rfl rfl rfl rfl sz49 rfl (by simp [tokC]) ?_; clear hS hF; intro w a hS hF
                rw [spl_all (by simp [tokC])] at hS
                refine s_pu hF (pu_assign rfl) rfl ?_; clear hF; intro a hF
                refine c_nil ?_
                refine n_then ?_
                refine c_ret (r_block (r_then (r_block (r_then (r_then (r_block (r_then ?_)))))))
                exact f_ret hF rfl (.cell rfl (o_lvA (i := 1) hS rfl agg49) (.tmp rfl (.nil))) (hS.retv (by rw [← htx, tx_ctl (by omega) hc25 hc34 (by first | (left; exact hg14_2p) | (right; exact hc56))]; rfl))
              · try simp only [decide_eq_true_eq, decide_eq_false_iff_not, Bool.not_eq_true', Bool.not_eq_false', Bool.not_eq_eq_eq_not, Bool.not_true, Bool.not_false] at hc56
                refine c_skip ?_
                refine n_block ?_
                refine n_then ?_
                refine c_reg ?_
                refine s_pu hF (pu_move rfl) rfl ?_; clear hF; intro a hF
                refine s_pu hF (pu_move rfl) rfl ?_; clear hF; intro a hF
                refine s_pu hF (pu_move rfl) rfl ?_; clear hF; intro a hF
                refine s_pu hF (pu_idxn tyS9 rfl rfl rfl (by omega)) rfl ?_; clear hF; intro a hF
                refine s_build (xs := [.tmp 67]) hF hS slt_b54 rfl rfl (by simp [Value.cells]) (by decide) rfl ?_; clear hS hF; intro b2 w a hS hF
                refine s_append (i := 1) hF hS rfl slt_a54_54 rfl rfl (Src.own (hS.at (i := 0) rfl) rfl rfl) (by simp [cellsL, Value.cells]; omega) rfl ?_; clear hS hF; intro a0 nn c0 w a hnn hS hF
                refine s_pu hF (pu_assign rfl) rfl ?_; clear hF; intro a hF
                refine c_nil ?_
                refine n_block ?_
                refine n_then ?_
                refine c_reg ?_
                refine s_pu hF (pu_move rfl) rfl ?_; clear hF; intro a hF
                refine s_pu hF (pu_add rfl rfl (by first | exact wrap_i64 (by omega) (by omega) | rfl)) rfl ?_; clear hF; intro a hF
                refine s_pu hF (pu_assign rfl) rfl ?_; clear hF; intro a hF
                first | rw [show ((i : Int) + 1) = ((i + 1 : Nat) : Int) by omega] at hF | rw [show (((i + 1 : Nat) : Int) + 1) = ((i + 2 : Nat) : Int) by omega] at hF
                refine c_nil ?_
                replace hS := hS.forget 0
                first | ((have hnn2 : nn = (b ++ [s.getD (i + 1) 0]).length := by (simp [cellsL, Value.cells] at hnn ⊢; omega)); subst hnn2; refine ⟨(i + 2, b ++ [s.getD (i + 1) 0]), ⟨a0, c0, (tx_esc (by omega) hc25 hc34 (by rintro (h | ⟨h1, h2⟩) <;> first | omega | exact h1 hg12_9p | exact h2 hc54)).symm.trans htx, by dsimp only; omega, by dsimp only; omega, by simp; omega, hF.pick (.cons (k := 4) rfl <| .cons (k := 5) rfl <| .cons (k := 0) rfl <| .cons (k := 2) rfl <| .nil), ?_⟩, by dsimp only; omega⟩; rw [List.map_append]; exact hS) | ((have hnn2 : nn = (b ++ [s.getD i 0]).length := by (simp [cellsL, Value.cells] at hnn ⊢; omega)); subst hnn2; refine ⟨(i + 1, b ++ [s.getD i 0]), ⟨a0, c0, (tx_ch (by omega) hc25 hc34 (by unfold bt; rintro (h | h) <;> omega)).symm.trans htx, by dsimp only; omega, by dsimp only; omega, by simp; omega, hF.pick (.cons (k := 4) rfl <| .cons (k := 5) rfl <| .cons (k := 0) rfl <| .cons (k := 2) rfl <| .nil), ?_⟩, by dsimp only; omega⟩; rw [List.map_append]; exact hS)
    · have hg6_2p := hg6_2
      try simp only [decide_eq_true_eq, decide_eq_false_iff_not, Bool.not_eq_true', Bool.not_eq_false', Bool.not_eq_eq_eq_not, Bool.not_true, Bool.not_false] at hg6_2p
      refine g_no hF ⟨_, _, (rfl : _[2]? = some _), rfl, rfl⟩ hg6_2 rfl ?_; clear hF; intro a hF
      refine g_no hF ⟨_, _, (rfl : _[2]? = some _), rfl, rfl⟩ hg6_2 rfl ?_; clear hF; intro a hF
      refine g_no hF ⟨_, _, (rfl : _[2]? = some _), rfl, rfl⟩ hg6_2 rfl ?_; clear hF; intro a hF
      refine s_pu hF (pu_pick_f rfl hg6_2 rfl) rfl ?_; clear hF; intro a hF
      refine s_pu hF (pu_assign rfl) rfl ?_; clear hF; intro a hF
      refine c_nil ?_
      refine n_then ?_
      refine c_iff hF rfl rfl ?_
      refine c_seq ?_
      refine c_reg ?_
      refine s_pu hF (pu_move rfl) rfl ?_; clear hF; intro a hF
      refine s_pu hF (pu_ieq rfl rfl) rfl ?_; clear hF; intro a hF
      refine s_pu hF (pu_assign rfl) rfl ?_; clear hF; intro a hF
      refine c_nil ?_
      refine n_then ?_
      refine c_if hF rfl (fun hc25 => ?_) (fun hc25 => ?_)
      · try simp only [decide_eq_true_eq, decide_eq_false_iff_not, Bool.not_eq_true', Bool.not_eq_false', Bool.not_eq_eq_eq_not, Bool.not_true, Bool.not_false] at hc25
        refine c_seq ?_
        refine c_reg ?_
        refine s_pu hF (pu_move rfl) rfl ?_; clear hF; intro a hF
        refine s_pu hF (pu_tostr tyL54 tyI5 tyS9 rfl rfl (buf_str (i := 0) hS rfl)) rfl ?_; clear hF; intro a hF
        refine s_pu hF (pu_build_st (cs := tokC ⟨3, b, 0, 0⟩) strb26 rfl rfl) rfl ?_; clear hF; intro a hF
        refine s_pu hF (pu_move rfl) rfl ?_; clear hF; intro a hF
        refine s_pu hF (pu_add rfl rfl (by first | exact wrap_i64 (by omega) (by omega) | rfl)) rfl ?_; clear hF; intro a hF
        refine s_pu hF (pu_build_st (cs := tokC ⟨3, b, 0, 0⟩ ++ [Value.int .i64 ((i : Int) + 1)]) strb49 rfl rfl) rfl ?_; clear hF; intro a hF
        refine s_store (i := 1) (new := tokC ⟨3, b, 0, 0⟩ ++ [Value.int .i64 ((i : Int) + 1)]) hF hS rfl rfl rfl rfl sz49 rfl (by simp [tokC]) ?_; clear hS hF; intro w a hS hF
        rw [spl_all (by simp [tokC])] at hS
        refine s_pu hF (pu_assign rfl) rfl ?_; clear hF; intro a hF
        refine c_nil ?_
        refine n_then ?_
        refine c_ret (r_block (r_then (r_block (r_then (r_then (r_block (r_then ?_)))))))
        exact f_ret hF rfl (.cell rfl (o_lvA (i := 1) hS rfl agg49) (.tmp rfl (.nil))) (hS.retv (by rw [← htx, tx_end (by omega) hc25 (by omega)]; rfl))
      · try simp only [decide_eq_true_eq, decide_eq_false_iff_not, Bool.not_eq_true', Bool.not_eq_false', Bool.not_eq_eq_eq_not, Bool.not_true, Bool.not_false] at hc25
        refine c_seq ?_
        refine c_reg ?_
        refine s_pu hF (pu_move rfl) rfl ?_; clear hF; intro a hF
        refine s_pu hF (pu_ieq rfl rfl) rfl ?_; clear hF; intro a hF
        refine s_pu hF (pu_assign rfl) rfl ?_; clear hF; intro a hF
        refine c_nil ?_
        refine n_then ?_
        refine c_if hF rfl (fun hc34 => ?_) (fun hc34 => ?_)
        · try simp only [decide_eq_true_eq, decide_eq_false_iff_not, Bool.not_eq_true', Bool.not_eq_false', Bool.not_eq_eq_eq_not, Bool.not_true, Bool.not_false] at hc34
          refine c_seq ?_
          refine c_reg ?_
          refine s_pu hF (pu_move rfl) rfl ?_; clear hF; intro a hF
          refine s_pu hF (pu_add rfl rfl (by first | exact wrap_i64 (by omega) (by omega) | rfl)) rfl ?_; clear hF; intro a hF
          refine s_pu hF (pu_assign rfl) rfl ?_; clear hF; intro a hF
          rw [show ((i : Int) + 1) = ((i + 1 : Nat) : Int) by omega] at hF
          refine c_nil ?_
          refine n_then ?_
          refine c_seq ?_
          refine c_reg ?_
          refine s_pu hF (pu_move rfl) rfl ?_; clear hF; intro a hF
          refine s_pu hF (pu_move rfl) rfl ?_; clear hF; intro a hF
          refine s_pu hF (pu_len_s tyS9 rfl rfl) rfl ?_; clear hF; intro a hF
          refine s_pu hF (pu_ieq rfl rfl) rfl ?_; clear hF; intro a hF
          refine s_pu hF (pu_move rfl) rfl ?_; clear hF; intro a hF
          refine w_split hF ⟨_, _, (rfl : _[4]? = some _), rfl, rfl⟩ (fun hg12_4 => ?_) (fun hg12_4 => ?_)
          · have hg12_4p := hg12_4
            try simp only [decide_eq_true_eq, decide_eq_false_iff_not, Bool.not_eq_true', Bool.not_eq_false', Bool.not_eq_eq_eq_not, Bool.not_true, Bool.not_false] at hg12_4p
            refine g_no hF ⟨_, _, (rfl : _[4]? = some _), rfl, rfl⟩ hg12_4 rfl ?_; clear hF; intro a hF
            refine g_no hF ⟨_, _, (rfl : _[4]? = some _), rfl, rfl⟩ hg12_4 rfl ?_; clear hF; intro a hF
            refine g_no hF ⟨_, _, (rfl : _[4]? = some _), rfl, rfl⟩ hg12_4 rfl ?_; clear hF; intro a hF
            refine g_no hF ⟨_, _, (rfl : _[4]? = some _), rfl, rfl⟩ hg12_4 rfl ?_; clear hF; intro a hF
            refine g_no hF ⟨_, _, (rfl : _[4]? = some _), rfl, rfl⟩ hg12_4 rfl ?_; clear hF; intro a hF
            refine g_noU hF ⟨_, _, (rfl : _[9]? = some _), rfl, rfl⟩ rfl ?_; clear hF; intro a hF
            refine g_noU hF ⟨_, _, (rfl : _[9]? = some _), rfl, rfl⟩ rfl ?_; clear hF; intro a hF
            refine g_noU hF ⟨_, _, (rfl : _[9]? = some _), rfl, rfl⟩ rfl ?_; clear hF; intro a hF
            refine g_noU hF ⟨_, _, (rfl : _[9]? = some _), rfl, rfl⟩ rfl ?_; clear hF; intro a hF
            refine g_no hF ⟨_, _, (rfl : _[4]? = some _), rfl, rfl⟩ hg12_4 rfl ?_; clear hF; intro a hF
            refine s_pu hF (pu_pick_t rfl hg12_4 rfl) rfl ?_; clear hF; intro a hF
            refine c_nil ?_
            refine n_then ?_
            refine c_ift hF rfl rfl ?_
            refine c_seq ?_
            refine c_reg ?_
            refine s_pu hF (pu_build_st (cs := tokC t0 ++ [Value.int .i64 0]) strb49 rfl rfl) rfl ?_; clear hF; intro a hF
            refine s_store (i := 1) (new := tokC t0 ++ [Value.int .i64 0]) hF hS rfl rfl rfl rfl sz49 rfl (by simp [tokC]) ?_; clear hS hF; intro w a hS hF
            rw [spl_all (by simp [tokC])] at hS
            refine s_pu hF (pu_assign rfl) rfl ?_; clear hF; intro a hF
            refine c_nil ?_
            refine n_then ?_
            refine c_ret (r_block (r_then (r_block (r_then (r_then (r_block (r_then ?_)))))))
            exact f_ret hF rfl (.cell rfl (o_lvA (i := 1) hS rfl agg49) (.tmp rfl (.nil))) (hS.retv (by rw [← htx, tx_bad (by omega) hc25 hc34 (by first | (left; omega) | (right; exact ⟨hg12_9p, hc54⟩))]; rfl))
          · have hg12_4p := hg12_4
            try simp only [decide_eq_true_eq, decide_eq_false_iff_not, Bool.not_eq_true', Bool.not_eq_false', Bool.not_eq_eq_eq_not, Bool.not_true, Bool.not_false] at hg12_4p
            refine g_pu hF ⟨_, _, (rfl : _[4]? = some _), rfl, rfl⟩ hg12_4 (pu_move rfl) rfl ?_; clear hF; intro a hF
            refine g_pu hF ⟨_, _, (rfl : _[4]? = some _), rfl, rfl⟩ hg12_4 (pu_move rfl) rfl ?_; clear hF; intro a hF
            refine g_pu hF ⟨_, _, (rfl : _[4]? = some _), rfl, rfl⟩ hg12_4 (pu_idxn tyS9 rfl rfl rfl (by omega)) rfl ?_; clear hF; intro a hF
            refine g_pu hF ⟨_, _, (rfl : _[4]? = some _), rfl, rfl⟩ hg12_4 (pu_ine rfl rfl) rfl ?_; clear hF; intro a hF
            refine g_pu hF ⟨_, _, (rfl : _[4]? = some _), rfl, rfl⟩ hg12_4 (pu_move rfl) rfl ?_; clear hF; intro a hF
            refine w_split hF ⟨_, _, (rfl : _[9]? = some _), rfl, rfl⟩ (fun hg12_9 => ?_) (fun hg12_9 => ?_)
            · have hg12_9p := hg12_9
              try simp only [decide_eq_true_eq, decide_eq_false_iff_not, Bool.not_eq_true', Bool.not_eq_false', Bool.not_eq_eq_eq_not, Bool.not_true, Bool.not_false] at hg12_9p
              refine g_pu hF ⟨_, _, (rfl : _[9]? = some _), rfl, rfl⟩ hg12_9 (pu_move rfl) rfl ?_; clear hF; intro a hF
              refine g_pu hF ⟨_, _, (rfl : _[9]? = some _), rfl, rfl⟩ hg12_9 (pu_move rfl) rfl ?_; clear hF; intro a hF
              refine g_pu hF ⟨_, _, (rfl : _[9]? = some _), rfl, rfl⟩ hg12_9 (pu_idxn tyS9 rfl rfl rfl (by omega)) rfl ?_; clear hF; intro a hF
              refine g_pu hF ⟨_, _, (rfl : _[9]? = some _), rfl, rfl⟩ hg12_9 (pu_ine rfl rfl) rfl ?_; clear hF; intro a hF
              refine g_pu hF ⟨_, _, (rfl : _[4]? = some _), rfl, rfl⟩ hg12_4 (pu_pick_t rfl hg12_9 rfl) rfl ?_; clear hF; intro a hF
              refine s_pu hF (pu_pick_f rfl hg12_4 rfl) rfl ?_; clear hF; intro a hF
              refine c_nil ?_
              refine n_then ?_
              refine c_if hF rfl (fun hc54 => ?_) (fun hc54 => ?_)
              · try simp only [decide_eq_true_eq, decide_eq_false_iff_not, Bool.not_eq_true', Bool.not_eq_false', Bool.not_eq_eq_eq_not, Bool.not_true, Bool.not_false] at hc54
                refine c_seq ?_
                refine c_reg ?_
                refine s_pu hF (pu_build_st (cs := tokC t0 ++ [Value.int .i64 0]) strb49 rfl rfl) rfl ?_; clear hF; intro a hF
                refine s_store (i := 1) (new := tokC t0 ++ [Value.int .i64 0]) hF hS rfl rfl rfl rfl sz49 rfl (by simp [tokC]) ?_; clear hS hF; intro w a hS hF
                rw [spl_all (by simp [tokC])] at hS
                refine s_pu hF (pu_assign rfl) rfl ?_; clear hF; intro a hF
                refine c_nil ?_
                refine n_then ?_
                refine c_ret (r_block (r_then (r_block (r_then (r_then (r_block (r_then ?_)))))))
                exact f_ret hF rfl (.cell rfl (o_lvA (i := 1) hS rfl agg49) (.tmp rfl (.nil))) (hS.retv (by rw [← htx, tx_bad (by omega) hc25 hc34 (by first | (left; omega) | (right; exact ⟨hg12_9p, hc54⟩))]; rfl))
              · try simp only [decide_eq_true_eq, decide_eq_false_iff_not, Bool.not_eq_true', Bool.not_eq_false', Bool.not_eq_eq_eq_not, Bool.not_true, Bool.not_false] at hc54
                refine c_skip ?_
                refine n_block ?_
                refine n_then ?_
                refine c_reg ?_
                refine s_pu hF (pu_move rfl) rfl ?_; clear hF; intro a hF
                refine s_pu hF (pu_move rfl) rfl ?_; clear hF; intro a hF
                refine s_pu hF (pu_move rfl) rfl ?_; clear hF; intro a hF
                refine s_pu hF (pu_idxn tyS9 rfl rfl rfl (by omega)) rfl ?_; clear hF; intro a hF
                refine s_build (xs := [.tmp 67]) hF hS slt_b54 rfl rfl (by simp [Value.cells]) (by decide) rfl ?_; clear hS hF; intro b2 w a hS hF
                refine s_append (i := 1) hF hS rfl slt_a54_54 rfl rfl (Src.own (hS.at (i := 0) rfl) rfl rfl) (by simp [cellsL, Value.cells]; omega) rfl ?_; clear hS hF; intro a0 nn c0 w a hnn hS hF
                refine s_pu hF (pu_assign rfl) rfl ?_; clear hF; intro a hF
                refine c_nil ?_
                refine n_block ?_
                refine n_then ?_
                refine c_reg ?_
                refine s_pu hF (pu_move rfl) rfl ?_; clear hF; intro a hF
                refine s_pu hF (pu_add rfl rfl (by first | exact wrap_i64 (by omega) (by omega) | rfl)) rfl ?_; clear hF; intro a hF
                refine s_pu hF (pu_assign rfl) rfl ?_; clear hF; intro a hF
                first | rw [show ((i : Int) + 1) = ((i + 1 : Nat) : Int) by omega] at hF | rw [show (((i + 1 : Nat) : Int) + 1) = ((i + 2 : Nat) : Int) by omega] at hF
                refine c_nil ?_
                replace hS := hS.forget 0
                first | ((have hnn2 : nn = (b ++ [s.getD (i + 1) 0]).length := by (simp [cellsL, Value.cells] at hnn ⊢; omega)); subst hnn2; refine ⟨(i + 2, b ++ [s.getD (i + 1) 0]), ⟨a0, c0, (tx_esc (by omega) hc25 hc34 (by rintro (h | ⟨h1, h2⟩) <;> first | omega | exact h1 hg12_9p | exact h2 hc54)).symm.trans htx, by dsimp only; omega, by dsimp only; omega, by simp; omega, hF.pick (.cons (k := 4) rfl <| .cons (k := 5) rfl <| .cons (k := 0) rfl <| .cons (k := 2) rfl <| .nil), ?_⟩, by dsimp only; omega⟩; rw [List.map_append]; exact hS) | ((have hnn2 : nn = (b ++ [s.getD i 0]).length := by (simp [cellsL, Value.cells] at hnn ⊢; omega)); subst hnn2; refine ⟨(i + 1, b ++ [s.getD i 0]), ⟨a0, c0, (tx_ch (by omega) hc25 hc34 (by unfold bt; rintro (h | h) <;> omega)).symm.trans htx, by dsimp only; omega, by dsimp only; omega, by simp; omega, hF.pick (.cons (k := 4) rfl <| .cons (k := 5) rfl <| .cons (k := 0) rfl <| .cons (k := 2) rfl <| .nil), ?_⟩, by dsimp only; omega⟩; rw [List.map_append]; exact hS)
            · have hg12_9p := hg12_9
              try simp only [decide_eq_true_eq, decide_eq_false_iff_not, Bool.not_eq_true', Bool.not_eq_false', Bool.not_eq_eq_eq_not, Bool.not_true, Bool.not_false] at hg12_9p
              refine g_no hF ⟨_, _, (rfl : _[9]? = some _), rfl, rfl⟩ hg12_9 rfl ?_; clear hF; intro a hF
              refine g_no hF ⟨_, _, (rfl : _[9]? = some _), rfl, rfl⟩ hg12_9 rfl ?_; clear hF; intro a hF
              refine g_no hF ⟨_, _, (rfl : _[9]? = some _), rfl, rfl⟩ hg12_9 rfl ?_; clear hF; intro a hF
              refine g_no hF ⟨_, _, (rfl : _[9]? = some _), rfl, rfl⟩ hg12_9 rfl ?_; clear hF; intro a hF
              refine g_pu hF ⟨_, _, (rfl : _[4]? = some _), rfl, rfl⟩ hg12_4 (pu_pick_f rfl hg12_9 rfl) rfl ?_; clear hF; intro a hF
              refine s_pu hF (pu_pick_f rfl hg12_4 rfl) rfl ?_; clear hF; intro a hF
              refine c_nil ?_
              refine n_then ?_
              refine c_iff hF rfl rfl ?_
              refine c_skip ?_
              refine n_block ?_
              refine n_then ?_
              refine c_reg ?_
              refine s_pu hF (pu_move rfl) rfl ?_; clear hF; intro a hF
              refine s_pu hF (pu_move rfl) rfl ?_; clear hF; intro a hF
              refine s_pu hF (pu_move rfl) rfl ?_; clear hF; intro a hF
              refine s_pu hF (pu_idxn tyS9 rfl rfl rfl (by omega)) rfl ?_; clear hF; intro a hF
              refine s_build (xs := [.tmp 67]) hF hS slt_b54 rfl rfl (by simp [Value.cells]) (by decide) rfl ?_; clear hS hF; intro b2 w a hS hF
              refine s_append (i := 1) hF hS rfl slt_a54_54 rfl rfl (Src.own (hS.at (i := 0) rfl) rfl rfl) (by simp [cellsL, Value.cells]; omega) rfl ?_; clear hS hF; intro a0 nn c0 w a hnn hS hF
              refine s_pu hF (pu_assign rfl) rfl ?_; clear hF; intro a hF
              refine c_nil ?_
              refine n_block ?_
              refine n_then ?_
              refine c_reg ?_
              refine s_pu hF (pu_move rfl) rfl ?_; clear hF; intro a hF
              refine s_pu hF (pu_add rfl rfl (by first | exact wrap_i64 (by omega) (by omega) | rfl)) rfl ?_; clear hF; intro a hF
              refine s_pu hF (pu_assign rfl) rfl ?_; clear hF; intro a hF
              first | rw [show ((i : Int) + 1) = ((i + 1 : Nat) : Int) by omega] at hF | rw [show (((i + 1 : Nat) : Int) + 1) = ((i + 2 : Nat) : Int) by omega] at hF
              refine c_nil ?_
              replace hS := hS.forget 0
              first | ((have hnn2 : nn = (b ++ [s.getD (i + 1) 0]).length := by (simp [cellsL, Value.cells] at hnn ⊢; omega)); subst hnn2; refine ⟨(i + 2, b ++ [s.getD (i + 1) 0]), ⟨a0, c0, (tx_esc (by omega) hc25 hc34 (by rintro (h | ⟨h1, h2⟩) <;> first | omega | exact h1 hg12_9p | exact h2 hc54)).symm.trans htx, by dsimp only; omega, by dsimp only; omega, by simp; omega, hF.pick (.cons (k := 4) rfl <| .cons (k := 5) rfl <| .cons (k := 0) rfl <| .cons (k := 2) rfl <| .nil), ?_⟩, by dsimp only; omega⟩; rw [List.map_append]; exact hS) | ((have hnn2 : nn = (b ++ [s.getD i 0]).length := by (simp [cellsL, Value.cells] at hnn ⊢; omega)); subst hnn2; refine ⟨(i + 1, b ++ [s.getD i 0]), ⟨a0, c0, (tx_ch (by omega) hc25 hc34 (by unfold bt; rintro (h | h) <;> omega)).symm.trans htx, by dsimp only; omega, by dsimp only; omega, by simp; omega, hF.pick (.cons (k := 4) rfl <| .cons (k := 5) rfl <| .cons (k := 0) rfl <| .cons (k := 2) rfl <| .nil), ?_⟩, by dsimp only; omega⟩; rw [List.map_append]; exact hS)
        · try simp only [decide_eq_true_eq, decide_eq_false_iff_not, Bool.not_eq_true', Bool.not_eq_false', Bool.not_eq_eq_eq_not, Bool.not_true, Bool.not_false] at hc34
          refine c_seq ?_
          refine c_reg ?_
          refine s_pu hF (pu_move rfl) rfl ?_; clear hF; intro a hF
          refine s_pu hF (pu_ilt rfl rfl) rfl ?_; clear hF; intro a hF
          refine s_pu hF (pu_move rfl) rfl ?_; clear hF; intro a hF
          refine w_split hF ⟨_, _, (rfl : _[2]? = some _), rfl, rfl⟩ (fun hg14_2 => ?_) (fun hg14_2 => ?_)
          · have hg14_2p := hg14_2
            try simp only [decide_eq_true_eq, decide_eq_false_iff_not, Bool.not_eq_true', Bool.not_eq_false', Bool.not_eq_eq_eq_not, Bool.not_true, Bool.not_false] at hg14_2p
            refine g_no hF ⟨_, _, (rfl : _[2]? = some _), rfl, rfl⟩ hg14_2 rfl ?_; clear hF; intro a hF
            refine g_no hF ⟨_, _, (rfl : _[2]? = some _), rfl, rfl⟩ hg14_2 rfl ?_; clear hF; intro a hF
            refine s_pu hF (pu_pick_t rfl hg14_2 rfl) rfl ?_; clear hF; intro a hF
            refine s_pu hF (pu_assign rfl) rfl ?_; clear hF; intro a hF
            refine c_nil ?_
            refine n_then ?_
            refine c_ift hF rfl rfl ?_
            refine c_seq ?_
            refine c_reg ?_
            refine s_pu hF (pu_build_st (cs := tokC t0 ++ [Value.int .i64 0]) strb49 rfl rfl) rfl ?_; clear hF; intro a hF
            refine s_store (i := 1) (new := tokC t0 ++ [Value.int .i64 0]) hF hS rfl rfl rfl rfl sz49 rfl (by simp [tokC]) ?_; clear hS hF; intro w a hS hF
            rw [spl_all (by simp [tokC])] at hS
            refine s_pu hF (pu_assign rfl) rfl ?_; clear hF; intro a hF
            refine c_nil ?_
            refine n_then ?_
            refine c_ret (r_block (r_then (r_block (r_then (r_then (r_block (r_then ?_)))))))
            exact f_ret hF rfl (.cell rfl (o_lvA (i := 1) hS rfl agg49) (.tmp rfl (.nil))) (hS.retv (by rw [← htx, tx_ctl (by omega) hc25 hc34 (by first | (left; exact hg14_2p) | (right; exact hc56))]; rfl))
          · have hg14_2p := hg14_2
            try simp only [decide_eq_true_eq, decide_eq_false_iff_not, Bool.not_eq_true', Bool.not_eq_false', Bool.not_eq_eq_eq_not, Bool.not_true, Bool.not_false] at hg14_2p
            refine g_pu hF ⟨_, _, (rfl : _[2]? = some _), rfl, rfl⟩ hg14_2 (pu_move rfl) rfl ?_; clear hF; intro a hF
            refine g_pu hF ⟨_, _, (rfl : _[2]? = some _), rfl, rfl⟩ hg14_2 (pu_igt rfl rfl) rfl ?_; clear hF; intro a hF
            refine s_pu hF (pu_pick_f rfl hg14_2 rfl) rfl ?_; clear hF; intro a hF
            refine s_pu hF (pu_assign rfl) rfl ?_; clear hF; intro a hF
            refine c_nil ?_
            refine n_then ?_
            refine c_if hF rfl (fun hc56 => ?_) (fun hc56 => ?_)
            · try simp only [decide_eq_true_eq, decide_eq_false_iff_not, Bool.not_eq_true', Bool.not_eq_false', Bool.not_eq_eq_eq_not, Bool.not_true, Bool.not_false] at hc56
              refine c_seq ?_
              refine c_reg ?_
              refine s_pu hF (pu_build_st (cs := tokC t0 ++ [Value.int .i64 0]) strb49 rfl rfl) rfl ?_; clear hF; intro a hF
              refine s_store (i := 1) (new := tokC t0 ++ [Value.int .i64 0]) hF hS rfl rfl rfl rfl sz49 rfl (by simp [tokC]) ?_; clear hS hF; intro w a hS hF
              rw [spl_all (by simp [tokC])] at hS
              refine s_pu hF (pu_assign rfl) rfl ?_; clear hF; intro a hF
              refine c_nil ?_
              refine n_then ?_
              refine c_ret (r_block (r_then (r_block (r_then (r_then (r_block (r_then ?_)))))))
              exact f_ret hF rfl (.cell rfl (o_lvA (i := 1) hS rfl agg49) (.tmp rfl (.nil))) (hS.retv (by rw [← htx, tx_ctl (by omega) hc25 hc34 (by first | (left; exact hg14_2p) | (right; exact hc56))]; rfl))
            · try simp only [decide_eq_true_eq, decide_eq_false_iff_not, Bool.not_eq_true', Bool.not_eq_false', Bool.not_eq_eq_eq_not, Bool.not_true, Bool.not_false] at hc56
              refine c_skip ?_
              refine n_block ?_
              refine n_then ?_
              refine c_reg ?_
              refine s_pu hF (pu_move rfl) rfl ?_; clear hF; intro a hF
              refine s_pu hF (pu_move rfl) rfl ?_; clear hF; intro a hF
              refine s_pu hF (pu_move rfl) rfl ?_; clear hF; intro a hF
              refine s_pu hF (pu_idxn tyS9 rfl rfl rfl (by omega)) rfl ?_; clear hF; intro a hF
              refine s_build (xs := [.tmp 67]) hF hS slt_b54 rfl rfl (by simp [Value.cells]) (by decide) rfl ?_; clear hS hF; intro b2 w a hS hF
              refine s_append (i := 1) hF hS rfl slt_a54_54 rfl rfl (Src.own (hS.at (i := 0) rfl) rfl rfl) (by simp [cellsL, Value.cells]; omega) rfl ?_; clear hS hF; intro a0 nn c0 w a hnn hS hF
              refine s_pu hF (pu_assign rfl) rfl ?_; clear hF; intro a hF
              refine c_nil ?_
              refine n_block ?_
              refine n_then ?_
              refine c_reg ?_
              refine s_pu hF (pu_move rfl) rfl ?_; clear hF; intro a hF
              refine s_pu hF (pu_add rfl rfl (by first | exact wrap_i64 (by omega) (by omega) | rfl)) rfl ?_; clear hF; intro a hF
              refine s_pu hF (pu_assign rfl) rfl ?_; clear hF; intro a hF
              first | rw [show ((i : Int) + 1) = ((i + 1 : Nat) : Int) by omega] at hF | rw [show (((i + 1 : Nat) : Int) + 1) = ((i + 2 : Nat) : Int) by omega] at hF
              refine c_nil ?_
              replace hS := hS.forget 0
              first | ((have hnn2 : nn = (b ++ [s.getD (i + 1) 0]).length := by (simp [cellsL, Value.cells] at hnn ⊢; omega)); subst hnn2; refine ⟨(i + 2, b ++ [s.getD (i + 1) 0]), ⟨a0, c0, (tx_esc (by omega) hc25 hc34 (by rintro (h | ⟨h1, h2⟩) <;> first | omega | exact h1 hg12_9p | exact h2 hc54)).symm.trans htx, by dsimp only; omega, by dsimp only; omega, by simp; omega, hF.pick (.cons (k := 4) rfl <| .cons (k := 5) rfl <| .cons (k := 0) rfl <| .cons (k := 2) rfl <| .nil), ?_⟩, by dsimp only; omega⟩; rw [List.map_append]; exact hS) | ((have hnn2 : nn = (b ++ [s.getD i 0]).length := by (simp [cellsL, Value.cells] at hnn ⊢; omega)); subst hnn2; refine ⟨(i + 1, b ++ [s.getD i 0]), ⟨a0, c0, (tx_ch (by omega) hc25 hc34 (by unfold bt; rintro (h | h) <;> omega)).symm.trans htx, by dsimp only; omega, by dsimp only; omega, by simp; omega, hF.pick (.cons (k := 4) rfl <| .cons (k := 5) rfl <| .cons (k := 0) rfl <| .cons (k := 2) rfl <| .nil), ?_⟩, by dsimp only; omega⟩; rw [List.map_append]; exact hS)
  · try simp only [decide_eq_true_eq, decide_eq_false_iff_not, Bool.not_eq_true', Bool.not_eq_false', Bool.not_eq_eq_eq_not, Bool.not_true, Bool.not_false] at hc10
    refine c_exit (x_then (x_then (x_here ?_)))
    refine n_then ?_
    refine c_seq ?_
    refine c_reg ?_
    refine s_pu hF (pu_build_st (cs := tokC t0 ++ [Value.int .i64 0]) strb49 rfl rfl) rfl ?_; clear hF; intro a hF
    refine s_store (i := 1) (new := tokC t0 ++ [Value.int .i64 0]) hF hS rfl rfl rfl rfl sz49 rfl (by simp [tokC]) ?_; clear hS hF; intro w a hS hF
    rw [spl_all (by simp [tokC])] at hS
    refine s_pu hF (pu_assign rfl) rfl ?_; clear hF; intro a hF
    refine c_nil ?_
    refine n_then ?_
    refine c_ret ?_
    exact f_ret hF rfl (.cell rfl (o_lvA (i := 1) hS rfl agg49) (.tmp rfl (.nil))) (hS.retv (by rw [← htx, tx_over (by omega)]; rfl))
theorem c_next (s : List UInt8) (hs0 : 0 < s.length) (hs : s.length ≤ 1000000) (w0 : World) (h0 : View) (hv : VLe h0 (Full w0))  : Calls Tryd.prog 21 #[vs s] w0 (Ret w0 h0 fun u _ => u = resA (oneS s)) := by
  refine f_enter (args := [vs s]) Tryd.func21 rfl Tryd.ntmps21 rfl fun a hF => ?_
  have hS := St.init w0 h0 hv
  refine c_seq ?_
  refine c_reg ?_
  refine s_alloc hF hS zero49 rfl ?_; clear hS hF; intro b0 w a hS hF
  refine s_pu hF (pu_assign rfl) rfl ?_; clear hF; intro a hF
  refine c_nil ?_
  refine n_then ?_
  refine c_seq ?_
  refine c_seq ?_
  refine c_reg ?_
  refine s_pu hF (pu_move rfl) rfl ?_; clear hF; intro a hF
  refine s_pu hF (pu_idxn (j := 0) tyS9 rfl rfl rfl (by omega)) rfl ?_; clear hF; intro a hF
  refine s_pu hF (pu_assign rfl) rfl ?_; clear hF; intro a hF
  refine c_nil ?_
  refine n_then ?_
  refine c_block ?_
  refine c_seq ?_
  refine c_reg ?_
  refine s_pu hF (pu_move rfl) rfl ?_; clear hF; intro a hF
  refine s_callv hF hS ok36 rfl (c_letter _ _ _ hS.view) rfl ?_; clear hS hF; intro w a hS hF
  refine s_pu hF (pu_assign rfl) rfl ?_; clear hF; intro a hF
  refine c_nil ?_
  refine n_then ?_
  refine c_if hF rfl (fun hc7 => ?_) (fun hc7 => ?_)
  · try simp only [decide_eq_true_eq, decide_eq_false_iff_not, Bool.not_eq_true', Bool.not_eq_false', Bool.not_eq_eq_eq_not, Bool.not_true, Bool.not_false] at hc7
    refine c_seq ?_
    refine c_reg ?_
    refine s_pu hF (pu_move rfl) rfl ?_; clear hF; intro a hF
    refine s_callv hF hS ok37 rfl (c_name s hs _ _ hS.view) rfl ?_; clear hS hF; intro w a hS hF
    refine s_pu hF (pu_extract rfl rfl) rfl ?_; clear hF; intro a hF
    refine s_pu hF (pu_extract rfl rfl) rfl ?_; clear hF; intro a hF
    refine s_store (i := 0) (new := resC (nameS s)) hF hS rfl rfl rfl rfl (by exact sz49) rfl (by simp [resC, tokC]) ?_; clear hS hF; intro w a hS hF
    rw [spl_all (by simp [resC, tokC])] at hS
    refine s_pu hF (pu_assign rfl) rfl ?_; clear hF; intro a hF
    refine c_nil ?_
    refine n_then ?_
    refine c_ret (r_block (r_then ?_))
    exact f_ret hF rfl (.cell rfl (o_lvA (i := 0) hS rfl agg49) (.tmp rfl (.nil))) (hS.retv (by rw [one_let hc7]; rfl))
  · try simp only [decide_eq_true_eq, decide_eq_false_iff_not, Bool.not_eq_true', Bool.not_eq_false', Bool.not_eq_eq_eq_not, Bool.not_true, Bool.not_false] at hc7
    refine c_seq ?_
    refine c_reg ?_
    refine s_pu hF (pu_move rfl) rfl ?_; clear hF; intro a hF
    refine s_callv hF hS ok38 rfl (c_digit _ _ _ hS.view) rfl ?_; clear hS hF; intro w a hS hF
    refine s_pu hF (pu_assign rfl) rfl ?_; clear hF; intro a hF
    refine c_nil ?_
    refine n_then ?_
    refine c_if hF rfl (fun hc14 => ?_) (fun hc14 => ?_)
    · try simp only [decide_eq_true_eq, decide_eq_false_iff_not, Bool.not_eq_true', Bool.not_eq_false', Bool.not_eq_eq_eq_not, Bool.not_true, Bool.not_false] at hc14
      refine c_seq ?_
      refine c_reg ?_
      refine s_pu hF (pu_move rfl) rfl ?_; clear hF; intro a hF
      refine s_callv hF hS ok39 rfl (c_number s hs _ _ hS.view) rfl ?_; clear hS hF; intro w a hS hF
      refine s_pu hF (pu_extract rfl rfl) rfl ?_; clear hF; intro a hF
      refine s_pu hF (pu_extract rfl rfl) rfl ?_; clear hF; intro a hF
      refine s_store (i := 0) (new := resC (numS s)) hF hS rfl rfl rfl rfl (by exact sz49) rfl (by simp [resC, tokC]) ?_; clear hS hF; intro w a hS hF
      rw [spl_all (by simp [resC, tokC])] at hS
      refine s_pu hF (pu_assign rfl) rfl ?_; clear hF; intro a hF
      refine c_nil ?_
      refine n_then ?_
      refine c_ret (r_block (r_then ?_))
      exact f_ret hF rfl (.cell rfl (o_lvA (i := 0) hS rfl agg49) (.tmp rfl (.nil))) (hS.retv (by rw [one_dig hc7 hc14]; rfl))
    · try simp only [decide_eq_true_eq, decide_eq_false_iff_not, Bool.not_eq_true', Bool.not_eq_false', Bool.not_eq_eq_eq_not, Bool.not_true, Bool.not_false] at hc14
      refine c_seq ?_
      refine c_reg ?_
      refine s_pu hF (pu_move rfl) rfl ?_; clear hF; intro a hF
      refine s_pu hF (pu_ieq rfl rfl) rfl ?_; clear hF; intro a hF
      refine s_pu hF (pu_assign rfl) rfl ?_; clear hF; intro a hF
      refine c_nil ?_
      refine n_then ?_
      refine c_if hF rfl (fun hc21 => ?_) (fun hc21 => ?_)
      · try simp only [decide_eq_true_eq, decide_eq_false_iff_not, Bool.not_eq_true', Bool.not_eq_false', Bool.not_eq_eq_eq_not, Bool.not_true, Bool.not_false] at hc21
        refine c_seq ?_
        refine c_reg ?_
        refine s_pu hF (pu_move rfl) rfl ?_; clear hF; intro a hF
        refine s_callv hF hS ok40 rfl (c_text s hs0 hs _ _ hS.view) rfl ?_; clear hS hF; intro w a hS hF
        refine s_pu hF (pu_extract rfl rfl) rfl ?_; clear hF; intro a hF
        refine s_pu hF (pu_extract rfl rfl) rfl ?_; clear hF; intro a hF
        refine s_store (i := 0) (new := resC (textS s)) hF hS rfl rfl rfl rfl (by exact sz49) rfl (by simp [resC, tokC]) ?_; clear hS hF; intro w a hS hF
        rw [spl_all (by simp [resC, tokC])] at hS
        refine s_pu hF (pu_assign rfl) rfl ?_; clear hF; intro a hF
        refine c_nil ?_
        refine n_then ?_
        refine c_ret (r_block (r_then ?_))
        exact f_ret hF rfl (.cell rfl (o_lvA (i := 0) hS rfl agg49) (.tmp rfl (.nil))) (hS.retv (by rw [one_txt hc7 hc14 hc21]; rfl))
      · try simp only [decide_eq_true_eq, decide_eq_false_iff_not, Bool.not_eq_true', Bool.not_eq_false', Bool.not_eq_eq_eq_not, Bool.not_true, Bool.not_false] at hc21
        refine c_skip ?_
        refine n_block ?_
        refine n_then ?_
        refine c_seq ?_
        refine c_reg ?_
        refine s_pu hF (pu_move rfl) rfl ?_; clear hF; intro a hF
        refine s_callv hF hS ok41 rfl (c_mark s _ _ hS.view) rfl ?_; clear hS hF; intro w a hS hF
        refine s_pu hF (pu_extract rfl rfl) rfl ?_; clear hF; intro a hF
        refine s_pu hF (pu_extract rfl rfl) rfl ?_; clear hF; intro a hF
        refine s_store (i := 0) (new := resC (markG s marksL)) hF hS rfl rfl rfl rfl (by exact sz49) rfl (by simp [resC, tokC]) ?_; clear hS hF; intro w a hS hF
        rw [spl_all (by simp [resC, tokC])] at hS
        refine s_pu hF (pu_assign rfl) rfl ?_; clear hF; intro a hF
        refine c_nil ?_
        refine n_then ?_
        refine c_ret ?_
        exact f_ret hF rfl (.cell rfl (o_lvA (i := 0) hS rfl agg49) (.tmp rfl (.nil))) (hS.retv (by rw [one_mark hc7 hc14 hc21]; rfl))
set_option maxHeartbeats 1000000 in
theorem c_Lex (s : List UInt8) (hs : s.length ≤ 1000000) (w0 : World) (h0 : View) (hv : VLe h0 (Full w0)) : Calls Tryd.prog 11 #[vs s] w0 (RetM [] w0 fun v w' => ∃ sl, v = .tuple #[sl, .int .i64 (lexS s).2.1, .int .i64 (lexS s).2.2] ∧ NewBuf w0 26 4 ((lexS s).1.map tokC).flatten sl w') := by
  refine f_enter (args := [vs s]) Tryd.func11 rfl Tryd.ntmps11 rfl fun a hF => ?_
  have hS := St.init w0 h0 hv
  refine c_seq ?_
  refine c_reg ?_
  refine s_pu hF (pu_assign rfl) rfl ?_; clear hF; intro a hF
  refine s_pu hF (pu_assign rfl) rfl ?_; clear hF; intro a hF
  refine s_pu hF (pu_assign rfl) rfl ?_; clear hF; intro a hF
  refine c_nil ?_
  refine n_then ?_
  refine c_scope ?_
  refine c_seq ?_
  refine c_seq ?_
  refine c_reg ?_
  refine s_pu hF (pu_move rfl) rfl ?_; clear hF; intro a hF
  refine s_pu hF (pu_len_s tyS9 rfl rfl) rfl ?_; clear hF; intro a hF
  refine s_pu hF (pu_igt rfl rfl) rfl ?_; clear hF; intro a hF
  refine c_nil ?_
  refine n_then ?_
  refine c_if hF rfl (fun hc11 => ?_) (fun hc11 => ?_)
  · try simp only [decide_eq_true_eq, decide_eq_false_iff_not, Bool.not_eq_true', Bool.not_eq_false', Bool.not_eq_eq_eq_not, Bool.not_true, Bool.not_false] at hc11
    refine c_seq ?_
    refine c_reg ?_
    refine s_pu hF (pu_assign rfl) rfl ?_; clear hF; intro a hF
    refine s_pu hF (pu_assign rfl) rfl ?_; clear hF; intro a hF
    refine s_pu hF (pu_assign rfl) rfl ?_; clear hF; intro a hF
    refine c_nil ?_
    refine n_then ?_
    refine c_ret (r_then (r_scope ?_))
    refine f_ret hF rfl (.tmp rfl (.tmp rfl (.tmp rfl (.nil)))) ?_
    refine hS.retM ⟨.slice none 0 0, ?_, ?_⟩
    · rw [lexS, if_pos (by omega)]; rfl
    · rw [lexS, if_pos (by omega)]; exact NewBuf.nil
  · try simp only [decide_eq_true_eq, decide_eq_false_iff_not, Bool.not_eq_true', Bool.not_eq_false', Bool.not_eq_eq_eq_not, Bool.not_true, Bool.not_false] at hc11
    refine c_skip ?_
    refine n_then ?_
    refine c_seq ?_
    refine c_reg ?_
    refine s_pu hF (pu_assign rfl) rfl ?_; clear hF; intro a hF
    replace hS := hS.newNil 26 4
    refine c_nil ?_
    refine n_then ?_
    refine c_seq ?_
    refine c_reg ?_
    refine s_pu hF (pu_assign rfl) rfl ?_; clear hF; intro a hF
    refine c_nil ?_
    refine n_then ?_
    refine c_seq ?_
    refine c_label ?_
    refine n_then ?_
    refine c_seq ?_
    refine c_block ?_
    refine hS.cut fun O0 F0 hO0 hF0 hS => ?_
    subst hO0
    refine hF.cut (.cons (k := 5) rfl <| .cons (k := 6) rfl <| .nil) (.cons (k := 0) rfl <| .nil) fun L0 hL0 hF => ?_
    refine c_loop (α := Nat × List Tok) (fun x a w => ∃ a0 c, lexG s x.1 x.2 = lexS s ∧ x.1 ≤ s.length ∧ x.2.length ≤ x.1 ∧ Fr a 52 ([(5, .val (.slice a0 x.2.length c)), (6, .val (.int .i64 (x.1 : Nat)))] ++ L0) ∧ St w0 h0 [] w [bufE 26 4 (.slice a0 x.2.length c) (x.2.map tokC).flatten] F0) (fun x => s.length - x.1) (0, []) (⟨none, 0, by rw [lexS, if_neg (by omega)], Nat.zero_le _, Nat.le_refl _, hF, hS⟩) ?_
    subst hF0 hL0
    rintro ⟨i, out⟩ a w ⟨a0, c, hlx, his, hol, hF, hS⟩
    dsimp only at hlx his hol hF hS
    refine c_block ?_
    refine c_seq ?_
    refine c_block ?_
    refine hS.cut fun O1 F1 hO1 hF1 hS => ?_
    subst hO1
    refine hF.cut (.cons (k := 6) rfl <| .nil) (.cons (k := 0) rfl <| .cons (k := 5) rfl <| .nil) fun L1 hL1 hF => ?_
    refine c_loop (α := Nat) (fun j a w => lexG s j out = lexS s ∧ i ≤ j ∧ j ≤ s.length ∧ Fr a 52 ([(6, .val (.int .i64 (j : Nat)))] ++ L1) ∧ St w0 h0 [] w [bufE 26 4 (.slice a0 out.length c) (out.map tokC).flatten] F1) (fun j => s.length - j) i (⟨hlx, Nat.le_refl _, his, hF, hS⟩) ?_
    subst hF1 hL1
    rintro j a w ⟨hlx2, hij, hjs, hF, hS⟩
    refine c_seq ?_
    refine c_seq ?_
    refine c_reg ?_
    refine s_pu hF (pu_move rfl) rfl ?_; clear hF; intro a hF
    refine s_pu hF (pu_move rfl) rfl ?_; clear hF; intro a hF
    refine s_pu hF (pu_len_s tyS9 rfl rfl) rfl ?_; clear hF; intro a hF
    refine s_pu hF (pu_ilt rfl rfl) rfl ?_; clear hF; intro a hF
    refine s_pu hF (pu_move rfl) rfl ?_; clear hF; intro a hF
    refine w_split hF ⟨_, _, (rfl : _[4]? = some _), rfl, rfl⟩ (fun hg5_4 => ?_) (fun hg5_4 => ?_)
    · have hg5_4p := hg5_4
      try simp only [decide_eq_true_eq, decide_eq_false_iff_not, Bool.not_eq_true', Bool.not_eq_false', Bool.not_eq_eq_eq_not, Bool.not_true, Bool.not_false] at hg5_4p
      refine g_pu hF ⟨_, _, (rfl : _[4]? = some _), rfl, rfl⟩ hg5_4 (pu_move rfl) rfl ?_; clear hF; intro a hF
      refine g_pu hF ⟨_, _, (rfl : _[4]? = some _), rfl, rfl⟩ hg5_4 (pu_move rfl) rfl ?_; clear hF; intro a hF
      refine g_pu hF ⟨_, _, (rfl : _[4]? = some _), rfl, rfl⟩ hg5_4 (pu_idxn tyS9 rfl rfl rfl (by omega)) rfl ?_; clear hF; intro a hF
      refine g_pu hF ⟨_, _, (rfl : _[4]? = some _), rfl, rfl⟩ hg5_4 (pu_ieq rfl rfl) rfl ?_; clear hF; intro a hF
      refine s_pu hF (pu_pick_t rfl hg5_4 rfl) rfl ?_; clear hF; intro a hF
      refine c_nil ?_
      refine n_then ?_
      refine c_if hF rfl (fun hc21 => ?_) (fun hc21 => ?_)
      · try simp only [decide_eq_true_eq, decide_eq_false_iff_not, Bool.not_eq_true', Bool.not_eq_false', Bool.not_eq_eq_eq_not, Bool.not_true, Bool.not_false] at hc21
        refine c_skip ?_
        refine n_then ?_
        refine c_block ?_
        refine c_reg ?_
        refine s_pu hF (pu_move rfl) rfl ?_; clear hF; intro a hF
        refine s_pu hF (pu_add rfl rfl (by first | exact wrap_i64 (by omega) (by omega) | rfl)) rfl ?_; clear hF; intro a hF
        refine s_pu hF (pu_assign rfl) rfl ?_; clear hF; intro a hF
        refine c_nil ?_
        refine n_block ?_
        exact ⟨j + 1, ⟨(lex_sp (by omega) hc21).symm.trans hlx2, by omega, by omega, hF.pick (.cons (k := 6) rfl <| .cons (k := 0) rfl <| .cons (k := 5) rfl <| .nil), hS⟩, by omega⟩
      · try simp only [decide_eq_true_eq, decide_eq_false_iff_not, Bool.not_eq_true', Bool.not_eq_false', Bool.not_eq_eq_eq_not, Bool.not_true, Bool.not_false] at hc21
        refine c_exit (x_then (x_then (x_here ?_)))
        refine n_then ?_
        refine c_seq ?_
        refine c_seq ?_
        refine c_reg ?_
        refine s_pu hF (pu_move rfl) rfl ?_; clear hF; intro a hF
        refine s_pu hF (pu_move rfl) rfl ?_; clear hF; intro a hF
        refine s_pu hF (pu_len_s tyS9 rfl rfl) rfl ?_; clear hF; intro a hF
        refine s_pu hF (pu_ieq rfl rfl) rfl ?_; clear hF; intro a hF
        refine c_nil ?_
        refine n_then ?_
        refine c_if hF rfl (fun hc27 => ?_) (fun hc27 => ?_)
        · try simp only [decide_eq_true_eq, decide_eq_false_iff_not, Bool.not_eq_true', Bool.not_eq_false', Bool.not_eq_eq_eq_not, Bool.not_true, Bool.not_false] at hc27
          refine c_exit (x_then (x_block rfl (x_then (x_here ?_))))
          refine n_then ?_
          refine c_seq ?_
          refine c_reg ?_
          refine s_pu hF (pu_move rfl) rfl ?_; clear hF; intro a hF
          refine s_pu hF (pu_assign rfl) rfl ?_; clear hF; intro a hF
          refine s_pu hF (pu_assign rfl) rfl ?_; clear hF; intro a hF
          refine s_pu hF (pu_assign rfl) rfl ?_; clear hF; intro a hF
          refine c_nil ?_
          refine n_then ?_
          refine c_ret (r_scope ?_)
          refine f_ret hF rfl (.tmp rfl (.tmp rfl (.tmp rfl (.nil)))) ?_
          have hend := lex_end (s := s) (i := j) (out := out) (by omega)
          refine hS.retM ⟨.slice a0 out.length c, ?_, ?_⟩
          · rw [← hlx2, hend]; rfl
          · rw [← hlx2, hend]; exact hS.newBuf (i := 0) rfl
        · try simp only [decide_eq_true_eq, decide_eq_false_iff_not, Bool.not_eq_true', Bool.not_eq_false', Bool.not_eq_eq_eq_not, Bool.not_true, Bool.not_false] at hc27
          refine c_skip ?_
          refine n_then ?_
          refine c_seq ?_
          refine c_reg ?_
          refine s_pu hF (pu_move rfl) rfl ?_; clear hF; intro a hF
          refine s_pu hF (pu_move rfl) rfl ?_; clear hF; intro a hF
          refine s_pu hF (pu_from tyS9 rfl rfl (by omega) (by omega)) rfl ?_; clear hF; intro a hF
          refine s_callv hF hS ok21 rfl (c_next (s.drop j) (by rw [List.length_drop]; omega) (by rw [List.length_drop]; omega) _ _ hS.view) rfl ?_; clear hS hF; intro w a hS hF
          refine s_pu hF (pu_move rfl) rfl ?_; clear hF; intro a hF
          refine s_pu hF (pu_extract rfl rfl) rfl ?_; clear hF; intro a hF
          refine s_pu hF (pu_extract rfl rfl) rfl ?_; clear hF; intro a hF
          refine s_alloc hF hS zero49 rfl ?_; clear hS hF; intro b1 w a hS hF
          refine s_store (i := 0) (new := resC (oneS (s.drop j))) hF hS rfl rfl rfl rfl (by exact sz49) rfl (by simp [resC, tokC]) ?_; clear hS hF; intro w a hS hF
          rw [spl_all (by simp [resC, tokC])] at hS
          refine s_pu hF (pu_assign rfl) rfl ?_; clear hF; intro a hF
          refine c_nil ?_
          refine n_then ?_
          refine c_seq ?_
          refine c_seq ?_
          refine c_reg ?_
          refine s_pu hF (pu_move rfl) rfl ?_; clear hF; intro a hF
          refine s_pu hF (pu_ine rfl rfl) rfl ?_; clear hF; intro a hF
          refine c_nil ?_
          refine n_then ?_
          refine c_if hF rfl (fun hc36 => ?_) (fun hc36 => ?_)
          · try simp only [decide_eq_true_eq, decide_eq_false_iff_not, Bool.not_eq_true', Bool.not_eq_false', Bool.not_eq_eq_eq_not, Bool.not_true, Bool.not_false] at hc36
            have hoe := (one_cases (s.drop j) (by rw [List.length_drop]; omega)).2 hc36
            refine c_seq ?_
            refine c_reg ?_
            refine s_pu hF (pu_move rfl) rfl ?_; clear hF; intro a hF
            refine s_pu hF (pu_move rfl) rfl ?_; clear hF; intro a hF
            refine s_pu hF (pu_assign rfl) rfl ?_; clear hF; intro a hF
            refine s_pu hF (pu_assign rfl) rfl ?_; clear hF; intro a hF
            refine s_pu hF (pu_assign rfl) rfl ?_; clear hF; intro a hF
            refine c_nil ?_
            refine n_then ?_
            refine c_ret (r_then (r_block (r_then (r_block (r_then (r_scope ?_))))))
            refine f_ret hF rfl (.tmp rfl (.tmp rfl (.tmp rfl (.nil)))) ?_
            refine hS.retM ⟨.slice none 0 0, ?_, ?_⟩
            · rw [← hlx2, lex_err (by omega) (by first | exact hc21 | omega) hoe]; rfl
            · rw [← hlx2, lex_err (by omega) (by first | exact hc21 | omega) hoe]; exact NewBuf.nil
          · try simp only [decide_eq_true_eq, decide_eq_false_iff_not, Bool.not_eq_true', Bool.not_eq_false', Bool.not_eq_eq_eq_not, Bool.not_true, Bool.not_false] at hc36
            obtain ⟨t, n, hr, hn0, hnl⟩ := (one_cases (s.drop j) (by rw [List.length_drop]; omega)).1 hc36
            rw [hr] at hS hF
            rw [List.length_drop] at hnl
            refine c_skip ?_
            refine n_then ?_
            refine c_seq ?_
            refine c_reg ?_
            refine s_pu hF (pu_move rfl) rfl ?_; clear hF; intro a hF
            refine s_pu hF (pu_faddr fld49_0 rfl) rfl ?_; clear hF; intro a hF
            refine s_pu hF (pu_faddr fld26_3 rfl) rfl ?_; clear hF; intro a hF
            refine s_store (i := 0) hF hS rfl rfl rfl rfl sz3 rfl (by simp [resC, tokC]) ?_; clear hS hF; intro w a hS hF
            rw [show spl (resC (.ok t n)) (0 + 0 + 3) [.int .i64 (j : Int)] = tokC { t with p := (j : Int) } ++ [Value.int .i64 (n : Int)] from rfl] at hS
            refine c_nil ?_
            refine n_then ?_
            refine c_seq ?_
            refine c_reg ?_
            refine s_pu hF (pu_move rfl) rfl ?_; clear hF; intro a hF
            refine s_pu hF (pu_faddr fld49_0 rfl) rfl ?_; clear hF; intro a hF
            refine s_pu hF (o_loadA (i := 0) (new := tokC { t with p := (j : Int) }) hS rfl agg26 rfl (rfl)) rfl ?_; clear hF; intro a hF
            refine s_build (xs := [.tmp 44]) hF hS slt_b22 rfl rfl (by simp [Value.cells, tokC]) (by decide) rfl ?_; clear hS hF; intro b2 w a hS hF
            refine s_append (i := 2) hF hS rfl slt_a22_22 rfl rfl (Src.own (hS.at (i := 0) rfl) rfl rfl) (by rw [flatC_len]; simp [cellsL, Value.cells, tokC]; omega) rfl ?_; clear hS hF; intro a0 nn c0 w a hnn hS hF
            refine s_pu hF (pu_assign rfl) rfl ?_; clear hF; intro a hF
            refine c_nil ?_
            refine n_then ?_
            refine c_reg ?_
            refine s_pu hF (pu_move rfl) rfl ?_; clear hF; intro a hF
            refine s_pu hF (pu_faddr fld49_1 rfl) rfl ?_; clear hF; intro a hF
            refine s_pu hF (o_load1 (i := 1) hS rfl one3 rfl rfl) rfl ?_; clear hF; intro a hF
            refine s_pu hF (pu_add rfl rfl (by first | exact wrap_i64 (by omega) (by omega) | rfl)) rfl ?_; clear hF; intro a hF
            refine s_pu hF (pu_assign rfl) rfl ?_; clear hF; intro a hF
            refine c_nil ?_
            refine n_block ?_
            have hnn2 : nn = (out ++ [{ t with p := (j : Int) }]).length := by (rw [flatC_len] at hnn; simp [cellsL, Value.cells, tokC] at hnn ⊢; omega)
            subst hnn2
            replace hS := (hS.forget 0).forget 0
            rw [show ((j : Int) + (n : Int)) = ((j + n : Nat) : Int) by omega] at hF
            refine ⟨(j + n, out ++ [{ t with p := (j : Int) }]), ⟨a0, c0, (lex_ok (by omega) (by first | exact hc21 | omega) hr hn0).symm.trans hlx2, by dsimp only; omega, by simp; omega, hF.pick (.cons (k := 5) rfl <| .cons (k := 6) rfl <| .cons (k := 0) rfl <| .nil), ?_⟩, by dsimp only; omega⟩
            rw [List.map_append, List.flatten_append]
            exact hS
    · have hg5_4p := hg5_4
      try simp only [decide_eq_true_eq, decide_eq_false_iff_not, Bool.not_eq_true', Bool.not_eq_false', Bool.not_eq_eq_eq_not, Bool.not_true, Bool.not_false] at hg5_4p
      refine g_no hF ⟨_, _, (rfl : _[4]? = some _), rfl, rfl⟩ hg5_4 rfl ?_; clear hF; intro a hF
      refine g_no hF ⟨_, _, (rfl : _[4]? = some _), rfl, rfl⟩ hg5_4 rfl ?_; clear hF; intro a hF
      refine g_no hF ⟨_, _, (rfl : _[4]? = some _), rfl, rfl⟩ hg5_4 rfl ?_; clear hF; intro a hF
      refine g_no hF ⟨_, _, (rfl : _[4]? = some _), rfl, rfl⟩ hg5_4 rfl ?_; clear hF; intro a hF
      refine s_pu hF (pu_pick_f rfl hg5_4 rfl) rfl ?_; clear hF; intro a hF
      refine c_nil ?_
      refine n_then ?_
      refine c_iff hF rfl rfl ?_
      refine c_exit (x_then (x_then (x_here ?_)))
      refine n_then ?_
      refine c_seq ?_
      refine c_seq ?_
      refine c_reg ?_
      refine s_pu hF (pu_move rfl) rfl ?_; clear hF; intro a hF
      refine s_pu hF (pu_move rfl) rfl ?_; clear hF; intro a hF
      refine s_pu hF (pu_len_s tyS9 rfl rfl) rfl ?_; clear hF; intro a hF
      refine s_pu hF (pu_ieq rfl rfl) rfl ?_; clear hF; intro a hF
      refine c_nil ?_
      refine n_then ?_
      refine c_if hF rfl (fun hc27 => ?_) (fun hc27 => ?_)
      · try simp only [decide_eq_true_eq, decide_eq_false_iff_not, Bool.not_eq_true', Bool.not_eq_false', Bool.not_eq_eq_eq_not, Bool.not_true, Bool.not_false] at hc27
        refine c_exit (x_then (x_block rfl (x_then (x_here ?_))))
        refine n_then ?_
        refine c_seq ?_
        refine c_reg ?_
        refine s_pu hF (pu_move rfl) rfl ?_; clear hF; intro a hF
        refine s_pu hF (pu_assign rfl) rfl ?_; clear hF; intro a hF
        refine s_pu hF (pu_assign rfl) rfl ?_; clear hF; intro a hF
        refine s_pu hF (pu_assign rfl) rfl ?_; clear hF; intro a hF
        refine c_nil ?_
        refine n_then ?_
        refine c_ret (r_scope ?_)
        refine f_ret hF rfl (.tmp rfl (.tmp rfl (.tmp rfl (.nil)))) ?_
        have hend := lex_end (s := s) (i := j) (out := out) (by omega)
        refine hS.retM ⟨.slice a0 out.length c, ?_, ?_⟩
        · rw [← hlx2, hend]; rfl
        · rw [← hlx2, hend]; exact hS.newBuf (i := 0) rfl
      · try simp only [decide_eq_true_eq, decide_eq_false_iff_not, Bool.not_eq_true', Bool.not_eq_false', Bool.not_eq_eq_eq_not, Bool.not_true, Bool.not_false] at hc27
        refine c_skip ?_
        refine n_then ?_
        refine c_seq ?_
        refine c_reg ?_
        refine s_pu hF (pu_move rfl) rfl ?_; clear hF; intro a hF
        refine s_pu hF (pu_move rfl) rfl ?_; clear hF; intro a hF
        refine s_pu hF (pu_from tyS9 rfl rfl (by omega) (by omega)) rfl ?_; clear hF; intro a hF
        refine s_callv hF hS ok21 rfl (c_next (s.drop j) (by rw [List.length_drop]; omega) (by rw [List.length_drop]; omega) _ _ hS.view) rfl ?_; clear hS hF; intro w a hS hF
        refine s_pu hF (pu_move rfl) rfl ?_; clear hF; intro a hF
        refine s_pu hF (pu_extract rfl rfl) rfl ?_; clear hF; intro a hF
        refine s_pu hF (pu_extract rfl rfl) rfl ?_; clear hF; intro a hF
        refine s_alloc hF hS zero49 rfl ?_; clear hS hF; intro b1 w a hS hF
        refine s_store (i := 0) (new := resC (oneS (s.drop j))) hF hS rfl rfl rfl rfl (by exact sz49) rfl (by simp [resC, tokC]) ?_; clear hS hF; intro w a hS hF
        rw [spl_all (by simp [resC, tokC])] at hS
        refine s_pu hF (pu_assign rfl) rfl ?_; clear hF; intro a hF
        refine c_nil ?_
        refine n_then ?_
        refine c_seq ?_
        refine c_seq ?_
        refine c_reg ?_
        refine s_pu hF (pu_move rfl) rfl ?_; clear hF; intro a hF
        refine s_pu hF (pu_ine rfl rfl) rfl ?_; clear hF; intro a hF
        refine c_nil ?_
        refine n_then ?_
        refine c_if hF rfl (fun hc36 => ?_) (fun hc36 => ?_)
        · try simp only [decide_eq_true_eq, decide_eq_false_iff_not, Bool.not_eq_true', Bool.not_eq_false', Bool.not_eq_eq_eq_not, Bool.not_true, Bool.not_false] at hc36
          have hoe := (one_cases (s.drop j) (by rw [List.length_drop]; omega)).2 hc36
          refine c_seq ?_
          refine c_reg ?_
          refine s_pu hF (pu_move rfl) rfl ?_; clear hF; intro a hF
          refine s_pu hF (pu_move rfl) rfl ?_; clear hF; intro a hF
          refine s_pu hF (pu_assign rfl) rfl ?_; clear hF; intro a hF
          refine s_pu hF (pu_assign rfl) rfl ?_; clear hF; intro a hF
          refine s_pu hF (pu_assign rfl) rfl ?_; clear hF; intro a hF
          refine c_nil ?_
          refine n_then ?_
          refine c_ret (r_then (r_block (r_then (r_block (r_then (r_scope ?_))))))
          refine f_ret hF rfl (.tmp rfl (.tmp rfl (.tmp rfl (.nil)))) ?_
          refine hS.retM ⟨.slice none 0 0, ?_, ?_⟩
          · rw [← hlx2, lex_err (by omega) (by first | exact hc21 | omega) hoe]; rfl
          · rw [← hlx2, lex_err (by omega) (by first | exact hc21 | omega) hoe]; exact NewBuf.nil
        · try simp only [decide_eq_true_eq, decide_eq_false_iff_not, Bool.not_eq_true', Bool.not_eq_false', Bool.not_eq_eq_eq_not, Bool.not_true, Bool.not_false] at hc36
          obtain ⟨t, n, hr, hn0, hnl⟩ := (one_cases (s.drop j) (by rw [List.length_drop]; omega)).1 hc36
          rw [hr] at hS hF
          rw [List.length_drop] at hnl
          refine c_skip ?_
          refine n_then ?_
          refine c_seq ?_
          refine c_reg ?_
          refine s_pu hF (pu_move rfl) rfl ?_; clear hF; intro a hF
          refine s_pu hF (pu_faddr fld49_0 rfl) rfl ?_; clear hF; intro a hF
          refine s_pu hF (pu_faddr fld26_3 rfl) rfl ?_; clear hF; intro a hF
          refine s_store (i := 0) hF hS rfl rfl rfl rfl sz3 rfl (by simp [resC, tokC]) ?_; clear hS hF; intro w a hS hF
          rw [show spl (resC (.ok t n)) (0 + 0 + 3) [.int .i64 (j : Int)] = tokC { t with p := (j : Int) } ++ [Value.int .i64 (n : Int)] from rfl] at hS
          refine c_nil ?_
          refine n_then ?_
          refine c_seq ?_
          refine c_reg ?_
          refine s_pu hF (pu_move rfl) rfl ?_; clear hF; intro a hF
          refine s_pu hF (pu_faddr fld49_0 rfl) rfl ?_; clear hF; intro a hF
          refine s_pu hF (o_loadA (i := 0) (new := tokC { t with p := (j : Int) }) hS rfl agg26 rfl (rfl)) rfl ?_; clear hF; intro a hF
          refine s_build (xs := [.tmp 44]) hF hS slt_b22 rfl rfl (by simp [Value.cells, tokC]) (by decide) rfl ?_; clear hS hF; intro b2 w a hS hF
          refine s_append (i := 2) hF hS rfl slt_a22_22 rfl rfl (Src.own (hS.at (i := 0) rfl) rfl rfl) (by rw [flatC_len]; simp [cellsL, Value.cells, tokC]; omega) rfl ?_; clear hS hF; intro a0 nn c0 w a hnn hS hF
          refine s_pu hF (pu_assign rfl) rfl ?_; clear hF; intro a hF
          refine c_nil ?_
          refine n_then ?_
          refine c_reg ?_
          refine s_pu hF (pu_move rfl) rfl ?_; clear hF; intro a hF
          refine s_pu hF (pu_faddr fld49_1 rfl) rfl ?_; clear hF; intro a hF
          refine s_pu hF (o_load1 (i := 1) hS rfl one3 rfl rfl) rfl ?_; clear hF; intro a hF
          refine s_pu hF (pu_add rfl rfl (by first | exact wrap_i64 (by omega) (by omega) | rfl)) rfl ?_; clear hF; intro a hF
          refine s_pu hF (pu_assign rfl) rfl ?_; clear hF; intro a hF
          refine c_nil ?_
          refine n_block ?_
          have hnn2 : nn = (out ++ [{ t with p := (j : Int) }]).length := by (rw [flatC_len] at hnn; simp [cellsL, Value.cells, tokC] at hnn ⊢; omega)
          subst hnn2
          replace hS := (hS.forget 0).forget 0
          rw [show ((j : Int) + (n : Int)) = ((j + n : Nat) : Int) by omega] at hF
          refine ⟨(j + n, out ++ [{ t with p := (j : Int) }]), ⟨a0, c0, (lex_ok (by omega) (by first | exact hc21 | omega) hr hn0).symm.trans hlx2, by dsimp only; omega, by simp; omega, hF.pick (.cons (k := 5) rfl <| .cons (k := 6) rfl <| .cons (k := 0) rfl <| .nil), ?_⟩, by dsimp only; omega⟩
          rw [List.map_append, List.flatten_append]
          exact hS
theorem c_Rword (s : List UInt8) (hs : s.length ≤ 1000000) (w0 : World) (h0 : View) (hv : VLe h0 (Full w0))  : Calls Tryd.prog 33 #[vs s] w0 (Ret w0 h0 fun u _ => u = .int .i64 (wordN s : Nat)) := by
  refine f_enter (args := [vs s]) Tryd.func33 rfl Tryd.ntmps33 rfl fun a hF => ?_
  have hS := St.init w0 h0 hv
  refine c_seq ?_
  refine c_reg ?_
  refine s_pu hF (pu_assign rfl) rfl ?_; clear hF; intro a hF
  refine c_nil ?_
  refine n_then ?_
  refine c_seq ?_
  refine c_reg ?_
  refine s_pu hF (pu_assign rfl) rfl ?_; clear hF; intro a hF
  refine c_nil ?_
  refine n_then ?_
  refine c_seq ?_
  refine c_block ?_
  refine hS.cut fun O0 F0 hO0 hF0 hS => ?_
  refine hF.cut (.cons (k := 3) rfl <| .nil) (.cons (k := 0) rfl <| .nil) fun L0 hL0 hF => ?_
  refine c_loop (α := Nat) (fun k a w => k ≤ s.length ∧ (s.take k).all isWord = true ∧ (k = 0 ∨ isLet (s.getD 0 0) = true) ∧ Fr a 27 ([(3, .val (.int .i64 (k : Nat)))] ++ L0) ∧ St w0 h0 [] w O0 F0) (fun k => s.length - k) 0 (⟨Nat.zero_le _, rfl, .inl rfl, hF, hS⟩) ?_
  subst hO0 hF0 hL0
  rintro k a w ⟨hk, ha, h0i, hF, hS⟩
  refine c_seq ?_
  refine c_seq ?_
  refine c_reg ?_
  refine s_pu hF (pu_move rfl) rfl ?_; clear hF; intro a hF
  refine s_pu hF (pu_move rfl) rfl ?_; clear hF; intro a hF
  refine s_pu hF (pu_len_s tyS9 rfl rfl) rfl ?_; clear hF; intro a hF
  refine s_pu hF (pu_ilt rfl rfl) rfl ?_; clear hF; intro a hF
  refine s_pu hF (pu_move rfl) rfl ?_; clear hF; intro a hF
  refine w_split hF ⟨_, _, (rfl : _[4]? = some _), rfl, rfl⟩ (fun hg2_4 => ?_) (fun hg2_4 => ?_)
  · have hg2_4p := hg2_4
    try simp only [decide_eq_true_eq, decide_eq_false_iff_not, Bool.not_eq_true', Bool.not_eq_false', Bool.not_eq_eq_eq_not, Bool.not_true, Bool.not_false] at hg2_4p
    refine g_pu hF ⟨_, _, (rfl : _[4]? = some _), rfl, rfl⟩ hg2_4 (pu_move rfl) rfl ?_; clear hF; intro a hF
    refine g_pu hF ⟨_, _, (rfl : _[4]? = some _), rfl, rfl⟩ hg2_4 (pu_move rfl) rfl ?_; clear hF; intro a hF
    refine g_pu hF ⟨_, _, (rfl : _[4]? = some _), rfl, rfl⟩ hg2_4 (pu_idxn tyS9 rfl rfl rfl (by omega)) rfl ?_; clear hF; intro a hF
    refine g_callv hF hS ⟨_, _, (rfl : _[4]? = some _), rfl, rfl⟩ hg2_4 ok52 rfl (c_Rletter _ _ _ hS.view) rfl ?_; clear hS hF; intro w a hS hF
    refine g_pu hF ⟨_, _, (rfl : _[4]? = some _), rfl, rfl⟩ hg2_4 (pu_move rfl) rfl ?_; clear hF; intro a hF
    refine w_split hF ⟨_, _, (rfl : _[9]? = some _), rfl, rfl⟩ (fun hg2_9 => ?_) (fun hg2_9 => ?_)
    · have hg2_9p := hg2_9
      try simp only [decide_eq_true_eq, decide_eq_false_iff_not, Bool.not_eq_true', Bool.not_eq_false', Bool.not_eq_eq_eq_not, Bool.not_true, Bool.not_false] at hg2_9p
      refine g_no hF ⟨_, _, (rfl : _[9]? = some _), rfl, rfl⟩ hg2_9 rfl ?_; clear hF; intro a hF
      refine g_no hF ⟨_, _, (rfl : _[9]? = some _), rfl, rfl⟩ hg2_9 rfl ?_; clear hF; intro a hF
      refine g_no hF ⟨_, _, (rfl : _[9]? = some _), rfl, rfl⟩ hg2_9 rfl ?_; clear hF; intro a hF
      refine g_noU hF ⟨_, _, (rfl : _[12]? = some _), rfl, rfl⟩ rfl ?_; clear hF; intro a hF
      refine g_noU hF ⟨_, _, (rfl : _[12]? = some _), rfl, rfl⟩ rfl ?_; clear hF; intro a hF
      refine g_noU hF ⟨_, _, (rfl : _[12]? = some _), rfl, rfl⟩ rfl ?_; clear hF; intro a hF
      refine g_noU hF ⟨_, _, (rfl : _[12]? = some _), rfl, rfl⟩ rfl ?_; clear hF; intro a hF
      refine g_no hF ⟨_, _, (rfl : _[9]? = some _), rfl, rfl⟩ hg2_9 rfl ?_; clear hF; intro a hF
      refine g_pu hF ⟨_, _, (rfl : _[4]? = some _), rfl, rfl⟩ hg2_4 (pu_pick_t rfl hg2_9 rfl) rfl ?_; clear hF; intro a hF
      refine s_pu hF (pu_pick_t rfl hg2_4 rfl) rfl ?_; clear hF; intro a hF
      refine c_nil ?_
      refine n_then ?_
      refine c_ift hF rfl rfl ?_
      refine c_skip ?_
      refine n_then ?_
      refine c_block ?_
      refine c_reg ?_
      refine s_pu hF (pu_move rfl) rfl ?_; clear hF; intro a hF
      refine s_pu hF (pu_add rfl rfl (by first | exact wrap_i64 (by omega) (by omega) | rfl)) rfl ?_; clear hF; intro a hF
      refine s_pu hF (pu_assign rfl) rfl ?_; clear hF; intro a hF
      refine c_nil ?_
      refine n_block ?_
      exact ⟨k + 1, ⟨by omega, all_snoc isWord s k (by omega) ha (by simp_all [isWord]), h0i.elim (fun e => by subst e; first | exact .inr hg2_9p | (exfalso; omega)) (fun h => .inr h), hF.pick (.cons (k := 3) rfl <| .cons (k := 0) rfl <| .nil), hS⟩, by omega⟩
    · have hg2_9p := hg2_9
      try simp only [decide_eq_true_eq, decide_eq_false_iff_not, Bool.not_eq_true', Bool.not_eq_false', Bool.not_eq_eq_eq_not, Bool.not_true, Bool.not_false] at hg2_9p
      refine g_pu hF ⟨_, _, (rfl : _[9]? = some _), rfl, rfl⟩ hg2_9 (pu_move rfl) rfl ?_; clear hF; intro a hF
      refine g_pu hF ⟨_, _, (rfl : _[9]? = some _), rfl, rfl⟩ hg2_9 (pu_igt rfl rfl) rfl ?_; clear hF; intro a hF
      refine g_pu hF ⟨_, _, (rfl : _[9]? = some _), rfl, rfl⟩ hg2_9 (pu_move rfl) rfl ?_; clear hF; intro a hF
      refine w_split hF ⟨_, _, (rfl : _[12]? = some _), rfl, rfl⟩ (fun hg2_12 => ?_) (fun hg2_12 => ?_)
      · have hg2_12p := hg2_12
        try simp only [decide_eq_true_eq, decide_eq_false_iff_not, Bool.not_eq_true', Bool.not_eq_false', Bool.not_eq_eq_eq_not, Bool.not_true, Bool.not_false] at hg2_12p
        refine g_pu hF ⟨_, _, (rfl : _[12]? = some _), rfl, rfl⟩ hg2_12 (pu_move rfl) rfl ?_; clear hF; intro a hF
        refine g_pu hF ⟨_, _, (rfl : _[12]? = some _), rfl, rfl⟩ hg2_12 (pu_move rfl) rfl ?_; clear hF; intro a hF
        refine g_pu hF ⟨_, _, (rfl : _[12]? = some _), rfl, rfl⟩ hg2_12 (pu_idxn tyS9 rfl rfl rfl (by omega)) rfl ?_; clear hF; intro a hF
        refine g_callv hF hS ⟨_, _, (rfl : _[12]? = some _), rfl, rfl⟩ hg2_12 ok53 rfl (c_Rdigit _ _ _ hS.view) rfl ?_; clear hS hF; intro w a hS hF
        refine g_pu hF ⟨_, _, (rfl : _[9]? = some _), rfl, rfl⟩ hg2_9 (pu_pick_t rfl hg2_12 rfl) rfl ?_; clear hF; intro a hF
        refine g_pu hF ⟨_, _, (rfl : _[4]? = some _), rfl, rfl⟩ hg2_4 (pu_pick_f rfl hg2_9 rfl) rfl ?_; clear hF; intro a hF
        refine s_pu hF (pu_pick_t rfl hg2_4 rfl) rfl ?_; clear hF; intro a hF
        refine c_nil ?_
        refine n_then ?_
        refine c_if hF rfl (fun hc23 => ?_) (fun hc23 => ?_)
        · try simp only [decide_eq_true_eq, decide_eq_false_iff_not, Bool.not_eq_true', Bool.not_eq_false', Bool.not_eq_eq_eq_not, Bool.not_true, Bool.not_false] at hc23
          refine c_skip ?_
          refine n_then ?_
          refine c_block ?_
          refine c_reg ?_
          refine s_pu hF (pu_move rfl) rfl ?_; clear hF; intro a hF
          refine s_pu hF (pu_add rfl rfl (by first | exact wrap_i64 (by omega) (by omega) | rfl)) rfl ?_; clear hF; intro a hF
          refine s_pu hF (pu_assign rfl) rfl ?_; clear hF; intro a hF
          refine c_nil ?_
          refine n_block ?_
          exact ⟨k + 1, ⟨by omega, all_snoc isWord s k (by omega) ha (by simp_all [isWord]), h0i.elim (fun e => by subst e; first | exact .inr hg2_9p | (exfalso; omega)) (fun h => .inr h), hF.pick (.cons (k := 3) rfl <| .cons (k := 0) rfl <| .nil), hS⟩, by omega⟩
        · try simp only [decide_eq_true_eq, decide_eq_false_iff_not, Bool.not_eq_true', Bool.not_eq_false', Bool.not_eq_eq_eq_not, Bool.not_true, Bool.not_false] at hc23
          refine c_exit (x_then (x_then (x_here ?_)))
          refine n_then ?_
          refine c_seq ?_
          refine c_reg ?_
          refine s_pu hF (pu_move rfl) rfl ?_; clear hF; intro a hF
          refine s_pu hF (pu_assign rfl) rfl ?_; clear hF; intro a hF
          refine c_nil ?_
          refine n_then ?_
          refine c_ret ?_
          exact f_ret hF rfl (.tmp rfl (.nil)) (hS.retv (by rw [word_end s k hk ha h0i (by first | (left; omega) | (right; exact ⟨hg2_9p, .inr hc23⟩) | (right; exact ⟨hg2_9p, .inl (by omega)⟩))]; rfl))
      · have hg2_12p := hg2_12
        try simp only [decide_eq_true_eq, decide_eq_false_iff_not, Bool.not_eq_true', Bool.not_eq_false', Bool.not_eq_eq_eq_not, Bool.not_true, Bool.not_false] at hg2_12p
        refine g_no hF ⟨_, _, (rfl : _[12]? = some _), rfl, rfl⟩ hg2_12 rfl ?_; clear hF; intro a hF
        refine g_no hF ⟨_, _, (rfl : _[12]? = some _), rfl, rfl⟩ hg2_12 rfl ?_; clear hF; intro a hF
        refine g_no hF ⟨_, _, (rfl : _[12]? = some _), rfl, rfl⟩ hg2_12 rfl ?_; clear hF; intro a hF
        refine g_no hF ⟨_, _, (rfl : _[12]? = some _), rfl, rfl⟩ hg2_12 rfl ?_; clear hF; intro a hF
        refine g_pu hF ⟨_, _, (rfl : _[9]? = some _), rfl, rfl⟩ hg2_9 (pu_pick_f rfl hg2_12 rfl) rfl ?_; clear hF; intro a hF
        refine g_pu hF ⟨_, _, (rfl : _[4]? = some _), rfl, rfl⟩ hg2_4 (pu_pick_f rfl hg2_9 rfl) rfl ?_; clear hF; intro a hF
        refine s_pu hF (pu_pick_t rfl hg2_4 rfl) rfl ?_; clear hF; intro a hF
        refine c_nil ?_
        refine n_then ?_
        refine c_iff hF rfl rfl ?_
        refine c_exit (x_then (x_then (x_here ?_)))
        refine n_then ?_
        refine c_seq ?_
        refine c_reg ?_
        refine s_pu hF (pu_move rfl) rfl ?_; clear hF; intro a hF
        refine s_pu hF (pu_assign rfl) rfl ?_; clear hF; intro a hF
        refine c_nil ?_
        refine n_then ?_
        refine c_ret ?_
        exact f_ret hF rfl (.tmp rfl (.nil)) (hS.retv (by rw [word_end s k hk ha h0i (by first | (left; omega) | (right; exact ⟨hg2_9p, .inr hc23⟩) | (right; exact ⟨hg2_9p, .inl (by omega)⟩))]; rfl))
  · have hg2_4p := hg2_4
    try simp only [decide_eq_true_eq, decide_eq_false_iff_not, Bool.not_eq_true', Bool.not_eq_false', Bool.not_eq_eq_eq_not, Bool.not_true, Bool.not_false] at hg2_4p
    refine g_no hF ⟨_, _, (rfl : _[4]? = some _), rfl, rfl⟩ hg2_4 rfl ?_; clear hF; intro a hF
    refine g_no hF ⟨_, _, (rfl : _[4]? = some _), rfl, rfl⟩ hg2_4 rfl ?_; clear hF; intro a hF
    refine g_no hF ⟨_, _, (rfl : _[4]? = some _), rfl, rfl⟩ hg2_4 rfl ?_; clear hF; intro a hF
    refine g_no hF ⟨_, _, (rfl : _[4]? = some _), rfl, rfl⟩ hg2_4 rfl ?_; clear hF; intro a hF
    refine g_no hF ⟨_, _, (rfl : _[4]? = some _), rfl, rfl⟩ hg2_4 rfl ?_; clear hF; intro a hF
    refine g_noU hF ⟨_, _, (rfl : _[9]? = some _), rfl, rfl⟩ rfl ?_; clear hF; intro a hF
    refine g_noU hF ⟨_, _, (rfl : _[9]? = some _), rfl, rfl⟩ rfl ?_; clear hF; intro a hF
    refine g_noU hF ⟨_, _, (rfl : _[9]? = some _), rfl, rfl⟩ rfl ?_; clear hF; intro a hF
    refine g_noU hF ⟨_, _, (rfl : _[12]? = some _), rfl, rfl⟩ rfl ?_; clear hF; intro a hF
    refine g_noU hF ⟨_, _, (rfl : _[12]? = some _), rfl, rfl⟩ rfl ?_; clear hF; intro a hF
    refine g_noU hF ⟨_, _, (rfl : _[12]? = some _), rfl, rfl⟩ rfl ?_; clear hF; intro a hF
    refine g_noU hF ⟨_, _, (rfl : _[12]? = some _), rfl, rfl⟩ rfl ?_; clear hF; intro a hF
    refine g_noU hF ⟨_, _, (rfl : _[9]? = some _), rfl, rfl⟩ rfl ?_; clear hF; intro a hF
    refine g_no hF ⟨_, _, (rfl : _[4]? = some _), rfl, rfl⟩ hg2_4 rfl ?_; clear hF; intro a hF
    refine s_pu hF (pu_pick_f rfl hg2_4 rfl) rfl ?_; clear hF; intro a hF
    refine c_nil ?_
    refine n_then ?_
    refine c_iff hF rfl rfl ?_
    refine c_exit (x_then (x_then (x_here ?_)))
    refine n_then ?_
    refine c_seq ?_
    refine c_reg ?_
    refine s_pu hF (pu_move rfl) rfl ?_; clear hF; intro a hF
    refine s_pu hF (pu_assign rfl) rfl ?_; clear hF; intro a hF
    refine c_nil ?_
    refine n_then ?_
    refine c_ret ?_
    exact f_ret hF rfl (.tmp rfl (.nil)) (hS.retv (by rw [word_end s k hk ha h0i (by first | (left; omega) | (right; exact ⟨hg2_9p, .inr hc23⟩) | (right; exact ⟨hg2_9p, .inl (by omega)⟩))]; rfl))
end Go.Proofs.YtopbpdgnjnoddaaDoor
