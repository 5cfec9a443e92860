/- EvalOrder: whatever the values, the law returns true. No condition. -/
import Derived.Test.YtokhjcpoapbfmaaMod
import Derived.Test.YtokhjcpoapbfmaaRows
set_option linter.unusedSimpArgs false
set_option linter.unusedVariables false
set_option linter.unusedVariables false
namespace Go.Proofs.Ytokhjcpoapbfmaa
open Go Go.Dx Go.RowKit Go.ChangeShapes Go.WideShapes Go.ChangeAt
namespace evalOrder
theorem tyB4 : Try.prog.underlying 4 = some .bool := by kernel_rfl
end evalOrder
open evalOrder
theorem evalOrder_own : ownKnob Try.prog.godebug = none := by kernel_rfl
theorem evalOrder_laidOut : laidOutB Try.prog = true := by kernel_rfl
set_option maxRecDepth 100000 in
theorem evalOrder_lifted (os : Os) (started : os.Started) (H : Type) (enc : TypeId × Value → H) :
    ReturnsInHanded {} Try.checked os 5 .any (Rows.evalOrderSpec.pre6 enc Try.prog Try.f5 Rows.evalOrderRow.domain false) (Rows.evalOrderSpec.post enc Try.prog Try.f5 false true false false) := by
  refine law_lifted (C := Try.checked) (tb := 4) evalOrder_laidOut evalOrder_own started (by kernel_rfl) Try.func5
    (ChangeSpec.witness6 (enc := enc) (C := Try.checked) false ⟨#[], #[.agg #[.int .i64 0, .int .i64 0, .string ⟨#[]⟩], .agg #[.int .i64 0, .int .i64 0, .string ⟨#[]⟩]], []⟩ 8 (by kernel_rfl) (by kernel_rfl) (by kernel_rfl) (by kernel_rfl)) rfl (by kernel_rfl) tyB4 (by kernel_rfl)
    (fun ds hd => match ds, hd with | [d0, d1], _ => ⟨rfl, rfl, rfl⟩) ?_
  intro W base args ds p hval0 hA0 hsz
  have hval : ∀ (j : Nat) t v, Try.f5.params[j]? = some t → args[j]? = some v → Value.okWide Try.prog W .any base t v := hval0
  have hA : DataW.TrodAll enc Try.prog W 0 (fun _ => true) true [25, 25] args.toList ds p := hA0
  rw [Try.params5] at hval
  obtain ⟨v0, vs0, d0, ds0, p0, q0, hargs, rfl, rfl, h0, r0⟩ := trodAll_cons hA
  obtain ⟨v1, vs1, d1, ds1, p1, q1, rfl, rfl, rfl, h1, r1⟩ := trodAll_cons r0
  obtain ⟨rfl, rfl, rfl⟩ := trodAll_nil r1
  obtain rfl : args = #[v0, v1] := by apply Array.toList_inj.1; simpa using hargs
  obtain ⟨x0, rfl, hvb0, hvs0⟩ := open_val (hval 0 25 v0 rfl rfl) h0
  obtain ⟨x1, rfl, hvb1, hvs1⟩ := open_val (hval 1 25 v1 rfl rfl) h1
  exact c_EvalOrder x0 x1 W (Full W) (VLe.refl _) hvb0 hvs0 hvb1 hvs1
theorem evalOrder_holds : Rows.EvalOrderSaid :=
  OpenClaim.holds_of_wide 5 Try.f5 rfl rfl rfl rfl rfl rfl rfl ⟨rfl, rfl, rfl, rfl, rfl⟩ rfl rfl rfl rfl rfl (by kernel_rfl) Try.func5 (by kernel_rfl)
    (of_decide_eq_true (by kernel_rfl)) (by unfold Func.isWrapper; first | (rw [if_pos (by decide +kernel)]; kernel_rfl) | (rw [if_neg (by decide +kernel)]; exact ⟨rfl, rfl⟩))
    (fun os started H enc _ => evalOrder_lifted os started H enc)

end Go.Proofs.Ytokhjcpoapbfmaa
