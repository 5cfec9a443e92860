/- EvalBack: whatever the numbers, the law returns true. No condition. -/
import Derived.Test.YtokhjcpoapbfmaaMad
import Derived.Test.YtokhjcpoapbfmaaRows
set_option linter.unusedSimpArgs false
set_option linter.unusedVariables false
set_option linter.unusedVariables false
namespace Go.Proofs.Ytokhjcpoapbfmaa
open Go Go.Dx Go.RowKit Go.ChangeShapes Go.WideShapes Go.ChangeAt
namespace evalBack
theorem tyI3 : Try.prog.underlying 3 = some (.int .i64) := by kernel_rfl
theorem tyB4 : Try.prog.underlying 4 = some .bool := by kernel_rfl
end evalBack
open evalBack
theorem evalBack_own : ownKnob Try.prog.godebug = none := by kernel_rfl
theorem evalBack_laidOut : laidOutB Try.prog = true := by kernel_rfl
set_option maxRecDepth 100000 in
theorem evalBack_lifted (os : Os) (started : os.Started) (H : Type) (enc : TypeId × Value → H) :
    ReturnsInHanded {} Try.checked os 6 .any (Rows.evalBackSpec.pre6 enc Try.prog Try.f6 Rows.evalBackRow.domain false) (Rows.evalBackSpec.post enc Try.prog Try.f6 false true false false) := by
  refine law_lifted (C := Try.checked) (tb := 4) evalBack_laidOut evalBack_own started (by kernel_rfl) Try.func6
    (ChangeSpec.witness6 (enc := enc) (C := Try.checked) false ⟨#[], #[.int .i64 0, .int .i64 0], []⟩ 8 (by kernel_rfl) (by kernel_rfl) (by kernel_rfl) (by kernel_rfl)) rfl (by kernel_rfl) tyB4 (by kernel_rfl)
    (fun ds hd => match ds, hd with | [d0, d1], _ => ⟨rfl, rfl, rfl⟩) ?_
  intro W base args ds p hval0 hA0 hsz
  have hval : ∀ (j : Nat) t v, Try.f6.params[j]? = some t → args[j]? = some v → Value.okWide Try.prog W .any base t v := hval0
  have hA : DataW.TrodAll enc Try.prog W 0 (fun _ => true) true [3, 3] args.toList ds p := hA0
  rw [Try.params6] at hval
  obtain ⟨v0, vs0, d0, ds0, p0, q0, hargs, rfl, rfl, h0, r0⟩ := trodAll_cons hA
  obtain ⟨v1, vs1, d1, ds1, p1, q1, rfl, rfl, rfl, h1, r1⟩ := trodAll_cons r0
  obtain ⟨rfl, rfl, rfl⟩ := trodAll_nil r1
  obtain rfl : args = #[v0, v1] := by apply Array.toList_inj.1; simpa using hargs
  obtain ⟨x0, rfl, rfl, rfl, w0⟩ := open_int tyI3 (hval 0 3 v0 rfl rfl) h0
  have w0 := int_bounds w0
  obtain ⟨x1, rfl, rfl, rfl, w1⟩ := open_int tyI3 (hval 1 3 v1 rfl rfl) h1
  have w1 := int_bounds w1
  exact c_EvalBack x0 x1 w0 w1 W (Full W) (VLe.refl _)
theorem evalBack_holds : Rows.EvalBackSaid :=
  OpenClaim.holds_of_wide 6 Try.f6 rfl rfl rfl rfl rfl rfl rfl ⟨rfl, rfl, rfl, rfl, rfl⟩ rfl rfl rfl rfl rfl (by kernel_rfl) Try.func6 (by kernel_rfl)
    (of_decide_eq_true (by kernel_rfl)) (by unfold Func.isWrapper; first | (rw [if_pos (by decide +kernel)]; kernel_rfl) | (rw [if_neg (by decide +kernel)]; exact ⟨rfl, rfl⟩))
    (fun os started H enc _ => evalBack_lifted os started H enc)

end Go.Proofs.Ytokhjcpoapbfmaa
