/- ChainBack: whatever the mark and the text, the law returns true, and what came in reads as it read. No condition. -/
import Derived.Test.YtaogkonanncpiaaDxZ
import Derived.Test.YtaogkonanncpiaaChOpen
import Derived.Test.YtaogkonanncpiaaT22
import Derived.Test.YtaogkonanncpiaaT22b
import Derived.Test.YtaogkonanncpiaaRows
set_option linter.unusedSimpArgs false
set_option linter.unusedVariables false
set_option linter.unusedVariables false
namespace Go.Proofs.Ytaogkonanncpiaa
open Go Go.Dx Go.RowKit Go.ChangeShapes Go.WideShapes Go.ChangeAt
namespace chainBack
theorem tyB4 : Try.prog.underlying 4 = some .bool := by kernel_rfl
end chainBack
open chainBack
theorem chainBack_own : ownKnob Try.prog.godebug = none := by kernel_rfl
theorem chainBack_laidOut : laidOutB Try.prog = true := by kernel_rfl
set_option maxRecDepth 100000 in
theorem chainBack_lifted (os : Os) (started : os.Started) (H : Type) (enc : TypeId × Value → H) :
    ReturnsInHanded {} Try.checked os 8 .any (Rows.chainBackSpec.pre6 enc Try.prog Try.f8 Rows.chainBackRow.domain false) (Rows.chainBackSpec.post enc Try.prog Try.f8 false true false false) := by
  refine law_lifted (C := Try.checked) (tb := 4) chainBack_laidOut chainBack_own started (by kernel_rfl) Try.func8
    (ChangeSpec.witness6 (enc := enc) (C := Try.checked) false ⟨#[], #[.agg #[.int .i64 0, .int .i64 0, .string ⟨#[]⟩, .string ⟨#[]⟩], .string ⟨#[]⟩], []⟩ 8 (by kernel_rfl) (by kernel_rfl) (by kernel_rfl) (by kernel_rfl)) rfl (by kernel_rfl) tyB4 (by kernel_rfl)
    (fun ds hd => match ds, hd with | [d0, d1], _ => ⟨rfl, rfl, rfl⟩) ?_
  intro W base args ds p hval0 hA0 hsz
  have hval : ∀ (j : Nat) t v, Try.f8.params[j]? = some t → args[j]? = some v → Value.okWide Try.prog W .any base t v := hval0
  have hA : DataW.TrodAll enc Try.prog W 0 (fun _ => true) true [23, 9] args.toList ds p := hA0
  rw [Try.params8] at hval
  obtain ⟨v0, vs0, d0, ds0, p0, q0, hargs, rfl, rfl, h0, r0⟩ := trodAll_cons hA
  obtain ⟨v1, vs1, d1, ds1, p1, q1, rfl, rfl, rfl, h1, r1⟩ := trodAll_cons r0
  obtain ⟨rfl, rfl, rfl⟩ := trodAll_nil r1
  obtain rfl : args = #[v0, v1] := by apply Array.toList_inj.1; simpa using hargs
  obtain ⟨x0, rfl, hmb0⟩ := open_mark (hval 0 23 v0 rfl rfl) h0
  obtain ⟨x1, rfl⟩ := open_vs tyS9 (hval 1 9 v1 rfl rfl) h1
  exact c_ChainBack x0 x1 W (Full W) (VLe.refl _)
theorem chainBack_holds : Rows.ChainBackSaid :=
  OpenClaim.holds_of_wide 8 Try.f8 rfl rfl rfl rfl rfl rfl rfl ⟨rfl, rfl, rfl, rfl, rfl⟩ rfl rfl rfl rfl rfl (by kernel_rfl) Try.func8 (by kernel_rfl)
    (of_decide_eq_true (by kernel_rfl)) (by unfold Func.isWrapper; first | (rw [if_pos (by decide +kernel)]; kernel_rfl) | (rw [if_neg (by decide +kernel)]; exact ⟨rfl, rfl⟩))
    (fun os started H enc _ => chainBack_lifted os started H enc)

end Go.Proofs.Ytaogkonanncpiaa
