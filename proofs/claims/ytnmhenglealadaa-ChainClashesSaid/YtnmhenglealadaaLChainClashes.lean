/- ChainClashes: whatever the sums and the texts, the law returns true, and what came in reads as it read. No condition. -/
import Derived.Test.YtnmhenglealadaaChTe
import Derived.Test.YtnmhenglealadaaRows
set_option linter.unusedSimpArgs false
set_option linter.unusedVariables false
set_option linter.unusedVariables false
namespace Go.Proofs.Ytnmhenglealadaa
open Go Go.Dx Go.RowKit Go.ChangeShapes Go.WideShapes Go.ChangeAt
namespace chainClashes
theorem tyS9 : Try.prog.underlying 9 = some .string := by kernel_rfl
theorem tyL22 : Try.prog.underlying 22 = some (.slice 9) := by kernel_rfl
theorem tyB4 : Try.prog.underlying 4 = some .bool := by kernel_rfl
end chainClashes
open chainClashes
theorem chainClashes_own : ownKnob Try.prog.godebug = none := by kernel_rfl
theorem chainClashes_laidOut : laidOutB Try.prog = true := by kernel_rfl
set_option maxRecDepth 100000 in
theorem chainClashes_lifted (os : Os) (started : os.Started) (H : Type) (enc : TypeId × Value → H) :
    ReturnsInHanded {} Try.checked os 3 .any (Rows.chainClashesSpec.pre6 enc Try.prog Try.f3 Rows.chainClashesRow.domain false) (Rows.chainClashesSpec.post enc Try.prog Try.f3 false true false false) := by
  refine law_lifted (C := Try.checked) (tb := 4) chainClashes_laidOut chainClashes_own started (by kernel_rfl) Try.func3
    (ChangeSpec.witness6 (enc := enc) (C := Try.checked) false ⟨#[], #[.string ⟨#[]⟩, .string ⟨#[]⟩, .slice none 0 0, .slice none 0 0], []⟩ 8 (by kernel_rfl) (by kernel_rfl) (by kernel_rfl) (by kernel_rfl)) rfl (by kernel_rfl) tyB4 (by kernel_rfl)
    (fun ds hd => match ds, hd with | [d0, d1, d2, d3], _ => ⟨rfl, rfl, rfl⟩) ?_
  intro W base args ds p hval0 hA0 hsz
  have hval : ∀ (j : Nat) t v, Try.f3.params[j]? = some t → args[j]? = some v → Value.okWide Try.prog W .any base t v := hval0
  have hA : DataW.TrodAll enc Try.prog W 0 (fun _ => true) true [9, 9, 22, 22] args.toList ds p := hA0
  rw [Try.params3] at hval
  obtain ⟨v0, vs0, d0, ds0, p0, q0, hargs, rfl, rfl, h0, r0⟩ := trodAll_cons hA
  obtain ⟨v1, vs1, d1, ds1, p1, q1, rfl, rfl, rfl, h1, r1⟩ := trodAll_cons r0
  obtain ⟨v2, vs2, d2, ds2, p2, q2, rfl, rfl, rfl, h2, r2⟩ := trodAll_cons r1
  obtain ⟨v3, vs3, d3, ds3, p3, q3, rfl, rfl, rfl, h3, r3⟩ := trodAll_cons r2
  obtain ⟨rfl, rfl, rfl⟩ := trodAll_nil r3
  obtain rfl : args = #[v0, v1, v2, v3] := by apply Array.toList_inj.1; simpa using hargs
  obtain ⟨x0, rfl⟩ := open_vs tyS9 (hval 0 9 v0 rfl rfl) h0
  obtain ⟨x1, rfl⟩ := open_vs tyS9 (hval 1 9 v1 rfl rfl) h1
  obtain ⟨ad2, cap2, x2, rfl, hb2⟩ := open_texts tyL22 tyS9 (by kernel_rfl) (hval 2 22 v2 rfl rfl) h2
  obtain ⟨ad3, cap3, x3, rfl, hb3⟩ := open_texts tyL22 tyS9 (by kernel_rfl) (hval 3 22 v3 rfl rfl) h3
  exact c_ChainClashes x0 x1 ad2 cap2 x2 ad3 cap3 x3 W (Full W) (VLe.refl _) hb2 hb3
theorem chainClashes_holds : Rows.ChainClashesSaid :=
  OpenClaim.holds_of_wide 3 Try.f3 rfl rfl rfl rfl rfl rfl rfl ⟨rfl, rfl, rfl, rfl, rfl⟩ rfl rfl rfl rfl rfl (by kernel_rfl) Try.func3 (by kernel_rfl)
    (of_decide_eq_true (by kernel_rfl)) (by unfold Func.isWrapper; first | (rw [if_pos (by decide +kernel)]; kernel_rfl) | (rw [if_neg (by decide +kernel)]; exact ⟨rfl, rfl⟩))
    (fun os started H enc _ => chainClashes_lifted os started H enc)

end Go.Proofs.Ytnmhenglealadaa
