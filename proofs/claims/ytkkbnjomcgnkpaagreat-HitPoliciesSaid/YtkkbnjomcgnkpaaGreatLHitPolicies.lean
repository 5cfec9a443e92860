/- HitPolicies: whatever the table and the values, the law returns true, and what came in reads as it read. No condition. -/
import Derived.Test.YtkkbnjomcgnkpaaGreatHpe
import Derived.Test.YtkkbnjomcgnkpaaGreatRows
set_option linter.unusedSimpArgs false
set_option linter.unusedVariables false
set_option linter.unusedVariables false
namespace Go.Proofs.YtkkbnjomcgnkpaaGreat
open Go Go.Dx Go.RowKit Go.ChangeShapes Go.WideShapes Go.ChangeAt
namespace hitPolicies
theorem tyB4 : Tryz.prog.underlying 4 = some .bool := by kernel_rfl
end hitPolicies
open hitPolicies
theorem hitPolicies_own : ownKnob Tryz.prog.godebug = none := by kernel_rfl
theorem hitPolicies_laidOut : laidOutB Tryz.prog = true := by kernel_rfl
set_option maxRecDepth 100000 in
theorem hitPolicies_lifted (os : Os) (started : os.Started) (H : Type) (enc : TypeId × Value → H) :
    ReturnsInHanded {} Tryz.checked os 5 .any (Rows.hitPoliciesSpec.pre6 enc Tryz.prog Tryz.f5 Rows.hitPoliciesRow.domain false) (Rows.hitPoliciesSpec.post enc Tryz.prog Tryz.f5 false true false false) := by
  refine law_lifted (C := Tryz.checked) (tb := 4) hitPolicies_laidOut hitPolicies_own started (by kernel_rfl) Tryz.func5
    (ChangeSpec.witness6 (enc := enc) (C := Tryz.checked) false ⟨#[], #[.agg #[.string ⟨#[]⟩, .slice none 0 0, .slice none 0 0, .int .i64 0, .int .i64 0, .slice none 0 0], .slice none 0 0], []⟩ 8 (by kernel_rfl) (by kernel_rfl) (by kernel_rfl) (by kernel_rfl)) rfl (by kernel_rfl) tyB4 (by kernel_rfl)
    (fun ds hd => match ds, hd with | [d0, d1], _ => ⟨rfl, rfl, rfl⟩) ?_
  intro W base args ds p hval0 hA0 hsz
  have hval : ∀ (j : Nat) t v, Tryz.f5.params[j]? = some t → args[j]? = some v → Value.okWide Tryz.prog W .any base t v := hval0
  have hA : DataW.TrodAll enc Tryz.prog W 0 (fun _ => true) true [27, 28] args.toList ds p := hA0
  rw [Tryz.params5] at hval
  obtain ⟨v0, vs0, d0, ds0, p0, q0, hargs, rfl, rfl, h0, r0⟩ := trodAll_cons hA
  obtain ⟨v1, vs1, d1, ds1, p1, q1, rfl, rfl, rfl, h1, r1⟩ := trodAll_cons r0
  obtain ⟨rfl, rfl, rfl⟩ := trodAll_nil r1
  obtain rfl : args = #[v0, v1] := by apply Array.toList_inj.1; simpa using hargs
  obtain ⟨x0, a0, rfl, hx0⟩ := open_tab (hval 0 27 v0 rfl rfl) h0
  obtain ⟨ad1, cap1, x1, rfl, hb1, hvb1⟩ := open_vals (hval 1 28 v1 rfl rfl) h1
  exact c_HitPolicies x0 a0 ad1 cap1 x1 W (Full W) (VLe.refl _) hx0 hb1 hvb1
theorem hitPolicies_holds : Rows.HitPoliciesSaid :=
  OpenClaim.holds_of_wide 5 Tryz.f5 rfl rfl rfl rfl rfl rfl rfl ⟨rfl, rfl, rfl, rfl, rfl⟩ rfl rfl rfl rfl rfl (by kernel_rfl) Tryz.func5 (by kernel_rfl)
    (of_decide_eq_true (by kernel_rfl)) (by unfold Func.isWrapper; first | (rw [if_pos (by decide +kernel)]; kernel_rfl) | (rw [if_neg (by decide +kernel)]; exact ⟨rfl, rfl⟩))
    (fun os started H enc _ => hitPolicies_lifted os started H enc)

end Go.Proofs.YtkkbnjomcgnkpaaGreat
