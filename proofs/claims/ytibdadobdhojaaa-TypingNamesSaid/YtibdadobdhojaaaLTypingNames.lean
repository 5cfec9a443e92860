/- TypingNames: whatever the expression and the columns, the law returns true, and what came in reads as it read. No condition. -/
import Derived.Test.YtibdadobdhojaaaTyNe
import Derived.Test.YtibdadobdhojaaaRows
set_option linter.unusedSimpArgs false
set_option linter.unusedVariables false
set_option linter.unusedVariables false
namespace Go.Proofs.Ytibdadobdhojaaa
open Go Go.Dx Go.RowKit Go.ChangeShapes Go.WideShapes Go.ChangeAt
namespace typingNames
theorem tyB4 : Try.prog.underlying 4 = some .bool := by kernel_rfl
end typingNames
open typingNames
theorem typingNames_own : ownKnob Try.prog.godebug = none := by kernel_rfl
theorem typingNames_laidOut : laidOutB Try.prog = true := by kernel_rfl
set_option maxRecDepth 100000 in
theorem typingNames_lifted (os : Os) (started : os.Started) (H : Type) (enc : TypeId × Value → H) :
    ReturnsInHanded {} Try.checked os 3 .any (Rows.typingNamesSpec.pre6 enc Try.prog Try.f3 Rows.typingNamesRow.domain false) (Rows.typingNamesSpec.post enc Try.prog Try.f3 false true false false) := by
  refine law_lifted (C := Try.checked) (tb := 4) typingNames_laidOut typingNames_own started (by kernel_rfl) Try.func3
    (ChangeSpec.witness6 (enc := enc) (C := Try.checked) false ⟨#[], #[.agg #[.int .i64 0, .int .i64 0, .int .i64 0, .string ⟨#[]⟩, .string ⟨#[]⟩, .slice none 0 0], .slice none 0 0, .slice none 0 0], []⟩ 8 (by kernel_rfl) (by kernel_rfl) (by kernel_rfl) (by kernel_rfl)) rfl (by kernel_rfl) tyB4 (by kernel_rfl)
    (fun ds hd => match ds, hd with | [d0, d1, d2], _ => ⟨rfl, rfl, rfl⟩) ?_
  intro W base args ds p hval0 hA0 hsz
  have hval : ∀ (j : Nat) t v, Try.f3.params[j]? = some t → args[j]? = some v → Value.okWide Try.prog W .any base t v := hval0
  have hA : DataW.TrodAll enc Try.prog W 0 (fun _ => true) true [28, 29, 29] args.toList ds p := hA0
  rw [Try.params3] at hval
  obtain ⟨v0, vs0, d0, ds0, p0, q0, hargs, rfl, rfl, h0, r0⟩ := trodAll_cons hA
  obtain ⟨v1, vs1, d1, ds1, p1, q1, rfl, rfl, rfl, h1, r1⟩ := trodAll_cons r0
  obtain ⟨v2, vs2, d2, ds2, p2, q2, rfl, rfl, rfl, h2, r2⟩ := trodAll_cons r1
  obtain ⟨rfl, rfl, rfl⟩ := trodAll_nil r2
  obtain rfl : args = #[v0, v1, v2] := by apply Array.toList_inj.1; simpa using hargs
  obtain ⟨x0, ad0, cap0, rfl, hop0, hvb0, hx0⟩ := open_expr (hval 0 28 v0 rfl rfl) h0
  obtain ⟨ad1, cap1, x1, rfl, hb1⟩ := open_cols (hval 1 29 v1 rfl rfl) h1
  obtain ⟨ad2, cap2, x2, rfl, hb2⟩ := open_cols (hval 2 29 v2 rfl rfl) h2
  exact c_TypingNames x0 ad0 cap0 ad1 cap1 x1 ad2 cap2 x2 W (Full W) (VLe.refl _) hx0 hop0 hvb0 hb1 hb2
theorem typingNames_holds : Rows.TypingNamesSaid :=
  OpenClaim.holds_of_wide 3 Try.f3 rfl rfl rfl rfl rfl rfl rfl ⟨rfl, rfl, rfl, rfl, rfl⟩ rfl rfl rfl rfl rfl (by kernel_rfl) Try.func3 (by kernel_rfl)
    (of_decide_eq_true (by kernel_rfl)) (by unfold Func.isWrapper; first | (rw [if_pos (by decide +kernel)]; kernel_rfl) | (rw [if_neg (by decide +kernel)]; exact ⟨rfl, rfl⟩))
    (fun os started H enc _ => typingNames_lifted os started H enc)

end Go.Proofs.Ytibdadobdhojaaa
