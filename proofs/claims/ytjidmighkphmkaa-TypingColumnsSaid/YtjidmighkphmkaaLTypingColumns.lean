/- TypingColumns: whatever the columns and the kinds, the law returns true, and what came in reads as it read. No condition. -/
import Derived.Test.YtjidmighkphmkaaDxZ
import Derived.Test.YtjidmighkphmkaaTypOpen
import Derived.Test.YtjidmighkphmkaaT15
import Derived.Test.YtjidmighkphmkaaT15b
import Derived.Test.YtjidmighkphmkaaT15c
import Derived.Test.YtjidmighkphmkaaRows
set_option linter.unusedSimpArgs false
set_option linter.unusedVariables false
set_option linter.unusedVariables false
namespace Go.Proofs.Ytjidmighkphmkaa
open Go Go.Dx Go.RowKit Go.ChangeShapes Go.WideShapes Go.ChangeAt
namespace typingColumns
theorem tyI32 : Try.prog.underlying 32 = some (.int .i64) := by kernel_rfl
end typingColumns
open typingColumns
theorem typingColumns_own : ownKnob Try.prog.godebug = none := by kernel_rfl
theorem typingColumns_laidOut : laidOutB Try.prog = true := by kernel_rfl
set_option maxRecDepth 100000 in
theorem typingColumns_lifted (os : Os) (started : os.Started) (H : Type) (enc : TypeId × Value → H) :
    ReturnsInHanded {} Try.checked os 5 .any (Rows.typingColumnsSpec.pre6 enc Try.prog Try.f5 Rows.typingColumnsRow.domain false) (Rows.typingColumnsSpec.post enc Try.prog Try.f5 false true false false) := by
  refine law_lifted (C := Try.checked) (tb := 4) typingColumns_laidOut typingColumns_own started (by kernel_rfl) Try.func5
    (ChangeSpec.witness6 (enc := enc) (C := Try.checked) false ⟨#[], #[.slice none 0 0, .int .i64 0, .int .i64 0], []⟩ 8 (by kernel_rfl) (by kernel_rfl) (by kernel_rfl) (by kernel_rfl)) rfl (by kernel_rfl) tyB4 (by kernel_rfl)
    (fun ds hd => match ds, hd with | [d0, d1, d2], _ => ⟨rfl, rfl, rfl⟩) ?_
  intro W base args ds p hval0 hA0 hsz
  have hval : ∀ (j : Nat) t v, Try.f5.params[j]? = some t → args[j]? = some v → Value.okWide Try.prog W .any base t v := hval0
  have hA : DataW.TrodAll enc Try.prog W 0 (fun _ => true) true [38, 32, 32] args.toList ds p := hA0
  rw [Try.params5] at hval
  obtain ⟨v0, vs0, d0, ds0, p0, q0, hargs, rfl, rfl, h0, r0⟩ := trodAll_cons hA
  obtain ⟨v1, vs1, d1, ds1, p1, q1, rfl, rfl, rfl, h1, r1⟩ := trodAll_cons r0
  obtain ⟨v2, vs2, d2, ds2, p2, q2, rfl, rfl, rfl, h2, r2⟩ := trodAll_cons r1
  obtain ⟨rfl, rfl, rfl⟩ := trodAll_nil r2
  obtain rfl : args = #[v0, v1, v2] := by apply Array.toList_inj.1; simpa using hargs
  obtain ⟨ad0, cap0, x0, rfl, hb0⟩ := open_cols (hval 0 38 v0 rfl rfl) h0
  obtain ⟨x1, rfl, rfl, rfl, w1⟩ := open_int tyI32 (hval 1 32 v1 rfl rfl) h1
  have w1 := int_bounds w1
  obtain ⟨x2, rfl, rfl, rfl, w2⟩ := open_int tyI32 (hval 2 32 v2 rfl rfl) h2
  have w2 := int_bounds w2
  exact c_TypingColumns ad0 cap0 x0 x1 x2 W (Full W) (VLe.refl _) hb0
theorem typingColumns_holds : Rows.TypingColumnsSaid :=
  OpenClaim.holds_of_wide 5 Try.f5 rfl rfl rfl rfl rfl rfl rfl ⟨rfl, rfl, rfl, rfl, rfl⟩ rfl rfl rfl rfl rfl (by kernel_rfl) Try.func5 (by kernel_rfl)
    (of_decide_eq_true (by kernel_rfl)) (by unfold Func.isWrapper; first | (rw [if_pos (by decide +kernel)]; kernel_rfl) | (rw [if_neg (by decide +kernel)]; exact ⟨rfl, rfl⟩))
    (fun os started H enc _ => typingColumns_lifted os started H enc)

end Go.Proofs.Ytjidmighkphmkaa
