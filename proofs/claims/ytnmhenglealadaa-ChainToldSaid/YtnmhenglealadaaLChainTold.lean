/- ChainTold: whatever the mark and the texts, the law returns true, and what came in reads as it read. No condition. -/
import Derived.Test.YtnmhenglealadaaChTe
import Derived.Test.YtnmhenglealadaaRows
set_option linter.unusedSimpArgs false
set_option linter.unusedVariables false
set_option linter.unusedVariables false
namespace Go.Proofs.Ytnmhenglealadaa
open Go Go.Dx Go.RowKit Go.ChangeShapes Go.WideShapes Go.ChangeAt
namespace chainTold
theorem tyS9 : Try.prog.underlying 9 = some .string := by kernel_rfl
theorem tyL22 : Try.prog.underlying 22 = some (.slice 9) := by kernel_rfl
theorem tyB4 : Try.prog.underlying 4 = some .bool := by kernel_rfl
end chainTold
open chainTold
theorem chainTold_own : ownKnob Try.prog.godebug = none := by kernel_rfl
theorem chainTold_laidOut : laidOutB Try.prog = true := by kernel_rfl
set_option maxRecDepth 100000 in
theorem chainTold_lifted (os : Os) (started : os.Started) (H : Type) (enc : TypeId × Value → H) :
    ReturnsInHanded {} Try.checked os 4 .any (Rows.chainToldSpec.pre6 enc Try.prog Try.f4 Rows.chainToldRow.domain false) (Rows.chainToldSpec.post enc Try.prog Try.f4 false true false false) := by
  refine law_lifted (C := Try.checked) (tb := 4) chainTold_laidOut chainTold_own started (by kernel_rfl) Try.func4
    (ChangeSpec.witness6 (enc := enc) (C := Try.checked) false ⟨#[], #[.agg #[.int .i64 0, .int .i64 0, .string ⟨#[]⟩, .string ⟨#[]⟩], .slice none 0 0, .slice none 0 0], []⟩ 8 (by kernel_rfl) (by kernel_rfl) (by kernel_rfl) (by kernel_rfl)) rfl (by kernel_rfl) tyB4 (by kernel_rfl)
    (fun ds hd => match ds, hd with | [d0, d1, d2], _ => ⟨rfl, rfl, rfl⟩) ?_
  intro W base args ds p hval0 hA0 hsz
  have hval : ∀ (j : Nat) t v, Try.f4.params[j]? = some t → args[j]? = some v → Value.okWide Try.prog W .any base t v := hval0
  have hA : DataW.TrodAll enc Try.prog W 0 (fun _ => true) true [29, 22, 22] args.toList ds p := hA0
  rw [Try.params4] at hval
  obtain ⟨v0, vs0, d0, ds0, p0, q0, hargs, rfl, rfl, h0, r0⟩ := trodAll_cons hA
  obtain ⟨v1, vs1, d1, ds1, p1, q1, rfl, rfl, rfl, h1, r1⟩ := trodAll_cons r0
  obtain ⟨v2, vs2, d2, ds2, p2, q2, rfl, rfl, rfl, h2, r2⟩ := trodAll_cons r1
  obtain ⟨rfl, rfl, rfl⟩ := trodAll_nil r2
  obtain rfl : args = #[v0, v1, v2] := by apply Array.toList_inj.1; simpa using hargs
  obtain ⟨x0, rfl, hmb0⟩ := open_mark (hval 0 29 v0 rfl rfl) h0
  obtain ⟨ad1, cap1, x1, rfl, hb1⟩ := open_texts tyL22 tyS9 (by kernel_rfl) (hval 1 22 v1 rfl rfl) h1
  obtain ⟨ad2, cap2, x2, rfl, hb2⟩ := open_texts tyL22 tyS9 (by kernel_rfl) (hval 2 22 v2 rfl rfl) h2
  exact c_ChainTold x0 ad1 cap1 x1 ad2 cap2 x2 hmb0 W (Full W) (VLe.refl _) hb1 hb2
theorem chainTold_holds : Rows.ChainToldSaid :=
  OpenClaim.holds_of_wide 4 Try.f4 rfl rfl rfl rfl rfl rfl rfl ⟨rfl, rfl, rfl, rfl, rfl⟩ rfl rfl rfl rfl rfl (by kernel_rfl) Try.func4 (by kernel_rfl)
    (of_decide_eq_true (by kernel_rfl)) (by unfold Func.isWrapper; first | (rw [if_pos (by decide +kernel)]; kernel_rfl) | (rw [if_neg (by decide +kernel)]; exact ⟨rfl, rfl⟩))
    (fun os started H enc _ => chainTold_lifted os started H enc)

end Go.Proofs.Ytnmhenglealadaa
