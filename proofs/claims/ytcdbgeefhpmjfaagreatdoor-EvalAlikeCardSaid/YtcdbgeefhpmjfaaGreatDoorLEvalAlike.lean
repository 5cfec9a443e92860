/- EvalAlike: whatever the expression, the columns and the values, the law returns true, and what came in reads as it read. No condition. -/
import Derived.Test.YtcdbgeefhpmjfaaGreatDoorEaMd
import Derived.Test.YtcdbgeefhpmjfaaGreatDoorRows
import Derived.Test.YtcdbgeefhpmjfaaGreatDoorTie
import Derived.Test.YtcdbgeefhpmjfaaGreatDoorCards
import Derived.SevenTiedAt
set_option linter.unusedSimpArgs false
set_option linter.unusedVariables false
set_option linter.unusedVariables false
namespace Go.Proofs.YtcdbgeefhpmjfaaGreatDoor
open Go Go.Dx Go.RowKit Go.ChangeShapes Go.WideShapes Go.ChangeAt
namespace evalAlike
theorem tyB4 : Tryz.prog.underlying 4 = some .bool := by kernel_rfl
end evalAlike
open evalAlike
theorem evalAlike_own : ownKnob Tryz.prog.godebug = none := by kernel_rfl
theorem evalAlike_laidOut : laidOutB Tryz.prog = true := by kernel_rfl
set_option maxRecDepth 100000 in
theorem evalAlike_lifted (os : Os) (started : os.Started) (H : Type) (enc : TypeId × Value → H) :
    ReturnsInHanded {} Tryz.checked os 3 .any (fun w args => (Rows.evalAlikeSpec.pre enc Tryz.prog Tryz.f3 [] false w args ∧ laidMetH Tryz.prog laidL w) ∧ sizedMet enc Tryz.prog Tryz.f3 (OpenSpec.ofChange Rows.evalAlikeSpec) false w args) (Rows.evalAlikeSpec.post enc Tryz.prog Tryz.f3 false true false false) := by
  refine law_liftedL (laid := laidL) (C := Tryz.checked) (tb := 4) evalAlike_laidOut evalAlike_own started (by kernel_rfl) Tryz.func3
    (ChangeSpec.witness_shaped (enc := enc) (C := Tryz.checked) (os := os) (X := fun w _ => laidMetH Tryz.prog laidL w) false (World.doorLaid Tryz.prog 400 os) #[.agg #[.int .i64 0, .int .i64 0, .int .i64 0, .string ⟨#[]⟩, .string ⟨#[]⟩, .slice none 0 0], .slice none 0 0, .slice none 0 0, .slice none 0 0] 8 rfl (World.shaped_of_RefB (by kernel_rfl) (by kernel_rfl)) (by kernel_rfl) (by kernel_rfl) (by kernel_rfl) (door_met os _)) rfl (by kernel_rfl) tyB4 (by kernel_rfl)
    (fun ds hd => match ds, hd with | [d0, d1, d2, d3], _ => ⟨rfl, rfl, rfl⟩) ?_
  intro W base args ds p hval0 hA0 hsz hLaid
  have hval : ∀ (j : Nat) t v, Tryz.f3.params[j]? = some t → args[j]? = some v → Value.okWide Tryz.prog W .any base t v := hval0
  have hA : DataW.TrodAll enc Tryz.prog W 0 (fun _ => true) true [28, 29, 30, 30] args.toList ds p := hA0
  rw [Tryz.params3] at hval
  obtain ⟨v0, vs0, d0, ds0, p0, q0, hargs, rfl, rfl, h0, r0⟩ := trodAll_cons hA
  obtain ⟨v1, vs1, d1, ds1, p1, q1, rfl, rfl, rfl, h1, r1⟩ := trodAll_cons r0
  obtain ⟨v2, vs2, d2, ds2, p2, q2, rfl, rfl, rfl, h2, r2⟩ := trodAll_cons r1
  obtain ⟨v3, vs3, d3, ds3, p3, q3, rfl, rfl, rfl, h3, r3⟩ := trodAll_cons r2
  obtain ⟨rfl, rfl, rfl⟩ := trodAll_nil r3
  obtain rfl : args = #[v0, v1, v2, v3] := by apply Array.toList_inj.1; simpa using hargs
  obtain ⟨x0, ad0, cap0, rfl, hop0, hvb0, hx0⟩ := open_expr (hval 0 28 v0 rfl rfl) h0
  obtain ⟨ad1, cap1, x1, rfl, hb1⟩ := open_cols (hval 1 29 v1 rfl rfl) h1
  obtain ⟨ad2, cap2, x2, rfl, hb2, hvb2⟩ := open_vals (hval 2 30 v2 rfl rfl) h2
  obtain ⟨ad3, cap3, x3, rfl, hb3, hvb3⟩ := open_vals (hval 3 30 v3 rfl rfl) h3
  exact c_EvalAlike x0 ad0 cap0 ad1 cap1 x1 ad2 cap2 x2 ad3 cap3 x3 W (Full W) (VLe.refl _) hx0 hop0 hvb0 hb1 hb2 hb3 (fun v hv => (hvb2 v hv).1) (fun v hv => (hvb3 v hv).1) (pow_of_laid hLaid)
theorem evalAlike_row : Rows.EvalAlikeSaid :=
  OpenClaim.holds_of_wide 3 Tryz.f3 rfl rfl rfl rfl rfl rfl rfl ⟨rfl, rfl, rfl, rfl, rfl⟩ rfl rfl rfl rfl rfl (by kernel_rfl) Tryz.func3 (by kernel_rfl)
    (of_decide_eq_true (by kernel_rfl)) (by unfold Func.isWrapper; first | (rw [if_pos (by decide +kernel)]; kernel_rfl) | (rw [if_neg (by decide +kernel)]; exact ⟨rfl, rfl⟩))
    (fun os started H enc _ => evalAlike_lifted os started H enc)
set_option maxRecDepth 100000 in
theorem evalAlikeCard_holds : Rows.EvalAlikeCardSaid :=
  Claim7.holds_tied_plain_at .later [] [.data, .data, .data] true (true, "a277a1ddd75770dc586a2396baf9b27bd3548b1e8420fd7db7a09e6050ff6ce6") true
    evalAlike_row (fun _ h => by cases h) (by kernel_rfl) (fun _ h => by cases h) evalAlike_row_tie rfl ⟨rfl, rfl⟩ (by kernel_rfl) rfl
    (fun f fn hf hfn => by
      obtain rfl : f = 3 := Option.some.inj ((show Tryz.prog.funcNamed "decretal/decretallaw16.EvalAlike" = some 3 by kernel_rfl).symm.trans hf) |>.symm
      obtain rfl : fn = Tryz.f3 := (Option.some.inj (Tryz.func3.symm.trans hfn)).symm
      exact ⟨by kernel_rfl, fun j t ht => by
        rw [Tryz.params3] at ht
        have hm : t ∈ [28, 29, 30, 30] := by simpa using Array.mem_of_getElem? ht
        have hall : ([28, 29, 30, 30].all fun u => !Tryz.prog.wantsStandIn u) = true := by kernel_rfl
        exact (show Tryz.prog.wantsStandIn t = false by simpa using List.all_eq_true.1 hall t hm)⟩)
    (by kernel_rfl)

end Go.Proofs.YtcdbgeefhpmjfaaGreatDoor
