/- CellNot: whatever the cell, the test, the value, the columns and the values, the law returns true, and what came in reads as it read. No condition. -/
import Derived.Test.YtkjhlfleojcgjaaGreatDoorCtNe
import Derived.Test.YtkjhlfleojcgjaaGreatDoorRows
import Derived.Test.YtkjhlfleojcgjaaGreatDoorTie
import Derived.Test.YtkjhlfleojcgjaaGreatDoorCards
import Derived.SevenTiedAt
set_option linter.unusedSimpArgs false
set_option linter.unusedVariables false
set_option linter.unusedVariables false
namespace Go.Proofs.YtkjhlfleojcgjaaGreatDoor
open Go Go.Dx Go.RowKit Go.ChangeShapes Go.WideShapes Go.ChangeAt
namespace cellNot
theorem tyB4 : Tryz.prog.underlying 4 = some .bool := by kernel_rfl
end cellNot
open cellNot
theorem cellNot_own : ownKnob Tryz.prog.godebug = none := by kernel_rfl
theorem cellNot_laidOut : laidOutB Tryz.prog = true := by kernel_rfl
set_option maxRecDepth 100000 in
theorem cellNot_lifted (os : Os) (started : os.Started) (H : Type) (enc : TypeId × Value → H) :
    ReturnsInHanded {} Tryz.checked os 5 .any (fun w args => (Rows.cellNotSpec.pre enc Tryz.prog Tryz.f5 [] false w args ∧ laidMetH Tryz.prog laidL w) ∧ sizedMet enc Tryz.prog Tryz.f5 (OpenSpec.ofChange Rows.cellNotSpec) false w args) (Rows.cellNotSpec.post enc Tryz.prog Tryz.f5 false true false false) := by
  refine law_liftedL (laid := laidL) (C := Tryz.checked) (tb := 4) cellNot_laidOut cellNot_own started (by kernel_rfl) Tryz.func5
    (ChangeSpec.witness_shaped (enc := enc) (C := Tryz.checked) (os := os) (X := fun w _ => laidMetH Tryz.prog laidL w) false (World.doorLaid Tryz.prog 400 os) #[.agg #[.bool false, .bool false, .slice none 0 0], .agg #[.int .i64 0, .int .i64 0, .int .i64 0, .int .i64 0, .string ⟨#[]⟩, .string ⟨#[]⟩, .slice none 0 0, .int .i64 0, .int .i64 0, .int .i64 0, .string ⟨#[]⟩, .string ⟨#[]⟩, .slice none 0 0, .bool false, .bool false], .agg #[.int .i64 0, .int .i64 0, .string ⟨#[]⟩], .slice none 0 0, .slice none 0 0] 8 rfl (World.shaped_of_RefB (by kernel_rfl) (by kernel_rfl)) (by kernel_rfl) (by kernel_rfl) (by kernel_rfl) (door_met os _)) rfl (by kernel_rfl) tyB4 (by kernel_rfl)
    (fun ds hd => match ds, hd with | [d0, d1, d2, d3, d4], _ => ⟨rfl, rfl, rfl⟩) ?_
  intro W base args ds p hval0 hA0 hsz hLaid
  have hval : ∀ (j : Nat) t v, Tryz.f5.params[j]? = some t → args[j]? = some v → Value.okWide Tryz.prog W .any base t v := hval0
  have hA : DataW.TrodAll enc Tryz.prog W 0 (fun _ => true) true [25, 52, 35, 36, 37] args.toList ds p := hA0
  rw [Tryz.params5] at hval
  obtain ⟨v0, vs0, d0, ds0, p0, q0, hargs, rfl, rfl, h0, r0⟩ := trodAll_cons hA
  obtain ⟨v1, vs1, d1, ds1, p1, q1, rfl, rfl, rfl, h1, r1⟩ := trodAll_cons r0
  obtain ⟨v2, vs2, d2, ds2, p2, q2, rfl, rfl, rfl, h2, r2⟩ := trodAll_cons r1
  obtain ⟨v3, vs3, d3, ds3, p3, q3, rfl, rfl, rfl, h3, r3⟩ := trodAll_cons r2
  obtain ⟨v4, vs4, d4, ds4, p4, q4, rfl, rfl, rfl, h4, r4⟩ := trodAll_cons r3
  obtain ⟨rfl, rfl, rfl⟩ := trodAll_nil r4
  obtain rfl : args = #[v0, v1, v2, v3, v4] := by apply Array.toList_inj.1; simpa using hargs
  obtain ⟨x0, ad0, cap0, rfl, hx0⟩ := open_cel (hval 0 25 v0 rfl rfl) h0
  obtain ⟨x1, aa1, ca1, ab1, cb1, rfl, hxa1, hxb1, hk1⟩ := open_tst (hval 1 52 v1 rfl rfl) h1
  obtain ⟨x2, rfl, hvb2, hvs2⟩ := open_val (hval 2 35 v2 rfl rfl) h2
  obtain ⟨ad3, cap3, x3, rfl, hb3⟩ := open_cols (hval 3 36 v3 rfl rfl) h3
  obtain ⟨ad4, cap4, x4, rfl, hb4, hvb4⟩ := open_vals (hval 4 37 v4 rfl rfl) h4
  exact c_CellNot x0 ad0 cap0 x1 aa1 ca1 ab1 cb1 x2 ad3 cap3 x3 ad4 cap4 x4 hvb2 hvs2 hvb4 W (Full W) (VLe.refl _) hx0 hxa1 hxb1 hk1 hb3 hb4 (pow_of_laid hLaid)
theorem cellNot_row : Rows.CellNotSaid :=
  OpenClaim.holds_of_wide 5 Tryz.f5 rfl rfl rfl rfl rfl rfl rfl ⟨rfl, rfl, rfl, rfl, rfl⟩ rfl rfl rfl rfl rfl (by kernel_rfl) Tryz.func5 (by kernel_rfl)
    (of_decide_eq_true (by kernel_rfl)) (by unfold Func.isWrapper; first | (rw [if_pos (by decide +kernel)]; kernel_rfl) | (rw [if_neg (by decide +kernel)]; exact ⟨rfl, rfl⟩))
    (fun os started H enc _ => cellNot_lifted os started H enc)
set_option maxRecDepth 100000 in
theorem cellNotCard_holds : Rows.CellNotCardSaid :=
  Claim7.holds_tied_plain_at .later [] [.data, .data, .data] true (true, "661586646b6cb4b34650c7da349da32f912dd5ceb858f3c21d6cdc7492113511") true
    cellNot_row (fun _ h => by cases h) (by kernel_rfl) (fun _ h => by cases h) cellNot_row_tie rfl ⟨rfl, rfl⟩ (by kernel_rfl) rfl
    (fun f fn hf hfn => by
      obtain rfl : f = 5 := Option.some.inj ((show Tryz.prog.funcNamed "decretal/decretallaw17.CellNot" = some 5 by kernel_rfl).symm.trans hf) |>.symm
      obtain rfl : fn = Tryz.f5 := (Option.some.inj (Tryz.func5.symm.trans hfn)).symm
      exact ⟨by kernel_rfl, fun j t ht => by
        rw [Tryz.params5] at ht
        have hm : t ∈ [25, 52, 35, 36, 37] := by simpa using Array.mem_of_getElem? ht
        have hall : ([25, 52, 35, 36, 37].all fun u => !Tryz.prog.wantsStandIn u) = true := by kernel_rfl
        exact (show Tryz.prog.wantsStandIn t = false by simpa using List.all_eq_true.1 hall t hm)⟩)
    (by kernel_rfl)

end Go.Proofs.YtkjhlfleojcgjaaGreatDoor
