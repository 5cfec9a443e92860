/- CellTyped: whatever the cell, the kind and the columns, the law returns true, and what came in reads as it read. No condition. -/
import Derived.Test.YtkjhlfleojcgjaaGreatDoorCtAe
import Derived.Test.YtkjhlfleojcgjaaGreatDoorRows
import Derived.Test.YtkjhlfleojcgjaaGreatDoorTie
import Derived.Test.YtkjhlfleojcgjaaGreatDoorCards
import Derived.SevenTiedAt
set_option linter.unusedSimpArgs false
set_option linter.unusedVariables false
set_option linter.unusedVariables false
namespace Go.Proofs.YtkjhlfleojcgjaaGreatDoor
open Go Go.Dx Go.RowKit Go.ChangeShapes Go.WideShapes Go.ChangeAt
namespace cellTyped
theorem tyI33 : Tryz.prog.underlying 33 = some (.int .i64) := by kernel_rfl
theorem tyB4 : Tryz.prog.underlying 4 = some .bool := by kernel_rfl
end cellTyped
open cellTyped
theorem cellTyped_own : ownKnob Tryz.prog.godebug = none := by kernel_rfl
theorem cellTyped_laidOut : laidOutB Tryz.prog = true := by kernel_rfl
set_option maxRecDepth 100000 in
theorem cellTyped_lifted (os : Os) (started : os.Started) (H : Type) (enc : TypeId × Value → H) :
    ReturnsInHanded {} Tryz.checked os 8 .any (fun w args => (Rows.cellTypedSpec.pre enc Tryz.prog Tryz.f8 [] false w args ∧ laidMetH Tryz.prog laidL w) ∧ sizedMet enc Tryz.prog Tryz.f8 (OpenSpec.ofChange Rows.cellTypedSpec) false w args) (Rows.cellTypedSpec.post enc Tryz.prog Tryz.f8 false true false false) := by
  refine law_liftedL (laid := laidL) (C := Tryz.checked) (tb := 4) cellTyped_laidOut cellTyped_own started (by kernel_rfl) Tryz.func8
    (ChangeSpec.witness_shaped (enc := enc) (C := Tryz.checked) (os := os) (X := fun w _ => laidMetH Tryz.prog laidL w) false (World.doorLaid Tryz.prog 400 os) #[.agg #[.bool false, .bool false, .slice none 0 0], .int .i64 0, .slice none 0 0] 8 rfl (World.shaped_of_RefB (by kernel_rfl) (by kernel_rfl)) (by kernel_rfl) (by kernel_rfl) (by kernel_rfl) (door_met os _)) rfl (by kernel_rfl) tyB4 (by kernel_rfl)
    (fun ds hd => match ds, hd with | [d0, d1, d2], _ => ⟨rfl, rfl, rfl⟩) ?_
  intro W base args ds p hval0 hA0 hsz hLaid
  have hval : ∀ (j : Nat) t v, Tryz.f8.params[j]? = some t → args[j]? = some v → Value.okWide Tryz.prog W .any base t v := hval0
  have hA : DataW.TrodAll enc Tryz.prog W 0 (fun _ => true) true [25, 33, 36] args.toList ds p := hA0
  rw [Tryz.params8] at hval
  obtain ⟨v0, vs0, d0, ds0, p0, q0, hargs, rfl, rfl, h0, r0⟩ := trodAll_cons hA
  obtain ⟨v1, vs1, d1, ds1, p1, q1, rfl, rfl, rfl, h1, r1⟩ := trodAll_cons r0
  obtain ⟨v2, vs2, d2, ds2, p2, q2, rfl, rfl, rfl, h2, r2⟩ := trodAll_cons r1
  obtain ⟨rfl, rfl, rfl⟩ := trodAll_nil r2
  obtain rfl : args = #[v0, v1, v2] := by apply Array.toList_inj.1; simpa using hargs
  obtain ⟨x0, ad0, cap0, rfl, hx0⟩ := open_cel (hval 0 25 v0 rfl rfl) h0
  obtain ⟨x1, rfl, rfl, rfl, w1⟩ := open_int tyI33 (hval 1 33 v1 rfl rfl) h1
  have w1 := int_bounds w1
  obtain ⟨ad2, cap2, x2, rfl, hb2⟩ := open_cols (hval 2 36 v2 rfl rfl) h2
  exact c_CellTyped x0 ad0 cap0 x1 ad2 cap2 x2 W (Full W) (VLe.refl _) hx0 hb2 (pow_of_laid hLaid)
theorem cellTyped_row : Rows.CellTypedSaid :=
  OpenClaim.holds_of_wide 8 Tryz.f8 rfl rfl rfl rfl rfl rfl rfl ⟨rfl, rfl, rfl, rfl, rfl⟩ rfl rfl rfl rfl rfl (by kernel_rfl) Tryz.func8 (by kernel_rfl)
    (of_decide_eq_true (by kernel_rfl)) (by unfold Func.isWrapper; first | (rw [if_pos (by decide +kernel)]; kernel_rfl) | (rw [if_neg (by decide +kernel)]; exact ⟨rfl, rfl⟩))
    (fun os started H enc _ => cellTyped_lifted os started H enc)
set_option maxRecDepth 100000 in
theorem cellTypedCard_holds : Rows.CellTypedCardSaid :=
  Claim7.holds_tied_plain_at .later [] [.data, .data, .data] true (true, "661586646b6cb4b34650c7da349da32f912dd5ceb858f3c21d6cdc7492113511") true
    cellTyped_row (fun _ h => by cases h) (by kernel_rfl) (fun _ h => by cases h) cellTyped_row_tie rfl ⟨rfl, rfl⟩ (by kernel_rfl) rfl
    (fun f fn hf hfn => by
      obtain rfl : f = 8 := Option.some.inj ((show Tryz.prog.funcNamed "decretal/decretallaw17.CellTyped" = some 8 by kernel_rfl).symm.trans hf) |>.symm
      obtain rfl : fn = Tryz.f8 := (Option.some.inj (Tryz.func8.symm.trans hfn)).symm
      exact ⟨by kernel_rfl, fun j t ht => by
        rw [Tryz.params8] at ht
        have hm : t ∈ [25, 33, 36] := by simpa using Array.mem_of_getElem? ht
        have hall : ([25, 33, 36].all fun u => !Tryz.prog.wantsStandIn u) = true := by kernel_rfl
        exact (show Tryz.prog.wantsStandIn t = false by simpa using List.all_eq_true.1 hall t hm)⟩)
    (by kernel_rfl)

end Go.Proofs.YtkjhlfleojcgjaaGreatDoor
