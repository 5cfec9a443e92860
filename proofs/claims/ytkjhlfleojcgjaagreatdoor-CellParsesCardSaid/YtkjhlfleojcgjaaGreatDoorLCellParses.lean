/- CellParses: whatever the text, the law returns true, and what came in reads as it read. No condition. -/
import Derived.Test.YtkjhlfleojcgjaaGreatDoorCtPe
import Derived.Test.YtkjhlfleojcgjaaGreatDoorRows
import Derived.Test.YtkjhlfleojcgjaaGreatDoorTie
import Derived.Test.YtkjhlfleojcgjaaGreatDoorCards
import Derived.SevenTiedAt
set_option linter.unusedSimpArgs false
set_option linter.unusedVariables false
set_option linter.unusedVariables false
namespace Go.Proofs.YtkjhlfleojcgjaaGreatDoor
open Go Go.Dx Go.RowKit Go.ChangeShapes Go.WideShapes Go.ChangeAt
namespace cellParses
theorem tyS9 : Tryz.prog.underlying 9 = some .string := by kernel_rfl
theorem tyB4 : Tryz.prog.underlying 4 = some .bool := by kernel_rfl
end cellParses
open cellParses
theorem cellParses_own : ownKnob Tryz.prog.godebug = none := by kernel_rfl
theorem cellParses_laidOut : laidOutB Tryz.prog = true := by kernel_rfl
set_option maxRecDepth 100000 in
theorem cellParses_lifted (os : Os) (started : os.Started) (H : Type) (enc : TypeId × Value → H) :
    ReturnsInHanded {} Tryz.checked os 3 .any (fun w args => (Rows.cellParsesSpec.pre enc Tryz.prog Tryz.f3 [] false w args ∧ laidMetH Tryz.prog laidL w) ∧ sizedMet enc Tryz.prog Tryz.f3 (OpenSpec.ofChange Rows.cellParsesSpec) false w args) (Rows.cellParsesSpec.post enc Tryz.prog Tryz.f3 false true false false) := by
  refine law_liftedL (laid := laidL) (C := Tryz.checked) (tb := 4) cellParses_laidOut cellParses_own started (by kernel_rfl) Tryz.func3
    (ChangeSpec.witness_shaped (enc := enc) (C := Tryz.checked) (os := os) (X := fun w _ => laidMetH Tryz.prog laidL w) false (World.doorLaid Tryz.prog 400 os) #[.string ⟨#[]⟩] 8 rfl (World.shaped_of_RefB (by kernel_rfl) (by kernel_rfl)) (by kernel_rfl) (by kernel_rfl) (by kernel_rfl) (door_met os _)) rfl (by kernel_rfl) tyB4 (by kernel_rfl)
    (fun ds hd => match ds, hd with | [d0], _ => ⟨rfl, rfl, rfl⟩) ?_
  intro W base args ds p hval0 hA0 hsz hLaid
  have hval : ∀ (j : Nat) t v, Tryz.f3.params[j]? = some t → args[j]? = some v → Value.okWide Tryz.prog W .any base t v := hval0
  have hA : DataW.TrodAll enc Tryz.prog W 0 (fun _ => true) true [9] args.toList ds p := hA0
  rw [Tryz.params3] at hval
  obtain ⟨v0, vs0, d0, ds0, p0, q0, hargs, rfl, rfl, h0, r0⟩ := trodAll_cons hA
  obtain ⟨rfl, rfl, rfl⟩ := trodAll_nil r0
  obtain rfl : args = #[v0] := by apply Array.toList_inj.1; simpa using hargs
  obtain ⟨x0, rfl⟩ := open_vs tyS9 (hval 0 9 v0 rfl rfl) h0
  exact c_CellParses x0 W (Full W) (VLe.refl _) (pow_of_laid hLaid)
theorem cellParses_row : Rows.CellParsesSaid :=
  OpenClaim.holds_of_wide 3 Tryz.f3 rfl rfl rfl rfl rfl rfl rfl ⟨rfl, rfl, rfl, rfl, rfl⟩ rfl rfl rfl rfl rfl (by kernel_rfl) Tryz.func3 (by kernel_rfl)
    (of_decide_eq_true (by kernel_rfl)) (by unfold Func.isWrapper; first | (rw [if_pos (by decide +kernel)]; kernel_rfl) | (rw [if_neg (by decide +kernel)]; exact ⟨rfl, rfl⟩))
    (fun os started H enc _ => cellParses_lifted os started H enc)
set_option maxRecDepth 100000 in
theorem cellParsesCard_holds : Rows.CellParsesCardSaid :=
  Claim7.holds_tied_plain_at .later [] [.data, .data, .data] true (true, "661586646b6cb4b34650c7da349da32f912dd5ceb858f3c21d6cdc7492113511") true
    cellParses_row (fun _ h => by cases h) (by kernel_rfl) (fun _ h => by cases h) cellParses_row_tie rfl ⟨rfl, rfl⟩ (by kernel_rfl) rfl
    (fun f fn hf hfn => by
      obtain rfl : f = 3 := Option.some.inj ((show Tryz.prog.funcNamed "decretal/decretallaw17.CellParses" = some 3 by kernel_rfl).symm.trans hf) |>.symm
      obtain rfl : fn = Tryz.f3 := (Option.some.inj (Tryz.func3.symm.trans hfn)).symm
      exact ⟨by kernel_rfl, fun j t ht => by
        rw [Tryz.params3] at ht
        have hm : t ∈ [9] := by simpa using Array.mem_of_getElem? ht
        have hall : ([9].all fun u => !Tryz.prog.wantsStandIn u) = true := by kernel_rfl
        exact (show Tryz.prog.wantsStandIn t = false by simpa using List.all_eq_true.1 hall t hm)⟩)
    (by kernel_rfl)

end Go.Proofs.YtkjhlfleojcgjaaGreatDoor
