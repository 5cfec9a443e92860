/- ValueTakes: whatever the text and the number, the law returns true, and what came in reads as it read. No condition. -/
import Derived.Test.YtklhnhpcgkmijaaDoorDx1
import Derived.Test.YtklhnhpcgkmijaaDoorVOpen
import Derived.Test.YtklhnhpcgkmijaaDoorT12
import Derived.Test.YtklhnhpcgkmijaaDoorT12b
import Derived.Test.YtklhnhpcgkmijaaDoorRows
import Derived.Test.YtklhnhpcgkmijaaDoorTie
import Derived.Test.YtklhnhpcgkmijaaDoorCards
import Derived.SevenTiedAt
set_option linter.unusedSimpArgs false
set_option linter.unusedVariables false
set_option linter.unusedVariables false
namespace Go.Proofs.YtklhnhpcgkmijaaDoor
open Go Go.Dx Go.RowKit Go.ChangeShapes Go.WideShapes Go.ChangeAt
namespace valueTakes
theorem tyB4 : Tryd.prog.underlying 4 = some .bool := by kernel_rfl
end valueTakes
open valueTakes
theorem valueTakes_own : ownKnob Tryd.prog.godebug = none := by kernel_rfl
theorem valueTakes_laidOut : laidOutB Tryd.prog = true := by kernel_rfl
set_option maxRecDepth 100000 in
theorem valueTakes_lifted (os : Os) (started : os.Started) (H : Type) (enc : TypeId × Value → H) :
    ReturnsInHanded {} Tryd.checked os 6 .any (fun w args => (Rows.valueTakesSpec.pre enc Tryd.prog Tryd.f6 [] false w args ∧ laidMetH Tryd.prog laidL w) ∧ sizedMet enc Tryd.prog Tryd.f6 (OpenSpec.ofChange Rows.valueTakesSpec) false w args) (Rows.valueTakesSpec.post enc Tryd.prog Tryd.f6 false true false false) := by
  refine law_liftedL (laid := laidL) (C := Tryd.checked) (tb := 4) valueTakes_laidOut valueTakes_own started (by kernel_rfl) Tryd.func6
    (ChangeSpec.witness_shaped (enc := enc) (C := Tryd.checked) (os := os) (X := fun w _ => laidMetH Tryd.prog laidL w) false (World.doorLaid Tryd.prog 400 os) #[.string ⟨#[]⟩, .int .i64 0] 8 rfl (World.shaped_of_RefB (by kernel_rfl) (by kernel_rfl)) (by kernel_rfl) (by kernel_rfl) (by kernel_rfl) (door_met os _)) rfl (by kernel_rfl) tyB4 (by kernel_rfl)
    (fun ds hd => match ds, hd with | [d0, d1], _ => ⟨rfl, rfl, rfl⟩) ?_
  intro W base args ds p hval0 hA0 hsz hLaid
  have hval : ∀ (j : Nat) t v, Tryd.f6.params[j]? = some t → args[j]? = some v → Value.okWide Tryd.prog W .any base t v := hval0
  have hA : DataW.TrodAll enc Tryd.prog W 0 (fun _ => true) true [9, 3] args.toList ds p := hA0
  rw [Tryd.params6] at hval
  obtain ⟨v0, vs0, d0, ds0, p0, q0, hargs, rfl, rfl, h0, r0⟩ := trodAll_cons hA
  obtain ⟨v1, vs1, d1, ds1, p1, q1, rfl, rfl, rfl, h1, r1⟩ := trodAll_cons r0
  obtain ⟨rfl, rfl, rfl⟩ := trodAll_nil r1
  obtain rfl : args = #[v0, v1] := by apply Array.toList_inj.1; simpa using hargs
  obtain ⟨x0, rfl⟩ := open_vs tyS9 (hval 0 9 v0 rfl rfl) h0
  obtain ⟨x1, rfl, rfl, rfl, w1⟩ := open_int tyI3 (hval 1 3 v1 rfl rfl) h1
  have w1 := int_bounds w1
  exact c_ValueTakes x0 x1 W (Full W) (VLe.refl _)
theorem valueTakes_row : Rows.ValueTakesSaid :=
  OpenClaim.holds_of_wide 6 Tryd.f6 rfl rfl rfl rfl rfl rfl rfl ⟨rfl, rfl, rfl, rfl, rfl⟩ rfl rfl rfl rfl rfl (by kernel_rfl) Tryd.func6 (by kernel_rfl)
    (of_decide_eq_true (by kernel_rfl)) (by unfold Func.isWrapper; first | (rw [if_pos (by decide +kernel)]; kernel_rfl) | (rw [if_neg (by decide +kernel)]; exact ⟨rfl, rfl⟩))
    (fun os started H enc _ => valueTakes_lifted os started H enc)
set_option maxRecDepth 100000 in
theorem valueTakesCard_holds : Rows.ValueTakesCardSaid :=
  Claim7.holds_tied_plain_at .later [] [.data, .data, .data] true (true, "66b43fabdbfe8f543cad0bc26371303c30e9bb3554cf961ad3185c048d853859") false
    valueTakes_row (fun _ h => by cases h) (by kernel_rfl) (fun _ h => by cases h) valueTakes_row_tie rfl ⟨rfl, rfl⟩ (by kernel_rfl) rfl
    (fun f fn hf hfn => by
      obtain rfl : f = 6 := Option.some.inj ((show Tryd.prog.funcNamed "decretal/decretallaw12.ValueTakes" = some 6 by kernel_rfl).symm.trans hf) |>.symm
      obtain rfl : fn = Tryd.f6 := (Option.some.inj (Tryd.func6.symm.trans hfn)).symm
      exact ⟨by kernel_rfl, fun j t ht => by
        rw [Tryd.params6] at ht
        have hm : t ∈ [9, 3] := by simpa using Array.mem_of_getElem? ht
        have hall : ([9, 3].all fun u => !Tryd.prog.wantsStandIn u) = true := by kernel_rfl
        exact (show Tryd.prog.wantsStandIn t = false by simpa using List.all_eq_true.1 hall t hm)⟩)
    (by kernel_rfl)

end Go.Proofs.YtklhnhpcgkmijaaDoor
