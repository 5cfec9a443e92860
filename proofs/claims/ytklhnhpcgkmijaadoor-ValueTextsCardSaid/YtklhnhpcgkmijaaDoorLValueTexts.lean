/- ValueTexts: whatever the value, the law returns true, and what came in reads as it read. No condition. -/
import Derived.Test.YtklhnhpcgkmijaaDoorDx1
import Derived.Test.YtklhnhpcgkmijaaDoorVOpen
import Derived.Test.YtklhnhpcgkmijaaDoorT12c
import Derived.Test.YtklhnhpcgkmijaaDoorVP
import Derived.Test.YtklhnhpcgkmijaaDoorRows
import Derived.Test.YtklhnhpcgkmijaaDoorTie
import Derived.Test.YtklhnhpcgkmijaaDoorCards
import Derived.SevenTiedAt
set_option linter.unusedSimpArgs false
set_option linter.unusedVariables false
set_option linter.unusedVariables false
namespace Go.Proofs.YtklhnhpcgkmijaaDoor
open Go Go.Dx Go.RowKit Go.ChangeShapes Go.WideShapes Go.ChangeAt
namespace valueTexts
theorem tyB4 : Tryd.prog.underlying 4 = some .bool := by kernel_rfl
end valueTexts
open valueTexts
theorem valueTexts_own : ownKnob Tryd.prog.godebug = none := by kernel_rfl
theorem valueTexts_laidOut : laidOutB Tryd.prog = true := by kernel_rfl
set_option maxRecDepth 100000 in
theorem valueTexts_lifted (os : Os) (started : os.Started) (H : Type) (enc : TypeId × Value → H) :
    ReturnsInHanded {} Tryd.checked os 3 .any (fun w args => (Rows.valueTextsSpec.pre enc Tryd.prog Tryd.f3 [] false w args ∧ laidMetH Tryd.prog laidL w) ∧ sizedMet enc Tryd.prog Tryd.f3 (OpenSpec.ofChange Rows.valueTextsSpec) false w args) (Rows.valueTextsSpec.post enc Tryd.prog Tryd.f3 false true false false) := by
  refine law_liftedL (laid := laidL) (C := Tryd.checked) (tb := 4) valueTexts_laidOut valueTexts_own started (by kernel_rfl) Tryd.func3
    (ChangeSpec.witness_shaped (enc := enc) (C := Tryd.checked) (os := os) (X := fun w _ => laidMetH Tryd.prog laidL w) false (World.doorLaid Tryd.prog 400 os) #[.agg #[.int .i64 0, .int .i64 0, .string ⟨#[]⟩]] 8 rfl (World.shaped_of_RefB (by kernel_rfl) (by kernel_rfl)) (by kernel_rfl) (by kernel_rfl) (by kernel_rfl) (door_met os _)) rfl (by kernel_rfl) tyB4 (by kernel_rfl)
    (fun ds hd => match ds, hd with | [d0], _ => ⟨rfl, rfl, rfl⟩) ?_
  intro W base args ds p hval0 hA0 hsz hLaid
  have hval : ∀ (j : Nat) t v, Tryd.f3.params[j]? = some t → args[j]? = some v → Value.okWide Tryd.prog W .any base t v := hval0
  have hA : DataW.TrodAll enc Tryd.prog W 0 (fun _ => true) true [24] args.toList ds p := hA0
  rw [Tryd.params3] at hval
  obtain ⟨v0, vs0, d0, ds0, p0, q0, hargs, rfl, rfl, h0, r0⟩ := trodAll_cons hA
  obtain ⟨rfl, rfl, rfl⟩ := trodAll_nil r0
  obtain rfl : args = #[v0] := by apply Array.toList_inj.1; simpa using hargs
  obtain ⟨x0, rfl, hvb0, hvs0⟩ := open_val (hval 0 24 v0 rfl rfl) h0
  exact c_ValueTexts x0 hvb0 hvs0 W (Full W) (VLe.refl _) (pow_of_laid hLaid)
theorem valueTexts_row : Rows.ValueTextsSaid :=
  OpenClaim.holds_of_wide 3 Tryd.f3 rfl rfl rfl rfl rfl rfl rfl ⟨rfl, rfl, rfl, rfl, rfl⟩ rfl rfl rfl rfl rfl (by kernel_rfl) Tryd.func3 (by kernel_rfl)
    (of_decide_eq_true (by kernel_rfl)) (by unfold Func.isWrapper; first | (rw [if_pos (by decide +kernel)]; kernel_rfl) | (rw [if_neg (by decide +kernel)]; exact ⟨rfl, rfl⟩))
    (fun os started H enc _ => valueTexts_lifted os started H enc)
set_option maxRecDepth 100000 in
theorem valueTextsCard_holds : Rows.ValueTextsCardSaid :=
  Claim7.holds_tied_plain_at .later [] [.data, .data, .data] true (true, "66b43fabdbfe8f543cad0bc26371303c30e9bb3554cf961ad3185c048d853859") false
    valueTexts_row (fun _ h => by cases h) (by kernel_rfl) (fun _ h => by cases h) valueTexts_row_tie rfl ⟨rfl, rfl⟩ (by kernel_rfl) rfl
    (fun f fn hf hfn => by
      obtain rfl : f = 3 := Option.some.inj ((show Tryd.prog.funcNamed "decretal/decretallaw12.ValueTexts" = some 3 by kernel_rfl).symm.trans hf) |>.symm
      obtain rfl : fn = Tryd.f3 := (Option.some.inj (Tryd.func3.symm.trans hfn)).symm
      exact ⟨by kernel_rfl, fun j t ht => by
        rw [Tryd.params3] at ht
        have hm : t ∈ [24] := by simpa using Array.mem_of_getElem? ht
        have hall : ([24].all fun u => !Tryd.prog.wantsStandIn u) = true := by kernel_rfl
        exact (show Tryd.prog.wantsStandIn t = false by simpa using List.all_eq_true.1 hall t hm)⟩)
    (by kernel_rfl)

end Go.Proofs.YtklhnhpcgkmijaaDoor
