/- ValueRows: whatever the values, the law returns true, and what came in reads as it read. No condition. -/
import Derived.Test.YtklhnhpcgkmijaaDoorDx1
import Derived.Test.YtklhnhpcgkmijaaDoorVOpen
import Derived.Test.YtklhnhpcgkmijaaDoorT12
import Derived.Test.YtklhnhpcgkmijaaDoorT12b
import Derived.Test.YtklhnhpcgkmijaaDoorRows
import Derived.Test.YtklhnhpcgkmijaaDoorTie
import Derived.Test.YtklhnhpcgkmijaaDoorCards
import Derived.SevenTiedAt
set_option linter.unusedSimpArgs false
set_option linter.unusedVariables false
set_option linter.unusedVariables false
namespace Go.Proofs.YtklhnhpcgkmijaaDoor
open Go Go.Dx Go.RowKit Go.ChangeShapes Go.WideShapes Go.ChangeAt
namespace valueRows
theorem tyB4 : Tryd.prog.underlying 4 = some .bool := by kernel_rfl
end valueRows
open valueRows
theorem valueRows_own : ownKnob Tryd.prog.godebug = none := by kernel_rfl
theorem valueRows_laidOut : laidOutB Tryd.prog = true := by kernel_rfl
set_option maxRecDepth 100000 in
theorem valueRows_lifted (os : Os) (started : os.Started) (H : Type) (enc : TypeId × Value → H) :
    ReturnsInHanded {} Tryd.checked os 5 .any (fun w args => (Rows.valueRowsSpec.pre enc Tryd.prog Tryd.f5 [] false w args ∧ laidMetH Tryd.prog laidL w) ∧ sizedMet enc Tryd.prog Tryd.f5 (OpenSpec.ofChange Rows.valueRowsSpec) false w args) (Rows.valueRowsSpec.post enc Tryd.prog Tryd.f5 false true false false) := by
  refine law_liftedL (laid := laidL) (C := Tryd.checked) (tb := 4) valueRows_laidOut valueRows_own started (by kernel_rfl) Tryd.func5
    (ChangeSpec.witness_shaped (enc := enc) (C := Tryd.checked) (os := os) (X := fun w _ => laidMetH Tryd.prog laidL w) false (World.doorLaid Tryd.prog 400 os) #[.slice none 0 0] 8 rfl (World.shaped_of_RefB (by kernel_rfl) (by kernel_rfl)) (by kernel_rfl) (by kernel_rfl) (by kernel_rfl) (door_met os _)) rfl (by kernel_rfl) tyB4 (by kernel_rfl)
    (fun ds hd => match ds, hd with | [d0], _ => ⟨rfl, rfl, rfl⟩) ?_
  intro W base args ds p hval0 hA0 hsz hLaid
  have hval : ∀ (j : Nat) t v, Tryd.f5.params[j]? = some t → args[j]? = some v → Value.okWide Tryd.prog W .any base t v := hval0
  have hA : DataW.TrodAll enc Tryd.prog W 0 (fun _ => true) true [34] args.toList ds p := hA0
  rw [Tryd.params5] at hval
  obtain ⟨v0, vs0, d0, ds0, p0, q0, hargs, rfl, rfl, h0, r0⟩ := trodAll_cons hA
  obtain ⟨rfl, rfl, rfl⟩ := trodAll_nil r0
  obtain rfl : args = #[v0] := by apply Array.toList_inj.1; simpa using hargs
  obtain ⟨ad0, cap0, x0, rfl, hb0, hvb0⟩ := open_vals (hval 0 34 v0 rfl rfl) h0
  exact c_ValueRows ad0 cap0 x0 (fun v hv => (hvb0 v hv).1) (fun v hv => (hvb0 v hv).2) W (Full W) (VLe.refl _) hb0
theorem valueRows_row : Rows.ValueRowsSaid :=
  OpenClaim.holds_of_wide 5 Tryd.f5 rfl rfl rfl rfl rfl rfl rfl ⟨rfl, rfl, rfl, rfl, rfl⟩ rfl rfl rfl rfl rfl (by kernel_rfl) Tryd.func5 (by kernel_rfl)
    (of_decide_eq_true (by kernel_rfl)) (by unfold Func.isWrapper; first | (rw [if_pos (by decide +kernel)]; kernel_rfl) | (rw [if_neg (by decide +kernel)]; exact ⟨rfl, rfl⟩))
    (fun os started H enc _ => valueRows_lifted os started H enc)
set_option maxRecDepth 100000 in
theorem valueRowsCard_holds : Rows.ValueRowsCardSaid :=
  Claim7.holds_tied_plain_at .later [] [.data, .data, .data] true (true, "66b43fabdbfe8f543cad0bc26371303c30e9bb3554cf961ad3185c048d853859") false
    valueRows_row (fun _ h => by cases h) (by kernel_rfl) (fun _ h => by cases h) valueRows_row_tie rfl ⟨rfl, rfl⟩ (by kernel_rfl) rfl
    (fun f fn hf hfn => by
      obtain rfl : f = 5 := Option.some.inj ((show Tryd.prog.funcNamed "decretal/decretallaw12.ValueRows" = some 5 by kernel_rfl).symm.trans hf) |>.symm
      obtain rfl : fn = Tryd.f5 := (Option.some.inj (Tryd.func5.symm.trans hfn)).symm
      exact ⟨by kernel_rfl, fun j t ht => by
        rw [Tryd.params5] at ht
        have hm : t ∈ [34] := by simpa using Array.mem_of_getElem? ht
        have hall : ([34].all fun u => !Tryd.prog.wantsStandIn u) = true := by kernel_rfl
        exact (show Tryd.prog.wantsStandIn t = false by simpa using List.all_eq_true.1 hall t hm)⟩)
    (by kernel_rfl)

end Go.Proofs.YtklhnhpcgkmijaaDoor
