/- ValueBack: whatever the values and texts, the law returns true, and what came in reads as it read. No condition. -/
import Derived.Test.YtklhnhpcgkmijaaDoorDx1
import Derived.Test.YtklhnhpcgkmijaaDoorVOpen
import Derived.Test.YtklhnhpcgkmijaaDoorT12
import Derived.Test.YtklhnhpcgkmijaaDoorT12b
import Derived.Test.YtklhnhpcgkmijaaDoorRows
import Derived.Test.YtklhnhpcgkmijaaDoorTie
import Derived.Test.YtklhnhpcgkmijaaDoorCards
import Derived.SevenTiedAt
set_option linter.unusedSimpArgs false
set_option linter.unusedVariables false
set_option linter.unusedVariables false
namespace Go.Proofs.YtklhnhpcgkmijaaDoor
open Go Go.Dx Go.RowKit Go.ChangeShapes Go.WideShapes Go.ChangeAt
namespace valueBack
theorem tyB4 : Tryd.prog.underlying 4 = some .bool := by kernel_rfl
end valueBack
open valueBack
theorem valueBack_own : ownKnob Tryd.prog.godebug = none := by kernel_rfl
theorem valueBack_laidOut : laidOutB Tryd.prog = true := by kernel_rfl
set_option maxRecDepth 100000 in
theorem valueBack_lifted (os : Os) (started : os.Started) (H : Type) (enc : TypeId × Value → H) :
    ReturnsInHanded {} Tryd.checked os 7 .any (fun w args => (Rows.valueBackSpec.pre enc Tryd.prog Tryd.f7 [] false w args ∧ laidMetH Tryd.prog laidL w) ∧ sizedMet enc Tryd.prog Tryd.f7 (OpenSpec.ofChange Rows.valueBackSpec) false w args) (Rows.valueBackSpec.post enc Tryd.prog Tryd.f7 false true false false) := by
  refine law_liftedL (laid := laidL) (C := Tryd.checked) (tb := 4) valueBack_laidOut valueBack_own started (by kernel_rfl) Tryd.func7
    (ChangeSpec.witness_shaped (enc := enc) (C := Tryd.checked) (os := os) (X := fun w _ => laidMetH Tryd.prog laidL w) false (World.doorLaid Tryd.prog 400 os) #[.slice none 0 0, .string ⟨#[]⟩, .string ⟨#[]⟩] 8 rfl (World.shaped_of_RefB (by kernel_rfl) (by kernel_rfl)) (by kernel_rfl) (by kernel_rfl) (by kernel_rfl) (door_met os _)) rfl (by kernel_rfl) tyB4 (by kernel_rfl)
    (fun ds hd => match ds, hd with | [d0, d1, d2], _ => ⟨rfl, rfl, rfl⟩) ?_
  intro W base args ds p hval0 hA0 hsz hLaid
  have hval : ∀ (j : Nat) t v, Tryd.f7.params[j]? = some t → args[j]? = some v → Value.okWide Tryd.prog W .any base t v := hval0
  have hA : DataW.TrodAll enc Tryd.prog W 0 (fun _ => true) true [34, 9, 9] args.toList ds p := hA0
  rw [Tryd.params7] at hval
  obtain ⟨v0, vs0, d0, ds0, p0, q0, hargs, rfl, rfl, h0, r0⟩ := trodAll_cons hA
  obtain ⟨v1, vs1, d1, ds1, p1, q1, rfl, rfl, rfl, h1, r1⟩ := trodAll_cons r0
  obtain ⟨v2, vs2, d2, ds2, p2, q2, rfl, rfl, rfl, h2, r2⟩ := trodAll_cons r1
  obtain ⟨rfl, rfl, rfl⟩ := trodAll_nil r2
  obtain rfl : args = #[v0, v1, v2] := by apply Array.toList_inj.1; simpa using hargs
  obtain ⟨ad0, cap0, x0, rfl, hb0, hvb0⟩ := open_vals (hval 0 34 v0 rfl rfl) h0
  obtain ⟨x1, rfl⟩ := open_vs tyS9 (hval 1 9 v1 rfl rfl) h1
  obtain ⟨x2, rfl⟩ := open_vs tyS9 (hval 2 9 v2 rfl rfl) h2
  exact c_ValueBack ad0 cap0 x0 x1 x2 (fun v hv => (hvb0 v hv).1) W (Full W) (VLe.refl _) hb0
theorem valueBack_row : Rows.ValueBackSaid :=
  OpenClaim.holds_of_wide 7 Tryd.f7 rfl rfl rfl rfl rfl rfl rfl ⟨rfl, rfl, rfl, rfl, rfl⟩ rfl rfl rfl rfl rfl (by kernel_rfl) Tryd.func7 (by kernel_rfl)
    (of_decide_eq_true (by kernel_rfl)) (by unfold Func.isWrapper; first | (rw [if_pos (by decide +kernel)]; kernel_rfl) | (rw [if_neg (by decide +kernel)]; exact ⟨rfl, rfl⟩))
    (fun os started H enc _ => valueBack_lifted os started H enc)
set_option maxRecDepth 100000 in
theorem valueBackCard_holds : Rows.ValueBackCardSaid :=
  Claim7.holds_tied_plain_at .later [] [.data, .data, .data] true (true, "66b43fabdbfe8f543cad0bc26371303c30e9bb3554cf961ad3185c048d853859") false
    valueBack_row (fun _ h => by cases h) (by kernel_rfl) (fun _ h => by cases h) valueBack_row_tie rfl ⟨rfl, rfl⟩ (by kernel_rfl) rfl
    (fun f fn hf hfn => by
      obtain rfl : f = 7 := Option.some.inj ((show Tryd.prog.funcNamed "decretal/decretallaw12.ValueBack" = some 7 by kernel_rfl).symm.trans hf) |>.symm
      obtain rfl : fn = Tryd.f7 := (Option.some.inj (Tryd.func7.symm.trans hfn)).symm
      exact ⟨by kernel_rfl, fun j t ht => by
        rw [Tryd.params7] at ht
        have hm : t ∈ [34, 9, 9] := by simpa using Array.mem_of_getElem? ht
        have hall : ([34, 9, 9].all fun u => !Tryd.prog.wantsStandIn u) = true := by kernel_rfl
        exact (show Tryd.prog.wantsStandIn t = false by simpa using List.all_eq_true.1 hall t hm)⟩)
    (by kernel_rfl)

end Go.Proofs.YtklhnhpcgkmijaaDoor
