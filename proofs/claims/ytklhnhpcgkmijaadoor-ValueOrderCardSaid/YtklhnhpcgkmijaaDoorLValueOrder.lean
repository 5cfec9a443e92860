/- ValueOrder: whatever the three values, the law returns true, and what came in reads as it read. No condition. -/
import Derived.Test.YtklhnhpcgkmijaaDoorDx1
import Derived.Test.YtklhnhpcgkmijaaDoorVOpen
import Derived.Test.YtklhnhpcgkmijaaDoorT12c
import Derived.Test.YtklhnhpcgkmijaaDoorVP
import Derived.Test.YtklhnhpcgkmijaaDoorRows
import Derived.Test.YtklhnhpcgkmijaaDoorTie
import Derived.Test.YtklhnhpcgkmijaaDoorCards
import Derived.SevenTiedAt
set_option linter.unusedSimpArgs false
set_option linter.unusedVariables false
set_option linter.unusedVariables false
namespace Go.Proofs.YtklhnhpcgkmijaaDoor
open Go Go.Dx Go.RowKit Go.ChangeShapes Go.WideShapes Go.ChangeAt
namespace valueOrder
theorem tyB4 : Tryd.prog.underlying 4 = some .bool := by kernel_rfl
end valueOrder
open valueOrder
theorem valueOrder_own : ownKnob Tryd.prog.godebug = none := by kernel_rfl
theorem valueOrder_laidOut : laidOutB Tryd.prog = true := by kernel_rfl
set_option maxRecDepth 100000 in
theorem valueOrder_lifted (os : Os) (started : os.Started) (H : Type) (enc : TypeId × Value → H) :
    ReturnsInHanded {} Tryd.checked os 4 .any (fun w args => (Rows.valueOrderSpec.pre enc Tryd.prog Tryd.f4 [] false w args ∧ laidMetH Tryd.prog laidL w) ∧ sizedMet enc Tryd.prog Tryd.f4 (OpenSpec.ofChange Rows.valueOrderSpec) false w args) (Rows.valueOrderSpec.post enc Tryd.prog Tryd.f4 false true false false) := by
  refine law_liftedL (laid := laidL) (C := Tryd.checked) (tb := 4) valueOrder_laidOut valueOrder_own started (by kernel_rfl) Tryd.func4
    (ChangeSpec.witness_shaped (enc := enc) (C := Tryd.checked) (os := os) (X := fun w _ => laidMetH Tryd.prog laidL w) false (World.doorLaid Tryd.prog 400 os) #[.agg #[.int .i64 0, .int .i64 0, .string ⟨#[]⟩], .agg #[.int .i64 0, .int .i64 0, .string ⟨#[]⟩], .agg #[.int .i64 0, .int .i64 0, .string ⟨#[]⟩]] 8 rfl (World.shaped_of_RefB (by kernel_rfl) (by kernel_rfl)) (by kernel_rfl) (by kernel_rfl) (by kernel_rfl) (door_met os _)) rfl (by kernel_rfl) tyB4 (by kernel_rfl)
    (fun ds hd => match ds, hd with | [d0, d1, d2], _ => ⟨rfl, rfl, rfl⟩) ?_
  intro W base args ds p hval0 hA0 hsz hLaid
  have hval : ∀ (j : Nat) t v, Tryd.f4.params[j]? = some t → args[j]? = some v → Value.okWide Tryd.prog W .any base t v := hval0
  have hA : DataW.TrodAll enc Tryd.prog W 0 (fun _ => true) true [24, 24, 24] args.toList ds p := hA0
  rw [Tryd.params4] at hval
  obtain ⟨v0, vs0, d0, ds0, p0, q0, hargs, rfl, rfl, h0, r0⟩ := trodAll_cons hA
  obtain ⟨v1, vs1, d1, ds1, p1, q1, rfl, rfl, rfl, h1, r1⟩ := trodAll_cons r0
  obtain ⟨v2, vs2, d2, ds2, p2, q2, rfl, rfl, rfl, h2, r2⟩ := trodAll_cons r1
  obtain ⟨rfl, rfl, rfl⟩ := trodAll_nil r2
  obtain rfl : args = #[v0, v1, v2] := by apply Array.toList_inj.1; simpa using hargs
  obtain ⟨x0, rfl, hvb0, hvs0⟩ := open_val (hval 0 24 v0 rfl rfl) h0
  obtain ⟨x1, rfl, hvb1, hvs1⟩ := open_val (hval 1 24 v1 rfl rfl) h1
  obtain ⟨x2, rfl, hvb2, hvs2⟩ := open_val (hval 2 24 v2 rfl rfl) h2
  exact c_ValueOrder x0 x1 x2 hvb0 hvb1 hvb2 hvs0 hvs1 hvs2 W (Full W) (VLe.refl _) (pow_of_laid hLaid)
theorem valueOrder_row : Rows.ValueOrderSaid :=
  OpenClaim.holds_of_wide 4 Tryd.f4 rfl rfl rfl rfl rfl rfl rfl ⟨rfl, rfl, rfl, rfl, rfl⟩ rfl rfl rfl rfl rfl (by kernel_rfl) Tryd.func4 (by kernel_rfl)
    (of_decide_eq_true (by kernel_rfl)) (by unfold Func.isWrapper; first | (rw [if_pos (by decide +kernel)]; kernel_rfl) | (rw [if_neg (by decide +kernel)]; exact ⟨rfl, rfl⟩))
    (fun os started H enc _ => valueOrder_lifted os started H enc)
set_option maxRecDepth 100000 in
theorem valueOrderCard_holds : Rows.ValueOrderCardSaid :=
  Claim7.holds_tied_plain_at .later [] [.data, .data, .data] true (true, "66b43fabdbfe8f543cad0bc26371303c30e9bb3554cf961ad3185c048d853859") false
    valueOrder_row (fun _ h => by cases h) (by kernel_rfl) (fun _ h => by cases h) valueOrder_row_tie rfl ⟨rfl, rfl⟩ (by kernel_rfl) rfl
    (fun f fn hf hfn => by
      obtain rfl : f = 4 := Option.some.inj ((show Tryd.prog.funcNamed "decretal/decretallaw12.ValueOrder" = some 4 by kernel_rfl).symm.trans hf) |>.symm
      obtain rfl : fn = Tryd.f4 := (Option.some.inj (Tryd.func4.symm.trans hfn)).symm
      exact ⟨by kernel_rfl, fun j t ht => by
        rw [Tryd.params4] at ht
        have hm : t ∈ [24, 24, 24] := by simpa using Array.mem_of_getElem? ht
        have hall : ([24, 24, 24].all fun u => !Tryd.prog.wantsStandIn u) = true := by kernel_rfl
        exact (show Tryd.prog.wantsStandIn t = false by simpa using List.all_eq_true.1 hall t hm)⟩)
    (by kernel_rfl)

end Go.Proofs.YtklhnhpcgkmijaaDoor
