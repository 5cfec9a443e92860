/- CellTexts: whatever the two cells, of bulk at most 1048576, the law returns true, and what came in reads as it read. Condition: the bulk of what came in is at most 1048576. -/
import Derived.Test.YtkjhlfleojcgjaaGreatDoorCtTe
import Derived.Test.YtkjhlfleojcgjaaGreatDoorRows
import Derived.Test.YtkjhlfleojcgjaaGreatDoorTie
import Derived.Test.YtkjhlfleojcgjaaGreatDoorCards
import Derived.SevenTiedAt
set_option linter.unusedSimpArgs false
set_option linter.unusedVariables false
set_option linter.unusedVariables false
namespace Go.Proofs.YtkjhlfleojcgjaaGreatDoor
open Go Go.Dx Go.RowKit Go.ChangeShapes Go.WideShapes Go.ChangeAt
namespace cellTexts
theorem tyB4 : Tryz.prog.underlying 4 = some .bool := by kernel_rfl
end cellTexts
open cellTexts
theorem cellTexts_own : ownKnob Tryz.prog.godebug = none := by kernel_rfl
theorem cellTexts_laidOut : laidOutB Tryz.prog = true := by kernel_rfl
theorem cellTexts_reads (os : Os) {H : Type} (enc : TypeId × Value → H) : DataW.whole enc Tryz.prog (((World.doorLaid Tryz.prog 400 os)).forCall (fun _ _ => 0) ⟨#[], #[.agg #[.bool false, .bool false, .slice none 0 0], .agg #[.bool false, .bool false, .slice none 0 0]], []⟩).memory Tryz.f7.params.toList Rows.cellTextsSpec.vars false #[.agg #[.bool false, .bool false, .slice none 0 0], .agg #[.bool false, .bool false, .slice none 0 0]].toList 8 = some ([.agg [.lit (.bool false), .lit (.bool false), .nil], .agg [.lit (.bool false), .lit (.bool false), .nil]], [], []) := by kernel_rfl
set_option maxRecDepth 100000 in
theorem cellTexts_lifted (os : Os) (started : os.Started) (H : Type) (enc : TypeId × Value → H) (F : Stop.Interp) :
    ReturnsInHanded {} Tryz.checked os 7 .any ((Rows.OpenSpec.upto Rows.cellTextsSpec).preRow enc Tryz.prog Tryz.f7 [] false laidL) (((Rows.OpenSpec.upto Rows.cellTextsSpec).at F).post enc Tryz.prog Tryz.f7 false true false false) := by
  refine law_liftedU (s := Rows.OpenSpec.upto Rows.cellTextsSpec) (s0 := Rows.cellTextsSpec) (k0 := Rows.uptoSmall) (laid := laidL) (C := Tryz.checked) (tb := 4) cellTexts_laidOut cellTexts_own started (by kernel_rfl) Tryz.func7 rfl
    (witness_rowD (enc := enc) (C := Tryz.checked) (World.doorLaid Tryz.prog 400 os) #[.agg #[.bool false, .bool false, .slice none 0 0], .agg #[.bool false, .bool false, .slice none 0 0]] rfl (World.shaped_of_RefB (by kernel_rfl) (by kernel_rfl)) (by kernel_rfl)
      (OpenSpec.preRow_of_cond 8 (cellTexts_reads os enc) (by kernel_rfl) (fun k hk => by cases hk; kernel_rfl) (by kernel_rfl) (door_met os _))) rfl (by kernel_rfl) tyB4 (by kernel_rfl)
    (fun ds hd => match ds, hd with | [d0, d1], _ => ⟨rfl, rfl, rfl⟩) ?_
  intro W base args ds p hval0 hA0 hk hLaid
  have hval : ∀ (j : Nat) t v, Tryz.f7.params[j]? = some t → args[j]? = some v → Value.okWide Tryz.prog W .any base t v := hval0
  have hA : DataW.TrodAll enc Tryz.prog W 0 (fun _ => true) true [25, 25] args.toList ds p := hA0
  rw [Tryz.params7] at hval
  obtain ⟨v0, vs0, d0, ds0, p0, q0, hargs, rfl, rfl, h0, r0⟩ := trodAll_cons hA
  obtain ⟨v1, vs1, d1, ds1, p1, q1, rfl, rfl, rfl, h1, r1⟩ := trodAll_cons r0
  obtain ⟨rfl, rfl, rfl⟩ := trodAll_nil r1
  obtain rfl : args = #[v0, v1] := by apply Array.toList_inj.1; simpa using hargs
  have hbk := bulk_of hk
  simp only [bkL] at hbk
  obtain ⟨x0, ad0, cap0, rfl, hx0, hb0⟩ := open_celB (hval 0 25 v0 rfl rfl) h0
  obtain ⟨x1, ad1, cap1, rfl, hx1, hb1⟩ := open_celB (hval 1 25 v1 rfl rfl) h1
  exact c_CellTexts x0 x1 ad0 ad1 cap0 cap1 W (Full W) (VLe.refl _) hx0 hx1 (by have := nmL_bk (exsT x0.ts); omega) (pow_of_laid hLaid)
theorem cellTexts_row : Rows.CellTextsUptoSaid :=
  OpenClaim.holds_of_cond 7 Tryz.f7 rfl rfl rfl rfl rfl rfl rfl ⟨rfl, rfl, rfl, rfl, rfl⟩ rfl rfl rfl rfl rfl (by kernel_rfl) Tryz.func7 (by kernel_rfl)
    (of_decide_eq_true (by kernel_rfl)) (by unfold Func.isWrapper; first | (rw [if_pos (by decide +kernel)]; kernel_rfl) | (rw [if_neg (by decide +kernel)]; exact ⟨rfl, rfl⟩))
    (fun os started H enc _ F => by rw [OpenClaim.pre_eq_preRow]; exact cellTexts_lifted os started H enc F)
set_option maxRecDepth 100000 in
theorem cellTextsCard_holds : Rows.CellTextsUptoCardSaid :=
  Claim7.holds_tied_plain_at .later [] [.data, .data, .data] true (true, "661586646b6cb4b34650c7da349da32f912dd5ceb858f3c21d6cdc7492113511") true
    cellTexts_row (fun _ h => by cases h) (by kernel_rfl) (fun _ h => by cases h) cellTextsUpto_row_tie rfl ⟨rfl, rfl⟩ (by kernel_rfl) rfl
    (fun f fn hf hfn => by
      obtain rfl : f = 7 := Option.some.inj ((show Tryz.prog.funcNamed "decretal/decretallaw17.CellTexts" = some 7 by kernel_rfl).symm.trans hf) |>.symm
      obtain rfl : fn = Tryz.f7 := (Option.some.inj (Tryz.func7.symm.trans hfn)).symm
      exact ⟨by kernel_rfl, fun j t ht => by
        rw [Tryz.params7] at ht
        have hm : t ∈ [25, 25] := by simpa using Array.mem_of_getElem? ht
        have hall : ([25, 25].all fun u => !Tryz.prog.wantsStandIn u) = true := by kernel_rfl
        exact (show Tryz.prog.wantsStandIn t = false by simpa using List.all_eq_true.1 hall t hm)⟩)
    (by kernel_rfl)

end Go.Proofs.YtkjhlfleojcgjaaGreatDoor
