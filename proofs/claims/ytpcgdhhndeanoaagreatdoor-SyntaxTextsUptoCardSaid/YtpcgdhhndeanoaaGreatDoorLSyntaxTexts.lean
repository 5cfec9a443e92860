/- SyntaxTexts: whatever the two expressions, of bulk at most 1048576, the law returns true, and what came in reads as it read. Condition: the bulk of what came in is at most 1048576. -/
import Derived.Test.YtpcgdhhndeanoaaGreatDoorSyTe
import Derived.Test.YtpcgdhhndeanoaaGreatDoorRows
import Derived.Test.YtpcgdhhndeanoaaGreatDoorTie
import Derived.Test.YtpcgdhhndeanoaaGreatDoorCards
import Derived.SevenTiedAt
set_option linter.unusedSimpArgs false
set_option linter.unusedVariables false
set_option linter.unusedVariables false
namespace Go.Proofs.YtpcgdhhndeanoaaGreatDoor
open Go Go.Dx Go.RowKit Go.ChangeShapes Go.WideShapes Go.ChangeAt
namespace syntaxTexts
theorem tyB4 : Tryz.prog.underlying 4 = some .bool := by kernel_rfl
end syntaxTexts
open syntaxTexts
theorem syntaxTexts_own : ownKnob Tryz.prog.godebug = none := by kernel_rfl
theorem syntaxTexts_laidOut : laidOutB Tryz.prog = true := by kernel_rfl
theorem syntaxTexts_reads (os : Os) {H : Type} (enc : TypeId × Value → H) : DataW.whole enc Tryz.prog (((World.doorLaid Tryz.prog 400 os)).forCall (fun _ _ => 0) ⟨#[], #[.agg #[.int .i64 0, .int .i64 0, .int .i64 0, .string ⟨#[]⟩, .string ⟨#[]⟩, .slice none 0 0], .agg #[.int .i64 0, .int .i64 0, .int .i64 0, .string ⟨#[]⟩, .string ⟨#[]⟩, .slice none 0 0]], []⟩).memory Tryz.f3.params.toList Rows.syntaxTextsSpec.vars false #[.agg #[.int .i64 0, .int .i64 0, .int .i64 0, .string ⟨#[]⟩, .string ⟨#[]⟩, .slice none 0 0], .agg #[.int .i64 0, .int .i64 0, .int .i64 0, .string ⟨#[]⟩, .string ⟨#[]⟩, .slice none 0 0]].toList 8 = some ([.agg [.lit (.int .i64 0), .agg [.lit (.int .i64 0), .lit (.int .i64 0), .lit (.string [])], .lit (.string []), .nil], .agg [.lit (.int .i64 0), .agg [.lit (.int .i64 0), .lit (.int .i64 0), .lit (.string [])], .lit (.string []), .nil]], [], []) := by kernel_rfl
set_option maxRecDepth 100000 in
theorem syntaxTexts_lifted (os : Os) (started : os.Started) (H : Type) (enc : TypeId × Value → H) (F : Stop.Interp) :
    ReturnsInHanded {} Tryz.checked os 3 .any ((Rows.OpenSpec.upto Rows.syntaxTextsSpec).preRow enc Tryz.prog Tryz.f3 [] false laidL) (((Rows.OpenSpec.upto Rows.syntaxTextsSpec).at F).post enc Tryz.prog Tryz.f3 false true false false) := by
  refine law_liftedU (s := Rows.OpenSpec.upto Rows.syntaxTextsSpec) (s0 := Rows.syntaxTextsSpec) (k0 := Rows.uptoSmall) (laid := laidL) (C := Tryz.checked) (tb := 4) syntaxTexts_laidOut syntaxTexts_own started (by kernel_rfl) Tryz.func3 rfl
    (witness_rowD (enc := enc) (C := Tryz.checked) (World.doorLaid Tryz.prog 400 os) #[.agg #[.int .i64 0, .int .i64 0, .int .i64 0, .string ⟨#[]⟩, .string ⟨#[]⟩, .slice none 0 0], .agg #[.int .i64 0, .int .i64 0, .int .i64 0, .string ⟨#[]⟩, .string ⟨#[]⟩, .slice none 0 0]] rfl (World.shaped_of_RefB (by kernel_rfl) (by kernel_rfl)) (by kernel_rfl)
      (OpenSpec.preRow_of_cond 8 (syntaxTexts_reads os enc) (by kernel_rfl) (fun k hk => by cases hk; kernel_rfl) (by kernel_rfl) (door_met os _))) rfl (by kernel_rfl) tyB4 (by kernel_rfl)
    (fun ds hd => match ds, hd with | [d0, d1], _ => ⟨rfl, rfl, rfl⟩) ?_
  intro W base args ds p hval0 hA0 hk hLaid
  have hval : ∀ (j : Nat) t v, Tryz.f3.params[j]? = some t → args[j]? = some v → Value.okWide Tryz.prog W .any base t v := hval0
  have hA : DataW.TrodAll enc Tryz.prog W 0 (fun _ => true) true [28, 28] args.toList ds p := hA0
  rw [Tryz.params3] at hval
  obtain ⟨v0, vs0, d0, ds0, p0, q0, hargs, rfl, rfl, h0, r0⟩ := trodAll_cons hA
  obtain ⟨v1, vs1, d1, ds1, p1, q1, rfl, rfl, rfl, h1, r1⟩ := trodAll_cons r0
  obtain ⟨rfl, rfl, rfl⟩ := trodAll_nil r1
  obtain rfl : args = #[v0, v1] := by apply Array.toList_inj.1; simpa using hargs
  have hbk := bulk_of hk
  simp only [bkL] at hbk
  obtain ⟨x0, ad0, cap0, rfl, hop0, hvb0, hx0, hb0⟩ := open_exprB (hval 0 28 v0 rfl rfl) h0
  obtain ⟨x1, ad1, cap1, rfl, hop1, hvb1, hx1, hb1⟩ := open_exprB (hval 1 28 v1 rfl rfl) h1
  exact c_SyntaxTexts x0 x1 ad0 ad1 cap0 cap1 W (Full W) (VLe.refl _) hx0 hop0 hvb0 hx1 (by have := nm_bk x0; omega) (pow_of_laid hLaid)
theorem syntaxTexts_row : Rows.SyntaxTextsUptoSaid :=
  OpenClaim.holds_of_cond 3 Tryz.f3 rfl rfl rfl rfl rfl rfl rfl ⟨rfl, rfl, rfl, rfl, rfl⟩ rfl rfl rfl rfl rfl (by kernel_rfl) Tryz.func3 (by kernel_rfl)
    (of_decide_eq_true (by kernel_rfl)) (by unfold Func.isWrapper; first | (rw [if_pos (by decide +kernel)]; kernel_rfl) | (rw [if_neg (by decide +kernel)]; exact ⟨rfl, rfl⟩))
    (fun os started H enc _ F => by rw [OpenClaim.pre_eq_preRow]; exact syntaxTexts_lifted os started H enc F)
set_option maxRecDepth 100000 in
theorem syntaxTextsCard_holds : Rows.SyntaxTextsUptoCardSaid :=
  Claim7.holds_tied_plain_at .later [] [.data, .data, .data] true (true, "814be0e4bd7507f55f85ea6063ac984e9f3cb5e06ba4c8ad7bb00a423e769f10") false
    syntaxTexts_row (fun _ h => by cases h) (by kernel_rfl) (fun _ h => by cases h) syntaxTextsUpto_row_tie rfl ⟨rfl, rfl⟩ (by kernel_rfl) rfl
    (fun f fn hf hfn => by
      obtain rfl : f = 3 := Option.some.inj ((show Tryz.prog.funcNamed "decretal/decretallaw14.SyntaxTexts" = some 3 by kernel_rfl).symm.trans hf) |>.symm
      obtain rfl : fn = Tryz.f3 := (Option.some.inj (Tryz.func3.symm.trans hfn)).symm
      exact ⟨by kernel_rfl, fun j t ht => by
        rw [Tryz.params3] at ht
        have hm : t ∈ [28, 28] := by simpa using Array.mem_of_getElem? ht
        have hall : ([28, 28].all fun u => !Tryz.prog.wantsStandIn u) = true := by kernel_rfl
        exact (show Tryz.prog.wantsStandIn t = false by simpa using List.all_eq_true.1 hall t hm)⟩)
    (by kernel_rfl)

end Go.Proofs.YtpcgdhhndeanoaaGreatDoor
