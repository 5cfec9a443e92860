/- SyntaxAgain: whatever the text, the law returns true, and what came in reads as it read. No condition. -/
import Derived.Test.YtpcgdhhndeanoaaDoorSyPe
import Derived.Test.YtpcgdhhndeanoaaDoorRows
import Derived.Test.YtpcgdhhndeanoaaDoorTie
import Derived.Test.YtpcgdhhndeanoaaDoorCards
import Derived.SevenTiedAt
set_option linter.unusedSimpArgs false
set_option linter.unusedVariables false
set_option linter.unusedVariables false
namespace Go.Proofs.YtpcgdhhndeanoaaDoor
open Go Go.Dx Go.RowKit Go.ChangeShapes Go.WideShapes Go.ChangeAt
namespace syntaxAgain
theorem tyS9 : Tryd.prog.underlying 9 = some .string := by kernel_rfl
theorem tyB4 : Tryd.prog.underlying 4 = some .bool := by kernel_rfl
end syntaxAgain
open syntaxAgain
theorem syntaxAgain_own : ownKnob Tryd.prog.godebug = none := by kernel_rfl
theorem syntaxAgain_laidOut : laidOutB Tryd.prog = true := by kernel_rfl
set_option maxRecDepth 100000 in
theorem syntaxAgain_lifted (os : Os) (started : os.Started) (H : Type) (enc : TypeId × Value → H) :
    ReturnsInHanded {} Tryd.checked os 5 .any (fun w args => (Rows.syntaxAgainSpec.pre enc Tryd.prog Tryd.f5 [] false w args ∧ laidMetH Tryd.prog laidL w) ∧ sizedMet enc Tryd.prog Tryd.f5 (OpenSpec.ofChange Rows.syntaxAgainSpec) false w args) (Rows.syntaxAgainSpec.post enc Tryd.prog Tryd.f5 false true false false) := by
  refine law_liftedL (laid := laidL) (C := Tryd.checked) (tb := 4) syntaxAgain_laidOut syntaxAgain_own started (by kernel_rfl) Tryd.func5
    (ChangeSpec.witness_shaped (enc := enc) (C := Tryd.checked) (os := os) (X := fun w _ => laidMetH Tryd.prog laidL w) false (World.doorLaid Tryd.prog 400 os) #[.string ⟨#[]⟩] 8 rfl (World.shaped_of_RefB (by kernel_rfl) (by kernel_rfl)) (by kernel_rfl) (by kernel_rfl) (by kernel_rfl) (door_met os _)) rfl (by kernel_rfl) tyB4 (by kernel_rfl)
    (fun ds hd => match ds, hd with | [d0], _ => ⟨rfl, rfl, rfl⟩) ?_
  intro W base args ds p hval0 hA0 hsz hLaid
  have hval : ∀ (j : Nat) t v, Tryd.f5.params[j]? = some t → args[j]? = some v → Value.okWide Tryd.prog W .any base t v := hval0
  have hA : DataW.TrodAll enc Tryd.prog W 0 (fun _ => true) true [9] args.toList ds p := hA0
  rw [Tryd.params5] at hval
  obtain ⟨v0, vs0, d0, ds0, p0, q0, hargs, rfl, rfl, h0, r0⟩ := trodAll_cons hA
  obtain ⟨rfl, rfl, rfl⟩ := trodAll_nil r0
  obtain rfl : args = #[v0] := by apply Array.toList_inj.1; simpa using hargs
  obtain ⟨x0, rfl⟩ := open_vs tyS9 (hval 0 9 v0 rfl rfl) h0
  exact c_SyntaxAgain x0 W (Full W) (VLe.refl _) (pow_of_laid hLaid)
theorem syntaxAgain_row : Rows.SyntaxAgainSaid :=
  OpenClaim.holds_of_wide 5 Tryd.f5 rfl rfl rfl rfl rfl rfl rfl ⟨rfl, rfl, rfl, rfl, rfl⟩ rfl rfl rfl rfl rfl (by kernel_rfl) Tryd.func5 (by kernel_rfl)
    (of_decide_eq_true (by kernel_rfl)) (by unfold Func.isWrapper; first | (rw [if_pos (by decide +kernel)]; kernel_rfl) | (rw [if_neg (by decide +kernel)]; exact ⟨rfl, rfl⟩))
    (fun os started H enc _ => syntaxAgain_lifted os started H enc)
set_option maxRecDepth 100000 in
theorem syntaxAgainCard_holds : Rows.SyntaxAgainCardSaid :=
  Claim7.holds_tied_plain_at .later [] [.data, .data, .data] true (true, "2da26a1bfb94c4555f2045fd3e50d758f4e5d72454d0f6cdcafc36bba61b491a") false
    syntaxAgain_row (fun _ h => by cases h) (by kernel_rfl) (fun _ h => by cases h) syntaxAgain_row_tie rfl ⟨rfl, rfl⟩ (by kernel_rfl) rfl
    (fun f fn hf hfn => by
      obtain rfl : f = 5 := Option.some.inj ((show Tryd.prog.funcNamed "decretal/decretallaw14.SyntaxAgain" = some 5 by kernel_rfl).symm.trans hf) |>.symm
      obtain rfl : fn = Tryd.f5 := (Option.some.inj (Tryd.func5.symm.trans hfn)).symm
      exact ⟨by kernel_rfl, fun j t ht => by
        rw [Tryd.params5] at ht
        have hm : t ∈ [9] := by simpa using Array.mem_of_getElem? ht
        have hall : ([9].all fun u => !Tryd.prog.wantsStandIn u) = true := by kernel_rfl
        exact (show Tryd.prog.wantsStandIn t = false by simpa using List.all_eq_true.1 hall t hm)⟩)
    (by kernel_rfl)

end Go.Proofs.YtpcgdhhndeanoaaDoor
