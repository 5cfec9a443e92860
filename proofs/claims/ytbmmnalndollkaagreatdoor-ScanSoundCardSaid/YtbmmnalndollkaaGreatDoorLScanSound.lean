/- ScanSound: whatever the table and the row, the law returns true, and what came in reads as it read. No condition. -/
import Derived.Test.YtbmmnalndollkaaGreatDoorSdf
import Derived.Test.YtbmmnalndollkaaGreatDoorRows
import Derived.Test.YtbmmnalndollkaaGreatDoorTie
import Derived.Test.YtbmmnalndollkaaGreatDoorCards
import Derived.SevenTiedAt
set_option linter.unusedSimpArgs false
set_option linter.unusedVariables false
set_option linter.unusedVariables false
namespace Go.Proofs.YtbmmnalndollkaaGreatDoor
open Go Go.Dx Go.RowKit Go.ChangeShapes Go.WideShapes Go.ChangeAt
namespace scanSound
theorem tyB4 : Tryz.prog.underlying 4 = some .bool := by kernel_rfl
end scanSound
open scanSound
theorem scanSound_own : ownKnob Tryz.prog.godebug = none := by kernel_rfl
theorem scanSound_laidOut : laidOutB Tryz.prog = true := by kernel_rfl
set_option maxRecDepth 100000 in
theorem scanSound_lifted (os : Os) (started : os.Started) (H : Type) (enc : TypeId × Value → H) :
    ReturnsInHanded {} Tryz.checked os 6 .any (fun w args => (Rows.scanSoundSpec.pre enc Tryz.prog Tryz.f6 [] false w args ∧ laidMetH Tryz.prog laidL w) ∧ sizedMet enc Tryz.prog Tryz.f6 (OpenSpec.ofChange Rows.scanSoundSpec) false w args) (Rows.scanSoundSpec.post enc Tryz.prog Tryz.f6 false true false false) := by
  refine law_liftedL (laid := laidL) (C := Tryz.checked) (tb := 4) scanSound_laidOut scanSound_own started (by kernel_rfl) Tryz.func6
    (ChangeSpec.witness_shaped (enc := enc) (C := Tryz.checked) (os := os) (X := fun w _ => laidMetH Tryz.prog laidL w) false (laidWorld os) #[.agg #[.string ⟨#[]⟩, .slice none 0 0, .slice none 0 0, .int .i64 0, .int .i64 0, .slice none 0 0], .slice none 0 0] 8 rfl (World.shaped_of_RefB (by kernel_rfl) (by kernel_rfl)) (by kernel_rfl) (by kernel_rfl) (by kernel_rfl) (door_met os _)) rfl (by kernel_rfl) tyB4 (by kernel_rfl)
    (fun ds hd => match ds, hd with | [d0, d1], _ => ⟨rfl, rfl, rfl⟩) ?_
  intro W base args ds p hval0 hA0 hsz hLaid
  have hval : ∀ (j : Nat) t v, Tryz.f6.params[j]? = some t → args[j]? = some v → Value.okWide Tryz.prog W .any base t v := hval0
  have hA : DataW.TrodAll enc Tryz.prog W 0 (fun _ => true) true [27, 49] args.toList ds p := hA0
  rw [Tryz.params6] at hval
  obtain ⟨v0, vs0, d0, ds0, p0, q0, hargs, rfl, rfl, h0, r0⟩ := trodAll_cons hA
  obtain ⟨v1, vs1, d1, ds1, p1, q1, rfl, rfl, rfl, h1, r1⟩ := trodAll_cons r0
  obtain ⟨rfl, rfl, rfl⟩ := trodAll_nil r1
  obtain rfl : args = #[v0, v1] := by apply Array.toList_inj.1; simpa using hargs
  obtain ⟨x0, a0, rfl, hx0⟩ := open_tab (hval 0 27 v0 rfl rfl) h0
  obtain ⟨ad1, cap1, x1, rfl, hb1, hvb1⟩ := open_vals (hval 1 49 v1 rfl rfl) h1
  exact c_ScanSound x0 a0 ad1 cap1 x1 hvb1 W (Full W) (VLe.refl _) hx0 hb1
theorem scanSound_row : Rows.ScanSoundSaid :=
  OpenClaim.holds_of_wide 6 Tryz.f6 rfl rfl rfl rfl rfl rfl rfl ⟨rfl, rfl, rfl, rfl, rfl⟩ rfl rfl rfl rfl rfl (by kernel_rfl) Tryz.func6 (by kernel_rfl)
    (of_decide_eq_true (by kernel_rfl)) (by unfold Func.isWrapper; first | (rw [if_pos (by decide +kernel)]; kernel_rfl) | (rw [if_neg (by decide +kernel)]; exact ⟨rfl, rfl⟩))
    (fun os started H enc _ => scanSound_lifted os started H enc)
set_option maxRecDepth 100000 in
theorem scanSoundCard_holds : Rows.ScanSoundCardSaid :=
  Claim7.holds_tied_plain_at .later [] [.data, .pinned] true (true, "8df3493db3fb72f535c77321997f520d5244c034d4e4c7a71f92c1318aa86af5") true
    scanSound_row (fun _ h => by cases h) (by kernel_rfl) (fun _ h => by cases h) scanSound_row_tie rfl ⟨rfl, rfl⟩ (by kernel_rfl) rfl
    (fun f fn hf hfn => by
      obtain rfl : f = 6 := Option.some.inj ((show Tryz.prog.funcNamed "decretal/decretallaw31.ScanSound" = some 6 by kernel_rfl).symm.trans hf) |>.symm
      obtain rfl : fn = Tryz.f6 := (Option.some.inj (Tryz.func6.symm.trans hfn)).symm
      exact ⟨by kernel_rfl, fun j t ht => by
        rw [Tryz.params6] at ht
        have hm : t ∈ [27, 49] := by simpa using Array.mem_of_getElem? ht
        have hall : ([27, 49].all fun u => !Tryz.prog.wantsStandIn u) = true := by kernel_rfl
        exact (show Tryz.prog.wantsStandIn t = false by simpa using List.all_eq_true.1 hall t hm)⟩)
    (by kernel_rfl)

end Go.Proofs.YtbmmnalndollkaaGreatDoor
