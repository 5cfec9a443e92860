/- ScanPoints: whatever the table, the number, the points and the value, the law returns true, and what came in reads as it read. No condition. -/
import Derived.Test.YtbmmnalndollkaaGreatDoorSpf
import Derived.Test.YtbmmnalndollkaaGreatDoorRows
import Derived.Test.YtbmmnalndollkaaGreatDoorTie
import Derived.Test.YtbmmnalndollkaaGreatDoorCards
import Derived.SevenTiedAt
set_option linter.unusedSimpArgs false
set_option linter.unusedVariables false
set_option linter.unusedVariables false
namespace Go.Proofs.YtbmmnalndollkaaGreatDoor
open Go Go.Dx Go.RowKit Go.ChangeShapes Go.WideShapes Go.ChangeAt
namespace scanPoints
theorem tyI3 : Tryz.prog.underlying 3 = some (.int .i64) := by kernel_rfl
theorem tyB4 : Tryz.prog.underlying 4 = some .bool := by kernel_rfl
end scanPoints
open scanPoints
theorem scanPoints_own : ownKnob Tryz.prog.godebug = none := by kernel_rfl
theorem scanPoints_laidOut : laidOutB Tryz.prog = true := by kernel_rfl
set_option maxRecDepth 100000 in
theorem scanPoints_lifted (os : Os) (started : os.Started) (H : Type) (enc : TypeId × Value → H) :
    ReturnsInHanded {} Tryz.checked os 4 .any (fun w args => (Rows.scanPointsSpec.pre enc Tryz.prog Tryz.f4 [] false w args ∧ laidMetH Tryz.prog laidL w) ∧ sizedMet enc Tryz.prog Tryz.f4 (OpenSpec.ofChange Rows.scanPointsSpec) false w args) (Rows.scanPointsSpec.post enc Tryz.prog Tryz.f4 false true false false) := by
  refine law_liftedL (laid := laidL) (C := Tryz.checked) (tb := 4) scanPoints_laidOut scanPoints_own started (by kernel_rfl) Tryz.func4
    (ChangeSpec.witness_shaped (enc := enc) (C := Tryz.checked) (os := os) (X := fun w _ => laidMetH Tryz.prog laidL w) false (laidWorld os) #[.agg #[.string ⟨#[]⟩, .slice none 0 0, .slice none 0 0, .int .i64 0, .int .i64 0, .slice none 0 0], .int .i64 0, .slice none 0 0, .agg #[.int .i64 0, .int .i64 0, .string ⟨#[]⟩]] 8 rfl (World.shaped_of_RefB (by kernel_rfl) (by kernel_rfl)) (by kernel_rfl) (by kernel_rfl) (by kernel_rfl) (door_met os _)) rfl (by kernel_rfl) tyB4 (by kernel_rfl)
    (fun ds hd => match ds, hd with | [d0, d1, d2, d3], _ => ⟨rfl, rfl, rfl⟩) ?_
  intro W base args ds p hval0 hA0 hsz hLaid
  have hval : ∀ (j : Nat) t v, Tryz.f4.params[j]? = some t → args[j]? = some v → Value.okWide Tryz.prog W .any base t v := hval0
  have hA : DataW.TrodAll enc Tryz.prog W 0 (fun _ => true) true [27, 3, 49, 52] args.toList ds p := hA0
  rw [Tryz.params4] at hval
  obtain ⟨v0, vs0, d0, ds0, p0, q0, hargs, rfl, rfl, h0, r0⟩ := trodAll_cons hA
  obtain ⟨v1, vs1, d1, ds1, p1, q1, rfl, rfl, rfl, h1, r1⟩ := trodAll_cons r0
  obtain ⟨v2, vs2, d2, ds2, p2, q2, rfl, rfl, rfl, h2, r2⟩ := trodAll_cons r1
  obtain ⟨v3, vs3, d3, ds3, p3, q3, rfl, rfl, rfl, h3, r3⟩ := trodAll_cons r2
  obtain ⟨rfl, rfl, rfl⟩ := trodAll_nil r3
  obtain rfl : args = #[v0, v1, v2, v3] := by apply Array.toList_inj.1; simpa using hargs
  obtain ⟨x0, a0, rfl, hx0⟩ := open_tab (hval 0 27 v0 rfl rfl) h0
  obtain ⟨x1, rfl, rfl, rfl, w1⟩ := open_int tyI3 (hval 1 3 v1 rfl rfl) h1
  have w1 := int_bounds w1
  obtain ⟨ad2, cap2, x2, rfl, hb2, hvb2⟩ := open_vals (hval 2 49 v2 rfl rfl) h2
  obtain ⟨x3, rfl, hvb3, hvs3⟩ := open_val (hval 3 52 v3 rfl rfl) h3
  exact c_ScanPoints x0 a0 x1 ad2 cap2 x2 x3 hvb3 hvs3 hvb2 W (Full W) (VLe.refl _) hx0 hb2
theorem scanPoints_row : Rows.ScanPointsSaid :=
  OpenClaim.holds_of_wide 4 Tryz.f4 rfl rfl rfl rfl rfl rfl rfl ⟨rfl, rfl, rfl, rfl, rfl⟩ rfl rfl rfl rfl rfl (by kernel_rfl) Tryz.func4 (by kernel_rfl)
    (of_decide_eq_true (by kernel_rfl)) (by unfold Func.isWrapper; first | (rw [if_pos (by decide +kernel)]; kernel_rfl) | (rw [if_neg (by decide +kernel)]; exact ⟨rfl, rfl⟩))
    (fun os started H enc _ => scanPoints_lifted os started H enc)
set_option maxRecDepth 100000 in
theorem scanPointsCard_holds : Rows.ScanPointsCardSaid :=
  Claim7.holds_tied_plain_at .later [] [.data, .pinned] true (true, "8df3493db3fb72f535c77321997f520d5244c034d4e4c7a71f92c1318aa86af5") true
    scanPoints_row (fun _ h => by cases h) (by kernel_rfl) (fun _ h => by cases h) scanPoints_row_tie rfl ⟨rfl, rfl⟩ (by kernel_rfl) rfl
    (fun f fn hf hfn => by
      obtain rfl : f = 4 := Option.some.inj ((show Tryz.prog.funcNamed "decretal/decretallaw31.ScanPoints" = some 4 by kernel_rfl).symm.trans hf) |>.symm
      obtain rfl : fn = Tryz.f4 := (Option.some.inj (Tryz.func4.symm.trans hfn)).symm
      exact ⟨by kernel_rfl, fun j t ht => by
        rw [Tryz.params4] at ht
        have hm : t ∈ [27, 3, 49, 52] := by simpa using Array.mem_of_getElem? ht
        have hall : ([27, 3, 49, 52].all fun u => !Tryz.prog.wantsStandIn u) = true := by kernel_rfl
        exact (show Tryz.prog.wantsStandIn t = false by simpa using List.all_eq_true.1 hall t hm)⟩)
    (by kernel_rfl)

end Go.Proofs.YtbmmnalndollkaaGreatDoor
