/- HitLess: whatever the table, the rule and the values, of bulk at most 1048576, the law returns true, and what came in reads as it read. Condition: the bulk of what came in is at most 1048576. -/
import Derived.Test.YtkkbnjomcgnkpaaGreatHle
import Derived.Test.YtkkbnjomcgnkpaaGreatRows
set_option linter.unusedSimpArgs false
set_option linter.unusedVariables false
set_option linter.unusedVariables false
namespace Go.Proofs.YtkkbnjomcgnkpaaGreat
open Go Go.Dx Go.RowKit Go.ChangeShapes Go.WideShapes Go.ChangeAt
namespace hitLess
theorem tyB4 : Tryz.prog.underlying 4 = some .bool := by kernel_rfl
end hitLess
open hitLess
theorem hitLess_own : ownKnob Tryz.prog.godebug = none := by kernel_rfl
theorem hitLess_laidOut : laidOutB Tryz.prog = true := by kernel_rfl
theorem hitLess_reads (os : Os) {H : Type} (enc : TypeId × Value → H) : DataW.whole enc Tryz.prog (((World.holding Tryz.prog os ⟨#[], #[], []⟩)).forCall (fun _ _ => 0) ⟨#[], #[.agg #[.string ⟨#[]⟩, .slice none 0 0, .slice none 0 0, .int .i64 0, .int .i64 0, .slice none 0 0], .agg #[.slice none 0 0, .slice none 0 0], .slice none 0 0], []⟩).memory Tryz.f6.params.toList Rows.hitLessSpec.vars false #[.agg #[.string ⟨#[]⟩, .slice none 0 0, .slice none 0 0, .int .i64 0, .int .i64 0, .slice none 0 0], .agg #[.slice none 0 0, .slice none 0 0], .slice none 0 0].toList 8 = some ([.agg [.lit (.string []), .nil, .nil, .lit (.int .i64 0), .lit (.int .i64 0), .nil], .agg [.nil, .nil], .nil], [], []) := by kernel_rfl
set_option maxRecDepth 100000 in
theorem hitLess_lifted (os : Os) (started : os.Started) (H : Type) (enc : TypeId × Value → H) (F : Stop.Interp) :
    ReturnsInHanded {} Tryz.checked os 6 .any ((Rows.OpenSpec.upto Rows.hitLessSpec).preRow enc Tryz.prog Tryz.f6 [] false ([] : List (String × DataW Unit))) (((Rows.OpenSpec.upto Rows.hitLessSpec).at F).post enc Tryz.prog Tryz.f6 false true false false) := by
  refine law_liftedU (s := Rows.OpenSpec.upto Rows.hitLessSpec) (s0 := Rows.hitLessSpec) (k0 := Rows.uptoSmall) (laid := ([] : List (String × DataW Unit))) (C := Tryz.checked) (tb := 4) hitLess_laidOut hitLess_own started (by kernel_rfl) Tryz.func6 rfl
    (witness_rowD (enc := enc) (C := Tryz.checked) (World.holding Tryz.prog os ⟨#[], #[], []⟩) #[.agg #[.string ⟨#[]⟩, .slice none 0 0, .slice none 0 0, .int .i64 0, .int .i64 0, .slice none 0 0], .agg #[.slice none 0 0, .slice none 0 0], .slice none 0 0] rfl (World.shaped_of_RefB (by kernel_rfl) (by kernel_rfl)) (by kernel_rfl)
      (OpenSpec.preRow_of_cond 8 (hitLess_reads os enc) (by kernel_rfl) (fun k hk => by cases hk; kernel_rfl) (by kernel_rfl) (laidMetH_nil _ _))) rfl (by kernel_rfl) tyB4 (by kernel_rfl)
    (fun ds hd => match ds, hd with | [d0, d1, d2], _ => ⟨rfl, rfl, rfl⟩) ?_
  intro W base args ds p hval0 hA0 hk hLaid
  have hval : ∀ (j : Nat) t v, Tryz.f6.params[j]? = some t → args[j]? = some v → Value.okWide Tryz.prog W .any base t v := hval0
  have hA : DataW.TrodAll enc Tryz.prog W 0 (fun _ => true) true [27, 66, 28] args.toList ds p := hA0
  rw [Tryz.params6] at hval
  obtain ⟨v0, vs0, d0, ds0, p0, q0, hargs, rfl, rfl, h0, r0⟩ := trodAll_cons hA
  obtain ⟨v1, vs1, d1, ds1, p1, q1, rfl, rfl, rfl, h1, r1⟩ := trodAll_cons r0
  obtain ⟨v2, vs2, d2, ds2, p2, q2, rfl, rfl, rfl, h2, r2⟩ := trodAll_cons r1
  obtain ⟨rfl, rfl, rfl⟩ := trodAll_nil r2
  obtain rfl : args = #[v0, v1, v2] := by apply Array.toList_inj.1; simpa using hargs
  have hbk := bulk_of hk
  simp only [bkL] at hbk
  obtain ⟨x0, a0, rfl, hx0, hb0⟩ := open_tabU (hval 0 27 v0 rfl rfl) h0
  obtain ⟨x1, a1, b1, rfl, hxa1, hxb1⟩ := open_rul (hval 1 66 v1 rfl rfl) h1
  obtain ⟨ad2, cap2, x2, rfl, hb2, hvb2⟩ := open_vals (hval 2 28 v2 rfl rfl) h2
  exact c_HitLess x0 a0 x1 a1 b1 ad2 cap2 x2 (by omega) W (Full W) (VLe.refl _) hx0 hxa1 hxb1 hb2 (fun v hv => (hvb2 v hv).1)
theorem hitLess_holds : Rows.HitLessUptoSaid :=
  OpenClaim.holds_of_cond 6 Tryz.f6 rfl rfl rfl rfl rfl rfl rfl ⟨rfl, rfl, rfl, rfl, rfl⟩ rfl rfl rfl rfl rfl (by kernel_rfl) Tryz.func6 (by kernel_rfl)
    (of_decide_eq_true (by kernel_rfl)) (by unfold Func.isWrapper; first | (rw [if_pos (by decide +kernel)]; kernel_rfl) | (rw [if_neg (by decide +kernel)]; exact ⟨rfl, rfl⟩))
    (fun os started H enc _ F => by rw [OpenClaim.pre_eq_preRow]; exact hitLess_lifted os started H enc F)

end Go.Proofs.YtkkbnjomcgnkpaaGreat
