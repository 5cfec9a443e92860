/- What the functions of the program compute: a text again. Each with its conditions. -/
import Derived.Test.YtopbpdgnjnoddaaDoorT13g
import Derived.Test.YtopbpdgnjnoddaaDoorLA
set_option linter.unusedSimpArgs false
set_option linter.unusedVariables false
namespace Go.Proofs.YtopbpdgnjnoddaaDoor
open Go Go.Dx Go.RowKit
theorem PowV.mono {h h' : View} (hp : PowV h) (hl : VLe h h') : PowV h' := by
  obtain ⟨T, fz, hg⟩ := hp
  exact ⟨T, fz, hl _ _ hg⟩
set_option maxRecDepth 100000 in
set_option maxHeartbeats 2000000 in
theorem c_LexAgain (s : List UInt8) (w0 : World) (h0 : View) (hv : VLe h0 (Full w0)) (hp : PowV h0) :
    Calls Tryd.prog 5 #[vs s] w0 (Ret w0 h0 fun u _ => u = .bool true) := by
  refine ent (args := [vs s]) TT_ok [] [] Tryd.func5 rfl Tryd.ntmps5 rfl rfl hv ?_
  refine cnd (fun h => ?_) (fun h => ?_)
  · refine cl c_lives ?_
    exact rfl
  · have hs : s.length ≤ 1000 := by omega
    rcases lexS_lay s with ⟨l, e, hlay⟩ | ⟨j, er, e, her, hj⟩
    rotate_left
    · refine cS TT_ok (l := []) (g := tokC) (fun w hw => c_LexE e (by omega) w h0 hw) (fun ad cp => ?_)
      refine cnd (fun h2 => ?_) (fun h2 => absurd h2 her)
      refine clg (fun _ => c_lives) ?_
      refine finB ?_
      simp; omega
    · have hll : l.length ≤ s.length := by have := lexS_len s; rw [e] at this; exact this
      refine cS TT_ok (l := l) (g := tokC) (fun w hw => c_LexE e (by omega) w h0 hw) (fun ad cp => ?_)
      refine cnd (fun h2 => absurd rfl h2) (fun h2 => ?_)
      refine w_loop TT_ok (fun x : Nat × Nat => [(7, .v (.int .i64 x.1)), (6, .v (.int .i64 x.2))]) (0, 0) (fun x => x.1 ≤ l.length ∧ x.2 ≤ s.length ∧ Lay s x.2 (l.drop x.1)) (fun x => l.length - x.1) ?_
      refine And.intro ⟨⟨Nat.zero_le _, Nat.zero_le _, hlay⟩, gs⟩ ?_
      rintro ⟨k, en⟩ ⟨hk, hen, hly⟩
      dsimp only at hk hen hly ⊢
      refine cnd (fun h3 => ?_) (fun h3 => ?_)
      · have hk' : k < l.length := by omega
        rw [List.drop_eq_getElem_cons hk', ← getD_lt l k t0 hk'] at hly
        obtain ⟨p, y1, y2, y3, y4, y5, y6, y7, y8, y9⟩ := hly
        refine ixf (fun v h => h.2) k t0 ?_
        have hrl := right_len y7
        refine cb (fun w hw => c_TText (l.getD k t0) y8 (by omega) w h0 hw hp) ?_
        rw [tkR_ok y7]
        have pj : (tkS (l.getD k t0), (0 : Int)).fst.length = (tkS (l.getD k t0)).length := rfl
        refine And.intro (by kernel_rfl) ?_
        refine ixfg (fun v h => h.2) k t0 ?_
        refine kg1 ?_
        refine ixfg (fun v h => h.2) k t0 ?_
        refine kg1 ?_
        refine wig ?_
        refine ixfg (fun v h => h.2) k t0 ?_
        refine kg1 ?_
        refine ixfg (fun v h => h.2) k t0 ?_
        refine kg1 ?_
        refine wig ?_
        refine sl2g p (p + (tkS (l.getD k t0)).length) ?_
        have hsl : (s.drop p).take (p + (tkS (l.getD k t0)).length - p) = tkS (l.getD k t0) := by rw [Nat.add_sub_cancel_left]; exact y5
        refine cndF ?_ ?_
        · have z1 : ¬ tkS (l.getD k t0) = [] := List.length_pos_iff.1 y6
          rw [hsl, y1]
          show (!decide ((0 : Int) = 0) || decide (tkS (l.getD k t0) = []) || decide ((p : Int) < en) || decide ((s.length : Int) - (tkS (l.getD k t0)).length < p) || !decide (tkS (l.getD k t0) = tkS (l.getD k t0))) = false
          rw [decide_eq_false z1, decide_eq_false (p := (p : Int) < en) (by omega), decide_eq_false (p := (s.length : Int) - _ < p) (by omega)]; simp
        refine w_loop TT_ok (fun j : Nat => [(10, .v (.int .i64 j))]) en (fun j => en ≤ j ∧ j ≤ p) (fun j => p - j) ?_
        refine And.intro ⟨⟨Nat.le_refl _, y2⟩, gs⟩ ?_
        intro j ⟨hj1, hj2⟩
        refine ixf (fun v h => h.2) k t0 ?_
        refine cnd (fun h4 => ?_) (fun h4 => ?_)
        · refine ix j ?_
          have hbl : bt s j = 32 := y4 j hj1 (by omega)
          refine cndF (by unfold bt at hbl; rw [hbl]; rfl) ?_
          refine wi ?_
          exact ⟨j + 1, ⟨⟨by omega, by omega⟩, by omega⟩, gs⟩
        · refine ixf (fun v h => h.2) k t0 ?_
          refine wi ?_
          refine wi ?_
          refine ⟨(k + 1, p + (tkS (l.getD k t0)).length), ⟨⟨hk', y3, y9⟩, ?_⟩, gs ?_⟩
          · show l.length - (k + 1) < l.length - k; omega
          · rw [y1]; rfl
      · have e2 : k = l.length := by omega
        rw [e2, List.drop_length] at hly
        refine w_loop TT_ok (fun j : Nat => [(11, .v (.int .i64 j))]) en (fun j => en ≤ j ∧ j ≤ s.length) (fun j => s.length - j) ?_
        refine And.intro ⟨⟨Nat.le_refl _, hen⟩, gs⟩ ?_
        intro j ⟨hj1, hj2⟩
        refine cnd (fun h4 => ?_) (fun h4 => ?_)
        · refine ix j ?_
          have hbl : bt s j = 32 := hly.2 j hj1 (by omega)
          refine cndF (by unfold bt at hbl; rw [hbl]; rfl) ?_
          refine wi ?_
          exact ⟨j + 1, ⟨⟨by omega, by omega⟩, by omega⟩, gs⟩
        · have hall := hlay.all
          refine cf (x := tsV (joR l)) (fun w v h1 h2 h3 => c_TJoin ad cp l (fun t ht => (hall t ht).2) (fun t ht => by have := right_len (hall t ht).1; omega) (by omega) w v h3 (hp.mono h1) h2.2) ?_
          rw [show joR l = (joS l, 0) by rw [joR, if_pos (List.all_eq_true.2 fun t ht => (hall t ht).1)]]
          obtain ⟨l', e, hsm⟩ := lex_back hall
          have hlen := jo_len l hall
          by_cases hbig : 200 < (joS l).length
          · rw [if_pos hbig] at e
            refine cS TT_ok (l := []) (g := tokC) (fun w hw => c_LexE e (by omega) w h0 hw) (fun ad2 cp2 => ?_)
            refine cfg (x := .bool false) (fun h => ?_) ?_
            · exact absurd h.2 (by decide)
            · refine clg (fun _ => c_lives) ?_
              refine finB ?_
              show (decide ((0 : Int) = 0) && decide ((0 : Int) = 0) && (decide ((5 : Int) = 0) && false || decide ((5 : Int) = 5) && decide ((200 : Int) < ((joS l).length : Int))) && true) = true
              rw [decide_eq_true (p := (200 : Int) < ((joS l).length : Int)) (by omega)]; rfl
          · rw [if_neg hbig] at e
            refine cS TT_ok (l := l') (g := tokC) (fun w hw => c_LexE e (by omega) w h0 hw) (fun ad2 cp2 => ?_)
            refine cfg (x := .bool (sameS l l' false)) (fun _ w v h1 h2 h3 => c_Same ad cp l ad2 cp2 l' false (by omega) w v h3 h2.1.2 h2.2) ?_
            refine clg (fun _ => c_lives) ?_
            refine finB ?_
            rw [hsm]; rfl

end Go.Proofs.YtopbpdgnjnoddaaDoor
