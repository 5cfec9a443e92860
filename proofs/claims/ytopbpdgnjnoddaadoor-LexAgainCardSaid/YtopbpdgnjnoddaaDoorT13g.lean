/- What the functions of the program compute: what was joined is read back. Each with its conditions. -/
import Derived.Test.YtopbpdgnjnoddaaDoorT13e
import Derived.Test.YtopbpdgnjnoddaaDoorLB
set_option linter.unusedSimpArgs false
set_option linter.unusedVariables false
namespace Go.Proofs.YtopbpdgnjnoddaaDoor
open Go Go.Dx Go.RowKit
theorem c_LexE {s : List UInt8} {m : List Tok} {a e : Int} (h : lexS s = (m, a, e)) (hs : s.length ≤ 1000000) (w0 : World) (h0 : View) (hv : VLe h0 (Full w0)) : Calls Tryd.prog 11 #[vs s] w0 (RetM [] w0 fun v w' => ∃ sl, v = .tuple #[sl, .int .i64 a, .int .i64 e] ∧ NewBuf w0 26 4 (m.map tokC).flatten sl w') := by
  have := c_Lex s hs w0 h0 hv
  rw [h] at this
  exact this
set_option maxRecDepth 100000 in
set_option maxHeartbeats 1000000 in
theorem c_LexBack (ad : Option Addr) (cap : Nat) (l : List Tok) (hn : ∀ t ∈ l, I64 t.n) (w0 : World) (h0 : View) (hv : VLe h0 (Full w0)) (hp : PowV h0) (hb : SlC 26 4 (flatR tokC) h0 (.slice ad l.length cap) l) (hlm : l.length ≤ 9223372036854775807) (hsm : ∀ t ∈ l, t.s.length ≤ 9223372036854775807) :
    Calls Tryd.prog 4 #[.slice ad l.length cap] w0 (Ret w0 h0 fun u _ => u = .bool true) := by
  refine ent (args := [.slice ad l.length cap]) TT_ok [] [] Tryd.func4 rfl Tryd.ntmps4 rfl rfl hv ?_
  refine cnd (fun h => ?_) (fun h => ?_)
  · refine cl c_lives ?_
    exact rfl
  · refine w_loop TT_ok (fun k : Nat => [(3, .v (.int .i64 k))]) 0 (fun k => k ≤ l.length ∧ ∀ j, j < k → (l.getD j t0).s.length ≤ 300) (fun k => l.length - k) ?_
    refine And.intro ⟨⟨Nat.zero_le _, fun j h => absurd h (Nat.not_lt_zero _)⟩, gs⟩ ?_
    intro k ⟨hk, hj⟩
    refine cnd (fun h2 => ?_) (fun h2 => ?_)
    · have hk' : k < l.length := by omega
      refine ixs hb k t0 ?_
      refine cnd (fun h3 => ?_) (fun h3 => ?_)
      · refine cl c_lives ?_
        exact rfl
      · refine wi ?_
        refine ⟨k + 1, ⟨⟨hk', fun j hjk => ?_⟩, by omega⟩, gs⟩
        by_cases hjn : j = k
        · rw [hjn]; omega
        · exact hj j (by omega)
    · have hs : ∀ u ∈ l, u.s.length ≤ 1000000 := by
        intro u hu
        obtain ⟨j, hj', rfl⟩ := List.mem_iff_getElem.1 hu
        have := hj j (by omega)
        rw [getD_lt l j t0 hj'] at this; omega
      refine cb (fun w hw => c_TJoin ad cap l hn hs (by omega) w h0 hw hp hb) ?_
      cases hall : l.all rightT
      · rw [show joR l = ([], 2) by rw [joR, hall]; rfl]
        refine cnd (fun h3 => ?_) (fun h3 => absurd h3 (by decide))
        refine clg (fun _ => c_lives) ?_
        refine finB ?_
        rfl
      · have hall' : ∀ t ∈ l, rightT t = true ∧ I64 t.n := fun t ht => ⟨List.all_eq_true.1 hall t ht, hn t ht⟩
        rw [show joR l = (joS l, 0) by rw [joR, hall]; rfl]
        refine cnd (fun h3 => absurd rfl h3) (fun h3 => ?_)
        obtain ⟨l', e, hsm⟩ := lex_back hall'
        have hlen := jo_len l hall'
        by_cases hbig : 200 < (joS l).length
        · rw [if_pos hbig] at e
          refine cS TT_ok (l := []) (g := tokC) (fun w hw => c_LexE e (by omega) w h0 hw) (fun ad2 cp2 => ?_)
          refine cnd (fun h4 => ?_) (fun h4 => by exfalso; have h5 : ¬ (((joS l).length : Int) > 200) := h4; omega)
          refine clg (fun _ => c_lives) ?_
          refine finB ?_
          rfl
        · rw [if_neg hbig] at e
          refine cS TT_ok (l := l') (g := tokC) (fun w hw => c_LexE e (by omega) w h0 hw) (fun ad2 cp2 => ?_)
          refine cnd (fun h4 => by exfalso; have h5 : ((joS l).length : Int) > 200 := h4; omega) (fun h4 => ?_)
          refine cf (x := .bool (sameS l l' false)) (fun w v h1 h2 h3 => c_Same ad cap l ad2 cp2 l' false (by omega) w v h3 (hb.monoF h1) h2.2) ?_
          refine clg (fun _ => c_lives) ?_
          refine finB ?_
          rw [hsm]; rfl

end Go.Proofs.YtopbpdgnjnoddaaDoor
