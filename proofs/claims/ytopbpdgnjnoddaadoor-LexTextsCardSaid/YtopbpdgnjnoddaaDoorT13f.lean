/- What the functions of the program compute: the laws of the texts of tokens. Each with its conditions. -/
import Derived.Test.YtopbpdgnjnoddaaDoorT13e
set_option linter.unusedSimpArgs false
set_option linter.unusedVariables false
namespace Go.Proofs.YtopbpdgnjnoddaaDoor
open Go Go.Dx Go.RowKit
set_option maxRecDepth 100000 in
set_option maxHeartbeats 1000000 in
theorem c_LexTexts (ad : Option Addr) (cap : Nat) (l : List Tok) (hn : ∀ t ∈ l, I64 t.n) (w0 : World) (h0 : View) (hv : VLe h0 (Full w0)) (hp : PowV h0) (hb : SlC 26 4 (flatR tokC) h0 (.slice ad l.length cap) l) (hlm : l.length ≤ 9223372036854775807) (hsm : ∀ t ∈ l, t.s.length ≤ 9223372036854775807) :
    Calls Tryd.prog 3 #[.slice ad l.length cap] w0 (Ret w0 h0 fun u _ => u = .bool true) := by
  refine ent (args := [.slice ad l.length cap]) TT_ok [] [] Tryd.func3 rfl Tryd.ntmps3 rfl rfl hv ?_
  refine cnd (fun h => ?_) (fun h => ?_)
  · refine cl c_lives ?_
    exact rfl
  · intro b
    refine w_loopB TT_ok (fun x : Nat × Tok => [(4, .v (.int .i64 x.1))]) (fun x => [(3, .c b 26 (tokC x.2))]) (0, t0) (fun x => x.1 ≤ l.length ∧ (∀ j, j < x.1 → (l.getD j t0).s.length ≤ 300) ∧ I64 x.2.n ∧ x.2.s.length ≤ 300) (fun x => l.length - x.1) ?_
    refine And.intro ⟨⟨Nat.zero_le _, fun j h => absurd h (Nat.not_lt_zero _), ⟨by decide, by decide⟩, Nat.zero_le _⟩, gs⟩ ?_
    rintro ⟨k, t⟩ ⟨hk, hj, hti, hts⟩
    dsimp only at hk hj hti hts ⊢
    refine cnd (fun h2 => ?_) (fun h2 => ?_)
    · have hk' : k < l.length := by omega
      have hm := getD_mem l k t0 hk'
      refine ixs hb k t0 ?_
      refine cnd (fun h3 => ?_) (fun h3 => ?_)
      · refine cl c_lives ?_
        exact rfl
      · refine ixs hb k t0 ?_
        refine wi ?_
        refine ⟨(k + 1, l.getD k t0), ⟨⟨hk', fun j hjk => ?_, hn _ hm, (by show (l.getD k t0).s.length ≤ 300; omega)⟩, ?_⟩, gs⟩
        · have hjk : j < k + 1 := hjk
          by_cases hjn : j = k
          · rw [hjn]; omega
          · exact hj j (by omega)
        · show l.length - (k + 1) < l.length - k; omega
    · have hs : ∀ u ∈ l, u.s.length ≤ 1000000 := by
        intro u hu
        obtain ⟨j, hj', rfl⟩ := List.mem_iff_getElem.1 hu
        have := hj j (by omega)
        rw [getD_lt l j t0 hj'] at this; omega
      refine cb (fun w hw => c_TJoin ad cap l hn hs (by omega) w h0 hw hp hb) ?_
      refine cb (fun w hw => c_RTJoin ad cap l hn hs (by omega) w h0 hw hb) ?_
      refine cb (fun w hw => c_TText t hti (by omega) w h0 hw hp) ?_
      refine cl (c_RTText t hti (by omega)) ?_
      refine clg (fun _ => c_lives) ?_
      refine finB ?_
      simp

end Go.Proofs.YtopbpdgnjnoddaaDoor
