/- What the functions of the program compute: tokens joined. Each with its conditions. -/
import Derived.Test.YtopbpdgnjnoddaaDoorT13d
set_option linter.unusedSimpArgs false
set_option linter.unusedVariables false
namespace Go.Proofs.YtopbpdgnjnoddaaDoor
open Go Go.Dx Go.RowKit
theorem c_strJoin (ad : Option Addr) (cap : Nat) (l : List (List UInt8)) (sep : List UInt8) (hl : l.length ≤ 1000000) (hlen : (Lib.join l sep).length ≤ 140737488355328) (w0 : World) (h0 : View) (hv : VLe h0 (Full w0)) (hb : SlC 9 1 (flatR fun s => [vs s]) h0 (.slice ad l.length cap) l) :
    Calls Tryd.prog 14 #[.slice ad l.length cap, vs sep] w0 (Ret w0 h0 fun u _ => u = vs (Lib.join l sep)) := by
  by_cases he : l = []
  · subst he
    exact calls_same (h := h0) (Tryd.strings_Join_none ad cap ⟨sep.toArray⟩ w0)
  · have hpos : 0 < l.length := List.length_pos_iff.2 he
    have el : ∀ j, j < l.length → ad = some ⟨adB ad, adO ad, none⟩ ∧ w0.cell? ⟨adB ad, adO ad + j, none⟩ = some (vs (l.getD j [])) := fun j hj => by
      have := SlC.el (h0 := h0) (F := fun _ => True) (fun v h1 _ => hb.monoF h1) [] hj h0 (VLe.refl _) trivial
      refine ⟨this.1, ?_⟩
      have h2 := this.2 w0 hv 0 (vs (l.getD j [])) rfl
      simpa using h2
    have h0' := el 0 hpos
    obtain ⟨_, _, _, hcap, _⟩ := hb.parts
    have hcap' : l.length ≤ cap := by
      obtain ⟨a, c, hv, h1, h2⟩ := hb.parts
      cases hv; exact h1
    have hx := Tryd.strings_Join (adB ad) (adO ad) cap (l.map fun s => (⟨s.toArray⟩ : ByteArray)) ⟨sep.toArray⟩ w0 (fun j x hj => by
      rw [List.getElem?_map] at hj
      cases hg : l[j]? with
      | none => rw [hg] at hj; cases hj
      | some s =>
        rw [hg] at hj
        cases hj
        have hlt := (List.getElem?_eq_some_iff.1 hg)
        obtain ⟨hlt, hs⟩ := hlt
        have := (el j hlt).2
        rw [getD_lt l j [] hlt, hs] at this
        exact this) (cell_lt h0'.2) (by simp; omega) (by simpa using hcap') (by simpa [List.map_map, Function.comp_def] using hlen)
    rw [List.length_map, ← h0'.1] at hx
    have e : (Lib.join ((l.map fun s => (⟨s.toArray⟩ : ByteArray)).map (·.data.toList)) (⟨sep.toArray⟩ : ByteArray).data.toList) = Lib.join l sep := by simp [List.map_map, Function.comp_def]
    rw [e] at hx
    exact calls_below hx
theorem c_Rright (t : Tok) (hs : t.s.length ≤ 1000000) (w0 : World) (h0 : View) (hv : VLe h0 (Full w0)) : Calls Tryd.prog 18 #[.agg (tokC t).toArray] w0 (Ret w0 h0 fun u _ => u = .bool (rightT t)) := by
  refine ent (args := [.agg (tokC t).toArray]) TT_ok [] [] Tryd.func18 rfl Tryd.ntmps18 rfl rfl hv ?_
  intro b
  refine cnd (fun h1 => ?_) (fun h1 => ?_)
  · refine And.intro (by kernel_rfl) ?_
    refine clg (fun _ => c_Rword t.s hs) ?_
    rw [right_1 h1]; exact rfl
  · refine cnd (fun h2 => ?_) (fun h2 => ?_)
    · rw [right_2 h2]; exact rfl
    · refine cnd (fun h3 => ?_) (fun h3 => ?_)
      · refine clg (fun _ => c_RPlain t.s (by omega)) ?_
        rw [right_3 h3]; exact rfl
      · refine cnd (fun h4 => ?_) (fun h4 => ?_)
        · refine cRow TT_ok (sz := 1) (g := fun s => [vs s]) marksL (fun w hw => c_Rmarks w h0 hw) (fun b2 => ?_)
          refine w_loop TT_ok (fun k : Nat => [(4, .v (.int .i64 k))]) 0 (fun k => k ≤ 16 ∧ t.s ∉ marksL.take k) (fun k => 16 - k) ?_
          refine And.intro ⟨⟨by decide, by simp⟩, gs⟩ ?_
          intro k ⟨hk, hm⟩
          refine cnd (fun h => ?_) (fun h => ?_)
          · have hk' : k < 16 := by omega
            refine And.intro (by kernel_rfl) ?_
            refine ixf (fun v h => h.2) k [] ?_ (h := ⟨rfl, hk'⟩)
            refine cnd (fun h5 => ?_) (fun h5 => ?_)
            · have : t.s ∈ marksL := by rw [← h5]; exact getD_mem marksL k [] hk'
              rw [right_4 h4, List.contains_eq_mem, decide_eq_true this, Bool.and_true]; exact rfl
            · refine wi ?_
              refine ⟨k + 1, ⟨⟨hk', ?_⟩, by omega⟩, gs⟩
              rw [take_snocD marksL k [] hk', List.mem_append]
              rintro (h6 | h6)
              · exact hm h6
              · exact h5 (List.mem_singleton.1 h6).symm
          · have : k = 16 := by omega
            subst this
            have : t.s ∉ marksL := hm
            rw [right_4 h4, List.contains_eq_mem, decide_eq_false this, Bool.and_false]; exact rfl
        · rw [right_0 h1 h2 h3 h4]; exact rfl
theorem c_TText (t : Tok) (hn : I64 t.n) (hs : t.s.length ≤ 1000000) (w0 : World) (h0 : View) (hv : VLe h0 (Full w0)) (hp : PowV h0) : Calls Tryd.prog 9 #[.agg (tokC t).toArray] w0 (Ret w0 h0 fun u _ => u = tsV (tkR t)) := by
  refine ent (args := [.agg (tokC t).toArray]) TT_ok [] [] Tryd.func9 rfl Tryd.ntmps9 rfl rfl hv ?_
  intro b
  refine cl (c_right t hn hs) ?_
  refine cnd (fun h => ?_) (fun h => ?_)
  · rw [tkR_no h]; exact rfl
  · rw [tkR_ok h]
    refine cnd (fun h1 => ?_) (fun h1 => ?_)
    · refine cb (fun w hw => c_Itoa t.n hn w h0 hw hp) ?_
      rw [tkS, if_pos h1]; exact rfl
    · refine cnd (fun h2 => ?_) (fun h2 => ?_)
      · refine cl (c_VTextQ t.s (by rw [right_3 h2] at h; simp only [Bool.and_eq_true] at h; exact h.2)) ?_
        rw [tkS, if_neg h1, if_pos h2]; exact rfl
      · rw [tkS, if_neg h1, if_neg h2]; exact rfl
theorem c_RTText (t : Tok) (hn : I64 t.n) (hs : t.s.length ≤ 1000000) (w0 : World) (h0 : View) (hv : VLe h0 (Full w0)) : Calls Tryd.prog 10 #[.agg (tokC t).toArray] w0 (Ret w0 h0 fun u _ => u = tsV (tkR t)) := by
  refine ent (args := [.agg (tokC t).toArray]) TT_ok [] [] Tryd.func10 rfl Tryd.ntmps10 rfl rfl hv ?_
  intro b
  refine cl (c_Rright t hs) ?_
  refine cnd (fun h => ?_) (fun h => ?_)
  · rw [tkR_no h]; exact rfl
  · rw [tkR_ok h]
    refine cnd (fun h1 => ?_) (fun h1 => ?_)
    · refine cl (c_Digits _ t.n (Nat.le_refl _) hn) ?_
      rw [tkS, if_pos h1]; exact rfl
    · refine cnd (fun h2 => ?_) (fun h2 => ?_)
      · refine cl (c_RQuote t.s hs) ?_
        rw [tkS, if_neg h1, if_pos h2]; exact rfl
      · rw [tkS, if_neg h1, if_neg h2]; exact rfl
theorem flat1 (l : List (List UInt8)) : (l.map fun s => [vs s]).flatten.length = l.length := by induction l with
  | nil => rfl
  | cons a l ih => simp [ih]
set_option maxHeartbeats 1000000 in
theorem c_TJoin (ad : Option Addr) (cap : Nat) (l : List Tok) (hn : ∀ t ∈ l, I64 t.n) (hs : ∀ t ∈ l, t.s.length ≤ 1000000) (hl : l.length ≤ 100000) (w0 : World) (h0 : View) (hv : VLe h0 (Full w0)) (hp : PowV h0) (hb : SlC 26 4 (flatR tokC) h0 (.slice ad l.length cap) l) :
    Calls Tryd.prog 7 #[.slice ad l.length cap] w0 (Ret w0 h0 fun u _ => u = tsV (joR l)) := by
  refine ent (args := [.slice ad l.length cap]) TT_ok [28] [] Tryd.func7 rfl Tryd.ntmps7 rfl rfl hv ?_
  refine nilC 900 9 1 ?_
  refine w_loopB TT_ok (fun x : Option Addr × Nat × Nat × Nat => [(4, .v (.slice x.1 x.2.1 x.2.2.1)), (11, .v (.int .i64 x.2.2.2))]) (fun x => [(900, .e (bufE 9 1 (.slice x.1 x.2.1 x.2.2.1) (((l.take x.2.2.2).map tkS).map fun s => [vs s]).flatten))]) (none, 0, 0, 0)
    (fun x => x.2.2.2 ≤ l.length ∧ x.2.1 = x.2.2.2 ∧ ∀ j, j < x.2.2.2 → rightT (l.getD j t0) = true) (fun x => l.length - x.2.2.2) ?_
  refine And.intro ⟨⟨Nat.zero_le _, rfl, fun j h => absurd h (Nat.not_lt_zero _)⟩, gs⟩ ?_
  rintro ⟨a0, nn, cp, k⟩ ⟨hk, hnk, hr⟩
  dsimp only at hk hnk hr ⊢
  subst hnk
  refine cnd (fun h => ?_) (fun h => ?_)
  · have hk' : nn < l.length := by omega
    refine ixs hb nn t0 ?_
    intro b6
    have hm := getD_mem l nn t0 hk'
    refine cb (fun w hw => c_TText (l.getD nn t0) (hn _ hm) (hs _ hm) w h0 hw hp) ?_
    refine cnd (fun h1 => ?_) (fun h1 => ?_)
    · cases hrt : rightT (l.getD nn t0)
      · rw [joR_no hk' hrt, tkR_no hrt]; exact rfl
      · rw [tkR_ok hrt] at h1; exact absurd rfl h1
    · have hrt : rightT (l.getD nn t0) = true := by
        cases hrt : rightT (l.getD nn t0)
        · rw [tkR_no hrt] at h1; exact absurd h1 (by decide)
        · rfl
      rw [tkR_ok hrt]
      intro b25
      refine ap TT_ok 900 (AppT.of (bytes := 16) (sz := 0) (by kernel_rfl) (by kernel_rfl) (by kernel_rfl)) rfl rfl rfl rfl rfl rfl rfl (by rw [flat1, List.length_map, List.length_take]; show (_ + 1) * 17 ≤ _; omega) (fun a1 n1 c1 h1 => ?_)
      refine wi ?_
      have hn1 : n1 = nn + 1 := by
        rw [flat1, List.length_map, List.length_take] at h1
        have h1 : n1 * 1 = min nn l.length + 1 := h1
        omega
      refine ⟨(a1, n1, c1, nn + 1), ⟨⟨hk', hn1, fun j hj => ?_⟩, ?_⟩, ?_⟩
      · have hj : j < nn + 1 := hj
        by_cases hjn : j = nn
        · rw [hjn]; exact hrt
        · exact hr j (by omega)
      · show l.length - (nn + 1) < l.length - nn; omega
      · refine gs rfl ?_
        show [(900, OB.e (bufE 9 1 (.slice a1 n1 c1) _))] = [(900, OB.e (bufE 9 1 (.slice a1 n1 c1) _))]
        rw [take_snocD l nn t0 hk', List.map_append, List.map_append, List.flatten_append]; rfl
  · have e : l.take nn = l := List.take_of_length_le (by omega)
    have e2 : nn = l.length := by omega
    have hall : ∀ t ∈ l, rightT t = true ∧ I64 t.n := by
      have := take_right hr hn
      rwa [e] at this
    have hlen := jo_len l hall
    rw [joR_ok (l := l) (fun j hj => hr j (by omega)), e]
    refine And.intro rfl ?_
    refine sealW (g := fun s => [vs s]) (l := l.map tkS) 900 rfl (by rw [List.length_map]; exact e2) ?_
    refine goW TT_ok ?_
    subst e2
    refine cf (x := vs (joS l)) (fun w v h1 h2 h3 => ?_) ?_
    · have := c_strJoin a0 cp (l.map tkS) [32] (by rw [List.length_map]; omega) (by unfold joS at hlen; omega) w v h3 (by rw [List.length_map]; exact h2.2)
      rw [List.length_map] at this
      exact this
    · exact rfl
set_option maxHeartbeats 1000000 in
theorem c_RTJoin (ad : Option Addr) (cap : Nat) (l : List Tok) (hn : ∀ t ∈ l, I64 t.n) (hs : ∀ t ∈ l, t.s.length ≤ 1000000) (hl : l.length ≤ 100000) (w0 : World) (h0 : View) (hv : VLe h0 (Full w0)) (hb : SlC 26 4 (flatR tokC) h0 (.slice ad l.length cap) l) :
    Calls Tryd.prog 8 #[.slice ad l.length cap] w0 (Ret w0 h0 fun u _ => u = tsV (joR l)) := by
  refine ent (args := [.slice ad l.length cap]) TT_ok [] [10] Tryd.func8 rfl Tryd.ntmps8 rfl rfl hv ?_
  refine w_loop TT_ok (fun k : Nat => [(5, .v (.int .i64 k)), (4, .v (vs (joS (l.take k))))]) 0 (fun k => k ≤ l.length ∧ ∀ j, j < k → rightT (l.getD j t0) = true) (fun k => l.length - k) ?_
  refine And.intro ⟨⟨Nat.zero_le _, fun j h => absurd h (Nat.not_lt_zero _)⟩, gs⟩ ?_
  intro k ⟨hk, hr⟩
  refine cnd (fun h => ?_) (fun h => ?_)
  · have hk' : k < l.length := by omega
    refine ixs hb k t0 ?_
    have hm := getD_mem l k t0 hk'
    have hlen := jo_len (l.take k) (take_right hr hn)
    have hlk : (l.take k).length ≤ l.length := by rw [List.length_take]; omega
    refine cl (c_RTText (l.getD k t0) (hn _ hm) (hs _ hm)) ?_
    refine cnd (fun h1 => ?_) (fun h1 => ?_)
    · cases hrt : rightT (l.getD k t0)
      · rw [joR_no hk' hrt, tkR_no hrt]; exact rfl
      · rw [tkR_ok hrt] at h1; exact absurd rfl h1
    · have hrt : rightT (l.getD k t0) = true := by
        cases hrt : rightT (l.getD k t0)
        · rw [tkR_no hrt] at h1; exact absurd h1 (by decide)
        · rfl
      rw [tkR_ok hrt]
      have htl := tkS_len hrt (hn _ hm)
      refine w_cut TT_ok (fun _ : Unit => [(4, .v (vs (joS (l.take k) ++ if 0 < k then [32] else [])))]) (fun _ => True) ?_
      refine And.intro ?_ ?_
      · refine cnd (fun h2 => ?_) (fun h2 => ?_)
        · refine ct ?_ (by simp only [List.length_cons, List.length_nil]; omega)
          exact ⟨(), trivial, gs (by rw [if_pos (by omega)]; rfl)⟩
        · exact ⟨(), trivial, gs (by rw [if_neg (by omega), List.append_nil]; rfl)⟩
      · intro _ _
        have e3 : (joS (l.take k) ++ if 0 < k then [32] else []) ++ tkS (l.getD k t0) = joS (l.take (k + 1)) := by
          rw [take_snocD l k t0 hk']
          by_cases h0 : 0 < k
          · rw [if_pos h0, jo_snoc _ (fun h => by have := congrArg List.length h; rw [List.length_take, List.length_nil] at this; omega)]
          · have : k = 0 := by omega
            subst this
            rw [if_neg h0, List.take_zero, List.nil_append, jo_one]; rfl
        refine ct ?_ (by rw [List.length_append]; split <;> simp only [List.length_cons, List.length_nil] <;> omega)
        refine wi ?_
        refine ⟨k + 1, ⟨⟨hk', fun j hj => ?_⟩, by omega⟩, gs (by rw [e3]; rfl)⟩
        by_cases hjn : j = k
        · rw [hjn]; exact hrt
        · exact hr j (by omega)
  · have e2 : k = l.length := by omega
    rw [joR_ok (l := l) (fun j hj => hr j (by omega)), e2, List.take_length]; exact rfl

end Go.Proofs.YtopbpdgnjnoddaaDoor
