/- Laws of walks, and what functions of the program compute: part 4. Each with the conditions that it names. -/
import Derived.Test.YtnmhenglealadaaChTc
set_option linter.unusedSimpArgs false
set_option linter.unusedVariables false
namespace Go.Dx
open Go Go.RowKit
theorem wpAnyS_weak {P : Program} {ops : Array Oper} {Q : Exit → Act → World → Prop} {nd : Nat → Bool} {S S' : World → Prop} (h : ∀ w, S' w → S w) : ∀ (f : Nat) (listed : Array Bool) (a : Act) (w : World), wpAnyS P ops Q nd S' f listed a w → wpAnyS P ops Q nd S f listed a w
  | 0, _, _, _, H => H
  | f + 1, _, _, _, H => ⟨H.1, fun i hi => wpOp_mono (fun a' w' h' => ⟨fun hn => h _ (h'.1 hn), wpAnyS_weak h f _ a' w' h'.2⟩) (H.2 i hi)⟩
def chkS (ops : Array Oper) : List Nat → Array Bool → (Array Bool → Bool) → Bool
  | [], listed, k => k listed
  | j :: r, listed, k => decide (Region.ready .any ops listed = [j]) && chkS ops r (listed.setIfInBounds j true) k
def chkP (ops : Array Oper) : List (List Nat × List Nat) → Array Bool → Bool
  | [], listed => (Region.ready .any ops listed).isEmpty
  | (mv, rest) :: p, listed => chkM ops mv listed fun listed => chkS ops rest listed fun listed => chkP ops p listed
def planN : List (List Nat × List Nat) → Nat
  | [] => 0
  | (mv, rest) :: p => (planN p + rest.length) + mv.length
def chkPh (l : List Oper) (plan : List (List Nat × List Nat)) : Bool :=
  Region.noSelect l.toArray && Nat.beq (planN plan) l.length && chkP l.toArray plan (Array.replicate l.length false)
/-- one operation that is taken first -/
def mvO (c : Cx) (F : FV) (ex : List Nat) (d : Nat) (op : Op) (L : SL) (B : BL) (K : SL → BL → Prop) : Prop := match op with
  | .indexAddr t x y => rd1 (rdS L [] none) x fun s => rd1 (rdS L [] none) y fun s' => ixG c F none (lkA c.T.tys t) s s' fun b o cs =>
      fresh d L [] B (bif Nat.blt d c.n then K ((d, .o d 0) :: L) ((d, .k none b o cs) :: B) else False)
  | op => bif isPure op && Nat.blt d c.n then pv c.P c.T c.h0 F (exB ex B) none (rdS L [] none) (fun s => hasN (exB ex B) s (K ((d, s) :: L) B)) op else False
def mvG (c : Cx) (al : List Oper) (F : FV) (ex : List Nat) : List Nat → SL → BL → (SL → BL → Prop) → Prop
  | [], L, B, K => K L B
  | i :: r, L, B, K => match nthV al i with
    | some ⟨some d, op, _, _, _, none⟩ => mvO c F ex d op L B fun L B => mvG c al F ex r L B K
    | some ⟨some d, op, _, _, _, some (j, b)⟩ => guardAt al L [] j b fun _ g => (g = true → mvO c F ex d op L B fun L B => mvG c al F ex r L B K) ∧ (g = false → bif Nat.blt d c.n then mvG c al F ex r ((d, .v undef) :: L) B K else False)
    | _ => False
def tlP (c : Cx) (al : List Oper) (BS : BL) (F0 : FV) : List Nat → SL → IL → BL → FV → KR → Prop
  | [], L, I, B, F, K => K L I B F
  | j :: r, L, I, B, F, K => match nthV al j with
    | some o => runs c al true (fun L I B F => keepsB BS F0 B F ∧ tlP c al BS F0 r L I B F K) [o] L I B F
    | none => False
def plK (c : Cx) (al : List Oper) (ex : List Nat) : List (List Nat × List Nat) → SL → IL → BL → FV → KR → Prop
  | [], L, I, B, F, K => K L I B F
  | (mv, rest) :: p, L, I, B, F, K => match I with
    | [] => mvG c al F ex mv L B fun L' B' => keepsB (exB ex B) F B' F ∧ tlP c al (exB ex B) F rest L' [] B' F fun L I B F => plK c al ex p L I B F K
    | _ :: _ => False
theorem keepsB_ex {c : Cx} {ex : List Nat} {B0 B : BL} {F0 F : FV} {w : World} (h : keepsB (exB ex B0) F0 B F) (hW : WOk c.h0 F (exB ex B) w) : WOk c.h0 F0 (exB ex B0) w := by
  obtain ⟨v, h1, h2, h3⟩ := hW.vw
  refine ⟨⟨v, h1, h.1 v h2, h3⟩, fun k b T cs hl => ?_⟩
  have h4 := map_eq_mem h.2 _ (exB_mem hl)
  have h5 : lkA B k = some (.c b T cs) := h4
  refine hW.own k b T cs ?_
  rw [exB_lk, h5]
  rw [exB_lk] at hl
  cases hm : memF ex k with
  | false => simp
  | true =>
    cases h6 : lkA B0 k with
    | none => rw [h6] at hl; cases hl
    | some o => rw [h6] at hl; cases o <;> simp [hm] at hl
section reg
variable {c : Cx} (hT : c.T.Ok c.P)
include hT
theorem mvO_sound {l : List Oper} {nd : Nat → Bool} {ex : List Nat} {F : FV} {Q : Exit → Act → World → Prop} {S : World → Prop} {m i d : Nat} {op : Op} {ty : TypeId} {pos : String} {af : Array Edge} {gd : Option (Nat × Bool)} {L : SL} {B : BL} {listed : Array Bool} {a : Act} {w : World} {K : SL → BL → Prop} (hsel : Region.noSelect l.toArray = true)
    (hoi : l.toArray[i]? = some ⟨some d, op, ty, pos, af, gd⟩) (hw : Region.wanted ⟨some d, op, ty, pos, af, gd⟩ (yielded l.toArray a.tmps) = true) (hr : i ∈ Region.ready .any l.toArray listed) (hfree : Region.free .any l.toArray listed i = true) (hnd : ∀ j, nd j = false → j ≠ i → ∃ f, depB l.toArray f j i = true) (hc : Closed l.toArray listed)
    (hSw : ∀ w, S w → WOk c.h0 F (exB ex B) w) (hSn : S w) (h : mvO c F ex d op L B K) (hD : Dn c L [] B a) (hS : Sx c B F w)
    (H : ∀ L' B' v, K L' B' → (∀ w, S w → WOk c.h0 F (exB ex B') w) → Dn c L' [] B' (a.put (some d) v) → Sx c B' F w → wpAnyS c.P l.toArray (panQ c Q) nd S m (listed.setIfInBounds i true) (a.put (some d) v) w) :
    wpAnyS c.P l.toArray (panQ c Q) nd S (m + 1) listed a w := by
  have go : ∀ (v : Value), (∀ w, S w → Pu c.P (fl L [] B) ⟨some d, op, ty, pos, af, none⟩ w v) → wpAnyS c.P l.toArray (panQ c Q) nd S m (listed.setIfInBounds i true) (a.put (some d) v) w → wpAnyS c.P l.toArray (panQ c Q) nd S (m + 1) listed a w := by
    intro v hpu h'
    refine wpAnyS_first (v := v) hoi hsel (fun ch a w h => ⟨h.1, by rw [← put_df a (some d) v]; exact h.2.1, h.2.2⟩) hnd m listed a w hc (Region.free_spec hoi hfree) hr ?_ hSn h'
    exact .inl ⟨hw, fun w hw => hpu w hw a.eval fun x _ u hu => hD.fr.ev hu⟩
  unfold mvO at h
  split at h
  · rename_i t x y
    obtain ⟨s, hs, h⟩ := rd1_sound h
    obtain ⟨s', hs', h⟩ := rd1_sound h
    have hρ : yes none → ∀ x s v, rdS L [] none x = some s → dvO (exB ex B) s = some v → ev (fl L [] B) x = some v := fun _ x s v h1 h2 => rdS_ev inv_nil (cx := none) (og := none) rfl yes_none h1 (exB_dv h2)
    obtain ⟨b, o, cs, h, hkn, hpu⟩ := ixG_sound (B := exB ex B) hT hρ hs hs' h
    obtain ⟨hl, hfl, h⟩ := fresh_sound h
    cases hd : Nat.blt d c.n with
    | false => rw [hd] at h; exact h.elim
    | true =>
      rw [hd] at h
      have hB' : Sx c ((d, .k none b o cs) :: B) F w := ⟨by rw [oes_k]; exact hS.st, bok_k hS.bk hkn⟩
      refine go (.pointer (some ⟨b, o, none⟩)) (fun w hw => hpu yes_none w (hSw w hw) _ _ _ _ _) (H _ _ _ h (fun w hw => ⟨(hSw w hw).vw, fun k b T cs hk => ?_⟩) ?_ hB')
      · refine (hSw w hw).own k b T cs ?_
        simp only [exB] at hk
        by_cases hkd : d = k
        · subst hkd; rw [lkA_eq] at hk; cases hk
        · rwa [lkA_ne hkd] at hk
      · refine Dn.cons (rr := some (.pointer (some ⟨b, o, none⟩))) (hD.fr.put hd _) inv_nil (fun t => ?_) (fun u hu => (Option.some.inj hu).symm)
        unfold kv
        simp only [lkA]
        by_cases ht : t = d
        · subst ht; simp [dvO, lkA_eq]
        · rw [beq_ne (Ne.symm ht), if_neg ht]
          simp only [cond_false]
          have := kv_fl (L := L) (I := []) (hfl (.k none b o cs)) t
          unfold kv at this
          simpa only [lkA] using this
  · cases hd : (isPure op && Nat.blt d c.n) with
    | false => rw [hd] at h; exact h.elim
    | true =>
      rw [hd] at h
      simp only [Bool.and_eq_true] at hd
      have hρ : yes none → ∀ x s v, rdS L [] none x = some s → dvO (exB ex B) s = some v → ev (fl L [] B) x = some v := fun _ x s v h1 h2 => rdS_ev inv_nil (cx := none) (og := none) rfl yes_none h1 (exB_dv h2)
      obtain ⟨s, v, hs, hv, hpu⟩ := pv_sound (L := fl L [] B) hT (exB_bok (ex := ex) hS.bk) hρ h
      obtain ⟨_, _, h⟩ := hasN_sound hs
      refine go v (fun w hw => hpu yes_none w (hSw w hw) _ _ _ _ _) (H _ _ _ h hSw ?_ hS)
      have hv' := exB_dv hv
      exact Dn.cons (rr := some v) (hD.fr.put hd.2 _) inv_nil (fun t => by
        unfold kv
        simp only [lkA]
        by_cases ht : t = d
        · subst ht; simp [hv']
        · rw [beq_ne (Ne.symm ht), if_neg ht]; rfl) (fun u hu => (Option.some.inj hu).symm)
theorem mvG_sound {l : List Oper} {nd : Nat → Bool} {ex : List Nat} {F : FV} {K : SL → BL → Prop} {Q : Exit → Act → World → Prop} {S : World → Prop} {k : Array Bool → Bool} {m : Nat} (hsel : Region.noSelect l.toArray = true) :
    ∀ (mv : List Nat) (L : SL) (B : BL) (listed : Array Bool) (a : Act) (w : World), chkM l.toArray mv listed k = true → (∀ i ∈ mv, ∀ j, nd j = false → j ≠ i → ∃ f, depB l.toArray f j i = true) → Closed l.toArray listed → (∀ w, S w → WOk c.h0 F (exB ex B) w) → S w →
      mvG c l F ex mv L B K → Dn c L [] B a → Sx c B F w →
      (∀ L' B' a' listed', K L' B' → k listed' = true → Closed l.toArray listed' → Dn c L' [] B' a' → Sx c B' F w → wpAnyS c.P l.toArray (panQ c Q) nd S m listed' a' w) → wpAnyS c.P l.toArray (panQ c Q) nd S (m + mv.length) listed a w
  | [], L, B, listed, a, w, hk, _, hc, _, _, h, hD, hS, H => H L B a listed h hk hc hD hS
  | i :: r, L, B, listed, a, w, hk, hnd, hc, hSw, hw, h, hD, hS, H => by
    simp only [chkM, Bool.and_eq_true] at hk
    obtain ⟨⟨hr, hfree⟩, hk⟩ := hk
    have hr : i ∈ Region.ready .any l.toArray listed := by simpa using hr
    have ih := fun L' B' a' hSw' h' hD' hS' => mvG_sound (ex := ex) hsel r L' B' (listed.setIfInBounds i true) a' w hk (fun i hi => hnd i (List.mem_cons_of_mem _ hi)) (hc.set hr) hSw' hw h' hD' hS' H
    unfold mvG at h
    split at h
    · rename_i d op ty pos af ho
      have hoi : l.toArray[i]? = some ⟨some d, op, ty, pos, af, none⟩ := by rw [nthV_eq] at ho; simpa using ho
      exact mvO_sound hT (m := m + r.length) hsel hoi (by simp [Region.wanted]) hr hfree (hnd i (List.mem_cons_self ..)) hc hSw hw h hD hS fun L' B' v h' hSw' hD' hS' => ih L' B' _ hSw' h' hD' hS'
    · rename_i d op ty pos af j b ho
      have hoi : l.toArray[i]? = some ⟨some d, op, ty, pos, af, some (j, b)⟩ := by rw [nthV_eq] at ho; simpa using ho
      obtain ⟨o, t, g, ho', hod, hgx, h⟩ := guardAt_sound h
      have hwt := wanted_of (o := ⟨some d, op, ty, pos, af, some (j, b)⟩) ho' hod (fun v hv => hD.fr.kv hv) hgx rfl
      cases hg : g with
      | true => exact mvO_sound hT (m := m + r.length) hsel hoi (hwt.trans hg) hr hfree (hnd i (List.mem_cons_self ..)) hc hSw hw (h.1 hg) hD hS fun L' B' v h' hSw' hD' hS' => ih L' B' _ hSw' h' hD' hS'
      | false =>
        have h2 := h.2 hg
        cases hd : Nat.blt d c.n with
        | false => rw [hd] at h2; exact h2.elim
        | true =>
          rw [hd] at h2
          have hD' : Dn c ((d, .v undef) :: L) [] B (a.put (some d) undef) := Dn.cons (rr := some undef) (hD.fr.put hd _) inv_nil (fun t => by
            unfold kv
            simp only [lkA]
            by_cases ht : t = d
            · subst ht; simp [dvO]
            · rw [beq_ne (Ne.symm ht), if_neg ht]; rfl) (fun u hu => (Option.some.inj hu).symm)
          exact wpAnyS_first (v := undef) hoi hsel (fun ch a w h => ⟨h.1, by rw [← put_df a (some d) undef]; exact h.2.1, h.2.2⟩) (hnd i (List.mem_cons_self ..)) (m + r.length) listed a w hc (Region.free_spec hoi hfree) hr (.inr ⟨hwt.trans hg, rfl⟩) hw (ih _ _ _ hSw h2 hD' hS)
    · exact h.elim
theorem tlP_sound {l : List Oper} {BS : BL} {F0 : FV} {K : KR} {Q : Exit → Act → World → Prop} {k : Array Bool → Bool} {m : Nat} (hmd : c.md = .wp) (hu : ∀ k b T cs, lkA BS k = some (.c b T cs) → (k, OB.c b T cs) ∈ BS)
    (H : ∀ L I B F a w listed, keepsB BS F0 B F → K L I B F → k listed = true → Closed l.toArray listed → Dn c L I B a → Sx c B F w → wpAnyS c.P l.toArray (panQ c Q) (fun _ => true) (WOk c.h0 F0 BS) m listed a w) :
    ∀ (rest : List Nat) (L : SL) (I : IL) (B : BL) (F : FV) (listed : Array Bool) (a : Act) (w : World), chkS l.toArray rest listed k = true → Closed l.toArray listed → keepsB BS F0 B F → tlP c l BS F0 rest L I B F K → Dn c L I B a → Sx c B F w → wpAnyS c.P l.toArray (panQ c Q) (fun _ => true) (WOk c.h0 F0 BS) (m + rest.length) listed a w
  | [], L, I, B, F, listed, a, w, hk, hc, hkb, h, hD, hS => H L I B F a w listed hkb h hk hc hD hS
  | j :: r, L, I, B, F, listed, a, w, hk, hc, hkb, h, hD, hS => by
    simp only [chkS, Bool.and_eq_true, decide_eq_true_eq] at hk
    unfold tlP at h
    split at h
    · rename_i o ho
      have hrd := hk.1
      have hoj : l.toArray[j]? = some o := by rw [nthV_eq] at ho; simpa using ho
      refine ⟨fun h0 => (by rw [hrd] at h0; cases h0), fun i hi => ?_⟩
      have hir := hi
      rw [hrd] at hi
      obtain rfl := List.mem_singleton.1 hi
      have ih := fun L I B F a w => tlP_sound hmd hu H r L I B F (listed.setIfInBounds i true) a w hk.2 (hc.set hir)
      have hrun := (runs_sound hT [o] L I B F h hD.inv).run (fun e a' w' => match e with
        | .normal => (true = true → WOk c.h0 F0 BS w') ∧ wpAnyS c.P l.toArray (panQ c Q) (fun _ => true) (WOk c.h0 F0 BS) (m + r.length) (listed.setIfInBounds i true) a' w'
        | e => panQ c Q e a' w') a w (fun L' I' B' F' a' w' hk' hD' hS' => ⟨fun _ => keepsB_wok hk'.1 hS' hu, ih _ _ _ _ _ _ hk'.1 hk'.2 hD' hS'⟩) (fun ch a w h1 h2 h3 => ⟨h1, h2, h3⟩) hD hS
      rw [hmd] at hrun
      simp only [wpM, wpList] at hrun
      unfold wpOp
      rw [hoj]
      simp only
      split
      · rename_i hw
        rw [if_pos hw] at hrun
        rcases hrun with hrun | ⟨h1, h2⟩
        · exact .inl (oper_wpQ (fun _ _ _ h => h) (fun ⟨a, w, h⟩ => ⟨a, w, h⟩) hrun)
        · exact .inr ⟨h1, let ⟨a, w, h⟩ := h2; ⟨a, w, h⟩⟩
      · rename_i hw
        rw [if_neg hw] at hrun
        exact hrun
    · exact h.elim
theorem plK_sound {l : List Oper} {ex : List Nat} {K : KR} {Q : Exit → Act → World → Prop} (hmd : c.md = .wp) (hn : NormOk c K Q) (hsel : Region.noSelect l.toArray = true) :
    ∀ (plan : List (List Nat × List Nat)) (L : SL) (I : IL) (B : BL) (F : FV) (listed : Array Bool) (a : Act) (w : World) (S : World → Prop), chkP l.toArray plan listed = true → Closed l.toArray listed → (∀ w, WOk c.h0 F (exB ex B) w → S w) → plK c l ex plan L I B F K → Dn c L I B a → Sx c B F w → wpAnyS c.P l.toArray (panQ c Q) (fun _ => true) S (planN plan) listed a w
  | [], L, I, B, F, listed, a, w, S, hk, hc, hSS, h, hD, hS => ⟨by simpa [chkP] using hk, hn L I B F a w h hD hS⟩
  | (mv, rest) :: p, L, I, B, F, listed, a, w, S, hk, hc, hSS, h, hD, hS => by
    unfold plK at h
    split at h
    · refine wpAnyS_weak hSS _ _ _ _ ?_
      unfold chkP at hk
      refine mvG_sound hT (F := F) (ex := ex) (S := WOk c.h0 F (exB ex B)) hsel mv L B listed a w hk (fun i _ j hj => by cases hj) hc (fun _ h => h) (exB_wok hS.wok) h hD hS fun L' B' a' listed' hK hk' hc' hD' hS' => ?_
      refine tlP_sound hT hmd (fun k b T cs h => exB_mem h) (fun L2 I2 B2 F2 a2 w2 listed2 hkb2 hK2 hk2 hc2 hD2 hS2 => ?_) rest L' [] B' F listed' a' w hk' hc' hK.1 hK.2 hD' hS'
      exact plK_sound hmd hn hsel p L2 I2 B2 F2 listed2 a2 w2 _ hk2 hc2 (fun w hw => keepsB_ex hkb2 hw) hK2 hD2 hS2
    · exact h.elim
omit hT in
theorem closed_no (ops : Array Oper) (n : Nat) : Closed ops (Array.replicate n false) := fun j oj _ hl => by
  rw [getD_replicate_false] at hl; cases hl
/-- **A region that draws its order, by turns**: `plan`: what is taken first, what comes in turn behind it, and so on; `ex`: own blocks of which nothing is read by what is taken first. -/
theorem regPh {i : Nat} {l : List Oper} (plan : List (List Nat × List Nat)) (ex : List Nat) {L : SL} {B : BL} {F : FV} {kn : KN} {kx : Nat → KN} {kr : KN}
    (h : plK c l ex plan L [] B F fun L I B F => pushK I L fun L => kn L B F)
    (hq : chkPh l plan = true := by kernel_rfl) (hmd : c.md = .wp := by rfl) : CP c (.region i ⟨l⟩ true) L B F kn kx kr := by
  simp only [chkPh, Bool.and_eq_true] at hq
  obtain ⟨⟨hsel, hlen⟩, hchk⟩ := hq
  have hlen := Nat.eq_of_beq_eq_true hlen
  refine ⟨fun Q a w hn _ _ hp hD hS => ?_⟩
  rw [hmd]
  refine wp_mono (wp_region_any (Q := panQ c Q) hT.mix (wpAny_of_S (nd := fun _ => true) (S := WOk c.h0 F (exB ex B)) _ _ _ _ ?_)) fun e a w he => ?_
  · have hS1 : Sx c B F { w with drawn := w.drawn + 1 } := hS.step (keep_drawn w)
    have e : l.toArray.size = planN plan := by rw [List.size_toArray]; omega
    rw [e]
    exact plK_sound hT hmd (push_ok hn) hsel plan L [] B F _ a _ _ (by rw [← e, List.size_toArray]; exact hchk) (closed_no _ _) (fun _ h => h) h hD hS1
  · cases e with
    | panic ch => exact hp ch a w he.1 he.2.1 he.2.2
    | _ => exact he
end reg
end Go.Dx
namespace Go.Dx
open Go Go.RowKit
/-- a list that is read: a source for append -/
theorem Src.sl {P : Program} {w : World} {α : Type} {T sz : Nat} {g : α → List Value} {ad : Option Addr} {n cp : Nat} {l : List α} (h : SlC T sz (flatR g) (Full w) (.slice ad n cp) l) (hg : ∀ x ∈ l, (g x).length = sz) (h1 : ∀ x ∈ l, ∀ u ∈ g x, u.oneCell' = true) : Src P w (.slice ad n cp) sz l.length (l.map g).flatten := by
  obtain ⟨a, cap, hv, hle, hm, hx⟩ := h
  cases hv
  have hlen : ∀ l : List α, (∀ x ∈ l, (g x).length = sz) → (l.map g).flatten.length = l.length * sz := by
    intro l
    induction l with
    | nil => intro _; simp
    | cons x l ih =>
      intro hg
      rw [List.map_cons, List.flatten_cons, List.length_append, hg x (by simp), List.length_cons, Nat.succ_mul, ih fun y hy => hg y (by simp [hy])]
      omega
  have hone : ∀ u ∈ (l.map g).flatten, u.oneCell' = true := by
    intro u hu
    obtain ⟨cs, hcs, hu⟩ := List.mem_flatten.1 hu
    obtain ⟨x, hxm, rfl⟩ := List.mem_map.1 hcs
    exact h1 x hxm u hu
  cases l with
  | nil => exact Src.nil
  | cons x0 l0 =>
    obtain ⟨gb, off, arr, fz, rfl, ⟨T', hb⟩, hel⟩ := hx (by simp)
    refine Src.row (fz := fz) (arr := arr) (T := T') hb (hlen _ hg) ?_ hone
    have key : ∀ (l : List α) (o : Nat), (∀ x ∈ l, (g x).length = sz) → (∀ i x, l[i]? = some x → (arr.toList.drop (o + i * sz)).take sz = g x) → (arr.toList.drop o).take (l.length * sz) = (l.map g).flatten := by
      intro l
      induction l with
      | nil => intro o _ _; simp
      | cons x l ih =>
        intro o hg hx
        have h0 := hx 0 x rfl
        rw [Nat.zero_mul, Nat.add_zero] at h0
        have hr := ih (o + sz) (fun y hy => hg y (by simp [hy])) (fun i y hi => by
          have := hx (i + 1) y (by simpa using hi)
          rw [Nat.succ_mul] at this
          rw [show o + sz + i * sz = o + (i * sz + sz) by omega]; exact this)
        rw [List.length_cons, Nat.succ_mul, Nat.add_comm, List.take_add, h0, List.drop_drop, hr]
        rfl
    refine key _ off hg fun i x hi => ?_
    obtain ⟨cs, _, h2, h3⟩ := hel i x hi
    rw [h3]; exact h2
theorem set_perm {α : Type _} : ∀ (l : List α) (i : Nat) (x : α), i < l.length → (l.set i x).Perm (x :: l.eraseIdx i)
  | [], i, x, h => by simp at h
  | a :: l, 0, x, _ => by simp
  | a :: l, i + 1, x, h => by
    simp only [List.set_cons_succ, List.eraseIdx_cons_succ]
    exact ((set_perm l i x (by simpa using h)).cons a).trans (List.Perm.swap ..)
section
variable {c : Cx} (hT : c.T.Ok c.P)
include hT
/-- what came in, or what is known of, behind a buffer -/
theorem apF {α : Type} {g : α → List Value} {l : List α} {ad : Option Addr} {al : List Oper} {K : KR} {d t t2 e sz bytes n cp T : Nat} {x y : Operand} {ty : TypeId} {pos : String} {af : Array Edge} {r : List Oper} {L : SL} {B : BL} {F : FV} {sx : SV} {v : Value} {xs : List Value} (k : Nat) (hA : AppT c.P t t2 e sz bytes)
    (H : ∀ v, VLe c.h0 v → F v → SlC T sz (flatR g) v (.slice ad n cp) l) (hg : ∀ x ∈ l, (g x).length = sz) (h1 : ∀ x ∈ l, ∀ u ∈ g x, u.oneCell' = true)
    (hB : lkA B k = some (.e (bufE e sz v xs))) (hx : rdS L [] none x = some sx) (hv : dvO B sx = some v) (hy : rdS L [] none y = some (.v (.slice ad n cp)))
    (hb : (xs.length + (l.map g).flatten.length) * (bytes + 1) ≤ 140737488355328)
    (h : ∀ a0 nn cp, nn * sz = xs.length + (l.map g).flatten.length → setAK B k (.e (bufE e sz (.slice a0 nn cp) (xs ++ (l.map g).flatten))) fun B' => runs c al true K r ((d, .v (.slice a0 nn cp)) :: L) [] B' F) (hd : Nat.blt d c.n = true := by rfl) :
    WP c al (⟨some d, .call ⟨.builtin .append, ⟨[x, y]⟩, ⟨[t, t2]⟩⟩, ty, pos, af, none⟩ :: r) L [] B F K :=
  ap_src hT hA hB hx hv hy (yv := .slice ad n cp) rfl (fun w hS => Src.sl (Mono.slF _ _ hS.st.view (H _ hS.st.base_cv hS.st.facts)) hg h1) hd hb h
omit hT in
/-- a row of one's own becomes a buffer -/
theorem rowE {k b T n cp sz : Nat} {cs : List Value} {al : List Oper} {K : KR} {r : List Oper} {L : SL} {B : BL} {F : FV} (kn : Nat) (hB : lkA B k = some (.c b T cs)) (hl : cs.length = n * sz) (hc : cs.length = cp * sz) (hm : cp ≤ maxLen) (hle : n ≤ cp)
    (h : delE B k fun B' => lkA B' kn = none ∧ WP c al r (unL k b L) [] ((kn, .e (bufE T sz (.slice (some ⟨b, 0, none⟩) n cp) cs)) :: B') F K) : WP c al r L [] B F K := by
  obtain ⟨B', i, ⟨hkn, h1⟩, h2, h3, h4, h5⟩ := delC_sound hB h
  have hlt : i < (oes B).length := (List.getElem?_eq_some_iff.1 h2).1
  have hkv := unL_kv (L := L) hB h4
  refine ⟨fun Q a w hn hp hD hS => h1.run Q a w hn hp ⟨?_, inv_nil⟩ ⟨?_, fun q g b' o cs' hq => ?_⟩⟩
  · rw [fl_congr (nil_dv hkn _)]
    exact Fr.of_kv hD.fr.df hD.fr.sz fun t v hv => hD.fr.kv (by rw [hkv] at hv; exact hv)
  · have hC : BufC T sz (.slice (some ⟨b, 0, none⟩) n cp) cs w.heap[b]? := by
      have := hS.st.at h2
      refine .inr ⟨b, 0, n, cp, cs.toArray, (0, 0), rfl, this, by simp [noFz], hl, hle, hm, by simp; omega, by simp [← hl]⟩
    have := (hS.st.write h2 (Keep.refl [b] w) hC).perm (set_perm _ i _ hlt)
    rw [← h3] at this
    exact this
  · rcases List.mem_cons.1 hq with hq | hq
    · cases hq
    · exact (hS.bk.sub h5 fun v h => h) _ _ _ _ _ hq
end
end Go.Dx
namespace Go.Dx
open Go Go.RowKit
/-- a value, a new block of known contents, and what the other new memory tells -/
def RetO {α : Type} (w0 : World) (h0 : View) (g : α → Value) (ob : α → Nat) (T : Nat) (cs : α → List Value) (Φ : α → View → Prop) : Ending → World → Prop := fun e w' =>
  ∃ x, e = .returned (g x) ∧ Keep [] w0 w' ∧ w0.heap.size ≤ ob x ∧ w'.heap[ob x]? = some (.cells (cs x).toArray T (0, 0)) ∧ Φ x (fun k => if k = ob x then none else nv h0 w0 w' k)
theorem St.own1 {w0 w w' : World} {h0 : View} {M : List Nat} {O : List OE} {F Φ : View → Prop} {b : Nat} {C : Option Obj → Prop} (hS : St w0 h0 M w O F) (hk : Keep [] w w') (hb : w.heap.size ≤ b) (hlt : b < w'.heap.size) (hC : C w'.heap[b]?) (hm : Mono Φ)
    (h : Φ (fun k => if k = b then none else nv (cv w0.heap.size h0 (ids O) w) w w' k)) : St w0 h0 M w' ((some b, C) :: O) fun h => F h ∧ Φ h := by
  have hsz := hS.keep.size
  have hbO : b ∉ ids O := fun hm => by have := (hS.fresh b hm).2; omega
  have ei : ids ((some b, C) :: O) = b :: ids O := rfl
  refine ⟨hS.keep.trans (hk.mono fun b hb => by cases hb), hS.vw, fun e he => ?_, fun q hq => ?_, by rw [ei]; exact List.nodup_cons.2 ⟨hbO, hS.nd⟩, hS.mono.and hm, hS.mono _ _ (fun k o hk' => ?_) hS.facts, hm _ _ (fun k o hk' => ?_) h⟩
  · rcases List.mem_cons.1 he with rfl | he
    · exact hC
    · have := hS.own e he
      cases h1 : e.1 with
      | none => rw [h1] at this; exact this
      | some q =>
        have hq : q ∈ ids O := List.mem_filterMap.2 ⟨e, he, h1⟩
        rw [h1] at this
        simp only [Option.bind_some] at this ⊢
        rw [hk.block q (hS.fresh q hq).2 (by simp)]; exact this
  · rw [ei] at hq
    rcases List.mem_cons.1 hq with rfl | hq
    · exact ⟨.inl (by omega), hlt⟩
    · have := hS.fresh q hq
      exact ⟨this.1, by have := hk.size; omega⟩
  · unfold cv at hk' ⊢
    rw [ei]
    split at hk'
    · cases hk'
    · rename_i hki
      have hkb : k ≠ b := by
        rintro rfl
        split at hk'
        · omega
        · rw [Array.getElem?_eq_none (by omega)] at hk'; cases hk'
      rw [if_neg (by simp [hkb, hki])]
      split
      · rename_i hlt; rw [if_pos hlt] at hk'; exact hk'
      · rename_i hlt
        rw [if_neg hlt] at hk'
        rw [hk.block k (Array.getElem?_eq_some_iff.1 hk').1 (by simp)]; exact hk'
  · split at hk'
    · cases hk'
    · rename_i hkb
      unfold nv at hk'
      unfold cv
      rw [ei]
      split at hk'
      · rename_i hlt2
        unfold cv at hk'
        split at hk'
        · cases hk'
        · rename_i hki
          rw [if_neg (by simp [hkb, hki])]
          split
          · rename_i hlt; rw [if_pos hlt] at hk'; exact hk'
          · rename_i hlt
            rw [if_neg hlt] at hk'
            rw [hk.block k (Array.getElem?_eq_some_iff.1 hk').1 (by simp)]; exact hk'
      · rename_i hge
        have hki : k ∉ ids O := fun hm => by have := (hS.fresh k hm).2; omega
        rw [if_neg (by simp [hkb, hki]), if_neg (by omega)]
        exact hk'
theorem run_yield2 {P : Program} {w : World} {l p q : Nat} {r : Loop} {u v : Value} (h : w.heap[l]? = some (.loop r)) (hp : r.params = #[p, q]) : (Instr.yield l [u, v].toArray).run P w = .ok (.round l r.fn ((r.tmps.setIfInBounds p u).setIfInBounds q v) r.assign r.body) w := by
  have := run_yield (P := P) (args := [u, v].toArray) h (by rw [hp]; rfl)
  rw [hp] at this
  simpa using this
section
variable {c : Cx} (hT : c.T.Ok c.P)
include hT
theorem cO {α : Type} {g : α → Value} {ob : α → Nat} {T : Nat} {cs : α → List Value} {Φ : α → FV} {al : List Oper} {K : KR} {d f : Nat} {args : List Operand} {ats : Array TypeId} {ty : TypeId} {pos : String} {af : Array Edge} {rest : List Oper} {L : SL} {B : BL} {F : FV} {vsl : List Value} {Kv : SV → Prop} (kb : Nat)
    (H : ∀ w v, VLe c.h0 v → F v → VLe v (Full w) → Calls c.P f vsl.toArray w (RetO w v g ob T cs Φ)) (hm : ∀ x, Mono (Φ x))
    (k : ∀ x, runs c al true K rest ((d, .v (g x)) :: L) [] ((kb, .c (ob x) T (cs x)) :: B) (fun h => F h ∧ Φ x h))
    (hkb : lkA B kb = none := by rfl) (hno : noNm L kb = true := by rfl) (hf : memF c.T.fs f = true := by rfl) (hv : argK (rdS L [] none) B args fun l => l = vsl := by exact rfl) (hd : Nat.blt d c.n = true := by rfl) :
    CallG c true none B F f vsl Kv (WP c al (⟨some d, .call ⟨.value (.func f), ⟨args⟩, ats⟩, ty, pos, af, none⟩ :: rest) L [] B F K) := by
  refine .w rfl (w_call hT (Ψ := fun v w w' => ∃ x, v = g x ∧ Keep [] w w' ∧ w.heap.size ≤ ob x ∧ w'.heap[ob x]? = some (.cells (cs x).toArray T (0, 0)) ∧ Φ x (fun k => if k = ob x then none else nv (cv c.w0.heap.size c.h0 (ids (oes B)) w) w w' k)) rfl hf hv (fun w hS => (H w _ hS.st.base_cv hS.st.facts hS.st.view).mono ?_) ?_ inv_nil)
  · rintro e w' ⟨x, rfl, h1, h2, h3, h4⟩; exact ⟨_, rfl, x, rfl, h1, h2, h3, h4⟩
  · rintro v w w' hS ⟨x, rfl, h1, h2, h3, h4⟩
    have hfr : fresh kb L [] B True := by
      unfold fresh
      rw [hkb]
      simp [hno, noNmI]
    obtain ⟨_, hfl, _⟩ := fresh_sound hfr
    refine ⟨_, _, _, _, k x, inv_nil, ⟨hS.st.own1 h1 h2 (Array.getElem?_eq_some_iff.1 h3).1 (C := CellsC T (cs x)) h3 (hm x) h4, fun q g' b o cs' hq => ?_⟩, hd, some (g x), fun t => ?_, fun u hu => (Option.some.inj hu).symm⟩
    · rcases List.mem_cons.1 hq with hq | hq
      · cases hq
      · exact gc_mk fun hy => fun v w h1 h2 h3 => gc_yes (hS.bk _ _ _ _ _ hq) hy v w h1 h2.1 h3
    · rw [kv_put]
      by_cases ht : t = d
      · rw [if_pos ht, if_pos ht]
      · rw [if_neg ht, if_neg ht, kv_fl (hfl _)]
omit hT in
/-- the entry: a function that hands back a new block -/
theorem entO {α : Type} {g : α → Value} {ob : α → Nat} {To : Nat} {cs : α → List Value} {Φ : α → FV} {P : Program} {T : Tab} (hT : T.Ok P) {f : FuncId} {fn : Func} {code : Code} {args : List Value} {w0 : World} {h0 : View} {rs : List ResultVar} {n : Nat} (stop cut : List Nat)
    (hf : P.funcs[f]? = some fn) (hb : fn.body = some code) (hn : fn.ntmps = n) (hle : Nat.ble args.length n = true) (hr : fn.results = rs.toArray) (hv : VLe h0 (Full w0)) (hm : ∀ x, Mono (Φ x))
    (h : vcC ⟨P, T, .wp, n, w0, h0, [], fun _ => False, stop, cut⟩ code (argS args 0) [] (fun _ => True) (fun L B F => resK T L B rs fun vs => ∃ x k, tupV vs = g x ∧ lkA B k = some (.c (ob x) To (cs x)) ∧ ∀ v, VLe h0 v → F v → Φ x v) (fun _ _ _ _ => False)
      (fun L B F => resK T L B rs fun vs => ∃ x k, tupV vs = g x ∧ lkA B k = some (.c (ob x) To (cs x)) ∧ ∀ v, VLe h0 v → F v → Φ x v)) : Calls P f args.toArray w0 (RetO w0 h0 g ob To cs Φ) := by
  have := entG (E := fun B F vs => ∃ x k, tupV vs = g x ∧ lkA B k = some (.c (ob x) To (cs x)) ∧ ∀ v, VLe h0 v → F v → Φ x v) (R := RetO w0 h0 g ob To cs Φ) (h0 := h0) (kp := fun _ => False) hT stop cut [] (args.map .v) [] hf hb hn (by simpa using hle) hr
    (fun c w h _ => h.elim) (sx_nil hv rfl) (fun B F vs w ⟨x, k, e, hk, hq⟩ hS => ?_) (by rw [← argS_V]; exact h)
  · rw [List.map_map] at this
    have e : (dv [] ∘ SV.v) = id := by funext x; rfl
    rwa [e, List.map_id] at this
  · have hmem : (some (ob x), CellsC To (cs x)) ∈ oes B := oes_mem hk rfl
    have hin : ob x ∈ ids (oes B) := List.mem_filterMap.2 ⟨_, hmem, rfl⟩
    have hC : w.heap[ob x]? = some (.cells (cs x).toArray To (0, 0)) := hS.st.own _ hmem
    refine ⟨x, by rw [e], hS.st.keep, ?_, hC, hm x _ _ (fun k o hk' => ?_) (hq _ hS.st.base_cv hS.st.facts)⟩
    · rcases (hS.st.fresh _ hin).1 with h | h
      · exact h
      · cases h
    · unfold cv at hk'
      split at hk'
      · cases hk'
      · rename_i hki
        have hkb : k ≠ ob x := fun e => hki (e ▸ hin)
        simp only [hkb, if_false]
        unfold nv
        exact hk'
end
end Go.Dx
