/- Laws of walks, and what functions of the program compute: part 4. Each with the conditions that it names. -/
import Derived.Test.YtibdadobdhojaaaTyNc
set_option linter.unusedSimpArgs false
set_option linter.unusedVariables false
namespace Go.Dx
open Go Go.RowKit
theorem wpAnyS_weak {P : Program} {ops : Array Oper} {Q : Exit → Act → World → Prop} {nd : Nat → Bool} {S S' : World → Prop} (h : ∀ w, S' w → S w) : ∀ (f : Nat) (listed : Array Bool) (a : Act) (w : World), wpAnyS P ops Q nd S' f listed a w → wpAnyS P ops Q nd S f listed a w
  | 0, _, _, _, H => H
  | f + 1, _, _, _, H => ⟨H.1, fun i hi => wpOp_mono (fun a' w' h' => ⟨fun hn => h _ (h'.1 hn), wpAnyS_weak h f _ a' w' h'.2⟩) (H.2 i hi)⟩
def chkS (ops : Array Oper) : List Nat → Array Bool → (Array Bool → Bool) → Bool
  | [], listed, k => k listed
  | j :: r, listed, k => decide (Region.ready .any ops listed = [j]) && chkS ops r (listed.setIfInBounds j true) k
def chkP (ops : Array Oper) : List (List Nat × List Nat) → Array Bool → Bool
  | [], listed => (Region.ready .any ops listed).isEmpty
  | (mv, rest) :: p, listed => chkM ops mv listed fun listed => chkS ops rest listed fun listed => chkP ops p listed
def planN : List (List Nat × List Nat) → Nat
  | [] => 0
  | (mv, rest) :: p => (planN p + rest.length) + mv.length
def chkPh (l : List Oper) (plan : List (List Nat × List Nat)) : Bool :=
  Region.noSelect l.toArray && Nat.beq (planN plan) l.length && chkP l.toArray plan (Array.replicate l.length false)
/-- one operation that is taken first -/
def mvO (c : Cx) (F : FV) (ex : List Nat) (d : Nat) (op : Op) (L : SL) (B : BL) (K : SL → BL → Prop) : Prop := match op with
  | .indexAddr t x y => rd1 (rdS L [] none) x fun s => rd1 (rdS L [] none) y fun s' => ixG c F none (lkA c.T.tys t) s s' fun b o cs =>
      fresh d L [] B (bif Nat.blt d c.n then K ((d, .o d 0) :: L) ((d, .k none b o cs) :: B) else False)
  | op => bif isPure op && Nat.blt d c.n then pv c.P c.T c.h0 F (exB ex B) none (rdS L [] none) (fun s => hasN (exB ex B) s (K ((d, s) :: L) B)) op else False
def mvG (c : Cx) (al : List Oper) (F : FV) (ex : List Nat) : List Nat → SL → BL → (SL → BL → Prop) → Prop
  | [], L, B, K => K L B
  | i :: r, L, B, K => match nthV al i with
    | some ⟨some d, op, _, _, _, none⟩ => mvO c F ex d op L B fun L B => mvG c al F ex r L B K
    | some ⟨some d, op, _, _, _, some (j, b)⟩ => guardAt al L [] j b fun _ g => (g = true → mvO c F ex d op L B fun L B => mvG c al F ex r L B K) ∧ (g = false → bif Nat.blt d c.n then mvG c al F ex r ((d, .v undef) :: L) B K else False)
    | _ => False
def tlP (c : Cx) (al : List Oper) (BS : BL) (F0 : FV) : List Nat → SL → IL → BL → FV → KR → Prop
  | [], L, I, B, F, K => K L I B F
  | j :: r, L, I, B, F, K => match nthV al j with
    | some o => runs c al true (fun L I B F => keepsB BS F0 B F ∧ tlP c al BS F0 r L I B F K) [o] L I B F
    | none => False
def plK (c : Cx) (al : List Oper) (ex : List Nat) : List (List Nat × List Nat) → SL → IL → BL → FV → KR → Prop
  | [], L, I, B, F, K => K L I B F
  | (mv, rest) :: p, L, I, B, F, K => match I with
    | [] => mvG c al F ex mv L B fun L' B' => keepsB (exB ex B) F B' F ∧ tlP c al (exB ex B) F rest L' [] B' F fun L I B F => plK c al ex p L I B F K
    | _ :: _ => False
theorem keepsB_ex {c : Cx} {ex : List Nat} {B0 B : BL} {F0 F : FV} {w : World} (h : keepsB (exB ex B0) F0 B F) (hW : WOk c.h0 F (exB ex B) w) : WOk c.h0 F0 (exB ex B0) w := by
  obtain ⟨v, h1, h2, h3⟩ := hW.vw
  refine ⟨⟨v, h1, h.1 v h2, h3⟩, fun k b T cs hl => ?_⟩
  have h4 := map_eq_mem h.2 _ (exB_mem hl)
  have h5 : lkA B k = some (.c b T cs) := h4
  refine hW.own k b T cs ?_
  rw [exB_lk, h5]
  rw [exB_lk] at hl
  cases hm : memF ex k with
  | false => simp
  | true =>
    cases h6 : lkA B0 k with
    | none => rw [h6] at hl; cases hl
    | some o => rw [h6] at hl; cases o <;> simp [hm] at hl
section reg
variable {c : Cx} (hT : c.T.Ok c.P)
include hT
theorem mvO_sound {l : List Oper} {nd : Nat → Bool} {ex : List Nat} {F : FV} {Q : Exit → Act → World → Prop} {S : World → Prop} {m i d : Nat} {op : Op} {ty : TypeId} {pos : String} {af : Array Edge} {gd : Option (Nat × Bool)} {L : SL} {B : BL} {listed : Array Bool} {a : Act} {w : World} {K : SL → BL → Prop} (hsel : Region.noSelect l.toArray = true)
    (hoi : l.toArray[i]? = some ⟨some d, op, ty, pos, af, gd⟩) (hw : Region.wanted ⟨some d, op, ty, pos, af, gd⟩ (yielded l.toArray a.tmps) = true) (hr : i ∈ Region.ready .any l.toArray listed) (hfree : Region.free .any l.toArray listed i = true) (hnd : ∀ j, nd j = false → j ≠ i → ∃ f, depB l.toArray f j i = true) (hc : Closed l.toArray listed)
    (hSw : ∀ w, S w → WOk c.h0 F (exB ex B) w) (hSn : S w) (h : mvO c F ex d op L B K) (hD : Dn c L [] B a) (hS : Sx c B F w)
    (H : ∀ L' B' v, K L' B' → (∀ w, S w → WOk c.h0 F (exB ex B') w) → Dn c L' [] B' (a.put (some d) v) → Sx c B' F w → wpAnyS c.P l.toArray (panQ c Q) nd S m (listed.setIfInBounds i true) (a.put (some d) v) w) :
    wpAnyS c.P l.toArray (panQ c Q) nd S (m + 1) listed a w := by
  have go : ∀ (v : Value), (∀ w, S w → Pu c.P (fl L [] B) ⟨some d, op, ty, pos, af, none⟩ w v) → wpAnyS c.P l.toArray (panQ c Q) nd S m (listed.setIfInBounds i true) (a.put (some d) v) w → wpAnyS c.P l.toArray (panQ c Q) nd S (m + 1) listed a w := by
    intro v hpu h'
    refine wpAnyS_first (v := v) hoi hsel (fun ch a w h => ⟨h.1, by rw [← put_df a (some d) v]; exact h.2.1, h.2.2⟩) hnd m listed a w hc (Region.free_spec hoi hfree) hr ?_ hSn h'
    exact .inl ⟨hw, fun w hw => hpu w hw a.eval fun x _ u hu => hD.fr.ev hu⟩
  unfold mvO at h
  split at h
  · rename_i t x y
    obtain ⟨s, hs, h⟩ := rd1_sound h
    obtain ⟨s', hs', h⟩ := rd1_sound h
    have hρ : yes none → ∀ x s v, rdS L [] none x = some s → dvO (exB ex B) s = some v → ev (fl L [] B) x = some v := fun _ x s v h1 h2 => rdS_ev inv_nil (cx := none) (og := none) rfl yes_none h1 (exB_dv h2)
    obtain ⟨b, o, cs, h, hkn, hpu⟩ := ixG_sound (B := exB ex B) hT hρ hs hs' h
    obtain ⟨hl, hfl, h⟩ := fresh_sound h
    cases hd : Nat.blt d c.n with
    | false => rw [hd] at h; exact h.elim
    | true =>
      rw [hd] at h
      have hB' : Sx c ((d, .k none b o cs) :: B) F w := ⟨by rw [oes_k]; exact hS.st, bok_k hS.bk hkn⟩
      refine go (.pointer (some ⟨b, o, none⟩)) (fun w hw => hpu yes_none w (hSw w hw) _ _ _ _ _) (H _ _ _ h (fun w hw => ⟨(hSw w hw).vw, fun k b T cs hk => ?_⟩) ?_ hB')
      · refine (hSw w hw).own k b T cs ?_
        simp only [exB] at hk
        by_cases hkd : d = k
        · subst hkd; rw [lkA_eq] at hk; cases hk
        · rwa [lkA_ne hkd] at hk
      · refine Dn.cons (rr := some (.pointer (some ⟨b, o, none⟩))) (hD.fr.put hd _) inv_nil (fun t => ?_) (fun u hu => (Option.some.inj hu).symm)
        unfold kv
        simp only [lkA]
        by_cases ht : t = d
        · subst ht; simp [dvO, lkA_eq]
        · rw [beq_ne (Ne.symm ht), if_neg ht]
          simp only [cond_false]
          have := kv_fl (L := L) (I := []) (hfl (.k none b o cs)) t
          unfold kv at this
          simpa only [lkA] using this
  · cases hd : (isPure op && Nat.blt d c.n) with
    | false => rw [hd] at h; exact h.elim
    | true =>
      rw [hd] at h
      simp only [Bool.and_eq_true] at hd
      have hρ : yes none → ∀ x s v, rdS L [] none x = some s → dvO (exB ex B) s = some v → ev (fl L [] B) x = some v := fun _ x s v h1 h2 => rdS_ev inv_nil (cx := none) (og := none) rfl yes_none h1 (exB_dv h2)
      obtain ⟨s, v, hs, hv, hpu⟩ := pv_sound (L := fl L [] B) hT (exB_bok (ex := ex) hS.bk) hρ h
      obtain ⟨_, _, h⟩ := hasN_sound hs
      refine go v (fun w hw => hpu yes_none w (hSw w hw) _ _ _ _ _) (H _ _ _ h hSw ?_ hS)
      have hv' := exB_dv hv
      exact Dn.cons (rr := some v) (hD.fr.put hd.2 _) inv_nil (fun t => by
        unfold kv
        simp only [lkA]
        by_cases ht : t = d
        · subst ht; simp [hv']
        · rw [beq_ne (Ne.symm ht), if_neg ht]; rfl) (fun u hu => (Option.some.inj hu).symm)
theorem mvG_sound {l : List Oper} {nd : Nat → Bool} {ex : List Nat} {F : FV} {K : SL → BL → Prop} {Q : Exit → Act → World → Prop} {S : World → Prop} {k : Array Bool → Bool} {m : Nat} (hsel : Region.noSelect l.toArray = true) :
    ∀ (mv : List Nat) (L : SL) (B : BL) (listed : Array Bool) (a : Act) (w : World), chkM l.toArray mv listed k = true → (∀ i ∈ mv, ∀ j, nd j = false → j ≠ i → ∃ f, depB l.toArray f j i = true) → Closed l.toArray listed → (∀ w, S w → WOk c.h0 F (exB ex B) w) → S w →
      mvG c l F ex mv L B K → Dn c L [] B a → Sx c B F w →
      (∀ L' B' a' listed', K L' B' → k listed' = true → Closed l.toArray listed' → Dn c L' [] B' a' → Sx c B' F w → wpAnyS c.P l.toArray (panQ c Q) nd S m listed' a' w) → wpAnyS c.P l.toArray (panQ c Q) nd S (m + mv.length) listed a w
  | [], L, B, listed, a, w, hk, _, hc, _, _, h, hD, hS, H => H L B a listed h hk hc hD hS
  | i :: r, L, B, listed, a, w, hk, hnd, hc, hSw, hw, h, hD, hS, H => by
    simp only [chkM, Bool.and_eq_true] at hk
    obtain ⟨⟨hr, hfree⟩, hk⟩ := hk
    have hr : i ∈ Region.ready .any l.toArray listed := by simpa using hr
    have ih := fun L' B' a' hSw' h' hD' hS' => mvG_sound (ex := ex) hsel r L' B' (listed.setIfInBounds i true) a' w hk (fun i hi => hnd i (List.mem_cons_of_mem _ hi)) (hc.set hr) hSw' hw h' hD' hS' H
    unfold mvG at h
    split at h
    · rename_i d op ty pos af ho
      have hoi : l.toArray[i]? = some ⟨some d, op, ty, pos, af, none⟩ := by rw [nthV_eq] at ho; simpa using ho
      exact mvO_sound hT (m := m + r.length) hsel hoi (by simp [Region.wanted]) hr hfree (hnd i (List.mem_cons_self ..)) hc hSw hw h hD hS fun L' B' v h' hSw' hD' hS' => ih L' B' _ hSw' h' hD' hS'
    · rename_i d op ty pos af j b ho
      have hoi : l.toArray[i]? = some ⟨some d, op, ty, pos, af, some (j, b)⟩ := by rw [nthV_eq] at ho; simpa using ho
      obtain ⟨o, t, g, ho', hod, hgx, h⟩ := guardAt_sound h
      have hwt := wanted_of (o := ⟨some d, op, ty, pos, af, some (j, b)⟩) ho' hod (fun v hv => hD.fr.kv hv) hgx rfl
      cases hg : g with
      | true => exact mvO_sound hT (m := m + r.length) hsel hoi (hwt.trans hg) hr hfree (hnd i (List.mem_cons_self ..)) hc hSw hw (h.1 hg) hD hS fun L' B' v h' hSw' hD' hS' => ih L' B' _ hSw' h' hD' hS'
      | false =>
        have h2 := h.2 hg
        cases hd : Nat.blt d c.n with
        | false => rw [hd] at h2; exact h2.elim
        | true =>
          rw [hd] at h2
          have hD' : Dn c ((d, .v undef) :: L) [] B (a.put (some d) undef) := Dn.cons (rr := some undef) (hD.fr.put hd _) inv_nil (fun t => by
            unfold kv
            simp only [lkA]
            by_cases ht : t = d
            · subst ht; simp [dvO]
            · rw [beq_ne (Ne.symm ht), if_neg ht]; rfl) (fun u hu => (Option.some.inj hu).symm)
          exact wpAnyS_first (v := undef) hoi hsel (fun ch a w h => ⟨h.1, by rw [← put_df a (some d) undef]; exact h.2.1, h.2.2⟩) (hnd i (List.mem_cons_self ..)) (m + r.length) listed a w hc (Region.free_spec hoi hfree) hr (.inr ⟨hwt.trans hg, rfl⟩) hw (ih _ _ _ hSw h2 hD' hS)
    · exact h.elim
theorem tlP_sound {l : List Oper} {BS : BL} {F0 : FV} {K : KR} {Q : Exit → Act → World → Prop} {k : Array Bool → Bool} {m : Nat} (hmd : c.md = .wp) (hu : ∀ k b T cs, lkA BS k = some (.c b T cs) → (k, OB.c b T cs) ∈ BS)
    (H : ∀ L I B F a w listed, keepsB BS F0 B F → K L I B F → k listed = true → Closed l.toArray listed → Dn c L I B a → Sx c B F w → wpAnyS c.P l.toArray (panQ c Q) (fun _ => true) (WOk c.h0 F0 BS) m listed a w) :
    ∀ (rest : List Nat) (L : SL) (I : IL) (B : BL) (F : FV) (listed : Array Bool) (a : Act) (w : World), chkS l.toArray rest listed k = true → Closed l.toArray listed → keepsB BS F0 B F → tlP c l BS F0 rest L I B F K → Dn c L I B a → Sx c B F w → wpAnyS c.P l.toArray (panQ c Q) (fun _ => true) (WOk c.h0 F0 BS) (m + rest.length) listed a w
  | [], L, I, B, F, listed, a, w, hk, hc, hkb, h, hD, hS => H L I B F a w listed hkb h hk hc hD hS
  | j :: r, L, I, B, F, listed, a, w, hk, hc, hkb, h, hD, hS => by
    simp only [chkS, Bool.and_eq_true, decide_eq_true_eq] at hk
    unfold tlP at h
    split at h
    · rename_i o ho
      have hrd := hk.1
      have hoj : l.toArray[j]? = some o := by rw [nthV_eq] at ho; simpa using ho
      refine ⟨fun h0 => (by rw [hrd] at h0; cases h0), fun i hi => ?_⟩
      have hir := hi
      rw [hrd] at hi
      obtain rfl := List.mem_singleton.1 hi
      have ih := fun L I B F a w => tlP_sound hmd hu H r L I B F (listed.setIfInBounds i true) a w hk.2 (hc.set hir)
      have hrun := (runs_sound hT [o] L I B F h hD.inv).run (fun e a' w' => match e with
        | .normal => (true = true → WOk c.h0 F0 BS w') ∧ wpAnyS c.P l.toArray (panQ c Q) (fun _ => true) (WOk c.h0 F0 BS) (m + r.length) (listed.setIfInBounds i true) a' w'
        | e => panQ c Q e a' w') a w (fun L' I' B' F' a' w' hk' hD' hS' => ⟨fun _ => keepsB_wok hk'.1 hS' hu, ih _ _ _ _ _ _ hk'.1 hk'.2 hD' hS'⟩) (fun ch a w h1 h2 h3 => ⟨h1, h2, h3⟩) hD hS
      rw [hmd] at hrun
      simp only [wpM, wpList] at hrun
      unfold wpOp
      rw [hoj]
      simp only
      split
      · rename_i hw
        rw [if_pos hw] at hrun
        rcases hrun with hrun | ⟨h1, h2⟩
        · exact .inl (oper_wpQ (fun _ _ _ h => h) (fun ⟨a, w, h⟩ => ⟨a, w, h⟩) hrun)
        · exact .inr ⟨h1, let ⟨a, w, h⟩ := h2; ⟨a, w, h⟩⟩
      · rename_i hw
        rw [if_neg hw] at hrun
        exact hrun
    · exact h.elim
theorem plK_sound {l : List Oper} {ex : List Nat} {K : KR} {Q : Exit → Act → World → Prop} (hmd : c.md = .wp) (hn : NormOk c K Q) (hsel : Region.noSelect l.toArray = true) :
    ∀ (plan : List (List Nat × List Nat)) (L : SL) (I : IL) (B : BL) (F : FV) (listed : Array Bool) (a : Act) (w : World) (S : World → Prop), chkP l.toArray plan listed = true → Closed l.toArray listed → (∀ w, WOk c.h0 F (exB ex B) w → S w) → plK c l ex plan L I B F K → Dn c L I B a → Sx c B F w → wpAnyS c.P l.toArray (panQ c Q) (fun _ => true) S (planN plan) listed a w
  | [], L, I, B, F, listed, a, w, S, hk, hc, hSS, h, hD, hS => ⟨by simpa [chkP] using hk, hn L I B F a w h hD hS⟩
  | (mv, rest) :: p, L, I, B, F, listed, a, w, S, hk, hc, hSS, h, hD, hS => by
    unfold plK at h
    split at h
    · refine wpAnyS_weak hSS _ _ _ _ ?_
      unfold chkP at hk
      refine mvG_sound hT (F := F) (ex := ex) (S := WOk c.h0 F (exB ex B)) hsel mv L B listed a w hk (fun i _ j hj => by cases hj) hc (fun _ h => h) (exB_wok hS.wok) h hD hS fun L' B' a' listed' hK hk' hc' hD' hS' => ?_
      refine tlP_sound hT hmd (fun k b T cs h => exB_mem h) (fun L2 I2 B2 F2 a2 w2 listed2 hkb2 hK2 hk2 hc2 hD2 hS2 => ?_) rest L' [] B' F listed' a' w hk' hc' hK.1 hK.2 hD' hS'
      exact plK_sound hmd hn hsel p L2 I2 B2 F2 listed2 a2 w2 _ hk2 hc2 (fun w hw => keepsB_ex hkb2 hw) hK2 hD2 hS2
    · exact h.elim
omit hT in
theorem closed_no (ops : Array Oper) (n : Nat) : Closed ops (Array.replicate n false) := fun j oj _ hl => by
  rw [getD_replicate_false] at hl; cases hl
/-- **A region that draws its order, by turns**: `plan`: what is taken first, what comes in turn behind it, and so on; `ex`: own blocks of which nothing is read by what is taken first. -/
theorem regPh {i : Nat} {l : List Oper} (plan : List (List Nat × List Nat)) (ex : List Nat) {L : SL} {B : BL} {F : FV} {kn : KN} {kx : Nat → KN} {kr : KN}
    (h : plK c l ex plan L [] B F fun L I B F => pushK I L fun L => kn L B F)
    (hq : chkPh l plan = true := by kernel_rfl) (hmd : c.md = .wp := by rfl) : CP c (.region i ⟨l⟩ true) L B F kn kx kr := by
  simp only [chkPh, Bool.and_eq_true] at hq
  obtain ⟨⟨hsel, hlen⟩, hchk⟩ := hq
  have hlen := Nat.eq_of_beq_eq_true hlen
  refine ⟨fun Q a w hn _ _ hp hD hS => ?_⟩
  rw [hmd]
  refine wp_mono (wp_region_any (Q := panQ c Q) hT.mix (wpAny_of_S (nd := fun _ => true) (S := WOk c.h0 F (exB ex B)) _ _ _ _ ?_)) fun e a w he => ?_
  · have hS1 : Sx c B F { w with drawn := w.drawn + 1 } := hS.step (keep_drawn w)
    have e : l.toArray.size = planN plan := by rw [List.size_toArray]; omega
    rw [e]
    exact plK_sound hT hmd (push_ok hn) hsel plan L [] B F _ a _ _ (by rw [← e, List.size_toArray]; exact hchk) (closed_no _ _) (fun _ h => h) h hD hS1
  · cases e with
    | panic ch => exact hp ch a w he.1 he.2.1 he.2.2
    | _ => exact he
end reg
end Go.Dx
namespace Go.Dx
open Go Go.RowKit
/-- a list that is read: a source for append -/
theorem Src.sl {P : Program} {w : World} {α : Type} {T sz : Nat} {g : α → List Value} {ad : Option Addr} {n cp : Nat} {l : List α} (h : SlC T sz (flatR g) (Full w) (.slice ad n cp) l) (hg : ∀ x ∈ l, (g x).length = sz) (h1 : ∀ x ∈ l, ∀ u ∈ g x, u.oneCell' = true) : Src P w (.slice ad n cp) sz l.length (l.map g).flatten := by
  obtain ⟨a, cap, hv, hle, hm, hx⟩ := h
  cases hv
  have hlen : ∀ l : List α, (∀ x ∈ l, (g x).length = sz) → (l.map g).flatten.length = l.length * sz := by
    intro l
    induction l with
    | nil => intro _; simp
    | cons x l ih =>
      intro hg
      rw [List.map_cons, List.flatten_cons, List.length_append, hg x (by simp), List.length_cons, Nat.succ_mul, ih fun y hy => hg y (by simp [hy])]
      omega
  have hone : ∀ u ∈ (l.map g).flatten, u.oneCell' = true := by
    intro u hu
    obtain ⟨cs, hcs, hu⟩ := List.mem_flatten.1 hu
    obtain ⟨x, hxm, rfl⟩ := List.mem_map.1 hcs
    exact h1 x hxm u hu
  cases l with
  | nil => exact Src.nil
  | cons x0 l0 =>
    obtain ⟨gb, off, arr, fz, rfl, ⟨T', hb⟩, hel⟩ := hx (by simp)
    refine Src.row (fz := fz) (arr := arr) (T := T') hb (hlen _ hg) ?_ hone
    have key : ∀ (l : List α) (o : Nat), (∀ x ∈ l, (g x).length = sz) → (∀ i x, l[i]? = some x → (arr.toList.drop (o + i * sz)).take sz = g x) → (arr.toList.drop o).take (l.length * sz) = (l.map g).flatten := by
      intro l
      induction l with
      | nil => intro o _ _; simp
      | cons x l ih =>
        intro o hg hx
        have h0 := hx 0 x rfl
        rw [Nat.zero_mul, Nat.add_zero] at h0
        have hr := ih (o + sz) (fun y hy => hg y (by simp [hy])) (fun i y hi => by
          have := hx (i + 1) y (by simpa using hi)
          rw [Nat.succ_mul] at this
          rw [show o + sz + i * sz = o + (i * sz + sz) by omega]; exact this)
        rw [List.length_cons, Nat.succ_mul, Nat.add_comm, List.take_add, h0, List.drop_drop, hr]
        rfl
    refine key _ off hg fun i x hi => ?_
    obtain ⟨cs, _, h2, h3⟩ := hel i x hi
    rw [h3]; exact h2
theorem set_perm {α : Type _} : ∀ (l : List α) (i : Nat) (x : α), i < l.length → (l.set i x).Perm (x :: l.eraseIdx i)
  | [], i, x, h => by simp at h
  | a :: l, 0, x, _ => by simp
  | a :: l, i + 1, x, h => by
    simp only [List.set_cons_succ, List.eraseIdx_cons_succ]
    exact ((set_perm l i x (by simpa using h)).cons a).trans (List.Perm.swap ..)
section
variable {c : Cx} (hT : c.T.Ok c.P)
include hT
/-- what came in, or what is known of, behind a buffer -/
theorem apF {α : Type} {g : α → List Value} {l : List α} {ad : Option Addr} {al : List Oper} {K : KR} {d t t2 e sz bytes n cp T : Nat} {x y : Operand} {ty : TypeId} {pos : String} {af : Array Edge} {r : List Oper} {L : SL} {B : BL} {F : FV} {sx : SV} {v : Value} {xs : List Value} (k : Nat) (hA : AppT c.P t t2 e sz bytes)
    (H : ∀ v, VLe c.h0 v → F v → SlC T sz (flatR g) v (.slice ad n cp) l) (hg : ∀ x ∈ l, (g x).length = sz) (h1 : ∀ x ∈ l, ∀ u ∈ g x, u.oneCell' = true)
    (hB : lkA B k = some (.e (bufE e sz v xs))) (hx : rdS L [] none x = some sx) (hv : dvO B sx = some v) (hy : rdS L [] none y = some (.v (.slice ad n cp)))
    (hb : (xs.length + (l.map g).flatten.length) * (bytes + 1) ≤ 140737488355328)
    (h : ∀ a0 nn cp, nn * sz = xs.length + (l.map g).flatten.length → setAK B k (.e (bufE e sz (.slice a0 nn cp) (xs ++ (l.map g).flatten))) fun B' => runs c al true K r ((d, .v (.slice a0 nn cp)) :: L) [] B' F) (hd : Nat.blt d c.n = true := by rfl) :
    WP c al (⟨some d, .call ⟨.builtin .append, ⟨[x, y]⟩, ⟨[t, t2]⟩⟩, ty, pos, af, none⟩ :: r) L [] B F K :=
  ap_src hT hA hB hx hv hy (yv := .slice ad n cp) rfl (fun w hS => Src.sl (Mono.slF _ _ hS.st.view (H _ hS.st.base_cv hS.st.facts)) hg h1) hd hb h
omit hT in
/-- a row of one's own becomes a buffer -/
theorem rowE {k b T n cp sz : Nat} {cs : List Value} {al : List Oper} {K : KR} {r : List Oper} {L : SL} {B : BL} {F : FV} (kn : Nat) (hB : lkA B k = some (.c b T cs)) (hl : cs.length = n * sz) (hc : cs.length = cp * sz) (hm : cp ≤ maxLen) (hle : n ≤ cp)
    (h : delE B k fun B' => lkA B' kn = none ∧ WP c al r (unL k b L) [] ((kn, .e (bufE T sz (.slice (some ⟨b, 0, none⟩) n cp) cs)) :: B') F K) : WP c al r L [] B F K := by
  obtain ⟨B', i, ⟨hkn, h1⟩, h2, h3, h4, h5⟩ := delC_sound hB h
  have hlt : i < (oes B).length := (List.getElem?_eq_some_iff.1 h2).1
  have hkv := unL_kv (L := L) hB h4
  refine ⟨fun Q a w hn hp hD hS => h1.run Q a w hn hp ⟨?_, inv_nil⟩ ⟨?_, fun q g b' o cs' hq => ?_⟩⟩
  · rw [fl_congr (nil_dv hkn _)]
    exact Fr.of_kv hD.fr.df hD.fr.sz fun t v hv => hD.fr.kv (by rw [hkv] at hv; exact hv)
  · have hC : BufC T sz (.slice (some ⟨b, 0, none⟩) n cp) cs w.heap[b]? := by
      have := hS.st.at h2
      refine .inr ⟨b, 0, n, cp, cs.toArray, (0, 0), rfl, this, by simp [noFz], hl, hle, hm, by simp; omega, by simp [← hl]⟩
    have := (hS.st.write h2 (Keep.refl [b] w) hC).perm (set_perm _ i _ hlt)
    rw [← h3] at this
    exact this
  · rcases List.mem_cons.1 hq with hq | hq
    · cases hq
    · exact (hS.bk.sub h5 fun v h => h) _ _ _ _ _ hq
end
end Go.Dx
namespace Go.Proofs.Ytibdadobdhojaaa
open Go Go.Dx Go.RowKit
def binL : List (Int × List UInt8 × Int) := [(4, [43], 4), (5, [45], 4), (6, [42], 5), (7, [47], 5), (8, [61], 3), (9, [33, 61], 3), (10, [60], 3), (11, [60, 61], 3), (12, [62], 3), (13, [62, 61], 3), (14, [97, 110, 100], 2), (15, [111, 114], 1)]
def binC (b : Int × List UInt8 × Int) : List Value := [.int .i64 b.1, vs b.2.1, .int .i64 b.2.2]
def findS (op : Int) : Int × List UInt8 × Int := (binL.find? fun b => decide (b.1 = op)).getD (0, [], 0)
theorem bin_get : ∀ k, k < 12 → ((cellsL (binL.map fun b => .agg (binC b).toArray)).drop (0 + k * 3)).take 3 = binC (binL.getD k (0, [], 0))
  | 0, _ | 1, _ | 2, _ | 3, _ | 4, _ | 5, _ | 6, _ | 7, _ | 8, _ | 9, _ | 10, _ | 11, _ => rfl
  | n + 12, h => by omega
theorem find_hit (op : Int) (k : Nat) (hk : k < 12) (hn : ∀ j, j < k → ¬ (binL.getD j (0, [], 0)).1 = op) (hp : (binL.getD k (0, [], 0)).1 = op) : findS op = binL.getD k (0, [], 0) := by
  have e : binL.find? (fun b => decide (b.1 = op)) = some (binL.getD k (0, [], 0)) := by
    rw [List.find?_eq_some_iff_getElem]
    refine ⟨by simpa using hp, k, hk, by rw [getD_lt _ _ _ (show k < binL.length from hk)]; rfl, fun j hj => ?_⟩
    have := hn j hj
    simpa [List.getD, show j < binL.length by have : binL.length = 12 := rfl; omega] using this
  rw [findS, e]; rfl
theorem find_none (op : Int) (hn : ∀ j, j < 12 → ¬ (binL.getD j (0, [], 0)).1 = op) : findS op = (0, [], 0) := by
  have e : binL.find? (fun b => decide (b.1 = op)) = none := by
    rw [List.find?_eq_none]
    intro b hb
    obtain ⟨j, hj⟩ := List.mem_iff_getElem?.1 hb
    have hlt := (List.getElem?_eq_some_iff.1 hj).1
    have := hn j hlt
    simpa [List.getD, hj] using this
  rw [findS, e]; rfl
theorem find_lev (op : Int) : (0 < (findS op).2.2) ↔ (4 ≤ op ∧ op ≤ 15) := by
  by_cases h : 4 ≤ op ∧ op ≤ 15
  · have : op = 4 ∨ op = 5 ∨ op = 6 ∨ op = 7 ∨ op = 8 ∨ op = 9 ∨ op = 10 ∨ op = 11 ∨ op = 12 ∨ op = 13 ∨ op = 14 ∨ op = 15 := by omega
    refine ⟨fun _ => h, fun _ => ?_⟩
    rcases this with rfl | rfl | rfl | rfl | rfl | rfl | rfl | rfl | rfl | rfl | rfl | rfl <;> decide
  · refine ⟨fun h2 => ?_, fun h2 => absurd h2 h⟩
    rw [find_none op (fun j hj e => h (by
      match j, hj with
      | 0, _ | 1, _ | 2, _ | 3, _ | 4, _ | 5, _ | 6, _ | 7, _ | 8, _ | 9, _ | 10, _ | 11, _ => (subst e; decide)
      | n + 12, hj => omega))] at h2
    exact absurd h2 (by decide)
theorem bin_other (op : Int) (h : ¬ (4 ≤ op ∧ op ≤ 15)) : ∀ j, j < 12 → ¬ (binL.getD j (0, [], 0)).1 = op := fun j hj e => h (by
  match j, hj with
  | 0, _ | 1, _ | 2, _ | 3, _ | 4, _ | 5, _ | 6, _ | 7, _ | 8, _ | 9, _ | 10, _ | 11, _ => (subst e; decide)
  | n + 12, hj => omega)
theorem find_sgn (op : Int) : ((findS op).2.1 = []) ↔ ¬ (4 ≤ op ∧ op ≤ 15) := by
  by_cases h : 4 ≤ op ∧ op ≤ 15
  · have : op = 4 ∨ op = 5 ∨ op = 6 ∨ op = 7 ∨ op = 8 ∨ op = 9 ∨ op = 10 ∨ op = 11 ∨ op = 12 ∨ op = 13 ∨ op = 14 ∨ op = 15 := by omega
    refine ⟨fun h2 => ?_, fun h2 => absurd h h2⟩
    rcases this with rfl | rfl | rfl | rfl | rfl | rfl | rfl | rfl | rfl | rfl | rfl | rfl <;> exact absurd h2 (by decide)
  · refine ⟨fun _ => h, fun _ => ?_⟩
    rw [find_none op (bin_other op h)]
theorem small_no (d : Nat) (x : Ex) (h : d = 0 ∨ 300 < x.s.length ∨ 300 < x.v.s.length ∨ 5 < x.l.length) : smallX d x = false := by
  rcases Nat.eq_zero_or_pos d with rfl | hd
  · rfl
  · rw [small_eq hd]
    rcases h with h | h | h | h
    · omega
    · rw [decide_eq_false (show ¬ x.s.length ≤ 300 by omega)]; simp
    · rw [decide_eq_false (show ¬ x.v.s.length ≤ 300 by omega)]; simp
    · rw [decide_eq_false (show ¬ x.l.length ≤ 5 by omega)]; simp
def XSm (x : Ex) : Bool := smallX 30 x && decide (szF x ≤ 300)
theorem kids_ok {cl : List Col} {l : List Ex} (h : ∀ j, j < l.length → (kindS cl (l.getD j ex0)).2 = 0) : ∀ y ∈ l, (kindS cl y).2 = 0 := by
  intro y hy
  obtain ⟨j, hj⟩ := List.mem_iff_getElem?.1 hy
  have := h j (List.getElem?_eq_some_iff.1 hj).1
  simpa [List.getD, hj] using this
theorem sm_of {x : Ex} (h : XSm x = true) : SmX x := ⟨30, loose_small 30 x (Bool.and_eq_true_iff.1 h).1⟩
theorem kind_ok {cl : List Col} {x : Ex} (h1 : ¬ x.op = 1) (h2 : ¬ x.op = 2) (h : ∀ j, j < x.l.length → (kindS cl (x.l.getD j ex0)).2 = 0) : kindS cl x = ofK (rulS x.op (x.l.map fun y => (kindS cl y).1)) := by
  rw [kind_eq cl x, if_neg h1, if_neg h2, kindL_ok cl x.l (kids_ok h)]
theorem kind_er {cl : List Col} {x : Ex} {k : Nat} (h1 : ¬ x.op = 1) (h2 : ¬ x.op = 2) (hk : k < x.l.length) (h : ∀ j, j < k → (kindS cl (x.l.getD j ex0)).2 = 0) (he : ¬ (kindS cl (x.l.getD k ex0)).2 = 0) : kindS cl x = (0, (kindS cl (x.l.getD k ex0)).2) := by
  rw [kind_eq cl x, if_neg h1, if_neg h2, kindL_err cl x.l k hk h he]
theorem contains_idx (l : List Int) (v : Int) : decide (idxS (fun x => decide (v = x)) l ≥ 0) = l.contains v := by
  have := idx_any (p := fun x => decide (v = x)) (l := l)
  rw [show decide (idxS (fun x => decide (v = x)) l ≥ 0) = decide (0 ≤ idxS (fun x => decide (v = x)) l) from rfl, this, List.contains_eq_any_beq]
  congr 1
end Go.Proofs.Ytibdadobdhojaaa
namespace Go.Proofs.Ytibdadobdhojaaa
open Go Go.Dx Go.RowKit
mutual
def deepS : Ex → Nat
  | .mk _ _ _ l => deepL 0 l + 1
def deepL (n : Nat) : List Ex → Nat
  | [] => n
  | x :: l => deepL (max n (deepS x)) l
end
theorem deep_eq (x : Ex) : deepS x = deepL 0 x.l + 1 := by
  cases x with
  | mk op v s l => rw [deepS]; rfl
theorem deepL_snoc : ∀ (l : List Ex) (n : Nat) (x : Ex), deepL n (l ++ [x]) = max (deepL n l) (deepS x)
  | [], n, x => rfl
  | y :: l, n, x => by simp only [List.cons_append, deepL]; exact deepL_snoc l _ x
theorem deepL_take (l : List Ex) (k : Nat) (h : k < l.length) : deepL 0 (l.take (k + 1)) = max (deepL 0 (l.take k)) (deepS (l.getD k ex0)) := by
  rw [List.take_succ_eq_append_getElem h, deepL_snoc, getD_lt l k ex0 h]
theorem deepL_ge : ∀ (l : List Ex) (n : Nat), n ≤ deepL n l ∧ ∀ y ∈ l, deepS y ≤ deepL n l
  | [], n => ⟨Nat.le_refl _, fun y hy => by cases hy⟩
  | x :: l, n => by
    have ih := deepL_ge l (max n (deepS x))
    refine ⟨Nat.le_trans (Nat.le_max_left _ _) ih.1, fun y hy => ?_⟩
    rcases List.mem_cons.1 hy with rfl | hy
    · exact Nat.le_trans (Nat.le_max_right _ _) ih.1
    · exact ih.2 y hy
theorem deep_sub {x y : Ex} (h : y ∈ x.l) : deepS y < deepS x := by
  rw [deep_eq x]
  have := (deepL_ge x.l 0).2 y h
  omega
theorem deepL_le {n m : Nat} : ∀ (l : List Ex) , n ≤ m → (∀ y ∈ l, deepS y ≤ m) → deepL n l ≤ m
  | [], h, _ => h
  | x :: l, h, hl => deepL_le l (Nat.max_le.2 ⟨h, hl x (List.mem_cons_self ..)⟩) fun y hy => hl y (List.mem_cons_of_mem _ hy)
theorem deep_small : ∀ (d : Nat) (x : Ex), smallX d x = true → deepS x ≤ d
  | 0, x, h => by simp [smallX] at h
  | d + 1, x, h => by
    simp only [smallX, Bool.and_eq_true, List.all_eq_true] at h
    rw [deep_eq]
    have := deepL_le (n := 0) (m := d) x.l (Nat.zero_le _) fun y hy => deep_small d y (h.2 y hy)
    omega
end Go.Proofs.Ytibdadobdhojaaa
namespace Go.Proofs.Ytibdadobdhojaaa
open Go Go.Dx Go.RowKit
mutual
/-- the names, as they stand, one by one -/
def nmS : Ex → List (List UInt8)
  | .mk op _ s l => (if op = 2 then [s] else []) ++ nmL l
def nmL : List Ex → List (List UInt8)
  | [] => []
  | x :: l => nmS x ++ nmL l
end
theorem nm_eq (x : Ex) : nmS x = (if x.op = 2 then [x.s] else []) ++ nmL x.l := by
  cases x with
  | mk op v s l => rw [nmS]; rfl
theorem nmL_app : ∀ (a b : List Ex), nmL (a ++ b) = nmL a ++ nmL b
  | [], b => rfl
  | x :: a, b => by simp only [List.cons_append, nmL, nmL_app a b, List.append_assoc]
theorem nmL_take (l : List Ex) (k : Nat) (h : k < l.length) : nmL (l.take (k + 1)) = nmL (l.take k) ++ nmS (l.getD k ex0) := by
  rw [List.take_succ_eq_append_getElem h, nmL_app, getD_lt l k ex0 h]
  simp [nmL]
theorem nmL_drop (l : List Ex) (k : Nat) : (nmL (l.take k)).length ≤ (nmL l).length := by
  have := congrArg List.length (show nmL l = nmL (l.take k) ++ nmL (l.drop k) by rw [← nmL_app, List.take_append_drop])
  rw [List.length_append] at this; omega
/-- one name more, if it is new -/
def addS (l : List (List UInt8)) (s : List UInt8) : List (List UInt8) := if l.contains s = true then l else l ++ [s]
theorem add_len (l : List (List UInt8)) (s : List UInt8) : (addS l s).length ≤ l.length + 1 := by
  unfold addS; split
  · omega
  · simp
theorem adds_len : ∀ (r l : List (List UInt8)), (r.foldl addS l).length ≤ l.length + r.length
  | [], l => Nat.le_refl _
  | s :: r, l => by
    have := adds_len r (addS l s)
    have := add_len l s
    simp only [List.foldl_cons, List.length_cons]; omega
/-- the names, each once -/
def namesS (x : Ex) : List (List UInt8) := (nmS x).foldl addS []
end Go.Proofs.Ytibdadobdhojaaa
namespace Go.Proofs.Ytibdadobdhojaaa
open Go Go.Dx Go.RowKit
def nameC (s : List UInt8) (c : Col) : Bool := decide (c.name = s)
/-- the column of a name -/
def colOf (cl : List Col) (s : List UInt8) : Option Col := cl.find? (nameC s)
theorem find_at {cl : List Col} {s : List UInt8} {k : Nat} (hk : k < cl.length) (hn : ∀ j, j < k → (cl.getD j c0).name ≠ s) (h : (cl.getD k c0).name = s) : colOf cl s = some (cl.getD k c0) := by
  unfold colOf
  rw [List.find?_eq_some_iff_getElem]
  refine ⟨decide_eq_true h, k, hk, getD_lt cl k c0 hk ▸ rfl, fun j hj => ?_⟩
  have := hn j hj
  rw [getD_lt cl j c0 (by omega)] at this
  simpa [nameC] using this
theorem find_no {cl : List Col} {s : List UInt8} (hn : ∀ j, j < cl.length → (cl.getD j c0).name ≠ s) : colOf cl s = none := by
  unfold colOf
  rw [List.find?_eq_none]
  intro c hc
  obtain ⟨j, hj, rfl⟩ := List.mem_iff_getElem.1 hc
  have := hn j hj
  rw [getD_lt cl j c0 hj] at this
  simpa [nameC] using this
theorem find_name {cl : List Col} {s : List UInt8} {c : Col} (h : colOf cl s = some c) : c.name = s := by
  have := List.find?_some h
  simpa [nameC] using this
theorem name_kind (cl : List Col) (s : List UInt8) : (if atS cl s < 0 then ((0 : Int), (13 : Int)) else ((cl.getD (atS cl s).toNat c0).kind, 0)) = match (colOf cl s).map (·.kind) with
    | none => (0, 13)
    | some k => (k, 0) := by
  rcases idx_cases (p := fun c : Col => decide (c.name = s)) (l := cl) c0 with ⟨h1, h2⟩ | ⟨k, hk, hl, hp, hn⟩
  · rw [if_pos (show atS cl s < 0 by unfold atS; omega), find_no fun j hj => by simpa using h2 j hj]; rfl
  · have e : atS cl s = (k : Int) := hk
    rw [if_neg (by omega), find_at hl (fun j hj => by simpa using hn j hj) (by simpa using hp), e]
    rfl
mutual
theorem kind_same {a b : List Col} : ∀ x : Ex, (∀ s ∈ nmS x, (colOf a s).map (·.kind) = (colOf b s).map (·.kind)) → kindS a x = kindS b x
  | .mk op v s l, h => by
    rw [nmS] at h
    by_cases h1 : op = 1
    · rw [kindS, kindS, if_pos h1, if_pos h1]
    by_cases h2 : op = 2
    · rw [kindS, kindS, if_neg h1, if_neg h1, if_pos h2, if_pos h2, name_kind, name_kind, h s (by rw [if_pos h2]; simp)]
    · rw [kindS, kindS, if_neg h1, if_neg h1, if_neg h2, if_neg h2, kindL_same l fun t ht => h t (by simp [ht])]
theorem kindL_same {a b : List Col} : ∀ l : List Ex, (∀ s ∈ nmL l, (colOf a s).map (·.kind) = (colOf b s).map (·.kind)) → kindL a l = kindL b l
  | [], _ => rfl
  | x :: l, h => by
    rw [nmL] at h
    rw [kindL, kindL, kind_same x fun s hs => h s (by simp [hs]), kindL_same l fun s hs => h s (by simp [hs])]
end
theorem nmL_mem {l : List Ex} {s : List UInt8} : s ∈ nmL l ↔ ∃ y ∈ l, s ∈ nmS y := by
  induction l with
  | nil => simp [nmL]
  | cons x l ih => rw [nmL]; simp [ih]
theorem right_leaf {x : Ex} (hr : rightS x = true) (h : x.op = 1) : x.l = [] := by
  rw [right_eq] at hr
  simp only [Bool.and_eq_true, decide_eq_true_eq] at hr
  have := hr.1
  rw [show cntS x.op = 0 by rw [h]; rfl] at this
  exact List.length_eq_zero_iff.1 (by omega)
theorem right_leaf2 {x : Ex} (hr : rightS x = true) (h : x.op = 2) : x.l = [] := by
  rw [right_eq] at hr
  simp only [Bool.and_eq_true, decide_eq_true_eq] at hr
  have := hr.1
  rw [show cntS x.op = 0 by rw [h]; rfl] at this
  exact List.length_eq_zero_iff.1 (by omega)
/-- what has a kind has columns for all its names; what has no column is told so -/
theorem kind_known {cl : List Col} : ∀ (k : Nat) (x : Ex), SizeOf.sizeOf x < k → rightS x = true → ((kindS cl x).2 = 0 → ∀ s ∈ nmS x, (colOf cl s).isSome = true) ∧ ((kindS cl x).2 = 13 → ∃ s ∈ nmS x, colOf cl s = none) := by
  intro k
  induction k with
  | zero => intro x h; omega
  | succ k ih =>
  intro x hk hr
  by_cases h1 : x.op = 1
  · rw [kind_eq, if_pos h1, nm_eq, if_neg (by omega), right_leaf hr h1]
    exact ⟨fun _ s hs => by simp [nmL] at hs, fun h => by simp at h⟩
  by_cases h2 : x.op = 2
  · rw [kind_eq, if_neg h1, if_pos h2, name_kind, nm_eq, if_pos h2, right_leaf2 hr h2]
    cases hc : colOf cl x.s with
    | none => exact ⟨fun h => by simp at h, fun _ => ⟨x.s, by simp, hc⟩⟩
    | some c => exact ⟨fun _ s hs => by have : s = x.s := by simpa [nmL] using hs
                                        rw [this, hc]; rfl, fun h => by simp at h⟩
  obtain ⟨hop, hlen, hch⟩ := right_sub hr h1 h2
  have hnm : nmS x = nmL x.l := by rw [nm_eq, if_neg h2]; rfl
  rw [kind_eq, if_neg h1, if_neg h2, hnm]
  rcases kindL_cases cl x.l with ⟨hall, e⟩ | ⟨m, hm, hn, he, e⟩
  · rw [e]
    refine ⟨fun _ s hs => ?_, fun h => ?_⟩
    · obtain ⟨y, hy, hs⟩ := nmL_mem.1 hs
      exact (ih y (by have := Ex.lt hy; omega) (hch y hy)).1 (hall y hy) s hs
    · have h : (ofK (rulS x.op (x.l.map fun y => (kindS cl y).1))).2 = 13 := h
      rcases ofK_err (rulS x.op (x.l.map fun y => (kindS cl y).1)) with h' | h' <;> rw [h'] at h <;> simp at h
  · rw [e]
    refine ⟨fun h => absurd h he, fun h => ?_⟩
    have hy := getD_mem x.l m ex0 hm
    obtain ⟨s, hs, hc⟩ := (ih _ (by have := Ex.lt hy; omega) (hch _ hy)).2 h
    exact ⟨s, nmL_mem.2 ⟨_, hy, hs⟩, hc⟩
/-- the columns of names -/
def pickC (cl : List Col) (N : List (List UInt8)) : List Col := N.filterMap (colOf cl)
theorem pick_of {cl : List Col} {s : List UInt8} {c : Col} (hc : colOf cl s = some c) : ∀ N : List (List UInt8), s ∈ N → colOf (pickC cl N) s = some c
  | [], h => by simp at h
  | t :: N, h => by
    unfold pickC
    rw [List.filterMap_cons]
    by_cases hts : t = s
    · subst hts
      rw [hc]
      unfold colOf
      rw [List.find?_cons_of_pos (by simpa [nameC] using find_name hc)]
    · have hr := pick_of hc N (by rcases List.mem_cons.1 h with h | h; exact absurd h.symm hts; exact h)
      cases ht : colOf cl t with
      | none => exact hr
      | some c' =>
        unfold colOf
        simp only
        rw [List.find?_cons_of_neg (by have := find_name ht; simp [nameC, this, hts])]
        exact hr
theorem app_of {a b : List Col} {s : List UInt8} {c : Col} (hc : colOf a s = some c) : colOf (a ++ b) s = some c := by
  unfold colOf at hc ⊢
  rw [List.find?_append, hc]; rfl
/-- all names, or one that is no column -/
def unkS (cl : List Col) (N : List (List UInt8)) : Bool := N.any fun s => (colOf cl s).isNone
theorem pick_snoc (cl : List Col) (N : List (List UInt8)) (i : Nat) (h : i < N.length) : pickC cl (N.take (i + 1)) = pickC cl (N.take i) ++ (colOf cl (N.getD i [])).toList := by
  unfold pickC
  rw [take_snocD N i [] h, List.filterMap_append]
  generalize N.getD i [] = s
  cases h : colOf cl s <;> simp [List.filterMap_cons, h]
theorem unk_snoc (cl : List Col) (N : List (List UInt8)) (i : Nat) (h : i < N.length) : unkS cl (N.take (i + 1)) = (unkS cl (N.take i) || (colOf cl (N.getD i [])).isNone) := by
  unfold unkS
  rw [take_snocD N i [] h, List.any_append]
  simp only [List.any_cons, List.any_nil, Bool.or_false]
theorem pick_len (cl : List Col) (N : List (List UInt8)) : (pickC cl N).length ≤ N.length := List.length_filterMap_le _ _
theorem adds_sup : ∀ (r l : List (List UInt8)) (s : List UInt8), s ∈ l → s ∈ r.foldl addS l
  | [], l, s, h => h
  | t :: r, l, s, h => adds_sup r _ s (by
    unfold addS
    split
    · exact h
    · exact List.mem_append_left _ h)
theorem adds_all : ∀ (r l : List (List UInt8)) (s : List UInt8), s ∈ r → s ∈ r.foldl addS l
  | t :: r, l, s, h => by
    rcases List.mem_cons.1 h with rfl | h
    · refine adds_sup r _ s ?_
      unfold addS
      split
      · rename_i h; exact List.contains_iff_mem.1 h
      · simp
    · exact adds_all r _ s h
theorem adds_only : ∀ (r l : List (List UInt8)) (s : List UInt8), s ∈ r.foldl addS l → s ∈ l ∨ s ∈ r
  | [], l, s, h => .inl h
  | t :: r, l, s, h => by
    rcases adds_only r _ s h with h | h
    · unfold addS at h
      split at h
      · exact .inl h
      · rcases List.mem_append.1 h with h | h
        · exact .inl h
        · exact .inr (by simp at h; simp [h])
    · exact .inr (List.mem_cons_of_mem _ h)
theorem names_iff (x : Ex) (s : List UInt8) : s ∈ namesS x ↔ s ∈ nmS x := by
  refine ⟨fun h => ?_, fun h => adds_all _ _ s h⟩
  rcases adds_only (nmS x) [] s h with h | h
  · simp at h
  · exact h
theorem unk_err {cl : List Col} {x : Ex} (hr : rightS x = true) (h : unkS cl (namesS x) = true) : (kindS cl x).2 ≠ 0 := by
  intro e
  obtain ⟨s, hs, hn⟩ := List.any_eq_true.1 h
  have := (kind_known (cl := cl) _ x (Nat.lt_succ_self _) hr).1 e s ((names_iff x s).1 hs)
  rw [Option.isNone_iff_eq_none] at hn
  rw [hn] at this; cases this
theorem known_all {cl : List Col} {x : Ex} (h : unkS cl (namesS x) = false) : ∀ s ∈ nmS x, ∃ c, colOf cl s = some c := by
  intro s hs
  unfold unkS at h
  have := List.any_eq_false.1 h s ((names_iff x s).2 hs)
  cases hc : colOf cl s with
  | none => rw [hc] at this; simp at this
  | some c => exact ⟨c, rfl⟩
theorem known_ok {cl : List Col} {x : Ex} (hr : rightS x = true) (h : unkS cl (namesS x) = false) : (kindS cl x).2 ≠ 13 := by
  intro e
  obtain ⟨s, hs, hn⟩ := (kind_known (cl := cl) _ x (Nat.lt_succ_self _) hr).2 e
  obtain ⟨c, hc⟩ := known_all h s hs
  rw [hn] at hc; cases hc
theorem kind_pick {cl : List Col} {x : Ex} (h : unkS cl (namesS x) = false) : kindS (pickC cl (namesS x)) x = kindS cl x := by
  refine kind_same x fun s hs => ?_
  obtain ⟨c, hc⟩ := known_all h s hs
  rw [hc, pick_of hc _ ((names_iff x s).2 hs)]
theorem kind_more {cl m : List Col} {x : Ex} (h : unkS cl (namesS x) = false) : kindS (cl ++ m) x = kindS cl x := by
  refine kind_same x fun s hs => ?_
  obtain ⟨c, hc⟩ := known_all h s hs
  rw [hc, app_of hc]
/-! how many names -/
mutual
def cntX : Ex → Nat
  | .mk _ _ _ l => 1 + cntL l
def cntL : List Ex → Nat
  | [] => 0
  | x :: l => cntX x + cntL l
end
theorem cnt_eq (x : Ex) : cntX x = 1 + cntL x.l := by
  cases x with
  | mk o v s l => rw [cntX]; rfl
mutual
theorem nm_cnt : ∀ x : Ex, (nmS x).length ≤ cntX x
  | .mk o v s l => by
    have := nmL_cnt l
    rw [nmS, cntX, List.length_append]
    split <;> simp <;> omega
theorem nmL_cnt : ∀ l : List Ex, (nmL l).length ≤ cntL l
  | [] => by simp [nmL, cntL]
  | x :: l => by
    have := nm_cnt x
    have := nmL_cnt l
    rw [nmL, cntL, List.length_append]; omega
end
mutual
theorem sz_cnt : ∀ x : Ex, cntX x ≤ 9223372036854775807 → szF x = (cntX x : Nat)
  | .mk o v s l, h => by
    rw [cntX] at h
    rw [szF, cntX]
    have := szL_cnt l 1 (by omega)
    rw [show (1 : Int) = ((1 : Nat) : Int) from rfl, this]
theorem szL_cnt : ∀ (l : List Ex) (n : Nat), n + cntL l ≤ 9223372036854775807 → szL (n : Int) l = ((n + cntL l : Nat) : Int)
  | [], n, _ => by simp [szL, cntL]
  | x :: l, n, h => by
    rw [cntL] at h
    rw [szL, cntL, sz_cnt x (by omega), wrap_i64 (by omega) (by omega)]
    have := szL_cnt l (n + cntX x) (by omega)
    rw [show (n : Int) + (cntX x : Nat) = ((n + cntX x : Nat) : Int) by omega, this]
    omega
end
theorem cntL_le {d : Nat} : ∀ l : List Ex, (∀ y ∈ l, cntX y ≤ d) → cntL l ≤ l.length * d
  | [], _ => by simp [cntL]
  | x :: l, h => by
    have := cntL_le l fun y hy => h y (by simp [hy])
    have := h x (by simp)
    rw [cntL, List.length_cons, Nat.succ_mul]; omega
/-- a right expression of small depth -/
theorem cnt_right : ∀ (d : Nat) (x : Ex), smallX d x = true → rightS x = true → cntX x ≤ 4 ^ d
  | 0, x, h, _ => by unfold smallX at h; cases h
  | d + 1, x, h, hr => by
    rw [small_eq (by omega)] at h
    simp only [Bool.and_eq_true, List.all_eq_true, Nat.add_sub_cancel] at h
    have hlen : x.l.length ≤ 3 ∧ ∀ y ∈ x.l, rightS y = true := by
      by_cases h1 : x.op = 1
      · rw [right_leaf hr h1]; exact ⟨by simp, fun y hy => by simp at hy⟩
      by_cases h2 : x.op = 2
      · rw [right_leaf2 hr h2]; exact ⟨by simp, fun y hy => by simp at hy⟩
      obtain ⟨hop, hl, hch⟩ := right_sub hr h1 h2
      refine ⟨?_, hch⟩
      have : cntS x.op ≤ 3 := by unfold cntS; split; omega; split; omega; split; omega; split <;> omega
      omega
    have hk := cntL_le (d := 4 ^ d) x.l fun y hy => cnt_right d y (h.2 y hy) (hlen.2 y hy)
    have hp : 1 ≤ 4 ^ d := Nat.pos_of_ne_zero (by simp)
    have : x.l.length * 4 ^ d ≤ 3 * 4 ^ d := Nat.mul_le_mul_right _ hlen.1
    rw [cnt_eq, Nat.pow_succ]; omega
theorem names_few {x : Ex} (h : smallX 30 x = true) (hr : rightS x = true) (hs : szF x ≤ 300) : (nmS x).length ≤ 300 := by
  have h1 := cnt_right 30 x h hr
  have h2 : (4 : Nat) ^ 30 ≤ 9223372036854775807 := by decide
  have h3 := sz_cnt x (by omega)
  have := nm_cnt x
  omega
end Go.Proofs.Ytibdadobdhojaaa
