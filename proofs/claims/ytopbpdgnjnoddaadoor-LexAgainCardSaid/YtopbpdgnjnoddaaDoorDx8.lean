/- Buffers that grow, and what is read of them once they stand. No condition. -/
import Derived.Test.YtopbpdgnjnoddaaDoorDx7
set_option linter.unusedSimpArgs false
set_option linter.unusedVariables false
namespace Go.Dx
open Go Go.RowKit

theorem lkE_ix : ∀ {B : BL} {k : Nat} {e0 : OE}, lkA B k = some (.e e0) → ∃ i, (oes B)[i]? = some e0 ∧ ∀ {e1 : OE} {K : BL → Prop}, setAK B k (.e e1) K →
    ∃ B', K B' ∧ oes B' = (oes B).set i e1 ∧ (∀ m, lkA B' m = if m = k then some (.e e1) else lkA B m) ∧ ∀ p ∈ B', p ∈ B ∨ p.2 = .e e1
  | [], k, e0, h => by simp [lkA] at h
  | (k0, o0) :: r, k, e0, h => by
    by_cases hk : k0 = k
    · subst hk
      rw [lkA_eq] at h
      cases h
      refine ⟨0, rfl, fun {e1 K} hK => ?_⟩
      unfold setAK at hK
      simp only [Nat.beq_refl, cond_true] at hK
      refine ⟨_, hK, rfl, fun m => ?_, fun p hp => ?_⟩
      · by_cases hm : m = k0
        · subst hm; rw [lkA_eq, if_pos rfl]
        · rw [lkA_ne (Ne.symm hm), lkA_ne (Ne.symm hm), if_neg hm]
      · rcases List.mem_cons.1 hp with rfl | hp
        · exact .inr rfl
        · exact .inl (List.mem_cons_of_mem _ hp)
    · rw [lkA_ne hk] at h
      obtain ⟨i, h2, hs⟩ := lkE_ix h
      have hmem : ∀ {B' : BL} {e1 : OE}, (∀ p ∈ B', p ∈ r ∨ p.2 = .e e1) → ∀ p ∈ (k0, o0) :: B', p ∈ (k0, o0) :: r ∨ p.2 = .e e1 := fun h5 p hp => by
        rcases List.mem_cons.1 hp with rfl | hp
        · exact .inl (by simp)
        · rcases h5 p hp with h | h
          · exact .inl (List.mem_cons_of_mem _ h)
          · exact .inr h
      have hl : ∀ {B' : BL} {e1 : OE}, (∀ m, lkA B' m = if m = k then some (.e e1) else lkA r m) → ∀ m, lkA ((k0, o0) :: B') m = if m = k then some (.e e1) else lkA ((k0, o0) :: r) m := fun h4 m => by
        by_cases hm : k0 = m
        · subst hm; rw [lkA_eq, lkA_eq, if_neg hk]
        · rw [lkA_ne hm, lkA_ne hm, h4]
      cases ho : oeOf o0 with
      | none =>
        have e : ∀ r : BL, oes ((k0, o0) :: r) = oes r := fun r => by unfold oes; rw [List.filterMap_cons]; simp only [ho]
        refine ⟨i, by rw [e]; exact h2, fun {e1 K} hK => ?_⟩
        unfold setAK at hK
        simp only [beq_ne hk, cond_false] at hK
        obtain ⟨B', h1, h3, h4, h5⟩ := hs hK
        exact ⟨_, h1, by rw [e, e]; exact h3, hl h4, hmem h5⟩
      | some e9 =>
        have e : ∀ r : BL, oes ((k0, o0) :: r) = e9 :: oes r := fun r => by unfold oes; rw [List.filterMap_cons]; simp only [ho]
        refine ⟨i + 1, by rw [e]; simpa using h2, fun {e1 K} hK => ?_⟩
        unfold setAK at hK
        simp only [beq_ne hk, cond_false] at hK
        obtain ⟨B', h1, h3, h4, h5⟩ := hs hK
        exact ⟨_, h1, by rw [e, e, h3]; rfl, hl h4, hmem h5⟩
theorem dvO_setE {B B' : BL} {k : Nat} {e0 e1 : OE} (hl : lkA B k = some (.e e0)) (h : ∀ m, lkA B' m = if m = k then some (.e e1) else lkA B m) (s : SV) : dvO B' s = dvO B s := by
  cases s with
  | o m f =>
    simp only [dvO, h]
    by_cases hm : m = k
    · subst hm; rw [if_pos rfl, hl]
    · rw [if_neg hm]
  | s m f n cp =>
    simp only [dvO, h]
    by_cases hm : m = k
    · subst hm; rw [if_pos rfl, hl]
    · rw [if_neg hm]
  | _ => rfl
def delE : BL → Nat → (BL → Prop) → Prop
  | [], _, _ => False
  | (k, o) :: r, d, K => bif Nat.beq k d then (match lkA r d with | none => K r | some _ => False) else delE r d fun r' => K ((k, o) :: r')
theorem delE_sound : ∀ {B : BL} {k : Nat} {e0 : OE} {K : BL → Prop}, lkA B k = some (.e e0) → delE B k K → ∃ B' i, K B' ∧ (oes B)[i]? = some e0 ∧ oes B' = (oes B).eraseIdx i ∧ (∀ m, lkA B' m = if m = k then none else lkA B m) ∧ ∀ p ∈ B', p ∈ B
  | [], k, e0, K, h, _ => by simp [lkA] at h
  | (k0, o0) :: r, k, e0, K, h, hK => by
    unfold delE at hK
    by_cases hk : k0 = k
    · subst hk
      rw [lkA_eq] at h
      cases h
      simp only [Nat.beq_refl, cond_true] at hK
      split at hK
      · rename_i hn
        refine ⟨_, 0, hK, rfl, rfl, fun m => ?_, fun p hp => List.mem_cons_of_mem _ hp⟩
        by_cases hm : m = k0
        · subst hm; rw [hn, if_pos rfl]
        · rw [lkA_ne (Ne.symm hm), if_neg hm]
      · exact hK.elim
    · rw [lkA_ne hk] at h
      simp only [beq_ne hk, cond_false] at hK
      obtain ⟨B', i, h1, h2, h3, h4, h5⟩ := delE_sound h hK
      have hl : ∀ m, lkA ((k0, o0) :: B') m = if m = k then none else lkA ((k0, o0) :: r) m := fun m => by
        by_cases hm : k0 = m
        · subst hm; rw [lkA_eq, lkA_eq, if_neg hk]
        · rw [lkA_ne hm, lkA_ne hm, h4]
      have hmem : ∀ p ∈ (k0, o0) :: B', p ∈ (k0, o0) :: r := fun p hp => by
        rcases List.mem_cons.1 hp with rfl | hp
        · simp
        · exact List.mem_cons_of_mem _ (h5 p hp)
      cases ho : oeOf o0 with
      | none =>
        have e : ∀ r : BL, oes ((k0, o0) :: r) = oes r := fun r => by unfold oes; rw [List.filterMap_cons]; simp only [ho]
        exact ⟨_, i, h1, by rw [e]; exact h2, by rw [e, e]; exact h3, hl, hmem⟩
      | some e9 =>
        have e : ∀ r : BL, oes ((k0, o0) :: r) = e9 :: oes r := fun r => by unfold oes; rw [List.filterMap_cons]; simp only [ho]
        exact ⟨_, i + 1, h1, by rw [e]; simpa using h2, by rw [e, e, h3]; rfl, hl, hmem⟩
theorem dvO_delE {B B' : BL} {k : Nat} {e0 : OE} (hl : lkA B k = some (.e e0)) (h : ∀ m, lkA B' m = if m = k then none else lkA B m) (s : SV) : dvO B' s = dvO B s := by
  cases s with
  | o m f =>
    simp only [dvO, h]
    by_cases hm : m = k
    · subst hm; rw [if_pos rfl, hl]
    · rw [if_neg hm]
  | s m f n cp =>
    simp only [dvO, h]
    by_cases hm : m = k
    · subst hm; rw [if_pos rfl, hl]
    · rw [if_neg hm]
  | _ => rfl
theorem BOk.sub {h0 : View} {F G : FV} {B B' : BL} (h : BOk h0 F B) (hm : ∀ p ∈ B', p ∈ B) (hF : ∀ v, G v → F v) : BOk h0 G B' :=
  fun k g b o cs hb => gc_mk fun hy => fun v w h1 h2 h3 => gc_yes (h k g b o cs (hm _ hb)) hy v w h1 (hF _ h2) h3

section sealb
variable {c : Cx} {α : Type} {T sz nn cp k : Nat} {a0 : Option Addr} {g : α → List Value} {l : List α} {B : BL} {F : FV}
theorem seal_sx (hM : c.M = []) (hB : lkA B k = some (.e (bufE T sz (.slice a0 nn cp) (l.map g).flatten))) (hn : nn = l.length) (hg : ∀ x ∈ l, (g x).length = sz) {X : BL → Prop} (h : delE B k X) :
    ∃ B', X B' ∧ (∀ s, dvO B' s = dvO B s) ∧ ∀ w, Sx c B F w → Sx c B' (fun h => F h ∧ SlC T sz (flatR g) h (.slice a0 nn cp) l) w := by
  obtain ⟨B', i, h1, h2, h3, h4, h5⟩ := delE_sound hB h
  refine ⟨B', h1, dvO_delE hB h4, fun w hS => ⟨?_, hS.bk.sub h5 fun v h => h.1⟩⟩
  have hst := hS.st
  rw [hM] at hst
  rw [h3, hM]
  cases a0 with
  | none =>
    refine (hst.forget i).add Mono.slF ?_
    have hC := hst.own _ (List.mem_of_getElem? h2)
    exact BufC.sl hC (fun b hb => by cases hb) hg hn
  | some ad =>
    cases hown : (Value.slice (some ad) nn cp).ownBlock with
    | none =>
      refine (hst.forget i).add Mono.slF ?_
      have hC := hst.own _ (List.mem_of_getElem? h2)
      exact BufC.sl hC (fun b hb => by rw [hown] at hb; cases hb) hg hn
    | some b =>
      have h2' : (oes B)[i]? = some (some b, BufC T sz (.slice (some ad) nn cp) (l.map g).flatten) := by rw [h2]; unfold bufE; rw [hown]
      refine hst.shutOwn h2' Mono.slF fun hh o hF hb hC => BufC.sl hC (fun b' hb' => ?_) hg hn
      rw [hown] at hb'; cases hb'; exact hb
/-- a buffer that is written no more: it is read from now on -/
theorem sealW {al r : List Oper} {L : SL} {K : KR} (k : Nat) (hB : lkA B k = some (.e (bufE T sz (.slice a0 nn cp) (l.map g).flatten))) (hn : nn = l.length) (h : delE B k fun B' => WP c al r L [] B' (fun h => F h ∧ SlC T sz (flatR g) h (.slice a0 nn cp) l) K) 
    (hg : ∀ x ∈ l, (g x).length = sz := by intros; rfl) (hM : c.M = [] := by rfl) : WP c al r L [] B F K := by
  obtain ⟨B', h1, h2, h3⟩ := seal_sx hM hB hn hg h
  exact ⟨fun Q a w hn hp hD hS => h1.run Q a w hn hp ⟨by rw [fl_congr h2]; exact hD.fr, hD.inv⟩ (h3 w hS)⟩
theorem sealC {co : Code} {L : SL} {kn : KN} {kx : Nat → KN} {kr : KN} (k : Nat) (hB : lkA B k = some (.e (bufE T sz (.slice a0 nn cp) (l.map g).flatten))) (hn : nn = l.length) (h : delE B k fun B' => CP c co L B' (fun h => F h ∧ SlC T sz (flatR g) h (.slice a0 nn cp) l) kn kx kr)
    (hg : ∀ x ∈ l, (g x).length = sz := by intros; rfl) (hM : c.M = [] := by rfl) : CP c co L B F kn kx kr := by
  obtain ⟨B', h1, h2, h3⟩ := seal_sx hM hB hn hg h
  exact ⟨fun Q a w hn hx hr hp hD hS => h1.run Q a w hn hx hr hp ⟨by rw [fl_congr h2]; exact hD.fr, hD.inv⟩ (h3 w hS)⟩
end sealb
section nilb
variable {c : Cx} {T sz k : Nat} {B : BL} {F : FV}
theorem nil_dv (hk : lkA B k = none) (e : OE) (s : SV) : dvO ((k, .e e) :: B) s = dvO B s := by
  cases s with
  | o m f =>
    simp only [dvO]
    by_cases hm : k = m
    · subst hm; rw [lkA_eq, hk]
    · rw [lkA_ne hm]
  | s m f n cp =>
    simp only [dvO]
    by_cases hm : k = m
    · subst hm; rw [lkA_eq, hk]
    · rw [lkA_ne hm]
  | _ => rfl
theorem nil_sx {w : World} (hS : Sx c B F w) : Sx c ((k, .e (bufE T sz (.slice none 0 0) [])) :: B) F w :=
  ⟨hS.st.newNil T sz, fun q g b o cs hb => by
    rcases List.mem_cons.1 hb with hb | hb
    · cases hb
    · exact hS.bk q g b o cs hb⟩
/-- no buffer yet -/
theorem nilC {co : Code} {L : SL} {kn : KN} {kx : Nat → KN} {kr : KN} (k T sz : Nat) (h : CP c co L ((k, .e (bufE T sz (.slice none 0 0) [])) :: B) F kn kx kr) (hk : lkA B k = none := by rfl) : CP c co L B F kn kx kr :=
  ⟨fun Q a w hn hx hr hp hD hS => h.run Q a w hn hx hr hp ⟨by rw [fl_congr (nil_dv hk _)]; exact hD.fr, hD.inv⟩ (nil_sx hS)⟩
theorem nilW {al r : List Oper} {L : SL} {K : KR} (k T sz : Nat) (h : WP c al r L [] ((k, .e (bufE T sz (.slice none 0 0) [])) :: B) F K) (hk : lkA B k = none := by rfl) : WP c al r L [] B F K :=
  ⟨fun Q a w hn hp hD hS => h.run Q a w hn hp ⟨by rw [fl_congr (nil_dv hk _)]; exact hD.fr, hD.inv⟩ (nil_sx hS)⟩
end nilb
section apb
variable {c : Cx} (hT : c.T.Ok c.P)
include hT
/-- on from a stop -/
theorem goW {al : List Oper} {K : KR} {d : Nat} {op : Op} {ty : TypeId} {pos : String} {af : Array Edge} {r : List Oper} {L : SL} {B : BL} {F : FV}
    (h : stepB c true (some d) op L [] B F (fun L I B F => runs c al true K r L I B F) (WP c al (⟨some d, op, ty, pos, af, none⟩ :: r) L [] B F K)) : WP c al (⟨some d, op, ty, pos, af, none⟩ :: r) L [] B F K :=
  stepB_sound hT inv_nil (fun L I B F h hI => runs_sound hT r L I B F h hI) h
/-- a row of values behind a buffer -/
theorem ap_src {al : List Oper} {K : KR} {d t t2 e sz bytes k m : Nat} {x y : Operand} {ty : TypeId} {pos : String} {af : Array Edge} {r : List Oper} {L : SL} {B : BL} {F : FV} {sx sy : SV} {v yv : Value} {xs news : List Value} (hA : AppT c.P t t2 e sz bytes)
    (hB : lkA B k = some (.e (bufE e sz v xs))) (hx : rdS L [] none x = some sx) (hv : dvO B sx = some v) (hy : rdS L [] none y = some sy) (hyv : dvO B sy = some yv) (hs : ∀ w, Sx c B F w → Src c.P w yv sz m news) (hd : Nat.blt d c.n = true)
    (hb : (xs.length + news.length) * (bytes + 1) ≤ 140737488355328)
    (h : ∀ a0 nn cp, nn * sz = xs.length + news.length → setAK B k (.e (bufE e sz (.slice a0 nn cp) (xs ++ news))) fun B' => runs c al true K r ((d, .v (.slice a0 nn cp)) :: L) [] B' F) :
    WP c al (⟨some d, .call ⟨.builtin .append, ⟨[x, y]⟩, ⟨[t, t2]⟩⟩, ty, pos, af, none⟩ :: r) L [] B F K := by
  obtain ⟨i, hi, hset⟩ := lkE_ix hB
  refine ⟨fun Q a w hn hp hD hS => s_append hD.fr hS.st hi hA (rdS_ev inv_nil (cx := none) (og := none) rfl yes_none hx hv) (rdS_ev inv_nil (cx := none) (og := none) rfl yes_none hy hyv) (hs w hS) hb hd fun a0 nn cp w' a' hnn hS' hF' => ?_⟩
  obtain ⟨B', h1, h3, h4, h5⟩ := hset (h a0 nn cp hnn)
  have hdv := dvO_setE hB h4
  refine (runs_sound hT r _ _ _ _ h1 inv_nil).run Q a' w' hn hp ⟨?_, inv_nil⟩ ⟨by rw [h3]; exact hS', fun q g b o cs hq => ?_⟩
  · rw [fl_congr hdv]
    exact hF'
  · rcases h5 _ hq with hq | hq
    · exact hS.bk _ _ _ _ _ hq
    · cases hq
theorem ap {al : List Oper} {K : KR} {d t t2 e sz bytes n cp b T q : Nat} {x y : Operand} {ty : TypeId} {pos : String} {af : Array Edge} {r : List Oper} {L : SL} {B : BL} {F : FV} {sx : SV} {v : Value} {xs news : List Value} (k : Nat) (hA : AppT c.P t t2 e sz bytes)
    (hB : lkA B k = some (.e (bufE e sz v xs))) (hx : rdS L [] none x = some sx) (hv : dvO B sx = some v) (hy : rdS L [] none y = some (.s q 0 n cp)) (hq : lkA B q = some (.c b T news)) (hl : lenB news (n * sz) = true) (ho : allOne news = true)
    (hb : (xs.length + news.length) * (bytes + 1) ≤ 140737488355328)
    (h : ∀ a0 nn cp, nn * sz = xs.length + news.length → setAK B k (.e (bufE e sz (.slice a0 nn cp) (xs ++ news))) fun B' => runs c al true K r ((d, .v (.slice a0 nn cp)) :: L) [] B' F) (hd : Nat.blt d c.n = true := by rfl) :
    true = true ∧ WP c al (⟨some d, .call ⟨.builtin .append, ⟨[x, y]⟩, ⟨[t, t2]⟩⟩, ty, pos, af, none⟩ :: r) L [] B F K :=
  ⟨rfl, ap_src hT hA hB hx hv hy (yv := .slice (some ⟨b, 0, none⟩) n cp) (by simp only [dvO, hq]) (fun w hS => Src.own (hS.wok.own _ _ _ _ hq) (lenB_eq hl) ho) hd hb h⟩
/-- a text behind a buffer of bytes -/
theorem apS {al : List Oper} {K : KR} {d t t2 e bytes : Nat} {x y : Operand} {ty : TypeId} {pos : String} {af : Array Edge} {r : List Oper} {L : SL} {B : BL} {F : FV} {sx : SV} {v : Value} {xs : List Value} {l : List UInt8} (k : Nat) (hA : AppT c.P t t2 e 1 bytes)
    (hB : lkA B k = some (.e (bufE e 1 v xs))) (hx : rdS L [] none x = some sx) (hv : dvO B sx = some v) (hy : rdS L [] none y = some (.v (vs l)))
    (hb : (xs.length + l.length) * (bytes + 1) ≤ 140737488355328)
    (h : ∀ a0 nn cp, nn = xs.length + l.length → setAK B k (.e (bufE e 1 (.slice a0 nn cp) (xs ++ l.map v8))) fun B' => runs c al true K r ((d, .v (.slice a0 nn cp)) :: L) [] B' F) (hd : Nat.blt d c.n = true := by rfl) :
    true = true ∧ WP c al (⟨some d, .call ⟨.builtin .append, ⟨[x, y]⟩, ⟨[t, t2]⟩⟩, ty, pos, af, none⟩ :: r) L [] B F K :=
  ⟨rfl, ap_src hT hA hB hx hv hy (yv := vs l) rfl (fun w hS => Src.str) hd (by simpa using hb) fun a0 nn cp hn => h a0 nn cp (by simpa using hn)⟩
/-- a call that hands back a new row -/
theorem cRow {al : List Oper} {K : KR} {d f : Nat} {args : List Operand} {ats : Array TypeId} {ty : TypeId} {pos : String} {af : Array Edge} {r : List Oper} {L : SL} {B : BL} {F : FV} {vsl cs : List Value} {Kv : SV → Prop} {α : Type} {T sz n : Nat} {g : α → List Value} (l : List α)
    (H : ∀ w, VLe c.h0 (Full w) → Calls c.P f vsl.toArray w (RetM [] w fun v w' => ∃ b, v = .slice (some ⟨b, 0, none⟩) n n ∧ NewRow w T cs b w'))
    (k : ∀ b, runs c al true K r ((d, .v (.slice (some ⟨b, 0, none⟩) n n)) :: L) [] B (fun h => F h ∧ SlC T sz (flatR g) h (.slice (some ⟨b, 0, none⟩) n n) l))
    (hcs : (cs.drop 0).take (n * sz) = (l.map g).flatten := by rfl) (hn : n = l.length := by rfl) (hm : n ≤ maxLen := by decide) (hg : ∀ x ∈ l, (g x).length = sz := by intros; rfl) (hf : memF c.T.fs f = true := by rfl) (hv : argK (rdS L [] none) B args fun l => l = vsl := by exact rfl) (hd : Nat.blt d c.n = true := by rfl) :
    CallG c true none B F f vsl Kv (WP c al (⟨some d, .call ⟨.value (.func f), ⟨args⟩, ats⟩, ty, pos, af, none⟩ :: r) L [] B F K) := by
  refine .w rfl (w_call hT (Ψ := fun v w w' => Keep [] w w' ∧ ∃ b, v = .slice (some ⟨b, 0, none⟩) n n ∧ NewRow w T cs b w') rfl hf hv (fun w hS => (H w hS.st.base).mono ?_) ?_ inv_nil)
  · rintro e w' ⟨v, rfl, hk, hu⟩; exact ⟨v, rfl, hk, hu⟩
  · rintro v w w' hS ⟨hk, b, rfl, hB⟩
    refine ⟨_, _, B, _, k b, inv_nil, hS.add hk Mono.slF ?_, hd, some (.slice (some ⟨b, 0, none⟩) n n), fun t => ?_, fun u hu => (Option.some.inj hu).symm⟩
    · refine SlC.ofRow hg (arr := cs.toArray) (fz := (0, 0)) ?_ hn (Nat.le_refl _) hm hcs
      unfold nv
      rw [if_neg (by have := hB.1; omega)]
      exact hB.2
    · unfold kv
      simp only [lkA]
      by_cases ht : t = d
      · subst ht; simp [dvO]
      · rw [beq_ne (Ne.symm ht), if_neg ht]; rfl
/-- a call that hands back a new buffer alone -/
theorem cSb {al : List Oper} {K : KR} {d f : Nat} {args : List Operand} {ats : Array TypeId} {ty : TypeId} {pos : String} {af : Array Edge} {r : List Oper} {L : SL} {B : BL} {F : FV} {vsl : List Value} {Kv : SV → Prop} {α : Type} {T sz : Nat} {g : α → List Value} {l : List α}
    (H : ∀ w, VLe c.h0 (Full w) → Calls c.P f vsl.toArray w (RetM [] w fun v w' => NewBuf w T sz (l.map g).flatten v w'))
    (k : ∀ ad cp, runs c al true K r ((d, .v (Value.slice ad l.length cp)) :: L) [] B (fun h => F h ∧ SlC T sz (flatR g) h (.slice ad l.length cp) l))
    (hg : ∀ x ∈ l, (g x).length = sz := by intros; rfl) (hsz : 0 < sz := by decide) (hf : memF c.T.fs f = true := by rfl) (hv : argK (rdS L [] none) B args fun l => l = vsl := by exact rfl) (hd : Nat.blt d c.n = true := by rfl) :
    CallG c true none B F f vsl Kv (WP c al (⟨some d, .call ⟨.value (.func f), ⟨args⟩, ats⟩, ty, pos, af, none⟩ :: r) L [] B F K) := by
  refine .w rfl (w_call hT (Ψ := fun v w w' => Keep [] w w' ∧ NewBuf w T sz (l.map g).flatten v w') rfl hf hv (fun w hS => (H w hS.st.base).mono ?_) ?_ inv_nil)
  · rintro e w' ⟨v, rfl, hk, hu⟩; exact ⟨v, rfl, hk, hu⟩
  · rintro u w w' hS ⟨hk, hB⟩
    obtain ⟨a0, nn, cp, rfl, hn⟩ := hB.form
    have hlen : (l.map g).flatten.length = l.length * sz := by
      clear hB hn k H
      induction l with
      | nil => simp
      | cons x l ih =>
        rw [List.map_cons, List.flatten_cons, List.length_append, hg x (by simp), ih fun y hy => hg y (by simp [hy]), List.length_cons, Nat.succ_mul]; omega
    have hnn : nn = l.length := Nat.eq_of_mul_eq_mul_right hsz (by rw [hn, hlen])
    subst hnn
    refine ⟨_, _, B, _, k a0 cp, inv_nil, hS.add hk Mono.slF ?_, hd, some (Value.slice a0 l.length cp), fun t => ?_, fun u hu => (Option.some.inj hu).symm⟩
    · refine BufC.sl hB.1 (fun b hb => ?_) hg rfl
      rw [hb]
      unfold nv
      rw [if_neg (by have := (hB.2 b hb).1; omega)]
      rfl
    · unfold kv
      simp only [lkA]
      by_cases ht : t = d
      · subst ht; simp [dvO]
      · rw [beq_ne (Ne.symm ht), if_neg ht]; rfl
end apb
theorem sl2g {g : Bool} {p q : Prop} [hb : BP g p q] {i i2 : Int} {m : Nat} {K : Nat → Nat → Prop} (j j2 : Nat) (k : K j j2) (h : p → i = (j : Int) ∧ i2 = (j2 : Int) ∧ j ≤ j2 ∧ j2 ≤ m := by intros; omega) : ∃ j j2 : Nat, (g = true → i = (j : Int) ∧ i2 = (j2 : Int) ∧ j ≤ j2 ∧ j2 ≤ m) ∧ K j j2 := ⟨j, j2, fun e => h (hb.t e), k⟩
/-- a guarded operation's facts hold where they are asked for -/
theorem kg1 {g g1 : Bool} {X : Prop} (k : X) (hk : g = true → g1 = true := by exact id) : (g = true → g1 = true) ∧ X := ⟨hk, k⟩
theorem cell_lt {w : World} {a : Addr} {x : Value} (h : w.cell? a = some x) : a.block < w.heap.size := by
  by_cases hl : a.block < w.heap.size
  · exact hl
  · have : w.heap[a.block]? = none := Array.getElem?_eq_none_iff.2 (by omega)
    simp [World.cell?, this] at h
end Go.Dx
