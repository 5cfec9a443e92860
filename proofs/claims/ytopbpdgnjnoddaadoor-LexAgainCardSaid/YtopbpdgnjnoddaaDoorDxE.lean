/- Laws of one step of a walk, and of what memory holds. No condition beyond what each names. -/
import Derived.Test.YtopbpdgnjnoddaaDoorDxD
set_option linter.unusedSimpArgs false
set_option linter.unusedVariables false
namespace Go.Dx
open Go Go.RowKit

/-! ### Memory: what is there, what is the call's own -/
abbrev View := Nat → Option Obj
def VLe (h h' : View) : Prop := ∀ k o, h k = some o → h' k = some o
def Full (w : World) : View := fun k => w.heap[k]?
def Mono (F : View → Prop) : Prop := ∀ h h', VLe h h' → F h → F h'

theorem VLe.refl (h : View) : VLe h h := fun _ _ h => h
theorem VLe.trans {a b c : View} (h : VLe a b) (k : VLe b c) : VLe a c := fun i o hi => k i o (h i o hi)
theorem Mono.tru : Mono fun _ => True := fun _ _ _ _ => trivial
theorem Mono.and {F G : View → Prop} (hF : Mono F) (hG : Mono G) : Mono fun h => F h ∧ G h := fun h h' hl ⟨a, b⟩ => ⟨hF h h' hl a, hG h h' hl b⟩

/-- an own block: its number (none: there is none yet), and what is known of it -/
abbrev OE := Option Nat × (Option Obj → Prop)
def CellsC (T : TypeId) (cs : List Value) : Option Obj → Prop := fun o => o = some (.cells cs.toArray T (0, 0))
def ids (O : List OE) : List Nat := O.filterMap (·.1)

def cv (n0 : Nat) (h0 : View) (I : List Nat) (w : World) : View := fun k => if k ∈ I then none else if k < n0 then h0 k else w.heap[k]?
/-- what a callee leaves to its caller -/
def nv (h : View) (w w' : World) : View := fun k => if k < w.heap.size then h k else w'.heap[k]?

structure St (w0 : World) (h0 : View) (M : List Nat) (w : World) (O : List OE) (F : View → Prop) : Prop where
  keep : Keep M w0 w
  vw : ∀ k o, h0 k = some o → w0.heap[k]? = some o ∧ k ∉ M
  own : ∀ e ∈ O, e.2 (e.1.bind fun b => w.heap[b]?)
  fresh : ∀ b ∈ ids O, (w0.heap.size ≤ b ∨ b ∈ M) ∧ b < w.heap.size
  nd : (ids O).Nodup
  mono : Mono F
  facts : F (cv w0.heap.size h0 (ids O) w)

theorem Keep.mono {M M' : List Nat} {w w' : World} (h : Keep M w w') (hM : ∀ b ∈ M, b < w.heap.size → b ∈ M') : Keep M' w w' :=
  ⟨h.os, h.tape, h.output, h.size, fun k hk hn => h.block k hk fun hm => hn (hM k hm hk)⟩

theorem Keep.transIn {M I : List Nat} {w0 w w' : World} (h : Keep M w0 w) (k : Keep I w w') (hI : ∀ b ∈ I, w0.heap.size ≤ b ∨ b ∈ M) : Keep M w0 w' :=
  ⟨k.os.trans h.os, k.tape.trans h.tape, k.output.trans h.output, Nat.le_trans h.size k.size, fun i hi hn => by
    rw [k.block i (Nat.lt_of_lt_of_le hi h.size) fun hm => by
      rcases hI i hm with h' | h'
      · omega
      · exact hn h']
    exact h.block i hi hn⟩

section st
variable {w0 w w' : World} {h0 : View} {M : List Nat} {O : List OE} {F Φ : View → Prop}

theorem St.init (w : World) (h : View) (hv : VLe h (Full w)) : St w h [] w [] fun _ => True :=
  ⟨Keep.refl _ _, fun k o hk => ⟨hv k o hk, by simp⟩, by simp, by simp [ids], by simp [ids], Mono.tru, trivial⟩

theorem St.view (hS : St w0 h0 M w O F) : VLe (cv w0.heap.size h0 (ids O) w) (Full w) := by
  intro k o hk
  unfold cv at hk
  split at hk
  · cases hk
  · split at hk
    · rename_i hlt
      have := hS.vw k o hk
      show w.heap[k]? = some o
      rw [hS.keep.block k hlt this.2]
      exact this.1
    · exact hk

/-- the world has gone on, only own blocks of `I` have changed -/
theorem cv_le {I I' J : List Nat} (n0 : Nat) (h0 : View) (hk : Keep J w w') (hJ : ∀ b ∈ J, b ∈ I) (hI : ∀ b ∈ I', b ∈ I ∨ w.heap.size ≤ b) (hn : n0 ≤ w.heap.size) : VLe (cv n0 h0 I w) (cv n0 h0 I' w') := by
  intro k o h
  unfold cv at h ⊢
  split at h
  · cases h
  · rename_i hkI
    have hlt : ∀ (hh : ¬ k < n0), k < w.heap.size := fun hh => by
      rw [if_neg hh] at h; exact (Array.getElem?_eq_some_iff.1 h).1
    rw [if_neg (fun hm => by
      rcases hI k hm with h' | h'
      · exact hkI h'
      · by_cases hh : k < n0
        · omega
        · have := hlt hh; omega)]
    split
    · rename_i hh; rwa [if_pos hh] at h
    · rename_i hh
      rw [if_neg hh] at h
      rw [hk.block k (hlt hh) fun hm => hkI (hJ k hm)]
      exact h

theorem St.step (hS : St w0 h0 M w O F) (hk : Keep [] w w') : St w0 h0 M w' O F := by
  refine ⟨hS.keep.transIn hk (by simp), hS.vw, fun e he => ?_, fun b hb => ⟨(hS.fresh b hb).1, Nat.lt_of_lt_of_le (hS.fresh b hb).2 hk.size⟩, hS.nd, hS.mono,
    hS.mono _ _ (cv_le _ _ hk (by simp) (fun b hb => .inl hb) hS.keep.size) hS.facts⟩
  have := hS.own e he
  cases he1 : e.1 with
  | none => rw [he1] at this; exact this
  | some b =>
    rw [he1] at this
    have hb : b ∈ ids O := List.mem_filterMap.2 ⟨e, he, he1⟩
    simp only [Option.bind_some] at this ⊢
    rw [hk.block b (hS.fresh b hb).2 (by simp)]
    exact this

theorem St.add (hS : St w0 h0 M w O F) (hm : Mono Φ) (h : Φ (cv w0.heap.size h0 (ids O) w)) : St w0 h0 M w O fun h => F h ∧ Φ h :=
  ⟨hS.keep, hS.vw, hS.own, hS.fresh, hS.nd, hS.mono.and hm, hS.facts, h⟩
theorem St.weak {G : View → Prop} (hS : St w0 h0 M w O F) (hm : Mono G) (h : ∀ v, F v → G v) : St w0 h0 M w O G :=
  ⟨hS.keep, hS.vw, hS.own, hS.fresh, hS.nd, hm, h _ hS.facts⟩

theorem nv_le (hS : St w0 h0 M w O F) (hk : Keep [] w w') : VLe (nv (cv w0.heap.size h0 (ids O) w) w w') (cv w0.heap.size h0 (ids O) w') := by
  intro k o h
  unfold nv at h
  split at h
  · exact cv_le _ _ hk (by simp) (fun b hb => .inl hb) hS.keep.size k o h
  · rename_i hlt
    unfold cv
    rw [if_neg (fun hm => hlt (hS.fresh k hm).2), if_neg (fun hh => hlt (Nat.lt_of_lt_of_le hh hS.keep.size))]
    exact h

/-- behind a callee that leaves old memory alone -/
theorem St.call (hS : St w0 h0 M w O F) (hk : Keep [] w w') (hm : Mono Φ) (h : Φ (nv (cv w0.heap.size h0 (ids O) w) w w')) : St w0 h0 M w' O fun h => F h ∧ Φ h :=
  (hS.step hk).add hm (hm _ _ (nv_le hS hk) h)

/-- what a call leaves -/
def Ret (w : World) (h : View) (Φ : Value → View → Prop) : Ending → World → Prop := fun e w' => ∃ v, e = .returned v ∧ Keep [] w w' ∧ Φ v (nv h w w')

theorem Ret.mono {h : View} {Φ Ψ : Value → View → Prop} (hq : ∀ v h, Φ v h → Ψ v h) : ∀ e w', Ret w h Φ e w' → Ret w h Ψ e w' := fun _ _ ⟨v, he, hk, hv⟩ => ⟨v, he, hk, hq _ _ hv⟩

theorem St.ret {Ψ : Value → View → Prop} {v : Value} (hS : St w0 h0 [] w O F) (hm : Mono (Ψ v)) (h : ∀ hh, F hh → Ψ v hh) : Ret w0 h0 Ψ (.returned v) w :=
  ⟨v, rfl, hS.keep, hm _ _ (fun k o hk => by
    unfold cv at hk
    unfold nv
    split at hk
    · cases hk
    · exact hk) (h _ hS.facts)⟩

/-- a new block -/
theorem keep_alloc (w : World) (o : Obj) : Keep [] w (w.alloc o) := ⟨rfl, rfl, rfl, by simp, fun k hk _ => Below.heap_alloc _ _ _ hk⟩

theorem St.new (hS : St w0 h0 M w O F) (o : Obj) {C : Option Obj → Prop} (hC : C (some o)) : St w0 h0 M (w.alloc o) ((some w.heap.size, C) :: O) F := by
  have h1 := hS.step (keep_alloc w o)
  have hnot : w.heap.size ∉ ids O := fun hm => by have := (hS.fresh _ hm).2; omega
  refine ⟨h1.keep, h1.vw, fun e he => ?_, fun b hb => ?_, ?_, hS.mono, hS.mono _ _ (cv_le (J := []) _ _ (keep_alloc w o) (by simp) (fun b hb => ?_) hS.keep.size) hS.facts⟩
  · rcases List.mem_cons.1 he with rfl | he
    · have : (w.alloc o).heap[w.heap.size]? = some o := heap_alloc_new w o
      simp only [Option.bind_some, this]
      exact hC
    · exact h1.own e he
  · have hb' : b = w.heap.size ∨ b ∈ ids O := by simpa [ids] using hb
    rcases hb' with rfl | hb'
    · exact ⟨.inl hS.keep.size, by simp⟩
    · exact h1.fresh b hb'
  · show (w.heap.size :: ids O).Nodup
    exact List.nodup_cons.2 ⟨hnot, hS.nd⟩
  · have hb' : b = w.heap.size ∨ b ∈ ids O := by simpa [ids] using hb
    rcases hb' with rfl | hb'
    · exact .inr (Nat.le_refl _)
    · exact .inl hb'

/-- own entry number `i` -/
theorem St.at {i : Nat} {b : Nat} {C : Option Obj → Prop} (hS : St w0 h0 M w O F) (hi : O[i]? = some (some b, C)) : C w.heap[b]? := by
  have := hS.own _ (List.mem_of_getElem? hi)
  simpa using this

theorem ids_set {b : Nat} {C C' : Option Obj → Prop} : ∀ {O : List OE} {i : Nat}, O[i]? = some (some b, C) → ids (O.set i (some b, C')) = ids O
  | [], _, h => by simp at h
  | e :: O, 0, h => by
    have : e = (some b, C) := by simpa using h
    subst this
    simp [ids]
  | e :: O, i + 1, h => by
    have := ids_set (O := O) (i := i) (C' := C') (by simpa using h)
    unfold ids at this ⊢
    simp only [List.set_cons_succ, List.filterMap_cons]
    rw [this]

/-- own entry number `i` has been written -/
theorem St.write {i : Nat} {b : Nat} {C C' : Option Obj → Prop} (hS : St w0 h0 M w O F) (hi : O[i]? = some (some b, C)) (hk : Keep [b] w w') (hC : C' w'.heap[b]?) :
    St w0 h0 M w' (O.set i (some b, C')) F := by
  have hb : b ∈ ids O := List.mem_filterMap.2 ⟨_, List.mem_of_getElem? hi, rfl⟩
  have hids := ids_set (C' := C') hi
  have hil : i < O.length := (List.getElem?_eq_some_iff.1 hi).1
  refine ⟨hS.keep.transIn hk (fun c hc => (List.mem_singleton.1 hc).symm ▸ (hS.fresh b hb).1), hS.vw, fun e he => ?_, fun c hc => ?_, by rw [hids]; exact hS.nd, hS.mono, ?_⟩
  · obtain ⟨j, hj⟩ := List.mem_iff_getElem?.1 he
    rw [List.getElem?_set] at hj
    by_cases hij : i = j
    · subst hij
      simp [hil] at hj
      subst hj
      simpa using hC
    · rw [if_neg hij] at hj
      have := hS.own e (List.mem_of_getElem? hj)
      cases he1 : e.1 with
      | none => rw [he1] at this; exact this
      | some c =>
        rw [he1] at this
        have hc : c ∈ ids O := List.mem_filterMap.2 ⟨e, List.mem_of_getElem? hj, he1⟩
        have hne : c ≠ b := by
          intro hcb
          subst hcb
          -- two places of one number
          have hnd := hS.nd
          have key : ∀ (O : List OE) (i j : Nat) (e : OE), (ids O).Nodup → i ≠ j → O[i]? = some (some c, C) → O[j]? = some e → e.1 = some c → False := by
            intro O
            induction O with
            | nil => intro i j e _ _ h; simp at h
            | cons x O ih =>
              intro i j e hnd hij h1 h2 h3
              match i, j with
              | 0, 0 => exact hij rfl
              | 0, j + 1 =>
                have hx : x = (some c, C) := by simpa using h1
                subst hx
                have hm : c ∈ ids O := List.mem_filterMap.2 ⟨e, List.mem_of_getElem? (by simpa using h2), h3⟩
                have : (c :: ids O).Nodup := by simpa [ids] using hnd
                exact (List.nodup_cons.1 this).1 hm
              | i + 1, 0 =>
                have hx : x = e := by simpa using h2
                subst hx
                have hm : c ∈ ids O := List.mem_filterMap.2 ⟨_, List.mem_of_getElem? (by simpa using h1), rfl⟩
                have : (c :: ids O).Nodup := by simpa [ids, h3] using hnd
                exact (List.nodup_cons.1 this).1 hm
              | i + 1, j + 1 =>
                refine ih i j e ?_ (by omega) (by simpa using h1) (by simpa using h2) h3
                cases hx : x.1 with
                | none => simpa [ids, hx] using hnd
                | some y =>
                  have : (y :: ids O).Nodup := by simpa [ids, hx] using hnd
                  exact (List.nodup_cons.1 this).2
          exact key O i j e hnd hij hi hj he1
        simp only [Option.bind_some] at this ⊢
        rw [hk.block c (hS.fresh c hc).2 (by simpa using hne)]
        exact this
  · rw [hids] at hc
    exact ⟨(hS.fresh c hc).1, Nat.lt_of_lt_of_le (hS.fresh c hc).2 hk.size⟩
  · rw [hids]
    exact hS.mono _ _ (cv_le (J := [b]) _ _ hk (fun c hc => (List.mem_singleton.1 hc).symm ▸ hb) (fun c hc => .inl hc) hS.keep.size) hS.facts

/-- own entry number `i` is written no more: what is known of its block is known for good -/
theorem St.shutOwn {i : Nat} {b : Nat} {C : Option Obj → Prop} (hS : St w0 h0 [] w O F) (hi : O[i]? = some (some b, C)) (hm : Mono Φ) (h : ∀ hh o, F hh → hh b = some o → C (some o) → Φ hh) :
    St w0 h0 [] w (O.eraseIdx i) fun h => F h ∧ Φ h := by
  have hC := hS.at hi
  have hbO : b ∈ ids O := List.mem_filterMap.2 ⟨_, List.mem_of_getElem? hi, rfl⟩
  have hsub : ∀ e, e ∈ O.eraseIdx i → e ∈ O := fun e he => List.mem_of_mem_eraseIdx he
  have hids : ∀ {O : List OE} {i : Nat}, O[i]? = some (some b, C) → (ids O).Nodup → b ∉ ids (O.eraseIdx i) ∧ (ids (O.eraseIdx i)).Nodup := by
    intro O
    induction O with
    | nil => intro i h; simp at h
    | cons x O ih =>
      intro i h hnd
      match i with
      | 0 =>
        have hx : x = (some b, C) := by simpa using h
        subst hx
        have : (b :: ids O).Nodup := by simpa [ids] using hnd
        simpa using List.nodup_cons.1 this
      | i + 1 =>
        have h' : O[i]? = some (some b, C) := by simpa using h
        have hbm : b ∈ ids O := List.mem_filterMap.2 ⟨_, List.mem_of_getElem? h', rfl⟩
        cases hx : x.1 with
        | none =>
          have := ih h' (by simpa [ids, hx] using hnd)
          simpa [ids, hx] using this
        | some y =>
          have hnd' : (y :: ids O).Nodup := by simpa [ids, hx] using hnd
          obtain ⟨g1, g2⟩ := ih h' (List.nodup_cons.1 hnd').2
          have hyb : y ≠ b := fun e => (List.nodup_cons.1 hnd').1 (e ▸ hbm)
          have hy2 : y ∉ ids (O.eraseIdx i) := fun hm => (List.nodup_cons.1 hnd').1 (by
            obtain ⟨e, he, he1⟩ := List.mem_filterMap.1 hm
            exact List.mem_filterMap.2 ⟨e, List.mem_of_mem_eraseIdx he, he1⟩)
          have e1 : ids ((x :: O).eraseIdx (i + 1)) = y :: ids (O.eraseIdx i) := by simp [ids, hx]
          rw [e1]
          exact ⟨by simp [Ne.symm hyb, g1], List.nodup_cons.2 ⟨hy2, g2⟩⟩
  obtain ⟨g1, g2⟩ := hids hi hS.nd
  have hsubI : ∀ c, c ∈ ids (O.eraseIdx i) → c ∈ ids O := fun c hc => by
    obtain ⟨e, he, he1⟩ := List.mem_filterMap.1 hc
    exact List.mem_filterMap.2 ⟨e, hsub e he, he1⟩
  have hF : F (cv w0.heap.size h0 (ids (O.eraseIdx i)) w) :=
    hS.mono _ _ (cv_le (J := []) _ _ (Keep.refl [] w) (by simp) (fun c hc => .inl (hsubI c hc)) hS.keep.size) hS.facts
  refine ⟨hS.keep, hS.vw, fun e he => hS.own e (hsub e he), fun c hc => hS.fresh c (hsubI c hc), g2, hS.mono.and hm, hF, ?_⟩
  have hfr := (hS.fresh b hbO)
  have hge : w0.heap.size ≤ b := by exact hfr.1.resolve_right (by simp)
  obtain ⟨o, ho⟩ : ∃ o, w.heap[b]? = some o := ⟨_, Array.getElem?_eq_getElem hfr.2⟩
  refine h _ o hF ?_ (by rw [← ho]; exact hC)
  unfold cv
  rw [if_neg g1, if_neg (by omega)]
  exact ho
end st
end Go.Dx
