/- Kept memory, and regions whose order is open: what is proved of them holds in any order. No condition. -/
import Derived.WalkKit
import Derived.StillTail
set_option linter.unusedSimpArgs false
set_option linter.unusedVariables false
namespace Go.Dx
open Go Go.RowKit

/-- what is left unchanged: all blocks that were there, but those in `M` -/
structure Keep (M : List Nat) (w w' : World) : Prop where
  os : w'.os = w.os
  tape : w'.tape = w.tape
  output : w'.output = w.output
  size : w.heap.size ≤ w'.heap.size
  block : ∀ k, k < w.heap.size → k ∉ M → w'.heap[k]? = w.heap[k]?

abbrev VP := Value → World → Prop
/-- what is known behind an operation, of the slots and the world -/
abbrev SP := (Nat → Value) → World → Prop
def sl (a : Act) : Nat → Value := fun t => a.tmps.getD t undef

/-- the operation ends with a value (a call: by the callee's contract) -/
def DoesR (P : Program) (Post : VP) : Result Next → Prop
  | .ok (.value v) w' => Post v w'
  | .ok (.enter f args) w' => Calls P f args w' fun e w'' => ∃ v, e = .returned v ∧ Post v w''
  | _ => False
def Does (P : Program) (o : Oper) (ρ : Operand → Value) (w : World) (Post : VP) : Prop := DoesR P Post ((execOp ρ o).run P w)

/-- likewise, or it ends without a value -/
def DoesS (P : Program) (o : Oper) (ρ : Operand → Value) (w : World) (Post : VP) : Prop := Does P o ρ w Post ∨ ∃ w', (execOp ρ o).run P w = .ok .skip w' ∧ Post undef w'

theorem wp_of_does {P : Program} {o : Oper} {a : Act} {w : World} {K : Act → World → Prop} {Q : Exit → Act → World → Prop}
    (h : Does P o a.eval w fun v w' => K (a.put o.dst v) w') : o.wp P a w K Q := by
  unfold Does at h
  unfold Oper.wp
  generalize (execOp a.eval o).run P w = r at *
  cases r with
  | ok n w' =>
    cases n <;> simp only [DoesR] at h <;> simp only [Oper.upon]
    case value u => exact h
    case enter f args => exact h.mono fun e w'' ⟨v, he, hv⟩ => by subst he; exact hv
  | halt x w' => exact h.elim

section region
variable (P : Program) (ops : Array Oper) (C : World → Prop) (R : World → World → Prop)

/-- a slot that no operation writes but those for which `o` must wait -/
def stab (o : Oper) (t : Nat) : Prop := ∀ j o', ops[j]? = some o' → o'.dst = some t → ∃ e ∈ o.after, Region.binds .any e = true ∧ e.on = j

def OpTy (o : Oper) (Γ : Nat → VP) (Φ : VP) (D : SP) : Prop :=
  ((∀ v w w', C w → R w w' → Φ v w → Φ v w') ∧ (∀ σ σ' w w', C w → R w w' → (∀ t, stab ops o t → σ t = σ' t) → D σ w → D σ' w')) ∧
  ∀ (a : Act) (w : World), C w → (∀ t ∈ o.looksAt ops, Γ t (a.tmps.getD t undef) w) →
    if Region.wanted o (yielded ops a.tmps) then DoesS P o a.eval w fun v w' => C w' ∧ R w w' ∧ Φ v w' ∧ D (sl (a.put o.dst v)) w' else Φ undef w ∧ D (sl (a.put o.dst undef)) w

def Γset (Γ : Nat → VP) (d : Option Nat) (Φ : VP) : Nat → VP := fun t => if d = some t then Φ else Γ t

def TyW : (SP → (Nat → VP) → Prop) → List Oper → (Nat → VP) → Prop
  | Qf, [], Γ => Qf (fun _ _ => True) Γ
  | Qf, o :: rest, Γ => ∃ (Φ : VP) (D : SP), OpTy P ops C R o Γ Φ D ∧ TyW (fun E Γ => Qf (fun σ w => D σ w ∧ E σ w) Γ) rest (Γset Γ o.dst Φ)

def dstAt (i : Nat) : Option Nat := (ops[i]?).bind (·.dst)

def lastW : Nat → Nat → Option Nat
  | 0, _ => none
  | j + 1, t => if dstAt ops j = some t then some j else lastW j t
def lastS (S : Nat → Bool) : Nat → Nat → Option Nat
  | 0, _ => none
  | j + 1, t => if S j = true ∧ dstAt ops j = some t then some j else lastS S j t

variable {P ops C R}

theorem lastW_succ (j t : Nat) : lastW ops (j + 1) t = if dstAt ops j = some t then some j else lastW ops j t := rfl

theorem lastS_full {S : Nat → Bool} {t : Nat} : ∀ (m : Nat), (∀ i, i < m → dstAt ops i = some t → S i = true) → lastS ops S m t = lastW ops m t
  | 0, _ => rfl
  | m + 1, h => by
    have ih := lastS_full m fun i hi hd => h i (by omega) hd
    unfold lastS lastW
    by_cases hd : dstAt ops m = some t
    · simp [hd, h m (by omega) hd]
    · simp [hd, ih]
theorem lastS_eq {S : Nat → Bool} {t j : Nat} : ∀ (m : Nat), j ≤ m → (∀ i, i < j → dstAt ops i = some t → S i = true) →
    (∀ i, j ≤ i → i < m → dstAt ops i = some t → S i = false) → lastS ops S m t = lastW ops j t
  | 0, hj, h1, _ => by have : j = 0 := by omega
                       subst this; rfl
  | m + 1, hj, h1, h2 => by
    by_cases hjm : j = m + 1
    · subst hjm; exact lastS_full _ h1
    · have ih := lastS_eq m (by omega) h1 fun i hi hi' hd => h2 i hi (by omega) hd
      unfold lastS
      by_cases hd : dstAt ops m = some t
      · have := h2 m (by omega) (by omega) hd
        simp [this, ih]
      · simp [hd, ih]
theorem lastS_succ (S : Nat → Bool) (j t : Nat) : lastS ops S (j + 1) t = if S j = true ∧ dstAt ops j = some t then some j else lastS ops S j t := rfl
theorem lastS_set_ne {S : Nat → Bool} {t j : Nat} (hd : dstAt ops j ≠ some t) : ∀ m, lastS ops (fun i => decide (i = j) || S i) m t = lastS ops S m t
  | 0 => rfl
  | m + 1 => by
    have ih := lastS_set_ne (S := S) hd m
    rw [lastS_succ, lastS_succ, ih]
    by_cases hm : m = j
    · subst hm; simp [hd]
    · simp [hm]
theorem lastS_set_eq {S : Nat → Bool} {t j : Nat} (hd : dstAt ops j = some t) : ∀ m, j < m → (∀ i, j < i → i < m → dstAt ops i = some t → S i = false) →
    lastS ops (fun i => decide (i = j) || S i) m t = some j
  | 0, h, _ => by omega
  | m + 1, h, h2 => by
    rw [lastS_succ]
    by_cases hm : m = j
    · subst hm; simp [hd]
    · have ih := lastS_set_eq hd m (by omega) fun i hi hi' hd' => h2 i hi (by omega) hd'
      by_cases hdm : dstAt ops m = some t
      · have := h2 m (by omega) (by omega) hdm
        simp only [this, hm, decide_false, Bool.false_or, Bool.false_eq_true, false_and, if_false]
        exact ih
      · simp only [hdm, and_false, if_false]
        exact ih

def pr (Γ0 : Nat → VP) (Φs : Nat → VP) (t : Nat) : Option Nat → VP
  | none => Γ0 t
  | some i => Φs i

theorem Γset_pr {Γ0 : Nat → VP} {Φs : Nat → VP} {j : Nat} {o : Oper} (ho : ops[j]? = some o) :
    Γset (fun t => pr Γ0 Φs t (lastW ops j t)) o.dst (Φs j) = fun t => pr Γ0 Φs t (lastW ops (j + 1) t) := by
  funext t
  unfold Γset
  rw [lastW_succ]
  have : dstAt ops j = o.dst := by simp [dstAt, ho]
  rw [this]
  by_cases h : o.dst = some t
  · simp [h, pr]
  · simp [h]

/-- out of the walk: a predicate for each operation -/
theorem tyw_extract {Γ0 : Nat → VP} : ∀ (l : List Oper) (k : Nat) (Φs : Nat → VP) (Qf : SP → (Nat → VP) → Prop),
    (∀ j, j < l.length → l[j]? = ops[k + j]?) → TyW P ops C R Qf l (fun t => pr Γ0 Φs t (lastW ops k t)) →
    ∃ (Ψ : Nat → VP) (Δ : Nat → SP), (∀ i, i < k → Ψ i = Φs i) ∧ (∀ i o, k ≤ i → i < k + l.length → ops[i]? = some o → OpTy P ops C R o (fun t => pr Γ0 Ψ t (lastW ops i t)) (Ψ i) (Δ i)) ∧
      ∃ E : SP, (∀ σ w, (∀ i, k ≤ i → i < k + l.length → Δ i σ w) → E σ w) ∧ Qf E (fun t => pr Γ0 Ψ t (lastW ops (k + l.length) t)) := by
  intro l
  induction l with
  | nil => exact fun k Φs Qf _ h => ⟨Φs, fun _ _ _ => True, fun _ _ => rfl, fun i o h1 h2 => by simp at h2; omega, fun _ _ => True, fun _ _ _ => trivial, h⟩
  | cons o l ih =>
    intro k Φs Qf hl h
    obtain ⟨Φ, D, hop, hrest⟩ := h
    have h0 : ops[k]? = some o := by simpa using (hl 0 (by simp)).symm
    have hlast : ∀ (Ψ : Nat → VP) (j : Nat), (∀ i, i < j → Ψ i = Φs i) → (fun t => pr Γ0 Ψ t (lastW ops j t)) = fun t => pr Γ0 Φs t (lastW ops j t) := by
      intro Ψ j hj
      funext t
      have hlt : ∀ m, m ≤ j → pr Γ0 Ψ t (lastW ops m t) = pr Γ0 Φs t (lastW ops m t) := by
        intro m
        induction m with
        | zero => intro _; rfl
        | succ m ihm =>
          intro hm
          unfold lastW
          split
          · exact hj m (by omega)
          · exact ihm (by omega)
      exact hlt j (Nat.le_refl _)
    let Φs' : Nat → VP := fun i => if i = k then Φ else Φs i
    have e1 : (fun t => pr Γ0 Φs' t (lastW ops k t)) = fun t => pr Γ0 Φs t (lastW ops k t) := hlast Φs' k fun i hi => by simp [Φs', Nat.ne_of_lt hi]
    have e2 := Γset_pr (Γ0 := Γ0) (Φs := Φs') h0
    have e3 : Φs' k = Φ := by simp [Φs']
    rw [e1, e3] at e2
    rw [e2] at hrest
    obtain ⟨Ψ, Δ', g1, g2, E, g4, g3⟩ := ih (k + 1) Φs' _ (fun j hj => by have := hl (j + 1) (by simp; omega); simpa [Nat.add_assoc, Nat.add_comm 1 j] using this) hrest
    refine ⟨Ψ, fun i => if i = k then D else Δ' i, fun i hi => by rw [g1 i (by omega)]; simp [Φs', Nat.ne_of_lt hi], fun i o' h1 h2 hio => ?_, fun σ w => D σ w ∧ E σ w, fun σ w hw => ⟨?_, g4 σ w fun i h1 h2 => ?_⟩, ?_⟩
    · by_cases hik : i = k
      · subst hik
        have : o' = o := Option.some.inj (hio.symm.trans h0)
        subst this
        rw [g1 i (by omega), e3]
        rw [hlast Ψ i fun m hm => by rw [g1 m (by omega)]; simp [Φs', Nat.ne_of_lt hm]]
        show OpTy P ops C R o' _ Φ (if i = i then D else Δ' i)
        rw [if_pos rfl]
        exact hop
      · show OpTy P ops C R o' _ (Ψ i) (if i = k then D else Δ' i)
        rw [if_neg hik]; exact g2 i o' (by omega) (by simp only [List.length_cons] at h2; omega) hio
    · have := hw k (Nat.le_refl _) (by simp)
      simpa using this
    · have := hw i (by omega) (by simp only [List.length_cons]; omega)
      simpa [show i ≠ k by omega] using this
    · rw [show k + (o :: l).length = k + 1 + l.length from by simp only [List.length_cons]; omega]
      exact g3
end region

/-! the order -/
def Region.waits (ops : Array Oper) (j i : Nat) : Bool := Region.waitsFor .any ops j i

def clash (ops : Array Oper) (x y : Oper) : Bool :=
  match x.dst with
  | some d => (y.looksAt ops).contains d || y.dst == some d
  | none => false

/-- the first `n` operations may be typed in lexical order -/
def typB (ops : Array Oper) (n : Nat) : Bool :=
  (List.range ops.size).all (fun j => match ops[j]? with
    | some o => o.after.all (fun e => !Region.binds .any e || decide (e.on < j))
    | none => true) &&
  (List.range n).all (fun j => (List.range j).all fun i => match ops[i]?, ops[j]? with
    | some x, some y => !(clash ops x y || clash ops y x) || Region.waitsFor .any ops j i
    | _, _ => true) &&
  (decide (ops.size ≤ n) || (Region.sinkB .any ops n && Region.chainB .any ops n))


theorem typB_edge {ops : Array Oper} {n : Nat} (h : typB ops n = true) {j : Nat} {o : Oper} (ho : ops[j]? = some o) :
    ∀ e ∈ o.after, Region.binds .any e = true → e.on < j := by
  simp only [typB, Bool.and_eq_true] at h
  have h1 := List.all_eq_true.1 h.1.1 j (List.mem_range.2 (Array.getElem?_eq_some_iff.1 ho).1)
  simp only [ho] at h1
  intro e he hb
  have := Array.all_eq_true'.1 h1 e he
  simpa [hb] using this

theorem typB_pair {ops : Array Oper} {n : Nat} (h : typB ops n = true) {i j : Nat} (hij : i < j) (hj : j < n) {x y : Oper} (hx : ops[i]? = some x) (hy : ops[j]? = some y)
    (hc : clash ops x y = true ∨ clash ops y x = true) : Region.waitsFor .any ops j i = true := by
  simp only [typB, Bool.and_eq_true] at h
  have h1 := List.all_eq_true.1 (List.all_eq_true.1 h.1.2 j (List.mem_range.2 hj)) i (List.mem_range.2 hij)
  simp only [hx, hy] at h1
  rcases hc with hc | hc <;> simpa [hc] using h1

theorem clash_of {ops : Array Oper} {x y : Oper} {t : Nat} (hd : x.dst = some t) (h : t ∈ y.looksAt ops ∨ y.dst = some t) : clash ops x y = true := by
  unfold clash
  rw [hd]
  rcases h with h | h
  · simp [h]
  · simp [h]

theorem put_getD_ne {a : Act} {d : Option Nat} {v : Value} {t : Nat} (h : d ≠ some t) : (a.put d v).tmps.getD t undef = a.tmps.getD t undef := by
  cases d with
  | none => rfl
  | some e =>
    have : e ≠ t := fun he => h (by rw [he])
    simp [Act.put, Array.getElem?_setIfInBounds_ne this]
theorem put_size (a : Act) (d : Option Nat) (v : Value) : (a.put d v).tmps.size = a.tmps.size := by cases d <;> simp [Act.put]
theorem put_df (a : Act) (d : Option Nat) (v : Value) : (a.put d v).defers = a.defers := by cases d <;> simp [Act.put]

theorem looksAt_of_dst {ops : Array Oper} {t k : Nat} (h : dstAt ops k = some t) : ∃ o, ops[k]? = some o ∧ o.dst = some t := by
  unfold dstAt at h
  cases ho : ops[k]? with
  | none => simp [ho] at h
  | some o => exact ⟨o, rfl, by simpa [ho] using h⟩

theorem lastS_some {ops : Array Oper} {S : Nat → Bool} {t k : Nat} : ∀ m, lastS ops S m t = some k → k < m ∧ S k = true ∧ dstAt ops k = some t
  | 0, h => by simp [lastS] at h
  | m + 1, h => by
    rw [lastS_succ] at h
    split at h
    · rename_i hc
      have : m = k := by simpa using h
      subst this
      exact ⟨by omega, hc.1, hc.2⟩
    · have := lastS_some m h
      exact ⟨by omega, this.2.1, this.2.2⟩

section sound
variable {P : Program} {ops : Array Oper} {C : World → Prop} {R : World → World → Prop} {Δ : Nat → SP} {Q : Exit → Act → World → Prop} {n : Nat} {Γ0 Ψ : Nat → VP} {df : List Deferred} {sz : Nat}

structure TInv (P : Program) (ops : Array Oper) (C : World → Prop) (Δ : Nat → SP) (n : Nat) (Γ0 Ψ : Nat → VP) (df : List Deferred) (sz : Nat) (listed : Array Bool) (a : Act) (w : World) : Prop where
  head : HeadInv .any ops n listed
  cls : C w
  hdf : a.defers = df
  hsz : a.tmps.size = sz
  done : ∀ i, i < n → listed.getD i false = true → Δ i (sl a) w
  slots : ∀ t, pr Γ0 Ψ t (lastS ops (fun i => listed.getD i false) n t) (a.tmps.getD t undef) w

def openN (listed : Array Bool) (n : Nat) : Nat := ((List.range n).filter fun i => !listed.getD i false).length

theorem openN_set {listed : Array Bool} {i : Nat} (h : listed.getD i false = false) (hi : i < listed.size) : ∀ n, i < n → openN (listed.setIfInBounds i true) n + 1 = openN listed n := by
  have hne : ∀ k, k ≠ i → (listed.setIfInBounds i true).getD k false = listed.getD k false := fun k hk => by
    simp [Array.getElem?_setIfInBounds_ne (Ne.symm hk)]
  have hle : ∀ n, n ≤ i → openN (listed.setIfInBounds i true) n = openN listed n := by
    intro n hn
    unfold openN
    congr 1
    apply List.filter_congr
    intro k hk
    rw [hne k (by have := List.mem_range.1 hk; omega)]
  intro n hn
  induction n with
  | zero => omega
  | succ n ih =>
    unfold openN at *
    rw [List.range_succ, List.filter_append, List.filter_append, List.length_append, List.length_append]
    by_cases hin : n = i
    · subst hin
      have h1 := hle n (Nat.le_refl _)
      unfold openN at h1
      rw [h1]
      have e1 : (listed.setIfInBounds n true).getD n false = true := by simp [hi]
      simp only [List.filter_cons, List.filter_nil, e1, h]
      simp
    · have := ih (by omega)
      have e1 := hne n hin
      simp only [List.filter_cons, List.filter_nil, e1]
      omega

theorem openN_pos {listed : Array Bool} : ∀ n, 0 < openN listed n → ∃ k, k < n ∧ listed.getD k false = false ∧ ∀ j, j < k → listed.getD j false = true
  | 0, h => by simp [openN] at h
  | n + 1, h => by
    by_cases hp : 0 < openN listed n
    · obtain ⟨k, h1, h2, h3⟩ := openN_pos n hp
      exact ⟨k, by omega, h2, h3⟩
    · have h0 : openN listed n = 0 := by omega
      unfold openN at h h0
      rw [List.range_succ, List.filter_append, List.length_append, h0] at h
      refine ⟨n, by omega, ?_, fun j hj => ?_⟩
      · simp only [List.filter_cons, List.filter_nil] at h
        cases hl : listed.getD n false with
        | false => rfl
        | true => simp [hl] at h
      · have := List.eq_nil_of_length_eq_zero h0
        rw [List.filter_eq_nil_iff] at this
        have := this j (List.mem_range.2 hj)
        simpa using this

theorem wpAny_of_typed {g : Nat} (hB : typB ops n = true) (hn : n ≤ ops.size)
    (hΨ : ∀ i o, i < n → ops[i]? = some o → OpTy P ops C R o (fun t => pr Γ0 Ψ t (lastW ops i t)) (Ψ i) (Δ i)) (hRr : ∀ w, R w w)
    (hsz : ∀ i t, dstAt ops i = some t → t < sz)
    (hΓ0 : ∀ t v w w', C w → R w w' → Γ0 t v w → Γ0 t v w')
    (hfin : ∀ listed a w, openN listed n = 0 → TInv P ops C Δ n Γ0 Ψ df sz listed a w → wpAny P .any ops Q g listed a w) :
    ∀ (f : Nat) (listed : Array Bool) (a : Act) (w : World), openN listed n = f → TInv P ops C Δ n Γ0 Ψ df sz listed a w → wpAny P .any ops Q (f + g) listed a w := by
  intro f
  induction f with
  | zero => intro listed a w h0 inv; rw [Nat.zero_add]; exact hfin listed a w h0 inv
  | succ f ih =>
    intro listed a w hf inv
    obtain ⟨k, hk, hkl, hkall⟩ := openN_pos n (by omega : 0 < openN listed n)
    have hks : k < listed.size := by rw [inv.head.size]; omega
    rw [show f + 1 + g = (f + g) + 1 by omega]
    refine ⟨fun h0 => ?_, fun i hi => ?_⟩
    · exfalso
      have hko : ∃ o, ops[k]? = some o := ⟨_, Array.getElem?_eq_getElem (by omega)⟩
      obtain ⟨o, ho⟩ := hko
      have : k ∈ Region.ready .any ops listed := mem_ready.2 ⟨getD_in hks hkl, o, ho, fun e he hb => hkall _ (typB_edge hB ho e he hb)⟩
      rw [h0] at this
      cases this
    · obtain ⟨hun, o, ho, hall⟩ := mem_ready.1 hi
      have hun' : listed.getD i false = false := getD_both hun
      have hi_lt : i < n := by
        by_cases hns : n < ops.size
        · rcases Nat.lt_or_ge i n with h | h
          · exact h
          · have hB' := hB
            simp only [typB, Bool.and_eq_true, Bool.or_eq_true, decide_eq_true_eq] at hB'
            rcases hB'.2 with h' | ⟨hs, hc⟩
            · omega
            · exact absurd hi (tail_waits hs hc hns inv.head _ k rfl hk (getD_in hks hkl) i h)
        · have := (Array.getElem?_eq_some_iff.1 ho).1; omega
      have hsize : i < listed.size := by rw [inv.head.size]; omega
      -- those before are listed, those behind are not
      have F1 : ∀ t, (t ∈ o.looksAt ops ∨ o.dst = some t) → ∀ i', i' < i → dstAt ops i' = some t → listed.getD i' false = true := by
        intro t ht i' hi' hd
        obtain ⟨x, hx, hxd⟩ := looksAt_of_dst hd
        have hw := typB_pair hB hi' hi_lt hx ho (.inl (clash_of hxd ht))
        obtain ⟨oj, hoj, e, he, hb, hon⟩ := Region.waitsFor_spec hw
        have : oj = o := Option.some.inj (hoj.symm.trans ho)
        subst this
        have := hall e he hb
        rwa [hon] at this
      have F2 : ∀ t, (t ∈ o.looksAt ops ∨ o.dst = some t) → ∀ i', i < i' → i' < n → dstAt ops i' = some t → listed.getD i' false = false := by
        intro t ht i' hi' hi'n hd
        obtain ⟨y, hy, hyd⟩ := looksAt_of_dst hd
        have hw := typB_pair hB hi' hi'n ho hy (.inr (clash_of hyd ht))
        obtain ⟨oj, hoj, e, he, hb, hon⟩ := Region.waitsFor_spec hw
        cases hl : listed.getD i' false with
        | false => rfl
        | true =>
          have := inv.head.closed i' oj hoj hl e he hb
          rw [hon, hun'] at this
          cases this
      have hget : ∀ t ∈ o.looksAt ops, pr Γ0 Ψ t (lastW ops i t) (a.tmps.getD t undef) w := by
        intro t ht
        have := inv.slots t
        rwa [lastS_eq (j := i) n (by omega) (F1 t (.inl ht)) (fun i' h1 h2 hd => by
          by_cases hii : i' = i
          · subst hii; exact hun'
          · exact F2 t (.inl ht) i' (by omega) h2 hd)] at this
      have hop := hΨ i o hi_lt ho
      have hres := hop.2 a w inv.cls hget
      have hstab : ∀ t w', R w w' → pr Γ0 Ψ t (lastS ops (fun i => listed.getD i false) n t) (a.tmps.getD t undef) w →
          pr Γ0 Ψ t (lastS ops (fun i => listed.getD i false) n t) (a.tmps.getD t undef) w' := by
        intro t w' hk' h
        cases hl : lastS ops (fun i => listed.getD i false) n t with
        | none => rw [hl] at h; exact hΓ0 t _ _ _ inv.cls hk' h
        | some m =>
          rw [hl] at h
          obtain ⟨h1, _, h3⟩ := lastS_some n hl
          obtain ⟨om, hom, _⟩ := looksAt_of_dst h3
          exact (hΨ m om h1 hom).1.1 _ _ _ inv.cls hk' h
      have hset : ∀ i', (listed.setIfInBounds i true).getD i' false = (decide (i' = i) || listed.getD i' false) := by
        intro i'
        by_cases h : i' = i
        · subst h; simp [hsize]
        · simp [h, Array.getElem?_setIfInBounds_ne (Ne.symm h)]
      have hnext : ∀ v w', C w' → R w w' → Ψ i v w' → Δ i (sl (a.put o.dst v)) w' → TInv P ops C Δ n Γ0 Ψ df sz (listed.setIfInBounds i true) (a.put o.dst v) w' := by
        intro v w' hC' hk' hv hD
        refine ⟨inv.head.set hi hi_lt, hC', by rw [put_df]; exact inv.hdf, by rw [put_size]; exact inv.hsz, fun m hm hl => ?_, fun t => ?_⟩
        · rw [hset m] at hl
          by_cases hmi : m = i
          · subst hmi; exact hD
          · have hl' : listed.getD m false = true := by simpa [hmi] using hl
            obtain ⟨om, hom⟩ : ∃ om, ops[m]? = some om := ⟨_, Array.getElem?_eq_getElem (by omega)⟩
            refine (hΨ m om hm hom).1.2 (sl a) _ _ _ inv.cls hk' (fun t ht => ?_) (inv.done m hm hl')
            by_cases hdt : o.dst = some t
            · obtain ⟨e, he, heb, hei⟩ := ht i o ho hdt
              have := inv.head.closed m om hom hl' e he heb
              rw [hei, hun'] at this
              cases this
            · exact (put_getD_ne hdt).symm
        rw [show (fun i' => (listed.setIfInBounds i true).getD i' false) = fun i' => decide (i' = i) || listed.getD i' false from funext hset]
        have hdi : dstAt ops i = o.dst := by simp [dstAt, ho]
        by_cases hd : o.dst = some t
        · rw [lastS_set_eq (S := fun i' => listed.getD i' false) (by rw [hdi]; exact hd) n hi_lt (fun i' h1 h2 hd' => F2 t (.inr hd) i' h1 h2 hd')]
          rw [hd]
          have : ((a.put (some t) v).tmps.getD t undef) = v := by simp [Act.put, inv.hsz, hsz i t (by rw [hdi]; exact hd)]
          rw [this]
          exact hv
        · rw [lastS_set_ne (S := fun i' => listed.getD i' false) (by rw [hdi]; exact hd) n, put_getD_ne hd]
          exact hstab t w' hk' (inv.slots t)
      have hcnt : openN (listed.setIfInBounds i true) n = f := by have := openN_set hun' hsize n hi_lt; omega
      unfold wpOp
      simp only [ho]
      split
      · rename_i hw
        simp only [hw, if_true] at hres
        rcases hres with hres | ⟨w', hr, hp⟩
        rotate_left
        · refine .inl ?_
          unfold Oper.wp
          rw [hr]
          exact ih _ _ _ hcnt (hnext undef w' hp.1 hp.2.1 hp.2.2.1 hp.2.2.2)
        refine .inl (wp_of_does ?_)
        unfold Does at hres ⊢
        generalize (execOp a.eval o).run P w = r at hres ⊢
        cases r with
        | ok nx w' =>
          cases nx <;> simp only [DoesR] at hres ⊢
          case value v => exact ih _ _ _ hcnt (hnext v w' hres.1 hres.2.1 hres.2.2.1 hres.2.2.2)
          case enter fi args => exact hres.mono fun e w'' ⟨v, he, hv⟩ => ⟨v, he, ih _ _ _ hcnt (hnext v w'' hv.1 hv.2.1 hv.2.2.1 hv.2.2.2)⟩
        | halt x w' => exact hres.elim
      · rename_i hw
        simp only [hw] at hres
        exact ih _ _ _ hcnt (hnext undef w inv.cls (hRr w) hres.1 hres.2)
end sound

def doneN (ops : Array Oper) (n : Nat) : Array Bool := (Array.range ops.size).map fun i => decide (i < n)

def typT (ops : Array Oper) (n sz : Nat) : Bool :=
  typB ops n && decide (n ≤ ops.size) && ops.all (fun o => match o.dst with | some d => decide (d < sz) | none => true) &&
  Region.seqB .any ops (ops.size - n) n (doneN ops n)

theorem openN_zero {listed : Array Bool} {n i : Nat} (h : openN listed n = 0) (hi : i < n) : listed.getD i false = true := by
  have := List.eq_nil_of_length_eq_zero h
  rw [List.filter_eq_nil_iff] at this
  have := this i (List.mem_range.2 hi)
  simpa using this

theorem keep_drawn (w : World) : Keep [] w { w with drawn := w.drawn + 1 } := ⟨rfl, rfl, rfl, Nat.le_refl _, fun _ _ _ => rfl⟩
theorem Keep.refl (M : List Nat) (w : World) : Keep M w w := ⟨rfl, rfl, rfl, Nat.le_refl _, fun _ _ _ => rfl⟩
theorem Keep.trans {M : List Nat} {a b c : World} (h : Keep M a b) (k : Keep M b c) : Keep M a c :=
  ⟨k.os.trans h.os, k.tape.trans h.tape, k.output.trans h.output, Nat.le_trans h.size k.size,
    fun i hi hm => (k.block i (Nat.lt_of_lt_of_le hi h.size) hm).trans (h.block i hi hm)⟩

/-- **A region that draws its order, its first `n` operations typed one by one, the rest in turn.** -/
theorem wp_region_typed {P : Program} {id : Nat} {l : List Oper} {Q : Exit → Act → World → Prop} {a : Act} {w : World} (n : Nat) (hm : P.follows .mixedOrders = true)
    (hB : typT l.toArray n a.tmps.size = true)
    {C : World → Prop} {R : World → World → Prop} (hRr : ∀ w, R w w) (hC0 : ∀ w', Keep [] w w' → C w')
    (h : TyW P l.toArray C R (fun E Γ => ∀ a' w', a'.defers = a.defers → a'.tmps.size = a.tmps.size → C w' → E (sl a') w' → (∀ t, Γ t (a'.tmps.getD t undef) w') →
      wpList P l.toArray Q (l.drop n) a' w') (l.take n) (fun t v _ => v = a.tmps.getD t undef)) : (Code.region id l.toArray true).wp P Q a w := by
  simp only [typT, Bool.and_eq_true, decide_eq_true_eq] at hB
  obtain ⟨⟨⟨hB, hn⟩, hd⟩, hseq⟩ := hB
  have hn' : n ≤ l.length := by simpa using hn
  have htl : (l.take n).length = n := by simp; omega
  have h' : TyW P l.toArray C R _ (l.take n) (fun t => pr (fun t v _ => v = a.tmps.getD t undef) (fun _ _ _ => True) t (lastW l.toArray 0 t)) := h
  obtain ⟨Ψ, Δ, _, hΨ, E, hE, hQ⟩ := tyw_extract (ops := l.toArray) (l.take n) 0 _ _ (fun j hj => by
    rw [htl] at hj
    simp [hj]) h'
  simp only [Nat.zero_add, htl] at hΨ hQ hE
  refine wp_region_any hm ?_
  have inv0 : HeadInv .any l.toArray n (Array.replicate l.toArray.size false) :=
    ⟨by simp, fun j oj _ hl => (by rw [getD_replicate_false] at hl; cases hl), fun t _ ht => getD_in (by simpa using ht) (getD_replicate_false _ _)⟩
  have hS0 : ∀ m t, lastS l.toArray (fun i => (Array.replicate l.toArray.size false).getD i false) m t = none := by
    intro m t
    induction m with
    | zero => rfl
    | succ m ih => rw [lastS_succ, getD_replicate_false]; simpa using ih
  have hcnt : openN (Array.replicate l.toArray.size false) n = n := by
    unfold openN
    rw [List.filter_eq_self.2 (fun i _ => by rw [getD_replicate_false]; rfl)]
    simp
  have := wpAny_of_typed (P := P) (ops := l.toArray) (C := C) (R := R) (Δ := Δ) (Q := Q) (n := n) (Γ0 := fun t v _ => v = a.tmps.getD t undef) (Ψ := Ψ) (df := a.defers) (sz := a.tmps.size) (g := l.toArray.size - n)
    hB hn (fun i o hi ho => hΨ i o (Nat.zero_le _) hi ho) hRr
    (fun i t hi => by
      obtain ⟨o, ho, hod⟩ := looksAt_of_dst hi
      have := Array.all_eq_true'.1 hd o (Array.mem_of_getElem? ho)
      rw [hod] at this
      simpa using this)
    (fun _ _ _ _ _ _ h => h)
    (fun listed a' w' h0 inv => by
      have hl : listed = doneN l.toArray n := by
        apply Array.ext
        · rw [inv.head.size]; simp [doneN]
        · intro i h1 h2
          have e1 : listed[i] = listed.getD i false := by simp [h1]
          have e2 : (doneN l.toArray n)[i] = decide (i < n) := by simp [doneN]
          rw [e2]
          by_cases hin : i < n
          · rw [e1, openN_zero h0 hin]; simp [hin]
          · have := inv.head.tail i (by omega) (by rw [← inv.head.size]; exact h1)
            have e3 : listed.getD i true = listed[i] := by simp [h1]
            rw [← e3, this]; simp [hin]
      have hfull : ∀ t, lastS l.toArray (fun i => listed.getD i false) n t = lastW l.toArray n t := fun t => lastS_full n fun i hi _ => openN_zero h0 hi
      have hw := hQ a' w' inv.hdf inv.hsz inv.cls (hE (sl a') w' fun i _ hi => inv.done i hi (openN_zero h0 hi)) (fun t => by have := inv.slots t; rwa [hfull t] at this)
      have hdl : (l.drop n).length = l.toArray.size - n := by simp
      have := wpAny_of_seq (md := .any) (Q' := Q) (ops := l.toArray) (P := P) (l.drop n) n listed a' w' (fun j => by simp [List.getElem?_drop]) (by rw [hdl, hl]; exact hseq) hw
      rwa [hdl] at this)
    n (Array.replicate l.toArray.size false) a { w with drawn := w.drawn + 1 } hcnt
    ⟨inv0, hC0 _ (keep_drawn w), rfl, rfl, fun i _ hl => (by rw [getD_replicate_false] at hl; cases hl), fun t => by rw [hS0]; rfl⟩
  have e : n + (l.toArray.size - n) = l.toArray.size := by simp; omega
  rwa [e] at this
end Go.Dx
