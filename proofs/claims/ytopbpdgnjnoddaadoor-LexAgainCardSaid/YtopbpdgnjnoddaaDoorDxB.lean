/- Laws of one step of a walk, and of what memory holds. No condition beyond what each names. -/
import Derived.Test.YtopbpdgnjnoddaaDoorDxA
import Derived.TacticsIn
set_option linter.unusedSimpArgs false
set_option linter.unusedVariables false
namespace Go.Dx
open Go Go.RowKit

/-! ### Frames: what some slots hold -/
inductive Ent where
  | val (v : Value)
  | prd (Φ : VP)

abbrev FL := List (Nat × Ent)

def lk : FL → Nat → Option Ent
  | [], _ => none
  | (k, v) :: r, i => bif Nat.beq k i then some v else lk r i

def vl : Option Ent → Option Value
  | some (.val v) => some v
  | _ => none

def ev (L : FL) : Operand → Option Value
  | .tmp t => vl (lk L t)
  | .const v => some v
  | .global g => some (.pointer (some ⟨g, 0, none⟩))
  | .func f => some (.func (.func f) #[] #[])

def evs (L : FL) : List Operand → Option (List Value)
  | [] => some []
  | x :: r => match ev L x, evs L r with
    | some v, some vs => some (v :: vs)
    | _, _ => none

structure Fr (a : Act) (n : Nat) (L : FL) : Prop where
  df : a.defers = []
  sz : a.tmps.size = n
  at_ : ∀ i v, vl (lk L i) = some v → a.tmps.getD i undef = v

theorem lk_cons_eq (d : Nat) (e : Ent) (L : FL) : lk ((d, e) :: L) d = some e := by simp [lk]
theorem lk_cons_ne {d i : Nat} (h : d ≠ i) (e : Ent) (L : FL) : lk ((d, e) :: L) i = lk L i := by
  have : Nat.beq d i = false := by
    cases hb : Nat.beq d i with
    | false => rfl
    | true => exact absurd (Nat.eq_of_beq_eq_true hb) h
  simp [lk, this]

theorem Fr.ev {a : Act} {n : Nat} {L : FL} (h : Fr a n L) {x : Operand} {v : Value} (hx : ev L x = some v) : a.eval x = v := by
  cases x with
  | tmp t => exact h.at_ t v hx
  | const u => exact Option.some.inj hx
  | global g => exact Option.some.inj hx
  | func f => exact Option.some.inj hx

theorem Fr.put {a : Act} {n : Nat} {L : FL} (h : Fr a n L) {d : Nat} (hd : Nat.blt d n = true) (v : Value) : Fr (a.put (some d) v) n ((d, .val v) :: L) := by
  have hlt : d < n := by simpa [Nat.blt_eq] using hd
  refine ⟨h.df, by simp [Act.put, h.sz], fun i u hi => ?_⟩
  by_cases hk : d = i
  · subst hk
    rw [lk_cons_eq] at hi
    have : v = u := by simpa [vl] using hi
    subst this
    simp [Act.put, h.sz, hlt]
  · rw [lk_cons_ne hk] at hi
    have := h.at_ i u hi
    simpa [Act.put, Array.getElem?_setIfInBounds_ne hk] using this

theorem Fr.putN {a : Act} {n : Nat} {L : FL} (h : Fr a n L) (v : Value) : Fr (a.put none v) n L := h

inductive Picks (L : FL) : FL → Prop where
  | nil : Picks L []
  | cons {k : Nat} {v : Value} {L' : FL} (h : vl (lk L k) = some v) (r : Picks L L') : Picks L ((k, .val v) :: L')

theorem Picks.sub {L L' : FL} (h : Picks L L') : ∀ i v, vl (lk L' i) = some v → vl (lk L i) = some v := by
  induction h with
  | nil => intro i v h; simp [lk, vl] at h
  | cons h r ih =>
    intro i u hi
    rename_i k v L''
    by_cases hk : k = i
    · subst hk
      rw [lk_cons_eq] at hi
      have : v = u := by simpa [vl] using hi
      rw [h, this]
    · rw [lk_cons_ne hk] at hi
      exact ih i u hi

theorem Fr.pick {a : Act} {n : Nat} {L L' : FL} (h : Fr a n L) (hp : Picks L L') : Fr a n L' := ⟨h.df, h.sz, fun i v hi => h.at_ i v (hp.sub i v hi)⟩

/-- an operation that only reckons: whatever the frame, if its operands hold what `L` says -/
def Pu (P : Program) (L : FL) (o : Oper) (w : World) (v : Value) : Prop :=
  ∀ ρ : Operand → Value, (∀ x ∈ o.op.operands, ∀ u, ev L x = some u → ρ x = u) → (execOp ρ o).run P w = .ok (.value v) w

/-- an operation by what it leaves -/
def Ds (P : Program) (L : FL) (o : Oper) (w : World) (Post : VP) : Prop :=
  ∀ ρ : Operand → Value, (∀ x ∈ o.op.operands, ∀ u, ev L x = some u → ρ x = u) → Does P o ρ w Post

theorem Pu.ds {P : Program} {L : FL} {o : Oper} {w : World} {v : Value} (h : Pu P L o w v) : Ds P L o w fun u w' => u = v ∧ w' = w := by
  intro ρ hρ
  unfold Does
  rw [h ρ hρ]
  exact ⟨rfl, rfl⟩
theorem Ds.mono {P : Program} {L : FL} {o : Oper} {w : World} {Post Post' : VP} (h : Ds P L o w Post) (hp : ∀ v w', Post v w' → Post' v w') : Ds P L o w Post' := by
  intro ρ hρ
  have := h ρ hρ
  unfold Does at *
  generalize (execOp ρ o).run P w = r at *
  cases r with
  | ok nx w' =>
    cases nx <;> simp only [DoesR] at this ⊢
    case value v => exact hp _ _ this
    case enter f args => exact this.mono fun e w'' ⟨v, he, hv⟩ => ⟨v, he, hp _ _ hv⟩
  | halt x w' => exact this.elim

/-! ### Where code stands: in a function's frame, or in one that may hand out to a loop over a function (or is one of its rounds) -/
inductive Md where
  | wp
  | rd (r : Option Nat)
def wideR (r : Option Nat) : Fence := { Fence.wide with round := r }
def wpM : Md → Program → Array Oper → (Exit → Act → World → Prop) → List Oper → Act → World → Prop
  | .wp => wpList
  | .rd r => wpListIn (wideR r) 0
def opM (md : Md) (P : Program) (o : Oper) (a : Act) (w : World) (K : Act → World → Prop) (Q : Exit → Act → World → Prop) : Prop := match md with
  | .wp => o.wp P a w K Q
  | .rd r => o.wpIn (wideR r) 0 P a w K Q
def codeM (md : Md) (P : Program) (c : Code) (Q : Exit → Act → World → Prop) (a : Act) (w : World) : Prop := match md with
  | .wp => c.wp P Q a w
  | .rd r => c.wpIn (wideR r) 0 P Q a w
section md
variable {md : Md} {P : Program} {ops rest : List Oper} {opsA : Array Oper} {Q : Exit → Act → World → Prop} {K : Act → World → Prop} {a : Act} {w : World} {o : Oper}
theorem wpM_step (h : ∀ K : Act → World → Prop, (∀ a w, wpM md P opsA Q rest a w → K a w) → if Region.wanted o (yielded opsA a.tmps) then opM md P o a w K Q else K (a.put o.dst undef) w) : wpM md P opsA Q (o :: rest) a w := by
  cases md with
  | wp => exact wpList_step h
  | rd r =>
    refine wpListIn_step fun K hK => ?_
    have := h K hK
    split
    · rename_i hw; rw [if_pos hw] at this; exact this
    · rename_i hw; rw [if_neg hw] at this; exact ⟨fun _ _ => trivial, this⟩
theorem wpM_plain (hg : o.guard = none) (h : ∀ K : Act → World → Prop, (∀ a w, wpM md P opsA Q rest a w → K a w) → opM md P o a w K Q) : wpM md P opsA Q (o :: rest) a w :=
  wpM_step fun K hK => by simp only [Region.wanted, hg, if_true]; exact h K hK
theorem run_defer {ρ : Operand → Value} {c : Call} (h : o.op = .defer c) : ∀ nx w', (execOp ρ o).run P w = .ok nx w' → ∃ d, nx = .defer d := by
  intro nx w' hr
  unfold execOp at hr
  rw [h] at hr
  simp only [Sem.run_bind] at hr
  cases hx : (resolve ρ c o.type).run P w with
  | ok d w1 => rw [hx] at hr; simp only [Result.andThen_ok, Sem.run_pure] at hr; cases hr; exact ⟨_, rfl⟩
  | halt x w1 => rw [hx] at hr; cases hr
theorem opM_of_does (h : Does P o a.eval w fun v w' => K (a.put o.dst v) w') : opM md P o a w K Q := by
  cases md with
  | wp => exact wp_of_does h
  | rd r =>
    unfold Does at h
    have hnd : ∀ c, o.op ≠ .defer c := by
      intro c hc
      generalize hr : (execOp a.eval o).run P w = r at h
      cases r with
      | ok nx w' =>
        obtain ⟨d, rfl⟩ := run_defer hc nx w' hr
        exact h
      | halt x w' => exact h
    refine ⟨fun _ _ => trivial, ?_⟩
    rw [Oper.semAt_eq _ _ _ hnd]
    generalize (execOp a.eval o).run P w = r at *
    cases r with
    | ok nx w' =>
      cases nx <;> simp only [DoesR] at h <;> simp only [Oper.uponIn]
      case value u => exact h
      case enter f args =>
        refine ⟨fun hd => (by cases hd), ?_⟩
        show CallsIn Fence.wide _ P f args w' _
        exact callsIn_wide.2 (h.mono fun e w'' ⟨v, he, hv⟩ => by subst he; exact hv)
    | halt x w' => exact h.elim
theorem opM_of_skip {w' : World} (hr : (execOp a.eval o).run P w = .ok .skip w') (h : K (a.put o.dst undef) w') : opM md P o a w K Q := by
  cases md with
  | wp => show o.wp P a w K Q; unfold Oper.wp; rw [hr]; exact h
  | rd r =>
    have hnd : ∀ c, o.op ≠ .defer c := by
      intro c hc
      obtain ⟨d, hd⟩ := run_defer hc _ _ hr
      cases hd
    refine ⟨fun _ _ => trivial, ?_⟩
    rw [Oper.semAt_eq _ _ _ hnd, hr]
    exact h
end md

/-! ### One step of a region in turn -/
section step
variable {md : Md} {P : Program} {ops rest : List Oper} {opsA : Array Oper} {Q : Exit → Act → World → Prop} {a : Act} {w : World} {n : Nat} {L : FL} {op : Op} {ty : TypeId} {pos : String} {af : Array Edge}

theorem s_ds {d : Nat} {Post : VP} (hF : Fr a n L) (h : Ds P L ⟨some d, op, ty, pos, af, none⟩ w Post) (hd : Nat.blt d n = true)
    (k : ∀ v w' a, Post v w' → Fr a n ((d, .val v) :: L) → wpM md P opsA Q rest a w') : wpM md P opsA Q (⟨some d, op, ty, pos, af, none⟩ :: rest) a w := by
  refine wpM_plain rfl fun K hK => opM_of_does ?_
  have := h a.eval (fun x _ u hu => hF.ev hu)
  unfold Does at *
  generalize (execOp a.eval _).run P w = r at *
  cases r with
  | ok nx w' =>
    cases nx <;> simp only [DoesR] at this ⊢
    case value v => exact hK _ _ (k v w' _ this (hF.put hd v))
    case enter f args => exact this.mono fun e w'' ⟨v, he, hv⟩ => ⟨v, he, hK _ _ (k v w'' _ hv (hF.put hd v))⟩
  | halt x w' => exact this.elim

theorem s_dsN {Post : VP} (hF : Fr a n L) (h : Ds P L ⟨none, op, ty, pos, af, none⟩ w Post)
    (k : ∀ v w' a, Post v w' → Fr a n L → wpM md P opsA Q rest a w') : wpM md P opsA Q (⟨none, op, ty, pos, af, none⟩ :: rest) a w := by
  refine wpM_plain rfl fun K hK => opM_of_does ?_
  have := h a.eval (fun x _ u hu => hF.ev hu)
  unfold Does at *
  generalize (execOp a.eval _).run P w = r at *
  cases r with
  | ok nx w' =>
    cases nx <;> simp only [DoesR] at this ⊢
    case value v => exact hK _ _ (k v w' _ this (hF.putN v))
    case enter f args => exact this.mono fun e w'' ⟨v, he, hv⟩ => ⟨v, he, hK _ _ (k v w'' _ hv (hF.putN v))⟩
  | halt x w' => exact this.elim

theorem s_pu {d : Nat} {v : Value} (hF : Fr a n L) (h : Pu P L ⟨some d, op, ty, pos, af, none⟩ w v) (hd : Nat.blt d n = true)
    (k : ∀ a, Fr a n ((d, .val v) :: L) → wpM md P opsA Q rest a w) : wpM md P opsA Q (⟨some d, op, ty, pos, af, none⟩ :: rest) a w :=
  s_ds hF h.ds hd fun _ _ a ⟨hv, hw⟩ hF' => by subst hv; subst hw; exact k a hF'

/-- what the test of a guard was -/
def gdIs (ops : Array Oper) (L : FL) (j : Nat) (b : Bool) : Prop := ∃ o t, ops[j]? = some o ∧ o.dst = some t ∧ vl (lk L t) = some (.bool b)

theorem yielded_of {j : Nat} {b : Bool} (hF : Fr a n L) (hg : gdIs opsA L j b) : yielded opsA a.tmps j = some b := by
  obtain ⟨o, t, ho, ht, hv⟩ := hg
  have := hF.at_ t _ hv
  have h2 : a.tmps[t]? = some (.bool b) := by
    cases h : a.tmps[t]? with
    | none => simp [h, undef] at this
    | some x => simp [h] at this; rw [this]
  unfold yielded
  simp only [ho, Option.bind_some, ht, h2]

theorem wanted_yes {j : Nat} {b : Bool} (hF : Fr a n L) (hg : gdIs opsA L j b) {o : Oper} (ho : o.guard = some (j, b)) : Region.wanted o (yielded opsA a.tmps) = true := by
  simp [Region.wanted, ho, yielded_of hF hg]
theorem wanted_no {j : Nat} {b c : Bool} (hF : Fr a n L) (hg : gdIs opsA L j b) {o : Oper} (ho : o.guard = some (j, c)) (hc : b ≠ c) : Region.wanted o (yielded opsA a.tmps) = false := by
  simp [Region.wanted, ho, yielded_of hF hg, hc]

theorem g_no {d j : Nat} {b c : Bool} (hF : Fr a n L) (hg : gdIs opsA L j b) (hb : b = !c) (hd : Nat.blt d n = true)
    (k : ∀ a, Fr a n ((d, .val undef) :: L) → wpM md P opsA Q rest a w) : wpM md P opsA Q (⟨some d, op, ty, pos, af, some (j, c)⟩ :: rest) a w := by
  have hc : b ≠ c := by subst hb; cases c <;> simp
  refine wpM_step fun K hK => ?_
  rw [wanted_no hF hg rfl hc]
  simp only [Bool.false_eq_true, if_false]
  exact hK _ _ (k _ (hF.put hd undef))

theorem g_ds {d j : Nat} {b c : Bool} {Post : VP} (hF : Fr a n L) (hg : gdIs opsA L j b) (hb : b = c) (h : Ds P L ⟨some d, op, ty, pos, af, some (j, c)⟩ w Post) (hd : Nat.blt d n = true)
    (k : ∀ v w' a, Post v w' → Fr a n ((d, .val v) :: L) → wpM md P opsA Q rest a w') : wpM md P opsA Q (⟨some d, op, ty, pos, af, some (j, c)⟩ :: rest) a w := by
  subst hb
  refine wpM_step fun K hK => ?_
  rw [if_pos (wanted_yes hF hg rfl)]
  refine opM_of_does ?_
  have := h a.eval (fun x _ u hu => hF.ev hu)
  unfold Does at *
  generalize (execOp a.eval _).run P w = r at *
  cases r with
  | ok nx w' =>
    cases nx <;> simp only [DoesR] at this ⊢
    case value v => exact hK _ _ (k v w' _ this (hF.put hd v))
    case enter f args => exact this.mono fun e w'' ⟨v, he, hv⟩ => ⟨v, he, hK _ _ (k v w'' _ hv (hF.put hd v))⟩
  | halt x w' => exact this.elim

theorem g_pu {d j : Nat} {b c : Bool} {v : Value} (hF : Fr a n L) (hg : gdIs opsA L j b) (hb : b = c) (h : Pu P L ⟨some d, op, ty, pos, af, some (j, c)⟩ w v) (hd : Nat.blt d n = true)
    (k : ∀ a, Fr a n ((d, .val v) :: L) → wpM md P opsA Q rest a w) : wpM md P opsA Q (⟨some d, op, ty, pos, af, some (j, c)⟩ :: rest) a w :=
  g_ds hF hg hb h.ds hd fun _ _ a ⟨hv, hw⟩ hF' => by subst hv; subst hw; exact k a hF'
end step

theorem g_split {ops : Array Oper} {L : FL} {j : Nat} {b : Bool} {G : Prop} (_hg : gdIs ops L j b) (ht : b = true → G) (hf : b = false → G) : G := by
  cases b
  · exact hf rfl
  · exact ht rfl

/-! ### One step of a typed walk -/
def GF (Γ : Nat → VP) (L : FL) : Prop := ∀ t, match lk L t with
  | some (.val v) => ∀ u w, Γ t u w → u = v
  | some (.prd Φ) => ∀ u w, Γ t u w → Φ u w
  | none => True

theorem GF.set {Γ : Nat → VP} {L : FL} (h : GF Γ L) (d : Nat) (v : Value) {Φ : VP} (hΦ : ∀ u w, Φ u w → u = v) : GF (Γset Γ (some d) Φ) ((d, .val v) :: L) := by
  intro t
  by_cases hk : d = t
  · subst hk
    rw [lk_cons_eq]
    intro u w hu
    simp only [Γset, if_true] at hu
    exact hΦ u w hu
  · rw [lk_cons_ne hk]
    have := h t
    have e : Γset Γ (some d) Φ t = Γ t := by simp [Γset, hk]
    rw [e]; exact this
theorem GF.setP {Γ : Nat → VP} {L : FL} (h : GF Γ L) (d : Nat) (Φ : VP) : GF (Γset Γ (some d) Φ) ((d, .prd Φ) :: L) := by
  intro t
  by_cases hk : d = t
  · subst hk
    rw [lk_cons_eq]
    intro u w hu
    simpa [Γset] using hu
  · rw [lk_cons_ne hk]
    have := h t
    have e : Γset Γ (some d) Φ t = Γ t := by simp [Γset, hk]
    rw [e]; exact this

theorem GF.ev {Γ : Nat → VP} {L : FL} (h : GF Γ L) {a : Act} {w : World} {o : Oper} {ops : Array Oper} (hs : ∀ t ∈ o.looksAt ops, Γ t (a.tmps.getD t undef) w) :
    ∀ x ∈ o.op.operands, ∀ u, ev L x = some u → a.eval x = u := by
  intro x hx u hu
  cases x with
  | tmp t =>
    have ht : t ∈ o.looksAt ops := by
      unfold Oper.looksAt
      refine List.mem_append_left _ (List.mem_filterMap.2 ⟨.tmp t, by simpa using hx, rfl⟩)
    have h1 := h t
    have h2 := hs t ht
    cases hl : lk L t with
    | none => simp [Dx.ev, hl, vl] at hu
    | some e =>
      cases e with
      | val v =>
        rw [hl] at h1
        have h3 : v = u := by simpa [Dx.ev, hl, vl] using hu
        rw [← h3]; exact h1 _ _ h2
      | prd Φ => simp [Dx.ev, hl, vl] at hu
  | const u => exact Option.some.inj hu
  | global g => exact Option.some.inj hu
  | func f => exact Option.some.inj hu

/-- how the world may go on within a region -/
class Rel (R : World → World → Prop) : Prop where
  refl : ∀ w, R w w
  step : ∀ a b c, R a b → Keep [] b c → R a c
theorem Rel.keep {R : World → World → Prop} [hR : Rel R] {w w' : World} (h : Keep [] w w') : R w w' := hR.step w w w' (hR.refl w) h
/-- what is made within the region stays -/
class RelN (w : World) (R : World → World → Prop) : Prop where
  new : ∀ a b k, R a b → w.heap.size ≤ k → k < a.heap.size → b.heap[k]? = a.heap[k]?
  size : ∀ a b, R a b → a.heap.size ≤ b.heap.size
instance (w : World) : RelN w (Keep []) := ⟨fun _ _ k h _ hk => h.block k hk (by simp), fun _ _ h => h.size⟩
/-- a block is stored to, once -/
def SR (w : World) (g : Nat) (new : Obj) (a b : World) : Prop := Keep [g] a b ∧ (∀ k, w.heap.size ≤ k → k < a.heap.size → b.heap[k]? = a.heap[k]?) ∧ (a.heap[g]? = some new → b.heap[g]? = some new)
instance (w : World) (g : Nat) (new : Obj) : Rel (SR w g new) := ⟨fun a => ⟨Keep.refl _ _, fun _ _ _ => rfl, fun h => h⟩, fun a b c ⟨h1, h2, h3⟩ k => by
  have k' : Keep [g] b c := ⟨k.os, k.tape, k.output, k.size, fun i hi _ => k.block i hi (by simp)⟩
  refine ⟨h1.trans k', fun i hi hl => ?_, fun h => ?_⟩
  · rw [k.block i (Nat.lt_of_lt_of_le hl h1.size) (by simp)]; exact h2 i hi hl
  · have hb := h3 h
    have hlt : g < b.heap.size := (Array.getElem?_eq_some_iff.1 hb).1
    rw [k.block g hlt (by simp)]; exact hb⟩
instance (w : World) (g : Nat) (new : Obj) : RelN w (SR w g new) := ⟨fun _ _ k h => h.2.1 k, fun _ _ h => h.1.size⟩
instance : Rel (Keep []) := ⟨Keep.refl [], fun _ _ _ h k => h.trans k⟩

section typed
variable {P : Program} {ops : Array Oper} {C : World → Prop} {R : World → World → Prop} [hR : Rel R] {Qf : SP → (Nat → VP) → Prop} {rest : List Oper} {Γ : Nat → VP} {L : FL} {op : Op} {ty : TypeId} {pos : String} {af : Array Edge}

omit hR in
theorem tyw_no {o : Oper} (Φ : VP) (hst : ∀ v w w', C w → R w w' → Φ v w → Φ v w')
    (h : ∀ (a : Act) (w : World), C w → (∀ t ∈ o.looksAt ops, Γ t (a.tmps.getD t undef) w) → if Region.wanted o (yielded ops a.tmps) then Does P o a.eval w fun v w' => C w' ∧ R w w' ∧ Φ v w' else Φ undef w)
    (k : TyW P ops C R Qf rest (Γset Γ o.dst Φ)) : TyW P ops C R Qf (o :: rest) Γ := by
  refine ⟨Φ, fun _ _ => True, ⟨⟨hst, fun _ _ _ _ _ _ _ h => h⟩, fun a w hC hs => ?_⟩, ?_⟩
  · have := h a w hC hs
    split
    · rename_i hw
      rw [if_pos hw] at this
      refine .inl ?_
      unfold Does at *
      generalize (execOp a.eval _).run P w = r at *
      cases r with
      | ok nx w' =>
        cases nx <;> simp only [DoesR] at this ⊢
        case value u => exact ⟨this.1, this.2.1, this.2.2, trivial⟩
        case enter f args => exact this.mono fun e w'' ⟨u, he, hv⟩ => ⟨u, he, hv.1, hv.2.1, hv.2.2, trivial⟩
      | halt x w' => exact this.elim
    · rename_i hw
      rw [if_neg hw] at this
      exact ⟨this, trivial⟩
  · have e : (fun (E : SP) (Γ : Nat → VP) => Qf (fun σ w => True ∧ E σ w) Γ) = Qf := by
      funext E Γ
      simp only [true_and]
    rw [e]; exact k

theorem t_pu {d : Nat} {v : Value} (hG : GF Γ L) (h : ∀ w, C w → Pu P L ⟨some d, op, ty, pos, af, none⟩ w v)
    (k : ∀ Γ, GF Γ ((d, .val v) :: L) → TyW P ops C R Qf rest Γ) : TyW P ops C R Qf (⟨some d, op, ty, pos, af, none⟩ :: rest) Γ := by
  refine tyw_no (fun u _ => u = v) (fun _ _ _ _ _ h => h) (fun a w hC hs => ?_) (k _ (hG.set d v fun _ _ h => h))
  simp only [Region.wanted, if_true]
  unfold Does
  rw [h w hC a.eval (hG.ev hs)]
  exact ⟨hC, hR.refl _, rfl⟩

/-- the value is known, the world goes on -/
theorem t_ds {d : Nat} {v : Value} (hG : GF Γ L) (h : ∀ w, C w → Ds P L ⟨some d, op, ty, pos, af, none⟩ w fun u w' => u = v ∧ C w' ∧ Keep [] w w')
    (k : ∀ Γ, GF Γ ((d, .val v) :: L) → TyW P ops C R Qf rest Γ) : TyW P ops C R Qf (⟨some d, op, ty, pos, af, none⟩ :: rest) Γ := by
  refine tyw_no (fun u _ => u = v) (fun _ _ _ _ _ h => h) (fun a w hC hs => ?_) (k _ (hG.set d v fun _ _ h => h))
  simp only [Region.wanted, if_true]
  have := h w hC a.eval (hG.ev hs)
  unfold Does at *
  generalize (execOp a.eval _).run P w = r at *
  cases r with
  | ok nx w' =>
    cases nx <;> simp only [DoesR] at this ⊢
    case value u => exact ⟨this.2.1, Rel.keep this.2.2, this.1⟩
    case enter f args => exact this.mono fun e w'' ⟨u, he, hv⟩ => ⟨u, he, hv.2.1, Rel.keep hv.2.2, hv.1⟩
  | halt x w' => exact this.elim

/-- of the value a predicate is known -/
theorem t_dp {d : Nat} (Φ : VP) (hG : GF Γ L) (hst : ∀ v w w', C w → R w w' → Φ v w → Φ v w') (h : ∀ w, C w → Ds P L ⟨some d, op, ty, pos, af, none⟩ w fun u w' => Φ u w' ∧ C w' ∧ Keep [] w w')
    (k : ∀ Γ, GF Γ ((d, .prd Φ) :: L) → TyW P ops C R Qf rest Γ) : TyW P ops C R Qf (⟨some d, op, ty, pos, af, none⟩ :: rest) Γ := by
  refine tyw_no Φ hst (fun a w hC hs => ?_) (k _ (hG.setP d Φ))
  simp only [Region.wanted, if_true]
  have := h w hC a.eval (hG.ev hs)
  unfold Does at *
  generalize (execOp a.eval _).run P w = r at *
  cases r with
  | ok nx w' =>
    cases nx <;> simp only [DoesR] at this ⊢
    case value u => exact ⟨this.2.1, Rel.keep this.2.2, this.1⟩
    case enter f args => exact this.mono fun e w'' ⟨u, he, hv⟩ => ⟨u, he, hv.2.1, Rel.keep hv.2.2, hv.1⟩
  | halt x w' => exact this.elim

theorem ty_yielded {a : Act} {w : World} {j : Nat} {b : Bool} (hG : GF Γ L) (hg : gdIs ops L j b) {o : Oper} (hog : ∃ c, o.guard = some (j, c)) (hs : ∀ t ∈ o.looksAt ops, Γ t (a.tmps.getD t undef) w) :
    yielded ops a.tmps j = some b := by
  obtain ⟨c, hog⟩ := hog
  obtain ⟨oj, t, ho, ht, hv⟩ := hg
  have hmem : t ∈ o.looksAt ops := by
    unfold Oper.looksAt
    refine List.mem_append_right _ ?_
    simp [hog, ho, ht]
  have h1 := hG t
  have : a.tmps.getD t undef = .bool b := by
    cases hl : lk L t with
    | none => simp [hl, vl] at hv
    | some e =>
      cases e with
      | val v =>
        rw [hl] at h1
        have h3 : v = .bool b := by simpa [hl, vl] using hv
        rw [← h3]; exact h1 _ _ (hs t hmem)
      | prd Φ => simp [hl, vl] at hv
  have h2 : a.tmps[t]? = some (.bool b) := by
    cases h : a.tmps[t]? with
    | none => simp [h, undef] at this
    | some x => simp [h] at this; rw [this]
  unfold yielded
  simp only [ho, Option.bind_some, ht, h2]

omit hR in
theorem tg_no {d j : Nat} {b c : Bool} (hG : GF Γ L) (hg : gdIs ops L j b) (hb : b = !c)
    (k : ∀ Γ, GF Γ ((d, .val undef) :: L) → TyW P ops C R Qf rest Γ) : TyW P ops C R Qf (⟨some d, op, ty, pos, af, some (j, c)⟩ :: rest) Γ := by
  have hc : b ≠ c := by subst hb; cases c <;> simp
  refine tyw_no (fun u _ => u = undef) (fun _ _ _ _ _ h => h) (fun a w hC hs => ?_) (k _ (hG.set d undef fun _ _ h => h))
  have : Region.wanted ⟨some d, op, ty, pos, af, some (j, c)⟩ (yielded ops a.tmps) = false := by
    simp only [Region.wanted, ty_yielded hG hg ⟨c, rfl⟩ hs]
    simp [hc]
  rw [this]
  simp

theorem tg_pu {d j : Nat} {b c : Bool} {v : Value} (hG : GF Γ L) (hg : gdIs ops L j b) (hb : b = c) (h : ∀ w, C w → Pu P L ⟨some d, op, ty, pos, af, some (j, c)⟩ w v)
    (k : ∀ Γ, GF Γ ((d, .val v) :: L) → TyW P ops C R Qf rest Γ) : TyW P ops C R Qf (⟨some d, op, ty, pos, af, some (j, c)⟩ :: rest) Γ := by
  subst hb
  refine tyw_no (fun u _ => u = v) (fun _ _ _ _ _ h => h) (fun a w hC hs => ?_) (k _ (hG.set d v fun _ _ h => h))
  have : Region.wanted ⟨some d, op, ty, pos, af, some (j, b)⟩ (yielded ops a.tmps) = true := by
    simp only [Region.wanted, ty_yielded hG hg ⟨b, rfl⟩ hs]
    simp
  rw [if_pos this]
  unfold Does
  rw [h w hC a.eval (hG.ev hs)]
  exact ⟨hC, hR.refl _, rfl⟩

theorem tg_ds {d j : Nat} {b c : Bool} {v : Value} (hG : GF Γ L) (hg : gdIs ops L j b) (hb : b = c) (h : ∀ w, C w → Ds P L ⟨some d, op, ty, pos, af, some (j, c)⟩ w fun u w' => u = v ∧ C w' ∧ Keep [] w w')
    (k : ∀ Γ, GF Γ ((d, .val v) :: L) → TyW P ops C R Qf rest Γ) : TyW P ops C R Qf (⟨some d, op, ty, pos, af, some (j, c)⟩ :: rest) Γ := by
  subst hb
  refine tyw_no (fun u _ => u = v) (fun _ _ _ _ _ h => h) (fun a w hC hs => ?_) (k _ (hG.set d v fun _ _ h => h))
  have : Region.wanted ⟨some d, op, ty, pos, af, some (j, b)⟩ (yielded ops a.tmps) = true := by
    simp only [Region.wanted, ty_yielded hG hg ⟨b, rfl⟩ hs]
    simp
  rw [if_pos this]
  have := h w hC a.eval (hG.ev hs)
  unfold Does at *
  generalize (execOp a.eval _).run P w = r at *
  cases r with
  | ok nx w' =>
    cases nx <;> simp only [DoesR] at this ⊢
    case value u => exact ⟨this.2.1, Rel.keep this.2.2, this.1⟩
    case enter f args => exact this.mono fun e w'' ⟨u, he, hv⟩ => ⟨u, he, hv.2.1, Rel.keep hv.2.2, hv.1⟩
  | halt x w' => exact this.elim

theorem tg_dp {d j : Nat} {b c : Bool} (Φ : VP) (hG : GF Γ L) (hg : gdIs ops L j b) (hb : b = c) (hst : ∀ v w w', C w → R w w' → Φ v w → Φ v w') (h : ∀ w, C w → Ds P L ⟨some d, op, ty, pos, af, some (j, c)⟩ w fun u w' => Φ u w' ∧ C w' ∧ Keep [] w w')
    (k : ∀ Γ, GF Γ ((d, .prd Φ) :: L) → TyW P ops C R Qf rest Γ) : TyW P ops C R Qf (⟨some d, op, ty, pos, af, some (j, c)⟩ :: rest) Γ := by
  subst hb
  refine tyw_no Φ hst (fun a w hC hs => ?_) (k _ (hG.setP d Φ))
  have : Region.wanted ⟨some d, op, ty, pos, af, some (j, b)⟩ (yielded ops a.tmps) = true := by
    simp only [Region.wanted, ty_yielded hG hg ⟨b, rfl⟩ hs]
    simp
  rw [if_pos this]
  have := h w hC a.eval (hG.ev hs)
  unfold Does at *
  generalize (execOp a.eval _).run P w = r at *
  cases r with
  | ok nx w' =>
    cases nx <;> simp only [DoesR] at this ⊢
    case value u => exact ⟨this.2.1, Rel.keep this.2.2, this.1⟩
    case enter f args => exact this.mono fun e w'' ⟨u, he, hv⟩ => ⟨u, he, hv.2.1, Rel.keep hv.2.2, hv.1⟩
  | halt x w' => exact this.elim
end typed

def TEnd (P : Program) (l : List Oper) (n : Nat) (Q : Exit → Act → World → Prop) (C : World → Prop) (sz : Nat) (E : SP) (Γ : Nat → VP) : Prop :=
  ∃ L', GF Γ L' ∧ ∀ a' w', C w' → E (sl a') w' → Fr a' sz L' → (∀ t Φ, lk L' t = some (.prd Φ) → Φ (a'.tmps.getD t undef) w') → wpM .wp P l.toArray Q (l.drop n) a' w'

theorem t_end {P : Program} {ops : Array Oper} {C C' : World → Prop} {R : World → World → Prop} {l : List Oper} {n : Nat} {Q : Exit → Act → World → Prop} {sz : Nat} {Γ : Nat → VP} {L : FL} {D : SP → SP} (hG : GF Γ L)
    (k : ∀ a' w', C' w' → D (fun _ _ => True) (sl a') w' → Fr a' sz L → (∀ t Φ, lk L t = some (.prd Φ) → Φ (a'.tmps.getD t undef) w') → wpM .wp P l.toArray Q (l.drop n) a' w') : TyW P ops C R (fun E Γ => TEnd P l n Q C' sz (D E) Γ) [] Γ := ⟨L, hG, k⟩

/-- **A region that draws**: its first `n` operations are typed; behind them the frame holds what the list says, in a later world. -/
theorem region_typed {P : Program} {id : Nat} {l : List Oper} {Q : Exit → Act → World → Prop} {a : Act} {w : World} {sz : Nat} {L : FL} {C : World → Prop} {R : World → World → Prop} [hR : Rel R] (n : Nat) (hF : Fr a sz L) (hv : ∀ t Φ, lk L t ≠ some (.prd Φ))
    (hm : P.follows .mixedOrders = true) (hC0 : ∀ w', Keep [] w w' → C w') (hB : typT l.toArray n sz = true)
    (h : ∀ Γ, GF Γ L → TyW P l.toArray C R (TEnd P l n Q C sz) (l.take n) Γ) : codeM .wp P (Code.region id l.toArray true) Q a w := by
  have hsz := hF.sz
  subst hsz
  show (Code.region id l.toArray true).wp P Q a w
  refine wp_region_typed n hm hB hR.refl hC0 ?_
  have hΓ : GF (fun t v (_ : World) => v = a.tmps.getD t undef) L := by
    intro t
    cases hl : lk L t with
    | none => trivial
    | some e =>
      cases e with
      | val v => intro u w hu; rw [hu]; exact hF.at_ t v (by rw [hl]; rfl)
      | prd Φ => exact absurd hl (hv t Φ)
  have key : ∀ (l' : List Oper) (Γ : Nat → VP) (Qf Qf' : SP → (Nat → VP) → Prop), (∀ E Γ, Qf E Γ → Qf' E Γ) → TyW P l.toArray C R Qf l' Γ → TyW P l.toArray C R Qf' l' Γ := by
    intro l'
    induction l' with
    | nil => intro Γ Qf Qf' hq h; exact hq _ _ h
    | cons o l' ih => intro Γ Qf Qf' hq ⟨Φ, D, h1, h2⟩; exact ⟨Φ, D, h1, ih _ _ _ (fun E Γ h => hq _ _ h) h2⟩
  refine key _ _ _ _ ?_ (h _ hΓ)
  rintro E Γ ⟨L', hG, hQ⟩ a' w' hdf hsz' hk hE hs
  refine hQ a' w' hk hE ⟨by rw [hdf]; exact hF.df, hsz', fun i v hi => ?_⟩ fun t Φ ht => ?_
  · have := hG i
    cases hl : lk L' i with
    | none => simp [hl, vl] at hi
    | some e =>
      cases e with
      | val u =>
        rw [hl] at this
        have h3 : u = v := by simpa [hl, vl] using hi
        rw [← h3]; exact this _ _ (hs i)
      | prd Φ => simp [hl, vl] at hi
  · have := hG t
    rw [ht] at this
    exact this _ _ (hs t)
end Go.Dx
