/- A walk by reckoning: what pure operations give, from what is known of the slots. No condition. -/
import Derived.Test.YtopbpdgnjnoddaaDoorDxY
import Derived.Test.YtopbpdgnjnoddaaDoorDxX
import Derived.Test.YtopbpdgnjnoddaaDoorDxW
set_option linter.unusedSimpArgs false
set_option linter.unusedVariables false
namespace Go.Dx
open Go Go.RowKit

/-! ### Tables of types -/
inductive TU where
  | int (k : IntKind) | str | bool
  | sl (e sz : Nat) | ar (n e sz : Nat) | st (fs : List (Nat × Nat × Bool)) | ot
structure TD where
  u : TU
  sz : Nat
  ag : Bool
  z : List Value
structure Tab where
  tys : List (Nat × TD)
  fs : List Nat

def lkA {β : Type} : List (Nat × β) → Nat → Option β
  | [], _ => none
  | (k, v) :: r, i => bif Nat.beq k i then some v else lkA r i
theorem lkA_eq {β : Type} (k : Nat) (v : β) (r : List (Nat × β)) : lkA ((k, v) :: r) k = some v := by simp [lkA]
theorem beq_ne {d i : Nat} (h : d ≠ i) : Nat.beq d i = false := by
  cases hb : Nat.beq d i with
  | false => rfl
  | true => exact absurd (Nat.eq_of_beq_eq_true hb) h
theorem lkA_ne {β : Type} {k i : Nat} (h : k ≠ i) (v : β) (r : List (Nat × β)) : lkA ((k, v) :: r) i = lkA r i := by simp [lkA, beq_ne h]
theorem lkA_mem {β : Type} : ∀ {r : List (Nat × β)} {i : Nat} {v : β}, lkA r i = some v → (i, v) ∈ r
  | [], i, v, h => by simp [lkA] at h
  | (k, u) :: r, i, v, h => by
    by_cases hk : k = i
    · subst hk; rw [lkA_eq] at h; cases h; simp
    · rw [lkA_ne hk] at h; exact List.mem_cons_of_mem _ (lkA_mem h)

def aggOf (P : Program) (t : Nat) : Bool := match P.underlying t with
  | some u => aggB u
  | none => false
def fldsOf (P : Program) : List Field → Option (List (Nat × Nat × Bool))
  | [] => some []
  | f :: r => match P.info? f.type, P.underlying f.type, fldsOf P r with
    | some i, some u, some l => some ((f.offset, i.size, aggB u) :: l)
    | _, _, _ => none
def tuOf (P : Program) : TypeDesc → Option TU
  | .int k => some (.int k)
  | .string => some .str
  | .bool => some .bool
  | .slice e => (P.info? e).map fun i => .sl e i.size
  | .array n e => (P.info? e).map fun i => .ar n e i.size
  | .struct fs => (fldsOf P fs.toList).map .st
  | _ => some .ot
def tdOf (P : Program) (t : Nat) : Option TD := match P.underlying t, P.info? t with
  | some u, some i => match tuOf P u, i.zero with
    | some tu, some z => some ⟨tu, i.size, aggB u, z.cells.toList⟩
    | _, _ => none
  | _, _ => none
structure Tab.Ok (P : Program) (T : Tab) : Prop where
  tys : T.tys.map (fun p => tdOf P p.1) = T.tys.map (fun p => some p.2)
  fs : T.fs.map (fun f => (P.funcs[f]?).map (fun fn => fn.name == "runtime.NumGoroutine" || fn.body.isNone)) = T.fs.map (fun _ => some false)
  mix : P.follows .mixedOrders = true

theorem map_eq_mem {α β : Type} {f g : α → β} : ∀ {l : List α}, l.map f = l.map g → ∀ x ∈ l, f x = g x
  | [], _, _, h => by cases h
  | y :: l, e, x, h => by
    simp only [List.map_cons, List.cons.injEq] at e
    rcases List.mem_cons.1 h with rfl | h
    · exact e.1
    · exact map_eq_mem e.2 x h
theorem Tab.Ok.td {P : Program} {T : Tab} (h : T.Ok P) {t : Nat} {d : TD} (hd : lkA T.tys t = some d) : tdOf P t = some d := map_eq_mem h.tys _ (lkA_mem hd)
def memF : List Nat → Nat → Bool
  | [], _ => false
  | k :: r, f => bif Nat.beq k f then true else memF r f
theorem memF_mem : ∀ {l : List Nat} {f : Nat}, memF l f = true → f ∈ l
  | [], f, h => by simp [memF] at h
  | k :: r, f, h => by
    by_cases hk : k = f
    · subst hk; simp
    · simp only [memF, beq_ne hk, cond_false] at h; exact List.mem_cons_of_mem _ (memF_mem h)
theorem Tab.Ok.call {P : Program} {T : Tab} (h : T.Ok P) {f : Nat} (hf : memF T.fs f = true) : CallOk P f := CallOk.of (map_eq_mem h.fs _ (memF_mem hf))

theorem tdOf_parts {P : Program} {t : Nat} {d : TD} (h : tdOf P t = some d) : ∃ u i z, P.underlying t = some u ∧ P.info? t = some i ∧ i.zero = some z ∧ tuOf P u = some d.u ∧ d.sz = i.size ∧ d.ag = aggB u ∧ d.z = z.cells.toList := by
  unfold tdOf at h
  split at h
  · rename_i u i hu hi
    split at h
    · rename_i tu z ht hz
      cases h
      exact ⟨u, i, z, hu, hi, hz, ht, rfl, rfl, rfl⟩
    · cases h
  · cases h
section td
variable {P : Program} {t : Nat} {d : TD}
theorem td_int {k : IntKind} (h : tdOf P t = some d) (hu : d.u = .int k) : P.underlying t = some (.int k) := by
  obtain ⟨u, i, z, h1, _, _, h2, _⟩ := tdOf_parts h
  rw [hu] at h2
  cases u <;> simp [tuOf] at h2
  subst h2; exact h1
theorem td_str (h : tdOf P t = some d) (hu : d.u = .str) : P.underlying t = some .string := by
  obtain ⟨u, i, z, h1, _, _, h2, _⟩ := tdOf_parts h
  rw [hu] at h2
  cases u <;> simp [tuOf] at h2
  exact h1
theorem td_bool (h : tdOf P t = some d) (hu : d.u = .bool) : P.underlying t = some .bool := by
  obtain ⟨u, i, z, h1, _, _, h2, _⟩ := tdOf_parts h
  rw [hu] at h2
  cases u <;> simp [tuOf] at h2
  exact h1
theorem td_sl {e sz : Nat} (h : tdOf P t = some d) (hu : d.u = .sl e sz) : SlT P t e sz := by
  obtain ⟨u, i, z, h1, _, _, h2, _⟩ := tdOf_parts h
  rw [hu] at h2
  cases u <;> simp [tuOf] at h2
  obtain ⟨i, hi, rfl, rfl⟩ := h2
  exact ⟨h1, i, hi, rfl⟩
theorem td_ar {n e sz : Nat} (h : tdOf P t = some d) (hu : d.u = .ar n e sz) : ArT P t n e sz := by
  obtain ⟨u, i, z, h1, _, _, h2, _⟩ := tdOf_parts h
  rw [hu] at h2
  cases u <;> simp [tuOf] at h2
  obtain ⟨i, hi, rfl, rfl, rfl⟩ := h2
  exact ⟨h1, i, hi, rfl⟩
theorem fldsOf_spec {P : Program} : ∀ {l : List Field} {fs : List (Nat × Nat × Bool)}, fldsOf P l = some fs → l.length = fs.length ∧ ∀ (i off sz : Nat) (ag : Bool), fs[i]? = some (off, sz, ag) → ∃ f : Field, l[i]? = some f ∧ f.offset = off ∧ SzIs P f.type sz ∧ (P.underlying f.type).map aggB = some ag
  | [], fs, h => by simp [fldsOf] at h; subst h; simp
  | f :: r, fs, h => by
    unfold fldsOf at h
    split at h
    · rename_i i u l hi hu hl
      cases h
      have ih := fldsOf_spec hl
      refine ⟨by simp [ih.1], fun j off sz ag hj => ?_⟩
      cases j with
      | zero =>
        simp only [List.getElem?_cons_zero, Option.some.injEq, Prod.mk.injEq] at hj
        obtain ⟨rfl, rfl, rfl⟩ := hj
        exact ⟨f, rfl, rfl, ⟨i, hi, rfl⟩, by rw [hu]; rfl⟩
      | succ j => exact ih.2 j off sz ag (by simpa using hj)
    · cases h
theorem td_fld {fs : List (Nat × Nat × Bool)} {i off sz : Nat} {ag : Bool} (h : tdOf P t = some d) (hu : d.u = .st fs) (hf : fs[i]? = some (off, sz, ag)) :
    ∃ (fa : Array Field) (f : Field), P.underlying t = some (.struct fa) ∧ fa[i]? = some f ∧ f.offset = off ∧ SzIs P f.type sz ∧ (P.underlying f.type).map aggB = some ag := by
  obtain ⟨u, i, z, h1, _, _, h2, _⟩ := tdOf_parts h
  rw [hu] at h2
  obtain ⟨fa, rfl⟩ : ∃ fa, u = .struct fa := by cases u <;> simp [tuOf] at h2 ⊢
  simp [tuOf] at h2
  obtain ⟨f, g1, g2, g3, g4⟩ := (fldsOf_spec h2).2 _ _ _ _ hf
  exact ⟨fa, f, h1, by simpa using g1, g2, g3, g4⟩
theorem td_strb {fs : List (Nat × Nat × Bool)} (h : tdOf P t = some d) (hu : d.u = .st fs) : StrB P t (fs.map fun p => (p.1, p.2.1)) d.z := by
  obtain ⟨u, i, z, h1, hi, hz, h2, _, _, hdz⟩ := tdOf_parts h
  rw [hu] at h2
  obtain ⟨fa, rfl⟩ : ∃ fa, u = .struct fa := by cases u <;> simp [tuOf] at h2 ⊢
  simp [tuOf] at h2
  refine ⟨i, z, fa, hi, hz, by rw [hdz], h1, ?_⟩
  have hs := fldsOf_spec h2
  apply List.ext_getElem?
  intro j
  simp only [List.getElem?_map]
  cases hj : fs[j]? with
  | none =>
    have : fa.toList[j]? = none := by
      rw [List.getElem?_eq_none_iff] at hj ⊢; omega
    rw [this]; rfl
  | some p =>
    obtain ⟨off, sz, ag⟩ := p
    obtain ⟨f, g1, g2, ⟨inf, g3, g4⟩, _⟩ := hs.2 _ _ _ _ hj
    rw [g1]; simp [g3, g2, g4]
theorem td_zero (h : tdOf P t = some d) : ∃ inf z, P.info? t = some inf ∧ inf.zero = some z ∧ z.cells = d.z.toArray := by
  obtain ⟨u, i, z, h1, hi, hz, _, _, _, hdz⟩ := tdOf_parts h
  exact ⟨i, z, hi, hz, by rw [hdz]⟩
theorem td_sz (h : tdOf P t = some d) : SzIs P t d.sz := by
  obtain ⟨u, i, z, h1, hi, hz, _, hs, _⟩ := tdOf_parts h
  exact ⟨i, hi, hs.symm⟩
theorem td_one (h : tdOf P t = some d) (ha : d.ag = false) : OneT P t := by
  obtain ⟨u, i, z, h1, hi, hz, _, hs, hag, _⟩ := tdOf_parts h
  exact ⟨u, h1, by rw [← hag]; exact ha⟩
theorem td_agg (h : tdOf P t = some d) (ha : d.ag = true) : AggT P t d.sz := by
  obtain ⟨u, i, z, h1, hi, hz, _, hs, hag, _⟩ := tdOf_parts h
  exact ⟨⟨u, h1, by rw [← hag]; exact ha⟩, i, hi, hs.symm⟩
end td

/-! ### What is known of slots -/
inductive SV where
  | v (x : Value)
  | o (k off : Nat)
  | s (k off n cp : Nat)
  | r (e n : Nat) (cs : List Value)
  | u
structure IE where
  t : Nat
  c : Bool
  g : Bool
  s : SV
inductive OB where
  | c (b T : Nat) (cs : List Value)
  | k (g : Option Bool) (b o : Nat) (cs : List Value)
  | e (e : OE)
abbrev SL := List (Nat × SV)
abbrev IL := List (Nat × IE)
abbrev BL := List (Nat × OB)

def dvO (B : BL) : SV → Option Value
  | .v x => some x
  | .o k f => match lkA B k with
    | some (.c b _ _) => some (.pointer (some ⟨b, f, none⟩))
    | some (.k _ b o _) => some (.pointer (some ⟨b, o + f, none⟩))
    | _ => none
  | .s k f n cp => match lkA B k with
    | some (.c b _ _) => some (.slice (some ⟨b, f, none⟩) n cp)
    | _ => none
  | .r _ _ _ => none
  | .u => none
def dv (B : BL) (s : SV) : Value := (dvO B s).getD undef
def kI (B : BL) (e : IE) : Value := bif e.g then dv B e.s else undef
def entS (B : BL) (s : SV) : Ent := match dvO B s with
  | some v => .val v
  | none => .prd fun _ _ => True
def fl (L : SL) (I : IL) (B : BL) : FL := I.map (fun p => (p.1, .val (kI B p.2))) ++ L.map (fun p => (p.1, entS B p.2))

theorem lk_app (A C : FL) (i : Nat) : lk (A ++ C) i = match lk A i with
  | some e => some e
  | none => lk C i := by
  induction A with
  | nil => rfl
  | cons p r ih =>
    obtain ⟨k, e⟩ := p
    by_cases hk : k = i
    · subst hk; rw [List.cons_append, lk_cons_eq, lk_cons_eq]
    · rw [List.cons_append, lk_cons_ne hk, lk_cons_ne hk, ih]
theorem lk_mapI (B : BL) (I : IL) (i : Nat) : lk (I.map (fun p => (p.1, Ent.val (kI B p.2)))) i = (lkA I i).map fun e => .val (kI B e) := by
  induction I with
  | nil => rfl
  | cons p r ih =>
    obtain ⟨k, e⟩ := p
    by_cases hk : k = i
    · subst hk; rw [List.map_cons, lk_cons_eq, lkA_eq]; rfl
    · rw [List.map_cons, lk_cons_ne hk, lkA_ne hk, ih]
theorem lk_mapL (B : BL) (L : SL) (i : Nat) : lk (L.map (fun p => (p.1, entS B p.2))) i = (lkA L i).map (entS B) := by
  induction L with
  | nil => rfl
  | cons p r ih =>
    obtain ⟨k, e⟩ := p
    by_cases hk : k = i
    · subst hk; rw [List.map_cons, lk_cons_eq, lkA_eq]; rfl
    · rw [List.map_cons, lk_cons_ne hk, lkA_ne hk, ih]
def kv (L : SL) (I : IL) (B : BL) (t : Nat) : Option Value := match lkA I t with
  | some e => some (kI B e)
  | none => match lkA L t with
    | some s => dvO B s
    | none => none
theorem vl_fl (L : SL) (I : IL) (B : BL) (t : Nat) : vl (lk (fl L I B) t) = kv L I B t := by
  unfold fl kv
  rw [lk_app, lk_mapI, lk_mapL]
  cases lkA I t with
  | some e => rfl
  | none =>
    cases lkA L t with
    | none => rfl
    | some s =>
      show vl (some (entS B s)) = dvO B s
      unfold entS
      cases dvO B s <;> rfl

def bq (c b : Bool) : Bool := match c with
  | true => b
  | false => !b
theorem bq_eq {c b : Bool} (h : bq c b = true) : c = b := by cases c <;> cases b <;> simp_all [bq]
def gx (L : SL) (I : IL) (t : Nat) (c : Bool) : Option Bool := match lkA I t with
  | some e => match e.s with
    | .v (.bool b) => some (e.g && bq c b)
    | _ => none
  | none => match lkA L t with
    | some (.v (.bool b)) => some (bq c b)
    | _ => none
def Inv (L : SL) (I : IL) : Prop := ∀ d e, lkA I d = some e → gx L I e.t e.c = some e.g
def usb (I : IL) : Nat → Nat → Bool → Nat → Bool → Bool
  | 0, t0, c0, t1, c1 => Nat.beq t0 t1 && bq c0 c1
  | f + 1, t0, c0, t1, c1 => (Nat.beq t0 t1 && bq c0 c1) || (match lkA I t0 with
    | some e => usb I f e.t e.c t1 c1
    | none => false)
theorem usb_sound {L : SL} {I : IL} (hI : Inv L I) : ∀ (f t0 : Nat) (c0 : Bool) (t1 : Nat) (c1 g0 : Bool), gx L I t0 c0 = some g0 → usb I f t0 c0 t1 c1 = true → g0 = true → gx L I t1 c1 = some true := by
  intro f
  induction f with
  | zero =>
    intro t0 c0 t1 c1 g0 h0 hu hg
    simp only [usb, Bool.and_eq_true] at hu
    obtain rfl := Nat.eq_of_beq_eq_true hu.1
    obtain rfl := bq_eq hu.2
    rw [h0, hg]
  | succ f ih =>
    intro t0 c0 t1 c1 g0 h0 hu hg
    simp only [usb, Bool.or_eq_true, Bool.and_eq_true] at hu
    rcases hu with hu | hu
    · obtain rfl := Nat.eq_of_beq_eq_true hu.1
      obtain rfl := bq_eq hu.2
      rw [h0, hg]
    · cases hl : lkA I t0 with
      | none => rw [hl] at hu; cases hu
      | some e =>
        rw [hl] at hu
        have h1 := h0
        unfold gx at h1
        rw [hl] at h1
        simp only at h1
        have he : e.g = true := by
          cases hs : e.s with
          | v x =>
            rw [hs] at h1
            cases x <;> simp at h1
            rw [hg] at h1
            simp only [Bool.and_eq_true] at h1
            exact h1.1
          | _ => rw [hs] at h1; cases h1
        exact ih _ _ _ _ _ (hI _ _ hl) hu he

/-- a slot as an operand, where the guard `cx` holds -/
def rdT (L : SL) (I : IL) (cx : Option (Nat × Bool)) (t : Nat) : Option SV := match lkA I t with
  | some e => match cx with
    | none => none
    | some (t0, c0) => bif usb I 8 t0 c0 e.t e.c then some e.s else none
  | none => lkA L t
def rdS (L : SL) (I : IL) (cx : Option (Nat × Bool)) : Operand → Option SV
  | .tmp t => match rdT L I cx t with
    | some .u => none
    | r => r
  | .const v => some (.v v)
  | .global g => some (.v (.pointer (some ⟨g, 0, none⟩)))
  | .func f => some (.v (.func (.func f) #[] #[]))
/-- the guard's outcome -/
def cxOk (L : SL) (I : IL) (cx : Option (Nat × Bool)) (og : Option Bool) : Prop := match cx with
  | none => og = none
  | some (t, c) => ∃ g, gx L I t c = some g ∧ og = some g
def yes (og : Option Bool) : Prop := ∀ g, og = some g → g = true
def gc (og : Option Bool) (C : Prop) : Prop := match og with
  | none => C
  | some g => g = true → C
theorem gc_yes {og : Option Bool} {C : Prop} (h : gc og C) (hy : yes og) : C := by
  cases og with
  | none => exact h
  | some g => exact h (hy g rfl)
theorem dv_some {B : BL} {s : SV} {v : Value} (h : dvO B s = some v) : dv B s = v := by simp [dv, h]

theorem rdS_ev {L : SL} {I : IL} {B : BL} {cx : Option (Nat × Bool)} {og : Option Bool} (hI : Inv L I) (hc : cxOk L I cx og) (hy : yes og) {x : Operand} {s : SV} {v : Value} (h : rdS L I cx x = some s) (hv : dvO B s = some v) :
    ev (fl L I B) x = some v := by
  cases x with
  | tmp t =>
    show vl (lk (fl L I B) t) = some v
    rw [vl_fl]
    have h1 : rdT L I cx t = some s := by
      simp only [rdS] at h
      split at h
      · cases h
      · exact h
    unfold rdT at h1
    unfold kv
    cases hl : lkA I t with
    | none =>
      rw [hl] at h1
      simp only at h1 ⊢
      rw [h1]; exact hv
    | some e =>
      rw [hl] at h1
      cases cx with
      | none => cases h1
      | some p =>
        obtain ⟨t0, c0⟩ := p
        simp only at h1
        cases hu : usb I 8 t0 c0 e.t e.c with
        | false => rw [hu] at h1; cases h1
        | true =>
          rw [hu] at h1
          have hs : e.s = s := Option.some.inj h1
          obtain ⟨g, hg, hog⟩ := hc
          have := usb_sound hI 8 t0 c0 e.t e.c g hg hu (hy g hog)
          rw [hI t e hl] at this
          have he : e.g = true := Option.some.inj this
          simp only [kI, he, cond_true, hs, dv_some hv]
  | const c => simp only [rdS, Option.some.injEq] at h; subst h; exact hv
  | global c => simp only [rdS, Option.some.injEq] at h; subst h; exact hv
  | func c => simp only [rdS, Option.some.injEq] at h; subst h; exact hv

/-! ### Lists by their cells -/
def nthV {β : Type} : List β → Nat → Option β
  | [], _ => none
  | x :: _, 0 => some x
  | _ :: l, n + 1 => nthV l n
theorem nthV_eq {β : Type} : ∀ (l : List β) (n : Nat), nthV l n = l[n]?
  | [], n => by simp [nthV]
  | x :: l, 0 => by simp [nthV]
  | x :: l, n + 1 => by simp [nthV, nthV_eq l n]
def takK : List Value → Nat → (List Value → Prop) → Prop
  | _, 0, K => K []
  | x :: l, n + 1, K => takK l n fun r => K (x :: r)
  | [], _ + 1, _ => False
def subK : List Value → Nat → Nat → (List Value → Prop) → Prop
  | l, 0, n, K => takK l n K
  | _ :: l, o + 1, n, K => subK l o n K
  | [], _ + 1, _, _ => False
theorem takK_sound : ∀ {l : List Value} {n : Nat} {K : List Value → Prop}, takK l n K → K (l.take n) ∧ n ≤ l.length
  | l, 0, K, h => by cases l <;> exact ⟨h, Nat.zero_le _⟩
  | x :: l, n + 1, K, h => by have := takK_sound (l := l) h; exact ⟨by simpa using this.1, by simpa using this.2⟩
  | [], _ + 1, _, h => h.elim
theorem subK_sound : ∀ {l : List Value} {o n : Nat} {K : List Value → Prop}, subK l o n K → K ((l.drop o).take n) ∧ o + n ≤ l.length
  | l, 0, n, K, h => by
    have h' : takK l n K := by cases l <;> exact h
    have := takK_sound h'; simpa using this
  | x :: l, o + 1, n, K, h => by have := subK_sound (l := l) h; exact ⟨by simpa using this.1, by simp; omega⟩
  | [], _ + 1, _, _, h => h.elim
def putK : List Value → List Value → (List Value → Prop) → Prop
  | l, [], K => K l
  | _ :: l, c :: cs, K => putK l cs fun r => K (c :: r)
  | [], _ :: _, _ => False
def setK : List Value → Nat → List Value → (List Value → Prop) → Prop
  | l, 0, cs, K => putK l cs K
  | x :: l, o + 1, cs, K => setK l o cs fun r => K (x :: r)
  | [], _ + 1, _, _ => False
theorem putK_sound : ∀ {l cs : List Value} {K : List Value → Prop}, putK l cs K → K (cs ++ l.drop cs.length) ∧ cs.length ≤ l.length
  | l, [], K, h => by cases l <;> exact ⟨by simpa [putK] using h, Nat.zero_le _⟩
  | x :: l, c :: cs, K, h => by have := putK_sound (l := l) (cs := cs) h; exact ⟨by simpa using this.1, by simpa using this.2⟩
  | [], _ :: _, _, h => h.elim
theorem setK_sound : ∀ {l : List Value} {o : Nat} {cs : List Value} {K : List Value → Prop}, setK l o cs K → K (spl l o cs) ∧ o + cs.length ≤ l.length
  | l, 0, cs, K, h => by
    have h' : putK l cs K := by cases l <;> exact h
    have := putK_sound h'
    exact ⟨by simpa [spl] using this.1, by simpa using this.2⟩
  | x :: l, o + 1, cs, K, h => by
    have := setK_sound (l := l) h
    refine ⟨?_, by simp; omega⟩
    have h1 := this.1
    simpa [spl, Nat.add_right_comm] using h1
  | [], _ + 1, _, _, h => h.elim
def lenB : List Value → Nat → Bool
  | [], 0 => true
  | _ :: l, n + 1 => lenB l n
  | _, _ => false
theorem lenB_eq : ∀ {l : List Value} {n : Nat}, lenB l n = true → l.length = n
  | [], 0, _ => rfl
  | _ :: l, n + 1, h => by simp [lenB_eq (l := l) h]
  | [], _ + 1, h => by cases h
  | _ :: _, 0, h => by cases h
def notAgg : Value → Bool
  | .agg _ => false
  | _ => true
/-- a value's cells -/
def celK (B : BL) (s : SV) (K : List Value → Prop) : Prop := match s with
  | .v (.agg ⟨l⟩) => K l
  | .v v => bif notAgg v then K [v] else False
  | .o k f => match dvO B (.o k f) with
    | some v => K [v]
    | none => False
  | .s k f n cp => match dvO B (.s k f n cp) with
    | some v => K [v]
    | none => False
  | _ => False
theorem cells_one {v : Value} (h : notAgg v = true) : v.cells = #[v] := by cases v <;> first | rfl | (simp [notAgg] at h)
theorem celK_sound {B : BL} {s : SV} {K : List Value → Prop} (h : celK B s K) : ∃ cs v, K cs ∧ dvO B s = some v ∧ v.cells = cs.toArray := by
  cases s with
  | v x =>
    by_cases hx : notAgg x = true
    · have : K [x] := by
        cases x <;> first | exact h | (simp [notAgg] at hx)
      exact ⟨[x], x, this, rfl, cells_one hx⟩
    · cases x with
      | agg cs =>
        obtain ⟨l⟩ := cs
        exact ⟨l, _, h, rfl, rfl⟩
      | _ => exact absurd rfl hx
  | o k f =>
    simp only [celK] at h
    cases hd : dvO B (.o k f) with
    | none => rw [hd] at h; exact h.elim
    | some v =>
      rw [hd] at h
      refine ⟨[v], v, h, rfl, cells_one ?_⟩
      simp only [dvO] at hd
      split at hd <;> cases hd <;> rfl
  | s k f n cp =>
    simp only [celK] at h
    cases hd : dvO B (.s k f n cp) with
    | none => rw [hd] at h; exact h.elim
    | some v =>
      rw [hd] at h
      refine ⟨[v], v, h, rfl, cells_one ?_⟩
      simp only [dvO] at hd
      split at hd <;> cases hd <;> rfl
  | r e n cs => exact h.elim
  | u => exact h.elim
end Go.Dx
