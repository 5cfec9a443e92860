/- Laws of one step of a walk, and of what memory holds. No condition beyond what each names. -/
import Derived.Test.YtopbpdgnjnoddaaDoorDxS
import Derived.ChangeKeysEq
set_option linter.unusedSimpArgs false
set_option linter.unusedVariables false
namespace Go.Dx
open Go Go.RowKit

/-! structs of plain fields, held against one another -/
section eq
variable {md : Md} {P : Program} {w : World}
inductive PK where
  | i (k : IntKind)
  | b
  | s
def PK.ty (P : Program) (t : TypeId) : PK → Prop
  | .i k => P.underlying t = some (.int k)
  | .b => P.underlying t = some .bool
  | .s => P.underlying t = some .string
def PK.fits : PK → Value → Prop
  | .i k, v => ∃ n, v = .int k n
  | .b, v => ∃ c, v = .bool c
  | .s, v => ∃ l, v = vs l
def eqC : Value → Value → Bool
  | .int _ a, .int _ b => decide (a = b)
  | .bool a, .bool b => decide (a = b)
  | .string a, .string b => decide (a.data.toList = b.data.toList)
  | _, _ => false
theorem run_eqC {d : Nat} {t : TypeId} {u v : Value} {k : PK} (ht : k.ty P t) (hu : k.fits u) (hv : k.fits v) : (Op.equalIn (d + 1) t u v).run P w = .ok (eqC u v) w := by
  cases k with
  | i k =>
    obtain ⟨a, rfl⟩ := hu
    obtain ⟨b, rfl⟩ := hv
    rw [run_equalIn_int w d t k k a b ht]
    rfl
  | b =>
    obtain ⟨a, rfl⟩ := hu
    obtain ⟨b, rfl⟩ := hv
    rw [run_equalIn_bool' w d t a b ht]
    cases a <;> cases b <;> rfl
  | s =>
    obtain ⟨a, rfl⟩ := hu
    obtain ⟨b, rfl⟩ := hv
    unfold vs
    rw [run_equalIn_string w d t _ _ ht]
    congr 1
    simp only [ByteArray.toList_eq, eqC]
    exact Bool.eq_iff_iff.2 (by simp)
theorem run_partC {t : TypeId} {u : Value} {k : PK} {xs : Array Value} {off : Nat} (ht : k.ty P t) (hx : xs[off]? = some u) : (part t xs off).run P w = .ok u w := by
  cases k <;> exact run_part_plain w (by simp only [PK.ty] at ht; simp [Program.plainKey, ht]) hx
def FieldsAre (P : Program) : List Field → List (Nat × PK) → Prop
  | [], [] => True
  | f :: fs, s :: sp => f.name ≠ "_" ∧ f.offset = s.1 ∧ s.2.ty P f.type ∧ FieldsAre P fs sp
  | _, _ => False
def PK.tyB (P : Program) (t : TypeId) : PK → Bool
  | .i k => match P.underlying t with
    | some (.int k') => decide (k' = k)
    | _ => false
  | .b => match P.underlying t with
    | some .bool => true
    | _ => false
  | .s => match P.underlying t with
    | some .string => true
    | _ => false
theorem PK.ty_of {t : TypeId} {k : PK} (h : k.tyB P t = true) : k.ty P t := by
  cases k <;> simp only [PK.tyB] at h <;> simp only [PK.ty] <;> split at h <;> simp_all
def fieldsB (P : Program) : List Field → List (Nat × PK) → Bool
  | [], [] => true
  | f :: fs, s :: sp => f.name != "_" && decide (f.offset = s.1) && s.2.tyB P f.type && fieldsB P fs sp
  | _, _ => false
theorem FieldsAre.of : ∀ {fs : List Field} {sp : List (Nat × PK)}, fieldsB P fs sp = true → FieldsAre P fs sp
  | [], [], _ => trivial
  | f :: fs, s :: sp, h => by
    simp only [fieldsB, Bool.and_eq_true, bne_iff_ne, ne_eq, decide_eq_true_eq] at h
    exact ⟨h.1.1.1, h.1.1.2, PK.ty_of h.1.2, FieldsAre.of h.2⟩
  | [], _ :: _, h => by simp [fieldsB] at h
  | _ :: _, [], h => by simp [fieldsB] at h
theorem run_eqFs {d : Nat} {xs ys : Array Value} : ∀ {fs : List Field} {sp : List (Nat × PK)}, FieldsAre P fs sp → (∀ s ∈ sp, ∃ u v, xs[s.1]? = some u ∧ ys[s.1]? = some v ∧ s.2.fits u ∧ s.2.fits v) →
    (Op.eqFields (d + 1) xs ys fs).run P w = .ok (sp.all fun s => eqC (xs.getD s.1 undef) (ys.getD s.1 undef)) w
  | [], [], _, _ => rfl
  | f :: fs, s :: sp, ⟨h1, h2, h3, h4⟩, hc => by
    obtain ⟨u, v, hu, hv, fu, fv⟩ := hc s (by simp)
    have ih := run_eqFs (d := d) (xs := xs) (ys := ys) h4 fun s hs => hc s (by simp [hs])
    have eu : xs.getD s.1 undef = u := by simp [hu]
    have ev : ys.getD s.1 undef = v := by simp [hv]
    rw [← h2] at hu hv
    simp only [Op.eqFields, h1, ne_eq, not_false_eq_true, if_true, Sem.run_bind, run_partC h3 hu, run_partC h3 hv, Result.andThen_ok, run_eqC h3 fu fv, List.all_cons, eu, ev]
    cases eqC u v
    · simp
    · simpa using ih
  | [], _ :: _, h, _ => h.elim
  | _ :: _, [], h, _ => h.elim
/-- values of this type are held against one another cell by cell -/
def EqT (P : Program) (t : TypeId) {α : Type} [DecidableEq α] (f : α → List Value) : Prop :=
  P.eqGuardType P.depth t = false ∧ ∀ (w : World) (a b : α), (Op.equalIn 10000 t (.agg (f a).toArray) (.agg (f b).toArray)).run P w = .ok (decide (a = b)) w
theorem EqT.of {α : Type} [DecidableEq α] {t : TypeId} {f : α → List Value} (sp : List (Nat × PK)) (hg : P.eqGuardType P.depth t = false) (hs : P.stoodInHeld t = false) (ht : P.underlying t = some (.struct (P.fieldsOf t)))
    (hf : fieldsB P (P.fieldsOf t).toList sp = true) (hc : ∀ a b : α, ∀ s ∈ sp, ∃ u v, (f a)[s.1]? = some u ∧ (f b)[s.1]? = some v ∧ s.2.fits u ∧ s.2.fits v)
    (he : ∀ a b : α, (sp.all fun s => eqC ((f a).toArray.getD s.1 undef) ((f b).toArray.getD s.1 undef)) = decide (a = b)) : EqT P t f := by
  refine ⟨hg, fun w a b => ?_⟩
  rw [show (10000 : Nat) = 9998 + 1 + 1 from rfl, run_equalIn_struct w _ t _ _ ht hs, run_eqFs (FieldsAre.of hf) (fun s hs => by
    obtain ⟨u, v, h1, h2, h3, h4⟩ := hc a b s hs
    exact ⟨u, v, by simpa using h1, by simpa using h2, h3, h4⟩), he a b]
variable {L : FL} {op : Op} {d : Option Nat} {ty t t' T e : TypeId} {pos : String} {af : Array Edge} {g : Option (Nat × Bool)} {x y : Operand} {α : Type} [DecidableEq α] {f : α → List Value} {a b : α}
theorem pu_aeq (h : EqT P t f) (hx : ev L x = some (.agg (f a).toArray)) (hy : ev L y = some (.agg (f b).toArray)) : Pu P L ⟨d, .binOp .eql t x y t', ty, pos, af, g⟩ w (.bool (decide (a = b))) := by
  intro ρ hρ; simp only [execOp, hρ x (by simp [Op.operands]) _ hx, hρ y (by simp [Op.operands]) _ hy, Sem.run_bind, run_eqGuard_agg w _ _ _ _ _ _ h.1, Result.andThen_ok, run_eql_struct, h.2]
  rfl
theorem pu_ane (h : EqT P t f) (hx : ev L x = some (.agg (f a).toArray)) (hy : ev L y = some (.agg (f b).toArray)) : Pu P L ⟨d, .binOp .neq t x y t', ty, pos, af, g⟩ w (.bool (!decide (a = b))) := by
  intro ρ hρ; simp only [execOp, hρ x (by simp [Op.operands]) _ hx, hρ y (by simp [Op.operands]) _ hy, Sem.run_bind, run_eqGuard_agg w _ _ _ _ _ _ h.1, Result.andThen_ok, run_neq_struct, h.2]
  rfl
/-- a field of a struct's value: of one cell -/
def FldV (P : Program) (t i off : Nat) : Prop := ∃ (fs : Array Field) (f : Field), P.underlying t = some (.struct fs) ∧ fs[i]? = some f ∧ f.offset = off ∧ (P.underlying f.type).map aggB = some false
def fldVB (P : Program) (t i : Nat) : Option (Nat × Option Bool) := match P.underlying t with
  | some (.struct fs) => (fs[i]?).map fun f => (f.offset, (P.underlying f.type).map aggB)
  | _ => none
theorem FldV.of {i off : Nat} (h : fldVB P t i = some (off, some false)) : FldV P t i off := by
  unfold fldVB at h
  split at h
  · rename_i fs hu
    cases hf : fs[i]? with
    | none => simp [hf] at h
    | some f => simp [hf] at h; exact ⟨fs, f, hu, hf, h.1, by simpa using h.2⟩
  · cases h
theorem pu_field {i off : Nat} {cs : List Value} {v : Value} (hf : FldV P t i off) (hx : ev L x = some (.agg cs.toArray)) (hv : cs[off]? = some v) : Pu P L ⟨d, .field t x i, ty, pos, af, g⟩ w v := by
  obtain ⟨fs, f, hu, hi, rfl, hk⟩ := hf
  intro ρ hρ
  have hp : (part f.type cs.toArray f.offset).run P w = .ok v w := by
    cases hu : P.underlying f.type with
    | none => simp [hu] at hk
    | some q =>
      have hq : aggB q = false := by simpa [hu] using hk
      cases q <;> simp [aggB] at hq <;> simp [part, isAgg, run_underlying hu, hv]
  simp only [execOp, hρ x (by simp [Op.operands]) _ hx, Instr.field, Sem.run_bind, run_underlying hu, Result.andThen_ok, hi, asAgg, Sem.run_pure, hp]
end eq

section calls
variable {md : Md} {P : Program} {opsA : Array Oper} {rest : List Oper} {Q : Exit → Act → World → Prop} {a : Act} {w w0 : World} {h0 : View} {M : List Nat} {O : List OE} {F : View → Prop} {n : Nat} {L : FL}
variable {op : Op} {d : Option Nat} {ty t t2 T e : TypeId} {pos : String} {af : Array Edge} {g : Option (Nat × Bool)} {x y : Operand}
theorem g_calld {dd j : Nat} {b c : Bool} {f : FuncId} {args : List Operand} {vsl : List Value} {ats : Array TypeId} {v : Value} {h : View} (hF : Fr a n L) (hS : St w0 h0 M w O F) (hg : gdIs opsA L j b) (hb : b = c) (hc : CallOk P f) (ha : evs L args = some vsl)
    (H : Calls P f vsl.toArray w (Ret w h fun u _ => u = v)) (hd : Nat.blt dd n = true)
    (k : ∀ w' a, St w0 h0 M w' O F → Fr a n ((dd, .val v) :: L) → wpM md P opsA Q rest a w') :
    wpM md P opsA Q (⟨some dd, .call ⟨.value (.func f), args.toArray, ats⟩, ty, pos, af, some (j, c)⟩ :: rest) a w := by
  refine g_ds hF hg hb (ds_call (Post := fun u w' => u = v ∧ St w0 h0 M w' O F) hc ha (H.mono ?_)) hd ?_
  · rintro e w' ⟨u, rfl, hk, hv⟩; exact ⟨u, rfl, hv, hS.step hk⟩
  · rintro u w' a' ⟨rfl, hS'⟩ hF'; exact k w' a' hS' hF'
theorem tg_calld {opsT : Array Oper} {R : World → World → Prop} [hR : Rel R] {Qf : SP → (Nat → VP) → Prop} {Γ : Nat → VP} {dd j : Nat} {b c : Bool} {f : FuncId} {args : List Operand} {vsl : List Value} {ats : Array TypeId} {v : Value} (hG : GF Γ L) (hg : gdIs opsT L j b) (hb : b = c) (hc : CallOk P f) (ha : evs L args = some vsl)
    (H : ∀ w', St w0 h0 M w' O F → ∃ h, Calls P f vsl.toArray w' (Ret w' h fun u _ => u = v))
    (k : ∀ Γ, GF Γ ((dd, .val v) :: L) → TyW P opsT (CR R w w0 h0 M O F) R Qf rest Γ) :
    TyW P opsT (CR R w w0 h0 M O F) R Qf (⟨some dd, .call ⟨.value (.func f), args.toArray, ats⟩, ty, pos, af, some (j, c)⟩ :: rest) Γ := by
  refine tg_ds hG hg hb (fun w1 hC => ?_) k
  obtain ⟨h, H⟩ := H w1 (hC.st)
  refine ds_call hc ha (H.mono ?_)
  rintro e w' ⟨u, rfl, hk, rfl⟩
  exact ⟨u, rfl, rfl, hC.step hk, hk⟩
end calls

/-! where in a list -/
section idx
variable {α : Type} {p : α → Bool} {l : List α}
def idxS (p : α → Bool) (l : List α) : Int := match l.findIdx? p with
  | some i => (i : Int)
  | none => -1
theorem idx_hit (d : α) {k : Nat} (hk : k < l.length) (hn : ∀ j, j < k → p (l.getD j d) = false) (hp : p (l.getD k d) = true) : idxS p l = (k : Int) := by
  have e : l.findIdx? p = some k := by
    rw [List.findIdx?_eq_some_iff_getElem]
    refine ⟨hk, by simpa [List.getD, hk] using hp, fun j hj => ?_⟩
    have := hn j hj
    simpa [List.getD, show j < l.length by omega] using this
  unfold idxS
  rw [e]
theorem idx_none (d : α) (hn : ∀ j, j < l.length → p (l.getD j d) = false) : idxS p l = -1 := by
  have e : l.findIdx? p = none := by
    rw [List.findIdx?_eq_none_iff]
    intro x hx
    obtain ⟨j, hj⟩ := List.mem_iff_getElem?.1 hx
    have hlt := (List.getElem?_eq_some_iff.1 hj).1
    have := hn j hlt
    simpa [List.getD, hj] using this
  unfold idxS
  rw [e]
theorem idx_cases (d : α) : (idxS p l = -1 ∧ ∀ j, j < l.length → p (l.getD j d) = false) ∨ ∃ k : Nat, idxS p l = (k : Int) ∧ k < l.length ∧ p (l.getD k d) = true ∧ ∀ j, j < k → p (l.getD j d) = false := by
  cases h : l.findIdx? p with
  | none =>
    refine .inl ⟨by simp [idxS, h], fun j hj => ?_⟩
    rw [List.findIdx?_eq_none_iff] at h
    have := h (l.getD j d) (by simp [List.getD, hj])
    simpa using this
  | some k =>
    have h2 := List.findIdx?_eq_some_iff_getElem.1 h
    obtain ⟨hk, hp, hn⟩ := h2
    refine .inr ⟨k, by simp [idxS, h], hk, by simpa [List.getD, hk] using hp, fun j hj => ?_⟩
    have := hn j hj
    simpa [List.getD, show j < l.length by omega] using this
theorem idx_any : decide (0 ≤ idxS p l) = l.any p := by
  cases h : l.findIdx? p with
  | none =>
    have h2 := List.findIdx?_eq_none_iff.1 h
    have : l.any p = false := by simpa using h2
    rw [this]; simp [idxS, h]
  | some k =>
    obtain ⟨hk, hp, _⟩ := List.findIdx?_eq_some_iff_getElem.1 h
    have : l.any p = true := by rw [List.any_eq_true]; exact ⟨l[k], List.getElem_mem hk, hp⟩
    rw [this]; simp [idxS, h]
theorem snoc_no (d : α) {k : Nat} (h : ∀ j, j < k → p (l.getD j d) = false) (hk : p (l.getD k d) = false) : ∀ j, j < k + 1 → p (l.getD j d) = false := by
  intro j hj
  rcases Nat.lt_or_ge j k with h1 | h1
  · exact h j h1
  · rw [show j = k by omega]; exact hk
theorem all_upto (d : α) (h : ∀ j, j < l.length → p (l.getD j d) = true) : l.all p = true := by
  rw [List.all_eq_true]
  intro x hx
  obtain ⟨j, hj⟩ := List.mem_iff_getElem?.1 hx
  have hlt := (List.getElem?_eq_some_iff.1 hj).1
  have := h j hlt
  simpa [List.getD, hj] using this
theorem all_not (d : α) {k : Nat} (hk : k < l.length) (h : p (l.getD k d) = false) : l.all p = false := by
  rw [List.all_eq_false]
  exact ⟨l.getD k d, by simp [List.getD, hk], by rw [h]; decide⟩
/-- rows of one cell, all at once -/
theorem SlC.all1 {T : TypeId} {h : View} (d : α) {f : α → Value} {ad : Option Addr} {m cap : Nat} (hs : SlC T 1 (flatR fun x => [f x]) h (.slice ad m cap) l) (hp : 0 < l.length) :
    ∃ g off, ad = some ⟨g, off, none⟩ ∧ ∀ i, i < l.length → ∀ w, VLe h (Full w) → w.cell? ⟨g, off + i * 1, none⟩ = some (f (l.getD i d)) := by
  obtain ⟨g, off, ha, _⟩ := hs.atD d (i := 0) hp
  refine ⟨g, off, ha, fun i hi w hw => ?_⟩
  obtain ⟨g', off', ha', H⟩ := hs.atD d (i := i) hi
  rw [ha] at ha'
  cases ha'
  exact H w hw
end idx
end Go.Dx
