/- A run of operations in whatever order, reckoned; and code. No condition. -/
import Derived.Test.YtopbpdgnjnoddaaDoorDx5
set_option linter.unusedSimpArgs false
set_option linter.unusedVariables false
namespace Go.Dx
open Go Go.RowKit

def GV (Γ : Nat → VP) (A : FL) : Prop := ∀ t v, vl (lk A t) = some v → ∀ u w, Γ t u w → u = v
theorem GV.ev {Γ : Nat → VP} {A : FL} (h : GV Γ A) {a : Act} {w : World} {o : Oper} {ops : Array Oper} (hs : ∀ t ∈ o.looksAt ops, Γ t (a.tmps.getD t undef) w) :
    ∀ x ∈ o.op.operands, ∀ u, ev A x = some u → a.eval x = u := by
  intro x hx u hu
  cases x with
  | tmp t =>
    have ht : t ∈ o.looksAt ops := by
      unfold Oper.looksAt
      exact List.mem_append_left _ (List.mem_filterMap.2 ⟨.tmp t, by simpa using hx, rfl⟩)
    exact h t u hu _ _ (hs t ht)
  | const u => exact Option.some.inj hu
  | global g => exact Option.some.inj hu
  | func f => exact Option.some.inj hu
theorem GV.cons {Γ : Nat → VP} {L L' : SL} {I I' : IL} {B B' : BL} {d : Nat} {rr : Option Value} {v : Value} (h : GV Γ (fl L I B)) (hk : ∀ t, kv L' I' B' t = if t = d then rr else kv L I B t) (hr : ∀ u, rr = some u → u = v) :
    GV (Γset Γ (some d) fun u _ => u = v) (fl L' I' B') := by
  intro t u hu x w hx
  rw [vl_fl, hk] at hu
  by_cases ht : t = d
  · subst ht
    rw [if_pos rfl] at hu
    simp only [Γset, if_true] at hx
    rw [hx, hr u hu]
  · rw [if_neg ht] at hu
    have e : Γset Γ (some d) (fun u _ => u = v) t = Γ t := by simp [Γset, Ne.symm ht]
    rw [e] at hx
    exact h t u (by rw [vl_fl]; exact hu) x w hx

def RowP (w : World) (e n : Nat) (cs : List Value) : VP := fun u w' => ∃ b, u = .slice (some ⟨b, 0, none⟩) n n ∧ NewRow w e cs b w'
/-- what is known of the slots, of whatever order -/
structure GX (w : World) (Γ : Nat → VP) (L : SL) (I : IL) (B : BL) : Prop where
  gv : GV Γ (fl L I B)
  gr : ∀ t e n cs, lkA I t = none → lkA L t = some (.r e n cs) → ∀ u w', Γ t u w' → RowP w e n cs u w'
theorem GX.cons {w : World} {Γ : Nat → VP} {L L' : SL} {I I' : IL} {B B' : BL} {d : Nat} {rr : Option Value} {v : Value} {so : Option SV} (h : GX w Γ L I B) (hk : ∀ t, kv L' I' B' t = if t = d then rr else kv L I B t) (hr : ∀ u, rr = some u → u = v) (hrw : RwOk d so L I L' I') (hs : ∀ e n cs, so ≠ some (.r e n cs)) :
    GX w (Γset Γ (some d) fun u _ => u = v) L' I' B' := by
  refine ⟨h.gv.cons hk hr, fun t e n cs h1 h2 u w' hu => ?_⟩
  rcases hrw t e n cs h1 h2 with ⟨_, h3⟩ | ⟨hne, h3, h4⟩
  · exact absurd h3 (hs _ _ _)
  · have e1 : Γset Γ (some d) (fun u _ => u = v) t = Γ t := by simp [Γset, Ne.symm hne]
    rw [e1] at hu
    exact h.gr t e n cs h3 h4 u w' hu
theorem GX.row {w : World} {Γ : Nat → VP} {L L' : SL} {I I' : IL} {B : BL} {d e n : Nat} {cs : List Value} (h : GX w Γ L I B) (hk : ∀ B t, kv L' I' B t = if t = d then dvO B (.r e n cs) else kv L I B t) (hrw : RwOk d (some (.r e n cs)) L I L' I') :
    GX w (Γset Γ (some d) (RowP w e n cs)) L' I' B := by
  refine ⟨fun t v hv u w' hu => ?_, fun t e' n' cs' h1 h2 u w' hu => ?_⟩
  · rw [vl_fl, hk] at hv
    by_cases ht : t = d
    · rw [if_pos ht] at hv; cases hv
    · rw [if_neg ht] at hv
      have e1 : Γset Γ (some d) (RowP w e n cs) t = Γ t := by simp [Γset, Ne.symm ht]
      rw [e1] at hu
      exact h.gv t v (by rw [vl_fl]; exact hv) u w' hu
  · rcases hrw t e' n' cs' h1 h2 with ⟨rfl, h3⟩ | ⟨hne, h3, h4⟩
    · simp only [Γset, if_true] at hu
      cases h3
      exact hu
    · have e1 : Γset Γ (some d) (RowP w e n cs) t = Γ t := by simp [Γset, Ne.symm hne]
      rw [e1] at hu
      exact h.gr t e' n' cs' h3 h4 u w' hu
theorem rowP_step {w w1 w2 : World} {e n : Nat} {cs : List Value} {u : Value} (h : RowP w e n cs u w1) (hk : Keep [] w1 w2) : RowP w e n cs u w2 := by
  obtain ⟨b, h1, h2⟩ := h
  exact ⟨b, h1, h2.keep hk⟩
section ty
variable {c : Cx} {al : List Oper} {w : World} {O : List OE} {F : FV} {Qf : SP → (Nat → VP) → Prop}
abbrev Cty (c : Cx) (w : World) (O : List OE) (F : FV) : World → Prop := CR (Keep []) w c.w0 c.h0 c.M O F
theorem does_of {o : Oper} {a : Act} {w1 : World} {Γ : Nat → VP} {A : FL} {Post : VP} (hG : GV Γ A) (hs : ∀ t ∈ o.looksAt al.toArray, Γ t (a.tmps.getD t undef) w1) (H : Ds c.P A o w1 Post) : Does c.P o a.eval w1 Post := H a.eval (hG.ev hs)
theorem ty_ds {d : Option Nat} {op : Op} {ty : TypeId} {pos : String} {af : Array Edge} {r : List Oper} {Γ : Nat → VP} {A : FL} {v : Value} (hG : GV Γ A)
    (H : ∀ w1, Cty c w O F w1 → Ds c.P A ⟨d, op, ty, pos, af, none⟩ w1 fun u w' => u = v ∧ Keep [] w1 w') (k : TyW c.P al.toArray (Cty c w O F) (Keep []) Qf r (Γset Γ d fun u _ => u = v)) :
    TyW c.P al.toArray (Cty c w O F) (Keep []) Qf (⟨d, op, ty, pos, af, none⟩ :: r) Γ := by
  refine tyw_no (fun u _ => u = v) (fun _ _ _ _ _ h => h) (fun a w1 hC hs => ?_) k
  simp only [Region.wanted, if_true]
  have := does_of hG hs (H w1 hC)
  unfold Does at *
  generalize (execOp a.eval _).run c.P w1 = r at *
  cases r with
  | ok nx w' =>
    cases nx <;> simp only [DoesR] at this ⊢
    case value u => exact ⟨hC.step this.2, this.2, this.1⟩
    case enter f args => exact this.mono fun e w'' ⟨u, he, hv⟩ => ⟨u, he, hC.step hv.2, hv.2, hv.1⟩
  | halt x w' => exact this.elim
/-- of the value a predicate is known -/
theorem ty_dp {d : Option Nat} {op : Op} {ty : TypeId} {pos : String} {af : Array Edge} {r : List Oper} {Γ : Nat → VP} (Φ : VP) (hst : ∀ v w1 w2, Cty c w O F w1 → Keep [] w1 w2 → Φ v w1 → Φ v w2)
    (H : ∀ (a : Act) w1, Cty c w O F w1 → (∀ t ∈ Oper.looksAt al.toArray ⟨d, op, ty, pos, af, none⟩, Γ t (a.tmps.getD t undef) w1) → Does c.P ⟨d, op, ty, pos, af, none⟩ a.eval w1 fun u w' => Φ u w' ∧ Keep [] w1 w') (k : TyW c.P al.toArray (Cty c w O F) (Keep []) Qf r (Γset Γ d Φ)) :
    TyW c.P al.toArray (Cty c w O F) (Keep []) Qf (⟨d, op, ty, pos, af, none⟩ :: r) Γ := by
  refine tyw_no Φ (fun v w1 w2 hC hR h => hst v w1 w2 hC hR h) (fun a w1 hC hs => ?_) k
  simp only [Region.wanted, if_true]
  have := H a w1 hC hs
  unfold Does at *
  generalize (execOp a.eval _).run c.P w1 = r at *
  cases r with
  | ok nx w' =>
    cases nx <;> simp only [DoesR] at this ⊢
    case value u => exact ⟨hC.step this.2, this.2, this.1⟩
    case enter f args => exact this.mono fun e w'' ⟨u, he, hv⟩ => ⟨u, he, hC.step hv.2, hv.2, hv.1⟩
  | halt x w' => exact this.elim
theorem tyg_ds {d j : Nat} {b g : Bool} {op : Op} {ty : TypeId} {pos : String} {af : Array Edge} {r : List Oper} {Γ : Nat → VP} {A : FL} {v rr : Value} (hG : GV Γ A)
    (hw : ∀ (a : Act) w1, (∀ t ∈ Oper.looksAt al.toArray ⟨some d, op, ty, pos, af, some (j, b)⟩, Γ t (a.tmps.getD t undef) w1) → Region.wanted ⟨some d, op, ty, pos, af, some (j, b)⟩ (yielded al.toArray a.tmps) = g) (hr : rr = if g = true then v else undef)
    (H : g = true → ∀ w1, Cty c w O F w1 → Ds c.P A ⟨some d, op, ty, pos, af, some (j, b)⟩ w1 fun u w' => u = v ∧ Keep [] w1 w') (k : TyW c.P al.toArray (Cty c w O F) (Keep []) Qf r (Γset Γ (some d) fun u _ => u = rr)) :
    TyW c.P al.toArray (Cty c w O F) (Keep []) Qf (⟨some d, op, ty, pos, af, some (j, b)⟩ :: r) Γ := by
  refine tyw_no (fun u _ => u = rr) (fun _ _ _ _ _ h => h) (fun a w1 hC hs => ?_) k
  rw [hw a w1 hs]
  cases hgg : g with
  | false =>
    simp only [Bool.false_eq_true, if_false]
    rw [hr, hgg]; rfl
  | true =>
    simp only [if_true]
    have e : rr = v := by rw [hr, hgg]; rfl
    have := does_of hG hs (H hgg w1 hC)
    unfold Does at *
    generalize (execOp a.eval _).run c.P w1 = r at *
    cases r with
    | ok nx w' =>
      cases nx <;> simp only [DoesR] at this ⊢
      case value u => exact ⟨hC.step this.2, this.2, by rw [e]; exact this.1⟩
      case enter f args => exact this.mono fun e' w'' ⟨u, he, hv⟩ => ⟨u, he, hC.step hv.2, hv.2, by rw [e]; exact hv.1⟩
    | halt x w' => exact this.elim
theorem sx_of {B : BL} {w1 : World} (hO : oes B = O) (hB : BOk c.h0 F B) (hC : Cty c w O F w1) : Sx c B F w1 := ⟨hO ▸ hC.st, hB⟩
structure TB (c : Cx) (O : List OE) (F : FV) (B : BL) : Prop where
  oes : oes B = O
  bok : BOk c.h0 F B
theorem Γset_none {Γ : Nat → VP} {Φ : VP} : Γset Γ none Φ = Γ := by funext t; simp [Γset]
theorem rd_row {L : SL} {I : IL} {x : Operand} {e n : Nat} {cs : List Value} (h : rdS L I none x = some (.r e n cs)) : ∃ t, x = .tmp t ∧ (lkA I t = none ∧ lkA L t = some (.r e n cs)) := by
  cases x with
  | tmp t =>
    refine ⟨t, rfl, ?_⟩
    simp only [rdS] at h
    unfold rdT at h
    cases hl : lkA I t with
    | none =>
      rw [hl] at h
      refine ⟨rfl, ?_⟩
      split at h
      · cases h
      · exact h
    | some e => rw [hl] at h; cases h
  | const c => simp [rdS] at h
  | global c => simp [rdS] at h
  | func c => simp [rdS] at h
theorem splitR_sound {L : SL} {I : IL} : ∀ {args xs ys : List Operand} {e n : Nat} {cs : List Value}, splitR (rdS L I none) args = some (xs, ys, e, n, cs) → ∃ t, args = xs ++ .tmp t :: ys ∧ (lkA I t = none ∧ lkA L t = some (.r e n cs))
  | [], xs, ys, e, n, cs, h => by simp [splitR] at h
  | x :: r, xs, ys, e, n, cs, h => by
    unfold splitR at h
    split at h
    · rename_i hx
      simp only [Option.some.injEq, Prod.mk.injEq] at h
      obtain ⟨rfl, rfl, rfl, rfl, rfl⟩ := h
      obtain ⟨t, rfl, ht⟩ := rd_row hx
      exact ⟨t, rfl, ht⟩
    · split at h
      · rename_i l q hq
        simp only [Option.some.injEq, Prod.mk.injEq] at h
        obtain ⟨rfl, rfl⟩ := h
        obtain ⟨t, h1, h2⟩ := splitR_sound (args := r) hq
        exact ⟨t, by rw [h1]; rfl, h2⟩
      · cases h
theorem row_of {L : SL} {I : IL} {B : BL} {Γ : Nat → VP} {t e n : Nat} {cs : List Value} {a : Act} {w1 : World} {o : Oper} (hG : GX w Γ L I B) (h : lkA I t = none ∧ lkA L t = some (.r e n cs)) (hs : ∀ t ∈ o.looksAt al.toArray, Γ t (a.tmps.getD t undef) w1) (hm : Operand.tmp t ∈ o.op.operands) :
    ∃ b, a.tmps.getD t undef = .slice (some ⟨b, 0, none⟩) n n ∧ NewRow w e cs b w1 := by
  have ht : t ∈ o.looksAt al.toArray := by
    unfold Oper.looksAt
    exact List.mem_append_left _ (List.mem_filterMap.2 ⟨.tmp t, by simpa using hm, rfl⟩)
  exact hG.gr t e n cs h.1 h.2 _ _ (hs t ht)
theorem row_kv {L : SL} {I : IL} {B : BL} {t e n : Nat} {cs : List Value} (h : lkA I t = none ∧ lkA L t = some (.r e n cs)) : kv L I B t = none := by
  unfold kv; rw [h.1, h.2]; rfl
theorem ev_row {L : SL} {I : IL} {B : BL} {t : Nat} {v : Value} (hk : kv L I B t = none) {x : Operand} {u : Value} (h1 : Dx.ev (fl L I B) x = some u) : Dx.ev ((t, .val v) :: fl L I B) x = some u := by
  cases x with
  | tmp t' =>
    have hne : t ≠ t' := fun e => by
      subst e
      have : vl (lk (fl L I B) t) = some u := h1
      rw [vl_fl, hk] at this; cases this
    show vl (lk _ t') = _
    rw [lk_cons_ne hne]; exact h1
  | const c => exact h1
  | global c => exact h1
  | func c => exact h1
theorem evs_any {L : SL} {I : IL} {B : BL} {t : Nat} {v : Value} (hk : kv L I B t = none) : ∀ {xs : List Operand} {vsl : List Value}, evs (fl L I B) xs = some vsl → evs ((t, .val v) :: fl L I B) xs = some vsl
  | [], vsl, h => h
  | x :: r, vsl, h => by
    unfold evs at h
    cases h1 : Dx.ev (fl L I B) x with
    | none => simp [h1] at h
    | some u =>
      cases h2 : evs (fl L I B) r with
      | none => simp [h1, h2] at h
      | some us =>
        simp only [h1, h2, Option.some.injEq] at h
        subst h
        simp only [evs, ev_row (v := v) hk h1, evs_any (v := v) hk h2]
theorem evs_row {L : SL} {I : IL} {B : BL} {t : Nat} {v : Value} (hk : kv L I B t = none) {ys : List Operand} {vsr : List Value} (hy : evs (fl L I B) ys = some vsr) : ∀ {xs : List Operand} {vsl : List Value}, evs (fl L I B) xs = some vsl → evs ((t, .val v) :: fl L I B) (xs ++ .tmp t :: ys) = some (vsl ++ v :: vsr)
  | [], vsl, h => by
    simp only [evs, Option.some.injEq] at h
    subst h
    have : Dx.ev ((t, .val v) :: fl L I B) (.tmp t) = some v := by show vl (lk _ t) = _; rw [lk_cons_eq]; rfl
    simp only [List.nil_append, evs, this, evs_any (v := v) hk hy]
  | x :: r, vsl, h => by
    unfold evs at h
    cases h1 : Dx.ev (fl L I B) x with
    | none => simp [h1] at h
    | some u =>
      cases h2 : evs (fl L I B) r with
      | none => simp [h1, h2] at h
      | some us =>
        simp only [h1, h2, Option.some.injEq] at h
        subst h
        have ih := evs_row (v := v) hk hy h2
        simp only [List.cons_append, evs, ev_row (v := v) hk h1, ih]
theorem gv_cons {A : FL} {Γ : Nat → VP} {t : Nat} {v : Value} {a : Act} {w1 : World} {o : Oper} (hG : GV Γ A) (hv : a.tmps.getD t undef = v) (hs : ∀ t ∈ o.looksAt al.toArray, Γ t (a.tmps.getD t undef) w1) : ∀ x ∈ o.op.operands, ∀ u, Dx.ev ((t, .val v) :: A) x = some u → a.eval x = u := by
  intro x hx u hu
  cases x with
  | tmp t' =>
    by_cases ht : t = t'
    · subst ht
      have : vl (lk ((t, .val v) :: A) t) = some u := hu
      rw [lk_cons_eq] at this
      have : v = u := Option.some.inj this
      rw [← this]; exact hv
    · have : vl (lk ((t, .val v) :: A) t') = some u := hu
      rw [lk_cons_ne ht] at this
      exact hG.ev hs _ hx u this
  | const c => exact Option.some.inj hu
  | global c => exact Option.some.inj hu
  | func c => exact Option.some.inj hu
variable (hT : c.T.Ok c.P)
include hT
theorem tyB_sound {dst : Option Nat} {op : Op} {ty : TypeId} {pos : String} {af : Array Edge} {r : List Oper} {L : SL} {I : IL} {B : BL} {X : SL → IL → BL → FV → Prop} {W : Prop} {Γ : Nat → VP} (hI : Inv L I) (hG : GX w Γ L I B) (hB : TB c O F B)
    (ih : ∀ L I B Γ, X L I B F → Inv L I → GX w Γ L I B → TB c O F B → TyW c.P al.toArray (Cty c w O F) (Keep []) Qf r Γ)
    (h : stepB c false dst op L I B F X W) : TyW c.P al.toArray (Cty c w O F) (Keep []) Qf (⟨dst, op, ty, pos, af, none⟩ :: r) Γ := by
  have hρ : yes none → ∀ x s v, rdS L I none x = some s → dvO B s = some v → ev (fl L I B) x = some v := hρ_of hI rfl
  have hok : ∀ {w1}, Cty c w O F w1 → WOk c.h0 F B w1 := fun hC => (sx_of hB.oes hB.bok hC).wok
  have good : ∀ {d : Nat}, dst = some d → Good c.P B (fl L I B) c.h0 F op none (fun s => wr c.n d s L I fun L I => X L I B F) → TyW c.P al.toArray (Cty c w O F) (Keep []) Qf (⟨dst, op, ty, pos, af, none⟩ :: r) Γ := by
    rintro d rfl ⟨s, v, hk, hv, hp⟩
    obtain ⟨L', I', hX, hI', hdn, hkv, hrw⟩ := wr_sound hI hk
    refine ty_ds hG.gv (fun w1 hC => (hp yes_none w1 (hok hC) _ _ _ _ _).ds.mono fun u w' ⟨h1, h2⟩ => ⟨h1, h2 ▸ Keep.refl _ _⟩) (ih _ _ _ _ hX hI' (hG.cons (hkv B) (fun u hu => ?_) hrw fun e n cs he => ?_) hB)
    · rw [hv] at hu; exact (Option.some.inj hu).symm
    · cases he; cases hv
  unfold stepB at h
  split at h
  · rename_i d
    split at h
    · exact h.elim
    · exact h.elim
    · obtain ⟨s, v, hk, hv, hp⟩ := pkG_sound (P := c.P) (h0 := c.h0) (B := B) (cx := none) (og := none) hI rfl h
      obtain ⟨_, _, hk⟩ := hasN_sound hk
      exact good rfl ⟨s, v, hk, hv, hp⟩
    · rename_i f args ats
      split at h
      · rename_i xs ys e n cs g hsp
        cases hm : (memF c.T.fs g && !false) with
        | false => rw [hm] at h; exact h.elim
        | true =>
          rw [hm] at h
          simp only [Bool.not_false, Bool.and_true] at hm
          obtain ⟨vsl, h, hv⟩ := argK_sound hρ h
          obtain ⟨vsr, ⟨x, H, hk⟩, hvr⟩ := argK_sound hρ h
          obtain ⟨L', I', hX, hI', hdn, hkv, hrw⟩ := wr_sound hI hk
          refine ty_dp (fun u _ => u = x) (fun _ _ _ _ _ h => h) (fun a w1 hC hs => ?_) (ih _ _ _ _ hX hI' (hG.cons (hkv B) (fun u hu => (Option.some.inj hu).symm) hrw (by simp)) hB)
          obtain ⟨xr, rfl, hxr⟩ := splitR_sound hsp
          have hrow := row_of hG hxr hs (by simp [Op.operands, Call.operands])
          obtain ⟨b, hb, hnr⟩ := hrow
          obtain ⟨hh, H⟩ := H w1 b (sx_of hB.oes hB.bok hC) hnr.2
          have hev : evs ((xr, .val (.slice (some ⟨b, 0, none⟩) n n)) :: fl L I B) (xs ++ .tmp xr :: ys) = some (vsl ++ .slice (some ⟨b, 0, none⟩) n n :: vsr) := evs_row (row_kv hxr) (hvr yes_none) (hv yes_none)
          have hds : Ds c.P ((xr, .val (.slice (some ⟨b, 0, none⟩) n n)) :: fl L I B) ⟨some d, .call ⟨.value (.func g), (xs ++ Operand.tmp xr :: ys).toArray, ats⟩, ty, pos, af, none⟩ w1 fun u w' => u = x ∧ Keep [] w1 w' := by
            refine ds_call (hT.call hm) hev (H.mono ?_)
            rintro e w' ⟨u, rfl, hkp, rfl⟩
            exact ⟨u, rfl, rfl, hkp⟩
          exact hds a.eval (gv_cons hG.gv hb hs)
      rcases calG_sound (cx := none) hT hI rfl h with ⟨v, hk, hd⟩ | ⟨hs, _⟩ | ⟨_, _, e, n, cs, hk, hd⟩
      · obtain ⟨L', I', hX, hI', hdn, hkv, hrw⟩ := wr_sound hI hk
        refine ty_ds hG.gv (fun w1 hC => hd yes_none w1 (sx_of hB.oes hB.bok hC) _ _ _ _ _ _) (ih _ _ _ _ hX hI' (hG.cons (hkv B) (fun u hu => (Option.some.inj hu).symm) hrw (by simp)) hB)
      · cases hs
      · obtain ⟨L', I', hX, hI', hdn, hkv, hrw⟩ := wr_sound hI hk
        refine ty_dp (RowP w e n cs) (fun _ _ _ _ hk h => rowP_step h hk) (fun a w1 hC hs => does_of hG.gv hs ((hd w1 (sx_of hB.oes hB.bok hC) _ _ _ _ _ _).mono ?_)) (ih _ _ _ _ hX hI' (hG.row hkv hrw) hB)
        rintro u w' ⟨⟨b, rfl, hb⟩, hkp⟩
        exact ⟨⟨b, rfl, Nat.le_trans hC.rel.size hb.1, hb.2⟩, hkp⟩
    · rename_i t len ps
      obtain ⟨e, vsl, h, hds⟩ := bsl_sound hT (hρ yes_none) h
      obtain ⟨L', I', hX, hI', hdn, hkv, hrw⟩ := wr_sound hI h
      refine ty_dp (RowP w e len (cellsL vsl)) (fun _ _ _ _ hk h => rowP_step h hk) (fun a w1 hC hs => does_of hG.gv hs ((hds w1 _ _ _ _ _).mono ?_)) (ih _ _ _ _ hX hI' (hG.row hkv hrw) hB)
      rintro u w' ⟨rfl, rfl⟩
      exact ⟨⟨_, rfl, hC.rel.size, heap_alloc_new w1 _⟩, keep_alloc _ _⟩
    · rename_i a b x
      cases hby : isBytes c.T a b with
      | false => rw [hby] at h; exact good rfl (pv_sound hT hB.bok hρ h)
      | true =>
        rw [hby] at h
        obtain ⟨s, hs, h⟩ := rd1_sound h
        obtain ⟨e, ha, he, hb⟩ := isBytes_sound hT hby
        unfold strS at h
        split at h
        · rename_i e' n' cs
          cases hl : (!false && lenB cs n') with
          | false => rw [hl] at h; exact h.elim
          | true =>
            rw [hl] at h
            simp only [Bool.not_false, Bool.true_and] at hl
            obtain ⟨l, rfl, h⟩ := h
            obtain rfl : n' = l.length := by have := lenB_eq hl; simpa using this.symm
            obtain ⟨L', I', hX, hI', hdn, hkv, hrw⟩ := wr_sound hI h
            obtain ⟨xr, rfl, hxr⟩ := rd_row hs
            refine ty_dp (fun u _ => u = vs l) (fun _ _ _ _ _ h => h) (fun a' w1 hC hs' => ?_) (ih _ _ _ _ hX hI' (hG.cons (hkv B) (fun u hu => (Option.some.inj hu).symm) hrw (by simp)) hB)
            obtain ⟨bb, hbb, hnr⟩ := row_of hG hxr hs' (by simp [Op.operands])
            have hp : Pu c.P ((xr, .val (.slice (some ⟨bb, 0, none⟩) l.length l.length)) :: fl L I B) ⟨some d, .convert a b (.tmp xr), ty, pos, af, none⟩ w1 (vs l) := pu_tostr ha he hb (v := .slice (some ⟨bb, 0, none⟩) l.length l.length) (by show vl (lk _ xr) = _; rw [lk_cons_eq]; rfl) rfl (src_row hnr.2)
            have := hp.ds a'.eval (gv_cons hG.gv hbb hs')
            unfold Does at this ⊢
            generalize (execOp a'.eval _).run c.P w1 = r at *
            cases r with
            | ok nx w' =>
              cases nx <;> simp only [DoesR] at this ⊢
              case value u => exact ⟨this.1, by rw [this.2]; exact Keep.refl _ _⟩
              case enter f args => exact this.mono fun e w'' ⟨u, he, hv⟩ => ⟨u, he, hv.1, by rw [hv.2]; exact Keep.refl _ _⟩
            | halt x w' => exact this.elim
        · rename_i k f n' cp
          split at h
          · rename_i bb T' cs hlk
            cases hl : (Nat.beq f 0 && lenB cs n') with
            | false => rw [hl] at h; exact h.elim
            | true =>
              rw [hl] at h
              simp only [Bool.and_eq_true] at hl
              obtain rfl := Nat.eq_of_beq_eq_true hl.1
              obtain ⟨l, rfl, h⟩ := h
              obtain rfl : n' = l.length := by have := lenB_eq hl.2; simpa using this.symm
              obtain ⟨L', I', hX, hI', hdn, hkv, hrw⟩ := wr_sound hI h
              refine ty_ds hG.gv (fun w1 hC => ?_) (ih _ _ _ _ hX hI' (hG.cons (hkv B) (fun u hu => (Option.some.inj hu).symm) hrw (by simp)) hB)
              exact (pu_tostr ha he hb (hρ yes_none _ _ (.slice (some ⟨bb, 0, none⟩) l.length cp) hs (by simp [dvO, hlk])) rfl (src_row ((hok hC).own _ _ _ _ hlk))).ds.mono fun u w' ⟨h1, h2⟩ => ⟨h1, h2 ▸ Keep.refl _ _⟩
          · exact h.elim
        · exact h.elim
    · rename_i t x y
      cases hsl : isSl (lkA c.T.tys t) with
      | false => rw [hsl] at h; exact h.elim
      | true =>
        rw [hsl] at h
        obtain ⟨s, hs, h⟩ := rd1_sound h
        obtain ⟨s', hs', h⟩ := rd1_sound h
        obtain ⟨b, o, cs, h, hkn, hpu⟩ := ixG_sound hT hρ hs hs' h
        obtain ⟨hl, hfl, h⟩ := fresh_sound h
        obtain ⟨L', I', hX, hI', hdn, hkv, hrw⟩ := wr_sound hI h
        refine ty_ds hG.gv (fun w1 hC => (hpu yes_none w1 (hok hC) _ _ _ _ _).ds.mono fun u w' ⟨h1, h2⟩ => ⟨h1, h2 ▸ Keep.refl _ _⟩) (ih _ _ _ _ hX hI' (hG.cons (rr := some (.pointer (some ⟨b, o, none⟩))) (fun t => ?_) (fun u hu => (Option.some.inj hu).symm) hrw (by simp)) ⟨by rw [oes_k]; exact hB.oes, bok_k hB.bok hkn⟩)
        rw [hkv, kv_fl (hfl _)]
        simp only [dvO, lkA_eq, Nat.add_zero]
    · cases hp : isPure op with
      | false => rw [hp] at h; cases h.1
      | true =>
        rw [hp] at h
        exact good rfl (pv_sound hT hB.bok hρ h)
  · split at h
    · exact h.elim
    · rename_i f args ats
      rcases calG_sound (cx := none) hT hI rfl h with ⟨v, hk, hd⟩ | ⟨hs, _⟩ | ⟨_, _, e, n, cs, hk, hd⟩
      · refine ty_ds hG.gv (fun w1 hC => hd yes_none w1 (sx_of hB.oes hB.bok hC) _ _ _ _ _ _) ?_
        rw [Γset_none]
        exact ih _ _ _ _ hk hI hG hB
      · cases hs
      · refine ty_dp (fun _ _ => True) (fun _ _ _ _ _ h => h) (fun a w1 hC hs => does_of hG.gv hs ((hd w1 (sx_of hB.oes hB.bok hC) _ _ _ _ _ _).mono fun u w' h => ⟨trivial, h.2⟩)) ?_
        rw [Γset_none]
        exact ih _ _ _ _ hk hI hG hB
    · cases h.1
theorem tyU_sound {dst : Option Nat} {op : Op} {ty : TypeId} {pos : String} {af : Array Edge} {r : List Oper} {L : SL} {I : IL} {B : BL} {X : SL → IL → BL → FV → Prop} {W : Prop} {Γ : Nat → VP} (hI : Inv L I) (hG : GX w Γ L I B) (hB : TB c O F B)
    (ih : ∀ L I B Γ, X L I B F → Inv L I → GX w Γ L I B → TB c O F B → TyW c.P al.toArray (Cty c w O F) (Keep []) Qf r Γ)
    (h : stepU c false dst op L I B F X W) : TyW c.P al.toArray (Cty c w O F) (Keep []) Qf (⟨dst, op, ty, pos, af, none⟩ :: r) Γ := by
  unfold stepU at h
  split at h
  · rename_i d
    cases hst : memF c.stop d with
    | true => rw [hst] at h; cases h.1
    | false => rw [hst] at h; exact tyB_sound hT hI hG hB ih h
  · exact tyB_sound hT hI hG hB ih h
omit hT in
/-- typed: a guard that holds is none -/
theorem ty_guard {d : Option Nat} {op : Op} {ty : TypeId} {pos : String} {af : Array Edge} {r : List Oper} {Γ : Nat → VP} {gd : Option (Nat × Bool)}
    (hw : ∀ (a : Act) w1, (∀ t ∈ Oper.looksAt al.toArray ⟨d, op, ty, pos, af, gd⟩, Γ t (a.tmps.getD t undef) w1) → Region.wanted ⟨d, op, ty, pos, af, gd⟩ (yielded al.toArray a.tmps) = true)
    (h : TyW c.P al.toArray (Cty c w O F) (Keep []) Qf (⟨d, op, ty, pos, af, none⟩ :: r) Γ) : TyW c.P al.toArray (Cty c w O F) (Keep []) Qf (⟨d, op, ty, pos, af, gd⟩ :: r) Γ := by
  obtain ⟨Φ, D, ⟨h1, h2⟩, h3⟩ := h
  refine ⟨Φ, D, ⟨h1, fun a w1 hC hs => ?_⟩, h3⟩
  have := h2 a w1 hC (fun t ht => hs t (by
    unfold Oper.looksAt at ht ⊢
    rcases List.mem_append.1 ht with h | h
    · exact List.mem_append_left _ h
    · simp at h))
  rw [if_pos (hw a w1 hs)]
  rw [if_pos (by simp [Region.wanted])] at this
  exact this
omit hT in
theorem looks_guard {d j t : Nat} {b : Bool} {op : Op} {ty : TypeId} {pos : String} {af : Array Edge} {o : Oper} (ho : nthV al j = some o) (hd : o.dst = some t) : t ∈ Oper.looksAt al.toArray ⟨some d, op, ty, pos, af, some (j, b)⟩ := by
  unfold Oper.looksAt
  refine List.mem_append_right _ ?_
  have : al.toArray[j]? = some o := by rw [nthV_eq] at ho; simpa using ho
  simp only [Option.bind_some, this, hd, Option.toList_some, List.mem_singleton]
theorem tyG'_sound {d j t : Nat} {b g : Bool} {op : Op} {ty : TypeId} {pos : String} {af : Array Edge} {r : List Oper} {L : SL} {I : IL} {B : BL} {X : SL → IL → BL → FV → Prop} {Γ : Nat → VP} (hI : Inv L I) (hG : GX w Γ L I B) (hB : TB c O F B) {o : Oper} (ho : nthV al j = some o) (hod : o.dst = some t) (hgx : gx L I t b = some g)
    (ih : ∀ L I B Γ, X L I B F → Inv L I → GX w Γ L I B → TB c O F B → TyW c.P al.toArray (Cty c w O F) (Keep []) Qf r Γ)
    (h : stepG' c false d op t b g L I B F X) : TyW c.P al.toArray (Cty c w O F) (Keep []) Qf (⟨some d, op, ty, pos, af, some (j, b)⟩ :: r) Γ := by
  have hc : cxOk L I (some (t, b)) (some g) := ⟨g, hgx, rfl⟩
  have hρ : yes (some g) → ∀ x s v, rdS L I (some (t, b)) x = some s → dvO B s = some v → ev (fl L I B) x = some v := hρ_of hI hc
  have hok : ∀ {w1}, Cty c w O F w1 → WOk c.h0 F B w1 := fun hC => (sx_of hB.oes hB.bok hC).wok
  have hw : ∀ (a : Act) w1, (∀ t ∈ Oper.looksAt al.toArray ⟨some d, op, ty, pos, af, some (j, b)⟩, Γ t (a.tmps.getD t undef) w1) → Region.wanted ⟨some d, op, ty, pos, af, some (j, b)⟩ (yielded al.toArray a.tmps) = g :=
    fun a w1 hs => wanted_of ho hod (fun v hv => hG.gv t v (by rw [vl_fl]; exact hv) _ _ (hs t (looks_guard ho hod))) hgx rfl
  have hy : g = true → yes (some g) := fun hg g' hg' => by cases hg'; exact hg
  have good : Good c.P B (fl L I B) c.h0 F op (some g) (fun s => wrG c.n d t b g s L I fun L I => X L I B F) → TyW c.P al.toArray (Cty c w O F) (Keep []) Qf (⟨some d, op, ty, pos, af, some (j, b)⟩ :: r) Γ := by
    rintro ⟨s, v, hk, hv, hp⟩
    obtain ⟨L', I', hX, hI', hdn, hkv, hrw⟩ := wrG_sound hI hgx hk
    exact tyg_ds hG.gv hw (gd_val hv) (fun hg w1 hC => (hp (hy hg) w1 (hok hC) _ _ _ _ _).ds.mono fun u w' ⟨h1, h2⟩ => ⟨h1, h2 ▸ Keep.refl _ _⟩) (ih _ _ _ _ hX hI' (hG.cons (hkv B) (fun u hu => (Option.some.inj hu).symm) hrw (by simp)) hB)
  unfold stepG' at h
  split at h
  · obtain ⟨s, v, hk, hv, hp⟩ := pkG_sound (P := c.P) (h0 := c.h0) (B := B) hI hc h
    obtain ⟨_, _, hk⟩ := hasN_sound hk
    exact good ⟨s, v, hk, hv, hp⟩
  · rcases calG_sound hT hI hc h with ⟨v, hk, hd⟩ | ⟨_, hw⟩ | ⟨_, ho, _⟩
    · obtain ⟨L', I', hX, hI', hdn, hkv, hrw⟩ := wrG_sound hI hgx hk
      exact tyg_ds hG.gv hw (gd_val (s := .v v) (B := B) rfl) (fun hg w1 hC => hd (hy hg) w1 (sx_of hB.oes hB.bok hC) _ _ _ _ _ _) (ih _ _ _ _ hX hI' (hG.cons (hkv B) (fun u hu => (Option.some.inj hu).symm) hrw (by simp)) hB)
    · exact hw.elim
    · cases ho
  · rename_i t' x y
    cases hsl : isSl (lkA c.T.tys t') with
    | false => rw [hsl] at h; exact h.elim
    | true =>
      rw [hsl] at h
      obtain ⟨s, hs, h⟩ := rd1_sound h
      obtain ⟨s', hs', h⟩ := rd1_sound h
      obtain ⟨bb, o', cs, h, hkn, hpu⟩ := ixG_sound hT hρ hs hs' h
      obtain ⟨hl, hfl, h⟩ := fresh_sound h
      obtain ⟨L', I', hX, hI', hdn, hkv, hrw⟩ := wrG_sound hI hgx h
      refine tyg_ds hG.gv hw (gd_val (B := (d, .k (some g) bb o' cs) :: B) (s := .o d 0) (v := .pointer (some ⟨bb, o', none⟩)) (by simp only [dvO, lkA_eq, Nat.add_zero])) (fun hg w1 hC => (hpu (hy hg) w1 (hok hC) _ _ _ _ _).ds.mono fun u w' ⟨h1, h2⟩ => ⟨h1, h2 ▸ Keep.refl _ _⟩)
        (ih _ _ _ _ hX hI' (hG.cons (B' := (d, .k (some g) bb o' cs) :: B) (fun t => ?_) (fun u hu => (Option.some.inj hu).symm) hrw (by simp)) ⟨by rw [oes_k]; exact hB.oes, bok_k hB.bok hkn⟩)
      rw [hkv, kv_fl (hfl _)]
  · cases hp : isPure op with
    | false => rw [hp] at h; exact h.elim
    | true =>
      rw [hp] at h
      exact good (pv_sound hT hB.bok hρ h)
theorem tyG_sound {d j t : Nat} {b g : Bool} {op : Op} {ty : TypeId} {pos : String} {af : Array Edge} {r : List Oper} {L : SL} {I : IL} {B : BL} {X : SL → IL → BL → FV → Prop} {W : Prop} {Γ : Nat → VP} (hI : Inv L I) (hG : GX w Γ L I B) (hB : TB c O F B) {o : Oper} (ho : nthV al j = some o) (hod : o.dst = some t) (hgx : gx L I t b = some g)
    (ih : ∀ L I B Γ, X L I B F → Inv L I → GX w Γ L I B → TB c O F B → TyW c.P al.toArray (Cty c w O F) (Keep []) Qf r Γ)
    (h : stepG c false d op t b g L I B F X W) : TyW c.P al.toArray (Cty c w O F) (Keep []) Qf (⟨some d, op, ty, pos, af, some (j, b)⟩ :: r) Γ := by
  unfold stepG at h
  cases hst : memF c.stop (2000000 + d) with
  | false => rw [hst] at h; exact tyG'_sound hT hI hG hB ho hod hgx ih h
  | true =>
    rw [hst] at h
    obtain ⟨hg, h⟩ := h
    refine ty_guard (fun a w1 hs => ?_) (tyB_sound hT (ty := ty) (pos := pos) (af := af) hI hG hB ih h)
    rw [wanted_of ho hod (fun v hv => hG.gv t v (by rw [vl_fl]; exact hv) _ _ (hs t (looks_guard ho hod))) hgx rfl]; exact hg
/-- **A run in whatever order.** -/
theorem ty_sound {K : KR} (hQ : ∀ L I B Γ, K L I B F → Inv L I → GX w Γ L I B → TB c O F B → ∀ E, Qf E Γ) : ∀ (l : List Oper) (L : SL) (I : IL) (B : BL) (Γ : Nat → VP), runs c al false K l L I B F → Inv L I → GX w Γ L I B → TB c O F B →
    TyW c.P al.toArray (Cty c w O F) (Keep []) Qf l Γ
  | [], L, I, B, Γ, h, hI, hG, hB => hQ L I B Γ h hI hG hB _
  | ⟨dst, op, ty, pos, af, none⟩ :: r, L, I, B, Γ, h, hI, hG, hB => tyU_sound hT hI hG hB (fun L I B Γ h hI hG hB => ty_sound hQ r L I B Γ h hI hG hB) h
  | ⟨some d, op, ty, pos, af, some (j, b)⟩ :: r, L, I, B, Γ, h, hI, hG, hB => by
    obtain ⟨o, t, g, ho, hod, hgx, h⟩ := guardAt_sound h
    exact tyG_sound hT hI hG hB ho hod hgx (fun L I B Γ h hI hG hB => ty_sound hQ r L I B Γ h hI hG hB) h
  | ⟨none, _, _, _, _, some _⟩ :: _, _, _, _, _, h, _, _, _ => h.elim
end ty
end Go.Dx
