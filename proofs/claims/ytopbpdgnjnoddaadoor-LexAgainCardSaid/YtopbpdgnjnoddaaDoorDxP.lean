/- Laws of one step of a walk, and of what memory holds. No condition beyond what each names. -/
import Derived.Test.YtopbpdgnjnoddaaDoorDxO
set_option linter.unusedSimpArgs false
set_option linter.unusedVariables false
namespace Go.Dx
open Go Go.RowKit

section open_
variable {P : Program} {ops : Array Oper} {C : World → Prop} {R : World → World → Prop} [hR : Rel R] {Qf : SP → (Nat → VP) → Prop} {rest : List Oper} {Γ : Nat → VP} {L : FL} {op : Op} {ty t t2 T e : TypeId} {pos : String} {af : Array Edge}

/-- an operand of which a predicate alone is known: for whatever value -/
theorem does_open {a : Act} {w : World} {o : Oper} {k : Nat} {Φ Post : VP} (hG : GF Γ L) (hs : ∀ t ∈ o.looksAt ops, Γ t (a.tmps.getD t undef) w) (hk : lk L k = some (.prd Φ)) (hm : Operand.tmp k ∈ o.op.operands)
    (h : ∀ v, Φ v w → Ds P ((k, .val v) :: L) o w Post) : Does P o a.eval w Post := by
  have hkt : k ∈ o.looksAt ops := by
    unfold Oper.looksAt
    exact List.mem_append_left _ (List.mem_filterMap.2 ⟨.tmp k, by simpa using hm, rfl⟩)
  have hΦ : Φ (a.tmps.getD k undef) w := by
    have := hG k
    rw [hk] at this
    exact this _ _ (hs k hkt)
  refine h _ hΦ a.eval fun x hx u hu => ?_
  cases x with
  | tmp t =>
    by_cases ht : k = t
    · subst ht
      have : a.tmps.getD k undef = u := by simpa [Dx.ev, lk_cons_eq, vl] using hu
      exact this
    · refine hG.ev hs _ hx u ?_
      simpa [Dx.ev, lk_cons_ne ht] using hu
  | const c => exact hG.ev hs (.const c) hx u hu
  | global c => exact hG.ev hs (.global c) hx u hu
  | func c => exact hG.ev hs (.func c) hx u hu

theorem t_dsP {d k : Nat} {Φ : VP} {v : Value} (hG : GF Γ L) (hk : lk L k = some (.prd Φ)) (hm : Operand.tmp k ∈ op.operands) (h : ∀ w, C w → ∀ u, Φ u w → Ds P ((k, .val u) :: L) ⟨some d, op, ty, pos, af, none⟩ w fun u w' => u = v ∧ C w' ∧ Keep [] w w')
    (kk : ∀ Γ, GF Γ ((d, .val v) :: L) → TyW P ops C R Qf rest Γ) : TyW P ops C R Qf (⟨some d, op, ty, pos, af, none⟩ :: rest) Γ := by
  refine tyw_no (fun u _ => u = v) (fun _ _ _ _ _ h => h) (fun a w hC hs => ?_) (kk _ (hG.set d v fun _ _ h => h))
  simp only [Region.wanted, if_true]
  have := does_open (P := P) hG hs hk hm (h w hC)
  unfold Does at *
  generalize (execOp a.eval _).run P w = r at *
  cases r with
  | ok nx w' =>
    cases nx <;> simp only [DoesR] at this ⊢
    case value u => exact ⟨this.2.1, Rel.keep this.2.2, this.1⟩
    case enter f args => exact this.mono fun e w'' ⟨u, he, hv⟩ => ⟨u, he, hv.2.1, Rel.keep hv.2.2, hv.1⟩
  | halt x w' => exact this.elim
theorem tg_dsP {d j k : Nat} {b c : Bool} {Φ : VP} {v : Value} (hG : GF Γ L) (hg : gdIs ops L j b) (hb : b = c) (hk : lk L k = some (.prd Φ)) (hm : Operand.tmp k ∈ op.operands) (h : ∀ w, C w → ∀ u, Φ u w → Ds P ((k, .val u) :: L) ⟨some d, op, ty, pos, af, some (j, c)⟩ w fun u w' => u = v ∧ C w' ∧ Keep [] w w')
    (kk : ∀ Γ, GF Γ ((d, .val v) :: L) → TyW P ops C R Qf rest Γ) : TyW P ops C R Qf (⟨some d, op, ty, pos, af, some (j, c)⟩ :: rest) Γ := by
  subst hb
  refine tyw_no (fun u _ => u = v) (fun _ _ _ _ _ h => h) (fun a w hC hs => ?_) (kk _ (hG.set d v fun _ _ h => h))
  have : Region.wanted ⟨some d, op, ty, pos, af, some (j, b)⟩ (yielded ops a.tmps) = true := by
    simp only [Region.wanted, ty_yielded hG hg ⟨b, rfl⟩ hs]
    simp
  rw [if_pos this]
  have := does_open (P := P) hG hs hk hm (h w hC)
  unfold Does at *
  generalize (execOp a.eval _).run P w = r at *
  cases r with
  | ok nx w' =>
    cases nx <;> simp only [DoesR] at this ⊢
    case value u => exact ⟨this.2.1, Rel.keep this.2.2, this.1⟩
    case enter f args => exact this.mono fun e w'' ⟨u, he, hv⟩ => ⟨u, he, hv.2.1, Rel.keep hv.2.2, hv.1⟩
  | halt x w' => exact this.elim
end open_

section calls
variable {P : Program} {ops : Array Oper} {R : World → World → Prop} [hR : Rel R] {Qf : SP → (Nat → VP) → Prop} {rest : List Oper} {Γ : Nat → VP} {L : FL} {w w0 : World} {h0 : View} {M : List Nat} {O : List OE} {F : View → Prop} {ty t t2 T e : TypeId} {pos : String} {af : Array Edge}
/-- typed: a call with an argument of which a predicate alone is known -/
theorem t_callP {dd k : Nat} {Φ : VP} {f : FuncId} {args : List Operand} {vf : Value → List Value} {ats : Array TypeId} {v : Value} (hG : GF Γ L) (hc : CallOk P f) (hk : lk L k = some (.prd Φ)) (hm : Operand.tmp k ∈ args) (ha : ∀ u, evs ((k, .val u) :: L) args = some (vf u))
    (H : ∀ w' u, St w0 h0 M w' O F → Φ u w' → ∃ h, Calls P f (vf u).toArray w' (Ret w' h fun u _ => u = v))
    (kk : ∀ Γ, GF Γ ((dd, .val v) :: L) → TyW P ops (CR R w w0 h0 M O F) R Qf rest Γ) :
    TyW P ops (CR R w w0 h0 M O F) R Qf (⟨some dd, .call ⟨.value (.func f), args.toArray, ats⟩, ty, pos, af, none⟩ :: rest) Γ := by
  refine t_dsP hG hk (by simp [Op.operands, Call.operands, hm]) (fun w1 hC u hu => ?_) kk
  obtain ⟨h, H⟩ := H w1 u (hC.st) hu
  refine ds_call hc (ha u) (H.mono ?_)
  rintro e w' ⟨u, rfl, hk, rfl⟩
  exact ⟨u, rfl, rfl, hC.step hk, hk⟩
theorem tg_callP {dd j k : Nat} {b c : Bool} {Φ : VP} {f : FuncId} {args : List Operand} {vf : Value → List Value} {ats : Array TypeId} {v : Value} (hG : GF Γ L) (hg : gdIs ops L j b) (hb : b = c) (hc : CallOk P f) (hk : lk L k = some (.prd Φ)) (hm : Operand.tmp k ∈ args) (ha : ∀ u, evs ((k, .val u) :: L) args = some (vf u))
    (H : ∀ w' u, St w0 h0 M w' O F → Φ u w' → ∃ h, Calls P f (vf u).toArray w' (Ret w' h fun u _ => u = v))
    (kk : ∀ Γ, GF Γ ((dd, .val v) :: L) → TyW P ops (CR R w w0 h0 M O F) R Qf rest Γ) :
    TyW P ops (CR R w w0 h0 M O F) R Qf (⟨some dd, .call ⟨.value (.func f), args.toArray, ats⟩, ty, pos, af, some (j, c)⟩ :: rest) Γ := by
  refine tg_dsP hG hg hb hk (by simp [Op.operands, Call.operands, hm]) (fun w1 hC u hu => ?_) kk
  obtain ⟨h, H⟩ := H w1 u (hC.st) hu
  refine ds_call hc (ha u) (H.mono ?_)
  rintro e w' ⟨u, rfl, hk, rfl⟩
  exact ⟨u, rfl, rfl, hC.step hk, hk⟩
theorem tg_build [hN : RelN w R] {dd j sz len : Nat} {b c : Bool} {xs : List Operand} {vsl : List Value} (hG : GF Γ L) (hg : gdIs ops L j b) (hb : b = c) (hT : BldT P t e sz) (hl : xs.length = len) (hv : evs L xs = some vsl) (hcs : ∀ v ∈ vsl, v.cells.size = sz) (hle : len * sz ≤ 16777216)
    (k : ∀ Γ, GF Γ ((dd, .prd fun v w' => ∃ b, v = .slice (some ⟨b, 0, none⟩) len len ∧ NewRow w e (cellsL vsl) b w') :: L) → TyW P ops (CR R w w0 h0 M O F) R Qf rest Γ) :
    TyW P ops (CR R w w0 h0 M O F) R Qf (⟨some dd, .buildSlice t len (enumO 0 xs).toArray, ty, pos, af, some (j, c)⟩ :: rest) Γ := by
  refine tg_dp _ hG hg hb ?_ ?_ k
  · rintro v w1 w2 _ hk ⟨b, rfl, hb⟩
    refine ⟨b, rfl, hb.1, ?_⟩
    rw [hN.new w1 w2 b hk hb.1 (Array.getElem?_eq_some_iff.1 hb.2).1]; exact hb.2
  · intro w1 hC
    refine (ds_build hT hl hv hcs hle).mono ?_
    rintro v w2 ⟨rfl, rfl⟩
    exact ⟨⟨_, rfl, hN.size w w1 hC.rel, heap_alloc_new w1 _⟩, hC.step (keep_alloc _ _), keep_alloc _ _⟩
end calls
end Go.Dx
