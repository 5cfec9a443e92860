/- Laws of one step of a walk, and of what memory holds. No condition beyond what each names. -/
import Derived.Test.YtopbpdgnjnoddaaDoorDxU
set_option linter.unusedSimpArgs false
set_option linter.unusedVariables false
namespace Go.Dx
open Go Go.RowKit

/-! answers that are known by what they read as -/
section q
variable {P : Program} {ops : Array Oper} {Qf : SP → (Nat → VP) → Prop} {rest : List Oper} {Γ : Nat → VP} {L : FL} {w w0 : World} {h0 : View} {M : List Nat} {O : List OE} {F : View → Prop} {ty t t2 T e : TypeId} {pos : String} {af : Array Edge}

/-- typed: a call; of its answer it is known what it reads as -/
theorem t_callQ {dd : Nat} {Φ : Value → View → Prop} {f : FuncId} {args : List Operand} {vsl : List Value} {ats : Array TypeId} (hm : ∀ v, Mono (Φ v)) (hG : GF Γ L) (hc : CallOk P f) (ha : evs L args = some vsl)
    (H : ∀ w', St w0 h0 M w' O F → Calls P f vsl.toArray w' (Ret w' (cv w0.heap.size h0 (ids O) w') Φ))
    (k : ∀ Γ, GF Γ ((dd, .prd fun v w => Φ v (cv w0.heap.size h0 (ids O) w)) :: L) → TyW P ops (CR (Keep []) w w0 h0 M O F) (Keep []) Qf rest Γ) :
    TyW P ops (CR (Keep []) w w0 h0 M O F) (Keep []) Qf (⟨some dd, .call ⟨.value (.func f), args.toArray, ats⟩, ty, pos, af, none⟩ :: rest) Γ := by
  refine t_dp _ hG ?_ (fun w1 hC => ds_call hc ha ((H w1 hC.st).mono ?_)) k
  · intro v w1 w2 hC hk hv
    exact hm v _ _ (cv_le _ _ hk (by simp) (fun b hb => .inl hb) hC.st.keep.size) hv
  · rintro e w' ⟨v, rfl, hk, hv⟩
    exact ⟨v, rfl, hm v _ _ (nv_le hC.st hk) hv, hC.step hk, hk⟩
/-- typed: a new row of one element of which a predicate alone is known -/
theorem t_build1 {dd k sz : Nat} {Φ : VP} (hG : GF Γ L) (hT : BldT P t e sz) (hk : lk L k = some (.prd Φ)) (hst : ∀ u w1 w2, CR (Keep []) w w0 h0 M O F w1 → Keep [] w1 w2 → Φ u w1 → Φ u w2) (hcs : ∀ u w1, Φ u w1 → u.cells.size = sz) (hle : 1 * sz ≤ 16777216)
    (kk : ∀ Γ, GF Γ ((dd, .prd fun v w' => ∃ b u, v = .slice (some ⟨b, 0, none⟩) 1 1 ∧ Φ u w' ∧ NewRow w e (cellsL [u]) b w') :: L) → TyW P ops (CR (Keep []) w w0 h0 M O F) (Keep []) Qf rest Γ) :
    TyW P ops (CR (Keep []) w w0 h0 M O F) (Keep []) Qf (⟨some dd, .buildSlice t 1 (enumO 0 [.tmp k]).toArray, ty, pos, af, none⟩ :: rest) Γ := by
  refine tyw_no (fun v w' => ∃ b u, v = .slice (some ⟨b, 0, none⟩) 1 1 ∧ Φ u w' ∧ NewRow w e (cellsL [u]) b w') ?_ (fun a w1 hC hs => ?_) (kk _ (hG.setP dd _))
  · rintro v w1 w2 hC hk ⟨b, u, rfl, hu, hb⟩
    exact ⟨b, u, rfl, hst u w1 w2 hC hk hu, hb.keep hk⟩
  · simp only [Region.wanted, if_true]
    refine does_open hG hs hk (by simp [Op.operands, enumO]) fun u hu => ?_
    refine (ds_build (xs := [.tmp k]) (vsl := [u]) hT rfl (by simp [evs, ev, lk_cons_eq, vl]) (fun v hv => by
      rw [List.mem_singleton.1 hv]; exact hcs u w1 hu) hle).mono ?_
    rintro v w2 ⟨rfl, rfl⟩
    have hkk := keep_alloc w1 (.cells (cellsL [u]).toArray e)
    exact ⟨hC.step hkk, hkk, _, u, rfl, hst u _ _ hC hkk hu, hC.rel.size, heap_alloc_new w1 _⟩
/-- in turn: a call; of its answer it is known what it reads as -/
theorem St.bufNv {i sz nn c : Nat} {a0 : Option Addr} {α : Type} {f : α → List Value} {l : List α} (hS : St w0 h0 [] w O F) (hi : O[i]? = some (bufE T sz (.slice a0 nn c) (l.map f).flatten)) (hf : ∀ x ∈ l, (f x).length = sz) (hn : nn = l.length) :
    SlC T sz (flatR f) (nv h0 w0 w) (.slice a0 nn c) l := by
  refine BufC.sl (hS.own _ (List.mem_of_getElem? hi)) (fun b hb => ?_) hf hn
  have hb2 : (bufE T sz (Value.slice a0 nn c) (l.map f).flatten).1 = some b := hb
  rw [hb2]
  have hmem : b ∈ ids O := List.mem_filterMap.2 ⟨_, List.mem_of_getElem? hi, hb2⟩
  have := (hS.fresh b hmem).1.resolve_right (by simp)
  show (if b < w0.heap.size then h0 b else w.heap[b]?) = w.heap[b]?
  rw [if_neg (by omega)]
theorem St.factsNv (hS : St w0 h0 [] w O F) : F (nv h0 w0 w) := hS.mono _ _ (fun k o hk => by
  unfold cv at hk
  unfold nv
  split at hk
  · cases hk
  · exact hk) hS.facts
theorem St.baseNv (hS : St w0 h0 [] w O F) : VLe h0 (nv h0 w0 w) := fun k o hk => by
  have := (hS.vw k o hk).1
  show (if k < w0.heap.size then h0 k else w.heap[k]?) = some o
  rw [if_pos (Array.getElem?_eq_some_iff.1 this).1]; exact hk
theorem nv_full {h : View} {w w' : World} (hk : Keep [] w w') (hv : VLe h (Full w)) : VLe (nv h w w') (Full w') := fun k o ho => by
  unfold nv at ho
  split at ho
  · rename_i hlt
    show w'.heap[k]? = some o
    rw [hk.block k hlt (by simp)]; exact hv k o ho
  · exact ho
end q
end Go.Dx
