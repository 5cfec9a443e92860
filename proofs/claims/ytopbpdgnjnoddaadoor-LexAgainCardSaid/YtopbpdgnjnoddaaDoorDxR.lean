/- Laws of one step of a walk, and of what memory holds. No condition beyond what each names. -/
import Derived.Test.YtopbpdgnjnoddaaDoorDxQ
set_option linter.unusedSimpArgs false
set_option linter.unusedVariables false
namespace Go.Dx
open Go Go.RowKit

/-! regions, typed, with the state -/
section regst
variable {P : Program} {w w0 : World} {h0 : View} {M : List Nat} {O : List OE} {F : View → Prop} {Q : Exit → Act → World → Prop} {a : Act} {sz id : Nat} {l rest : List Oper} {L : FL}

theorem region_st (n : Nat) (hF : Fr a sz L) (hS : St w0 h0 M w O F) (hv : ∀ t Φ, lk L t ≠ some (.prd Φ)) (hm : P.follows .mixedOrders = true) (hB : typT l.toArray n sz = true)
    (h : ∀ Γ, GF Γ L → TyW P l.toArray (CR (Keep []) w w0 h0 M O F) (Keep []) (TEnd P l n Q (CR (Keep []) w w0 h0 M O F) sz) (l.take n) Γ) : codeM .wp P (Code.region id l.toArray true) Q a w :=
  region_typed n hF hv hm (fun _ hk => ⟨hk, hS.step hk⟩) hB h

/-- a block that is stored to once, somewhere in a region: it holds what it held, or what it holds behind the store -/
def Either (T : TypeId) (cs cs' : List Value) : Option Obj → Prop := fun o => CellsC T cs o ∨ CellsC T cs' o

theorem region_sto {i b : Nat} {T : TypeId} {cs : List Value} (cs' : List Value) (n : Nat) (hF : Fr a sz L) (hS : St w0 h0 M w O F) (hi : O[i]? = some (some b, CellsC T cs)) (hv : ∀ t Φ, lk L t ≠ some (.prd Φ)) (hm : P.follows .mixedOrders = true) (hB : typT l.toArray n sz = true)
    (h : b < w.heap.size → ∀ Γ, GF Γ L → TyW P l.toArray (CR (SR w b (.cells cs'.toArray T (0, 0))) w w0 h0 M (O.set i (some b, Either T cs cs')) F) (SR w b (.cells cs'.toArray T (0, 0)))
      (TEnd P l n Q (CR (SR w b (.cells cs'.toArray T (0, 0))) w w0 h0 M (O.set i (some b, Either T cs cs')) F) sz) (l.take n) Γ) : codeM .wp P (Code.region id l.toArray true) Q a w := by
  have hS' : St w0 h0 M w (O.set i (some b, Either T cs cs')) F := hS.write hi (⟨rfl, rfl, rfl, Nat.le_refl _, fun _ _ _ => rfl⟩) (.inl (hS.at hi))
  have hb : b ∈ ids O := List.mem_filterMap.2 ⟨_, List.mem_of_getElem? hi, rfl⟩
  exact region_typed n hF hv hm (fun _ hk => ⟨Rel.keep hk, hS'.step hk⟩) hB (h (hS.fresh b hb).2)

theorem St.tight {i b : Nat} {T : TypeId} {cs' : List Value} {E : Option Obj → Prop} (hS : St w0 h0 M w O F) (hi : O[i]? = some (some b, E)) (h : w.heap[b]? = some (.cells cs'.toArray T (0, 0))) : St w0 h0 M w (O.set i (some b, CellsC T cs')) F :=
  hS.write hi ⟨rfl, rfl, rfl, Nat.le_refl _, fun _ _ _ => rfl⟩ h

theorem spl_spl (cs : List Value) (off : Nat) (new : List Value) (h : off + new.length ≤ cs.length) : spl (spl cs off new) off new = spl cs off new := by
  have e1 : (cs.take off).length = off := by simp; omega
  unfold spl
  rw [List.take_append_of_le_length (by rw [e1]; exact Nat.le_refl _), List.take_of_length_le (by rw [e1]; exact Nat.le_refl _)]
  congr 2
  rw [List.drop_append, e1, List.drop_of_length_le (by rw [e1]; omega), List.nil_append, List.drop_append, List.drop_of_length_le (by omega), List.nil_append]
  rw [show off + new.length - off - new.length = 0 by omega, List.drop_zero]
theorem spl_len (cs : List Value) (off : Nat) (new : List Value) (h : off + new.length ≤ cs.length) : (spl cs off new).length = cs.length := by
  simp [spl]; omega

variable {ops : Array Oper} {Qf : SP → (Nat → VP) → Prop} {Γ : Nat → VP} {t T : TypeId} {x y : Operand} {ty : TypeId} {pos : String} {af : Array Edge}
theorem t_store {i b off : Nat} {cs cs' new : List Value} {v : Value} (hb : b < w.heap.size) (hG : GF Γ L) (hi : O[i]? = some (some b, Either T cs cs')) (hx : ev L x = some (.pointer (some ⟨b, off, none⟩))) (hy : ev L y = some v)
    (hc : v.cells = new.toArray) (hsz : SzIs P t new.length) (h1 : allOne new = true) (hfit : off + new.length ≤ cs.length) (he : cs' = spl cs off new)
    (k : ∀ Γ, GF Γ L → TyW P ops (CR (SR w b (.cells cs'.toArray T (0, 0))) w w0 h0 M O F) (SR w b (.cells cs'.toArray T (0, 0))) (fun E Γ => Qf (fun σ w => w.heap[b]? = some (.cells cs'.toArray T (0, 0)) ∧ E σ w) Γ) rest Γ) :
    TyW P ops (CR (SR w b (.cells cs'.toArray T (0, 0))) w w0 h0 M O F) (SR w b (.cells cs'.toArray T (0, 0))) Qf (⟨none, .store t x y, ty, pos, af, none⟩ :: rest) Γ := by
  refine ⟨fun _ _ => True, fun _ w => w.heap[b]? = some (.cells cs'.toArray T (0, 0)), ⟨⟨fun _ _ _ _ _ h => h, fun _ _ a c hC hR _ h => hR.2.2 h⟩, fun a w1 hC hs => ?_⟩, k Γ hG⟩
  simp only [Region.wanted, if_true]
  have ex := hG.ev hs x (by simp [Op.operands]) _ hx
  have ey := hG.ev hs y (by simp [Op.operands]) _ hy
  have key : ∃ c1 : List Value, w1.heap[b]? = some (.cells c1.toArray T (0, 0)) ∧ off + new.length ≤ c1.length ∧ spl c1 off new = cs' := by
    rcases hC.st.at hi with h | h
    · exact ⟨cs, h, hfit, he.symm⟩
    · refine ⟨cs', h, ?_, ?_⟩
      · rw [he, spl_len cs off new hfit]; exact hfit
      · rw [he, spl_spl cs off new hfit]
  obtain ⟨c1, hg, hf1, hs1⟩ := key
  have hrun : (execOp a.eval ⟨none, .store t x y, ty, pos, af, none⟩).run P w1 = .ok .skip (w1.setRow b (spl c1 off new).toArray) := by
    simp only [execOp, ex, ey, Instr.storeAt, Instr.sureAddr, Sem.run_bind, Sem.run_pure, Result.andThen_ok, run_storeVar hg hc hsz h1 hf1]
  have hk : Keep [b] w1 (w1.setRow b (spl c1 off new).toArray) := keep_setRow _ _ _
  have hn : (w1.setRow b (spl c1 off new).toArray).heap[b]? = some (.cells cs'.toArray T (0, 0)) := by rw [setRow_heap w1 b _ _ T _ hg, hs1]
  have hR : SR w b (.cells cs'.toArray T (0, 0)) w1 (w1.setRow b (spl c1 off new).toArray) := ⟨hk, fun k h1 _ => setRow_other w1 b k _ (by omega), fun _ => hn⟩
  have hS := hC.st.write (C' := Either T cs cs') hi hk (.inr hn)
  have e : O.set i (some b, Either T cs cs') = O := List.ext_getElem? fun m => by
    rw [List.getElem?_set]
    split
    · rename_i hm; subst hm; rw [if_pos (List.getElem?_eq_some_iff.1 hi).1, hi]
    · rfl
  rw [e] at hS
  exact .inr ⟨_, hrun, ⟨⟨hC.rel.1.trans hk, fun k h1 h2 => absurd h2 (by omega), fun _ => hn⟩, hS⟩, hR, trivial, hn⟩
end regst
end Go.Dx
