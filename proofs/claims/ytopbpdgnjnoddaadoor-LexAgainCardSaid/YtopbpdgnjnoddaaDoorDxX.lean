/- Laws of one step of a walk, and of what memory holds. No condition beyond what each names. -/
import Derived.Test.YtopbpdgnjnoddaaDoorDxW
set_option linter.unusedSimpArgs false
set_option linter.unusedVariables false
namespace Go.Dx
open Go Go.RowKit

/-! a block that is made, and stored to once, within a region that draws its order -/
def AR (w : World) (z nw : Obj) (a b : World) : Prop :=
  b.os = a.os ∧ b.tape = a.tape ∧ b.output = a.output ∧ a.heap.size ≤ b.heap.size ∧ ∀ k, k < a.heap.size → b.heap[k]? = a.heap[k]? ∨ (w.heap.size ≤ k ∧ a.heap[k]? = some z ∧ b.heap[k]? = some nw)
theorem AR.refl (w : World) (z nw : Obj) (a : World) : AR w z nw a a := ⟨rfl, rfl, rfl, Nat.le_refl _, fun _ _ => .inl rfl⟩
theorem AR.trans {w : World} {z nw : Obj} {a b c : World} (h : AR w z nw a b) (k : AR w z nw b c) : AR w z nw a c := by
  refine ⟨k.1.trans h.1, k.2.1.trans h.2.1, k.2.2.1.trans h.2.2.1, Nat.le_trans h.2.2.2.1 k.2.2.2.1, fun i hi => ?_⟩
  have h1 := h.2.2.2.2 i hi
  have h2 := k.2.2.2.2 i (Nat.lt_of_lt_of_le hi h.2.2.2.1)
  rcases h1 with h1 | ⟨h1, h3, h4⟩
  · rcases h2 with h2 | ⟨h2, h5, h6⟩
    · exact .inl (h2.trans h1)
    · exact .inr ⟨h2, h1 ▸ h5, h6⟩
  · rcases h2 with h2 | ⟨h2, h5, h6⟩
    · exact .inr ⟨h1, h3, h2.trans h4⟩
    · exact .inr ⟨h1, h3, h6⟩
theorem AR.of_keep {w : World} {z nw : Obj} {a b : World} (h : Keep [] a b) : AR w z nw a b := ⟨h.os, h.tape, h.output, h.size, fun k hk => .inl (h.block k hk (by simp))⟩
instance (w : World) (z nw : Obj) : Rel (AR w z nw) := ⟨AR.refl w z nw, fun _ _ _ h k => h.trans (.of_keep k)⟩
theorem AR.keep {w : World} {z nw : Obj} {w1 : World} (h : AR w z nw w w1) : Keep [] w w1 := ⟨h.1, h.2.1, h.2.2.1, h.2.2.2.1, fun k hk _ => by
  rcases h.2.2.2.2 k hk with h1 | ⟨h1, _⟩
  · exact h1
  · omega⟩
def stabB (ops : Array Oper) (o : Oper) (t : Nat) : Bool := (List.range ops.size).all fun j => match ops[j]? with
  | some o' => !decide (o'.dst = some t) || o.after.any fun e => Region.binds .any e && decide (e.on = j)
  | none => true
theorem stab_of {ops : Array Oper} {o : Oper} {t : Nat} (h : stabB ops o t = true) : stab ops o t := by
  intro j o' ho hd
  have hj : j < ops.size := (Array.getElem?_eq_some_iff.1 ho).1
  have := List.all_eq_true.1 h j (List.mem_range.2 hj)
  simp only [ho, hd, decide_true, Bool.not_true, Bool.false_or, Array.any_eq_true'] at this
  obtain ⟨e, he, h2⟩ := this
  simp only [Bool.and_eq_true, decide_eq_true_eq] at h2
  exact ⟨e, he, h2.1, h2.2⟩

section al
variable {P : Program} {w w0 : World} {h0 : View} {M : List Nat} {O : List OE} {F : View → Prop} {Q : Exit → Act → World → Prop} {a : Act} {sz id : Nat} {l rest : List Oper} {L : FL}
variable {ops : Array Oper} {Qf : SP → (Nat → VP) → Prop} {Γ : Nat → VP} {t T : TypeId} {x y : Operand} {ty : TypeId} {pos : String} {af : Array Edge} {zc new : List Value}

theorem region_al (T : TypeId) (zc new : List Value) (n : Nat) (hF : Fr a sz L) (hS : St w0 h0 M w O F) (hv : ∀ t Φ, lk L t ≠ some (.prd Φ)) (hm : P.follows .mixedOrders = true) (hB : typT l.toArray n sz = true)
    (h : ∀ Γ, GF Γ L → TyW P l.toArray (CR (AR w (.cells zc.toArray T (0, 0)) (.cells new.toArray T (0, 0))) w w0 h0 M O F) (AR w (.cells zc.toArray T (0, 0)) (.cells new.toArray T (0, 0)))
      (TEnd P l n Q (CR (AR w (.cells zc.toArray T (0, 0)) (.cells new.toArray T (0, 0))) w w0 h0 M O F) sz) (l.take n) Γ) : codeM .wp P (Code.region id l.toArray true) Q a w :=
  region_typed n hF hv hm (fun _ hk => ⟨.of_keep hk, hS.step hk⟩) hB h

/-- what is known of the new block's pointer -/
def AlP (w : World) (T : TypeId) (zc new : List Value) : VP := fun v w' => ∃ b, v = .pointer (some ⟨b, 0, none⟩) ∧ w.heap.size ≤ b ∧ (w'.heap[b]? = some (.cells zc.toArray T (0, 0)) ∨ w'.heap[b]? = some (.cells new.toArray T (0, 0)))

theorem t_alloc {dd : Nat} (hG : GF Γ L) (hz : ZeroT P T zc)
    (k : ∀ Γ, GF Γ ((dd, .prd (AlP w T zc new)) :: L) → TyW P ops (CR (AR w (.cells zc.toArray T (0, 0)) (.cells new.toArray T (0, 0))) w w0 h0 M O F) (AR w (.cells zc.toArray T (0, 0)) (.cells new.toArray T (0, 0))) Qf rest Γ) :
    TyW P ops (CR (AR w (.cells zc.toArray T (0, 0)) (.cells new.toArray T (0, 0))) w w0 h0 M O F) (AR w (.cells zc.toArray T (0, 0)) (.cells new.toArray T (0, 0))) Qf (⟨some dd, .alloc T, ty, pos, af, none⟩ :: rest) Γ := by
  refine t_dp _ hG ?_ ?_ k
  · rintro v w1 w2 _ hR ⟨b, rfl, hb, hc⟩
    refine ⟨b, rfl, hb, ?_⟩
    have hlt : b < w1.heap.size := by rcases hc with h | h <;> exact (Array.getElem?_eq_some_iff.1 h).1
    rcases hR.2.2.2.2 b hlt with h1 | ⟨_, _, h1⟩
    · rw [h1]; exact hc
    · exact .inr h1
  · intro w1 hC ρ hρ
    obtain ⟨inf, zz, hi, hz, hc, _⟩ := hz
    unfold Does
    have : (execOp ρ ⟨some dd, .alloc T, ty, pos, af, none⟩).run P w1 = .ok (.value (.pointer (some ⟨w1.heap.size, 0, none⟩))) (w1.alloc (.cells zc.toArray T)) := by
      simp [execOp, Instr.alloc, zeroValue, typeInfo, hi, hz, newVar, newRow, hc]
    rw [this]
    have hk := keep_alloc w1 (.cells zc.toArray T)
    exact ⟨⟨w1.heap.size, rfl, hC.rel.2.2.2.1, .inl (heap_alloc_new w1 _)⟩, hC.step hk, hk⟩

theorem t_storeN {k : Nat} {v : Value} (hS : St w0 h0 M w O F) (hG : GF Γ L) (hk : lk L k = some (.prd (AlP w T zc new))) (hy : ev L y = some v)
    (hc : v.cells = new.toArray) (hsz : SzIs P t new.length) (h1 : allOne new = true) (hl : new.length = zc.length) (hst : stabB ops ⟨none, .store t (.tmp k) y, ty, pos, af, none⟩ k = true)
    (kk : ∀ Γ, GF Γ L → TyW P ops (CR (AR w (.cells zc.toArray T (0, 0)) (.cells new.toArray T (0, 0))) w w0 h0 M O F) (AR w (.cells zc.toArray T (0, 0)) (.cells new.toArray T (0, 0)))
      (fun E Γ => Qf (fun σ w => (∃ b, σ k = .pointer (some ⟨b, 0, none⟩) ∧ w.heap[b]? = some (.cells new.toArray T (0, 0))) ∧ E σ w) Γ) rest Γ) :
    TyW P ops (CR (AR w (.cells zc.toArray T (0, 0)) (.cells new.toArray T (0, 0))) w w0 h0 M O F) (AR w (.cells zc.toArray T (0, 0)) (.cells new.toArray T (0, 0))) Qf (⟨none, .store t (.tmp k) y, ty, pos, af, none⟩ :: rest) Γ := by
  refine ⟨fun _ _ => True, fun σ w => ∃ b, σ k = .pointer (some ⟨b, 0, none⟩) ∧ w.heap[b]? = some (.cells new.toArray T (0, 0)), ⟨⟨fun _ _ _ _ _ h => h, ?_⟩, fun a w1 hC hs => ?_⟩, kk Γ hG⟩
  · rintro σ σ' w1 w2 _ hR hσ ⟨b, hb, hh⟩
    refine ⟨b, by rw [← hσ k (stab_of hst)]; exact hb, ?_⟩
    rcases hR.2.2.2.2 b (Array.getElem?_eq_some_iff.1 hh).1 with h2 | ⟨_, _, h2⟩
    · rw [h2]; exact hh
    · exact h2
  · simp only [Region.wanted, if_true]
    have hkt : k ∈ Oper.looksAt ops ⟨none, .store t (.tmp k) y, ty, pos, af, none⟩ := by
      unfold Oper.looksAt
      exact List.mem_append_left _ (List.mem_filterMap.2 ⟨.tmp k, by simp [Op.operands], rfl⟩)
    have hΦ : AlP w T zc new (a.tmps.getD k undef) w1 := by
      have := hG k
      rw [hk] at this
      exact this _ _ (hs k hkt)
    obtain ⟨b, hbv, hbw, hcell⟩ := hΦ
    have ex : a.eval (.tmp k) = .pointer (some ⟨b, 0, none⟩) := hbv
    have ey := hG.ev hs y (by simp [Op.operands]) _ hy
    have key : ∃ c1 : List Value, w1.heap[b]? = some (.cells c1.toArray T (0, 0)) ∧ c1.length = new.length := by
      rcases hcell with h | h
      · exact ⟨zc, h, hl.symm⟩
      · exact ⟨new, h, rfl⟩
    obtain ⟨c1, hg, hl1⟩ := key
    have hspl : spl c1 0 new = new := by
      unfold spl
      rw [Nat.zero_add, List.drop_of_length_le (by omega)]
      simp
    have hrun : (execOp a.eval ⟨none, .store t (.tmp k) y, ty, pos, af, none⟩).run P w1 = .ok .skip (w1.setRow b new.toArray) := by
      have h2 := run_storeVar (P := P) (t := t) (off := 0) hg hc hsz h1 (by omega)
      rw [hspl] at h2
      simp only [execOp, ex, ey, Instr.storeAt, Instr.sureAddr, Sem.run_bind, Sem.run_pure, Result.andThen_ok, h2]
    have hn : (w1.setRow b new.toArray).heap[b]? = some (.cells new.toArray T (0, 0)) := setRow_heap w1 b _ _ T _ hg
    have hR : AR w (.cells zc.toArray T (0, 0)) (.cells new.toArray T (0, 0)) w1 (w1.setRow b new.toArray) := by
      refine ⟨rfl, rfl, rfl, by simp [World.setRow], fun j hj => ?_⟩
      by_cases hjb : j = b
      · subst hjb
        rcases hcell with h | h
        · exact .inr ⟨hbw, h, hn⟩
        · exact .inl (by rw [hn, h])
      · exact .inl (setRow_other w1 b j _ hjb)
    have hR2 := hC.rel.trans hR
    exact .inr ⟨_, hrun, ⟨hR2, hS.step hR2.keep⟩, hR, trivial, b, hbv, hn⟩

/-- behind the region the new block is one's own -/
theorem al_end {k : Nat} {w1 : World} (hS : St w0 h0 M w O F) (hC : CR (AR w (.cells zc.toArray T (0, 0)) (.cells new.toArray T (0, 0))) w w0 h0 M O F w1) (hΦ : AlP w T zc new (a.tmps.getD k undef) w1)
    (hE : ∃ b, sl a k = .pointer (some ⟨b, 0, none⟩) ∧ w1.heap[b]? = some (.cells new.toArray T (0, 0))) : ∃ b, a.tmps.getD k undef = .pointer (some ⟨b, 0, none⟩) ∧ St w0 h0 M w1 ((some b, CellsC T new) :: O) F := by
  obtain ⟨b, hb, hw, _⟩ := hΦ
  obtain ⟨b', hb', hh⟩ := hE
  have e : a.tmps.getD k undef = .pointer (some ⟨b', 0, none⟩) := hb'
  rw [hb] at e
  cases e
  exact ⟨b, hb, hS.addRow hC.rel.keep ⟨hw, hh⟩⟩
end al
end Go.Dx
