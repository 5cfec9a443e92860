/- Laws of one step of a walk, and of what memory holds. No condition beyond what each names. -/
import Derived.Test.YtopbpdgnjnoddaaDoorDxR
import Derived.Laws.RangeAny
import Derived.Laws.StructEq
set_option linter.unusedSimpArgs false
set_option linter.unusedVariables false
namespace Go.Dx
open Go Go.RowKit

/-! a text, gone through by its letters -/
section iter
variable {md : Md} {P : Program} {opsA : Array Oper} {rest : List Oper} {Q : Exit → Act → World → Prop} {a : Act} {w w0 : World} {h0 : View} {M : List Nat} {O : List OE} {F : View → Prop} {n : Nat} {L : FL}
variable {op : Op} {d : Option Nat} {ty t t2 T e : TypeId} {pos : String} {af : Array Edge} {g : Option (Nat × Bool)} {x y : Operand}

def IterC (s : List UInt8) (k : Nat) : Option Obj → Prop := fun o => o = some (.stringIter ⟨s.toArray⟩ k)

theorem s_range {dd : Nat} {s : List UInt8} (hF : Fr a n L) (hS : St w0 h0 M w O F) (ht : P.underlying t = some .string) (hx : ev L x = some (vs s)) (hd : Nat.blt dd n = true)
    (k : ∀ b w' a, St w0 h0 M w' ((some b, IterC s 0) :: O) F → Fr a n ((dd, .val (.pointer (some ⟨b, 0, none⟩))) :: L) → wpM md P opsA Q rest a w') :
    wpM md P opsA Q (⟨some dd, .range t x, ty, pos, af, none⟩ :: rest) a w := by
  have hrun : Ds P L ⟨some dd, .range t x, ty, pos, af, none⟩ w fun v' w' => v' = .pointer (some ⟨w.heap.size, 0, none⟩) ∧ w' = w.alloc (.stringIter ⟨s.toArray⟩ 0) := by
    intro ρ hρ
    unfold Does
    have : (execOp ρ ⟨some dd, .range t x, ty, pos, af, none⟩).run P w = .ok (.value (.pointer (some ⟨w.heap.size, 0, none⟩))) (w.alloc (.stringIter ⟨s.toArray⟩ 0)) := by
      simp only [execOp, hρ x (by simp [Op.operands]) _ hx, vs, Sem.run_bind, run_range_string w t _ ht, Result.andThen_ok]
      rfl
    rw [this]
    exact ⟨rfl, rfl⟩
  refine s_ds hF hrun hd ?_
  rintro v' w' a' ⟨rfl, rfl⟩ hF'
  exact k _ _ _ (hS.new _ rfl) hF'

theorem run_next_at (w : World) (b : Nat) (s : ByteArray) (k : Nat) (ty : TypeId) (hb : w.heap[b]? = some (.stringIter s k)) (h : k < s.size) :
    (Instr.next (.pointer (some ⟨b, 0, none⟩)) true ty).run P w =
      .ok (.tuple #[.bool true, .int .i64 k, .int .i32 (Utf8.decode s k).1]) { w with heap := w.heap.setIfInBounds b (.stringIter s (k + (Utf8.decode s k).2)) } := by
  simp only [Instr.next, getObj, setObj, Sem.run_bind, Sem.run, hb, Result.andThen, h, if_true]
  simp [goInt, Sem.run]
theorem run_next_over (w : World) (b : Nat) (s : ByteArray) (k : Nat) (ty : TypeId) (hb : w.heap[b]? = some (.stringIter s k)) (h : ¬ k < s.size) :
    (Instr.next (.pointer (some ⟨b, 0, none⟩)) true ty).run P w = .ok (.tuple #[.bool false]) w := by
  simp [Instr.next, getObj, Sem.run, hb, h]
theorem keep_setI (w : World) (b : Nat) (o : Obj) : Keep [b] w { w with heap := w.heap.setIfInBounds b o } :=
  ⟨rfl, rfl, rfl, by simp, fun k _ hk => by
    show (w.heap.setIfInBounds b o)[k]? = w.heap[k]?
    rw [Array.getElem?_setIfInBounds_ne]
    intro e; exact hk (by simp [e])⟩

/-- one letter more, or the end -/
theorem s_next {dd i b p : Nat} {s : List UInt8} (hF : Fr a n L) (hS : St w0 h0 M w O F) (hi : O[i]? = some (some b, IterC s p)) (hx : ev L x = some (.pointer (some ⟨b, 0, none⟩))) (hd : Nat.blt dd n = true)
    (k1 : p < s.length → ∀ w' a, St w0 h0 M w' (O.set i (some b, IterC s (p + (Utf8.decode ⟨s.toArray⟩ p).2))) F → Fr a n ((dd, .val (.tuple #[.bool true, .int .i64 p, .int .i32 (Utf8.decode ⟨s.toArray⟩ p).1])) :: L) → wpM md P opsA Q rest a w')
    (k2 : ¬ p < s.length → ∀ a, Fr a n ((dd, .val (.tuple #[.bool false])) :: L) → wpM md P opsA Q rest a w) :
    wpM md P opsA Q (⟨some dd, .next x true, ty, pos, af, none⟩ :: rest) a w := by
  have hb : w.heap[b]? = some (.stringIter ⟨s.toArray⟩ p) := hS.at hi
  by_cases hp : p < s.length
  · have hrun : Ds P L ⟨some dd, .next x true, ty, pos, af, none⟩ w fun v' w' => v' = .tuple #[.bool true, .int .i64 p, .int .i32 (Utf8.decode ⟨s.toArray⟩ p).1] ∧ w' = { w with heap := w.heap.setIfInBounds b (.stringIter ⟨s.toArray⟩ (p + (Utf8.decode ⟨s.toArray⟩ p).2)) } := by
      intro ρ hρ
      unfold Does
      have : (execOp ρ ⟨some dd, .next x true, ty, pos, af, none⟩).run P w = .ok (.value (.tuple #[.bool true, .int .i64 p, .int .i32 (Utf8.decode ⟨s.toArray⟩ p).1])) { w with heap := w.heap.setIfInBounds b (.stringIter ⟨s.toArray⟩ (p + (Utf8.decode ⟨s.toArray⟩ p).2)) } := by
        simp only [execOp, hρ x (by simp [Op.operands]) _ hx, Sem.run_bind, run_next_at w b _ p ty hb (by rw [size_mk]; exact hp), Result.andThen_ok]
        rfl
      rw [this]
      exact ⟨rfl, rfl⟩
    refine s_ds hF hrun hd ?_
    rintro v' w' a' ⟨rfl, rfl⟩ hF'
    refine k1 hp _ _ (hS.write hi (keep_setI _ _ _) ?_) hF'
    have hlt : b < w.heap.size := (Array.getElem?_eq_some_iff.1 hb).1
    show (w.heap.setIfInBounds b _)[b]? = _
    simp [hlt]
  · have hrun : Ds P L ⟨some dd, .next x true, ty, pos, af, none⟩ w fun v' w' => v' = .tuple #[.bool false] ∧ w' = w := by
      intro ρ hρ
      unfold Does
      have : (execOp ρ ⟨some dd, .next x true, ty, pos, af, none⟩).run P w = .ok (.value (.tuple #[.bool false])) w := by
        simp only [execOp, hρ x (by simp [Op.operands]) _ hx, Sem.run_bind, run_next_over w b _ p ty hb (by rw [size_mk]; exact hp), Result.andThen_ok]
        rfl
      rw [this]
      exact ⟨rfl, rfl⟩
    refine s_ds hF hrun hd ?_
    rintro v' w' a' ⟨rfl, rfl⟩ hF'
    exact k2 hp _ hF'
theorem decode_lo {s : List UInt8} {p : Nat} (h : p < s.length) (ha : (s.getD p 0).toNat < 128) : Utf8.decode ⟨s.toArray⟩ p = ((s.getD p 0).toNat, 1) := by
  have hp : p < (ByteArray.mk s.toArray).size := by rw [size_mk]; exact h
  have e : (ByteArray.mk s.toArray)[p]'hp = s.getD p 0 := by
    have := mk_get s p h
    rw [getElem?_pos _ p hp] at this
    exact Option.some.inj this
  rw [decode_ascii _ p hp (by rw [e]; exact ha), e]
theorem decode_hi {s : List UInt8} {p : Nat} (h : p < s.length) (ha : 128 ≤ (s.getD p 0).toNat) : 128 ≤ (Utf8.decode ⟨s.toArray⟩ p).1 ∧ 1 ≤ (Utf8.decode ⟨s.toArray⟩ p).2 := by
  have hp : p < (ByteArray.mk s.toArray).size := by rw [size_mk]; exact h
  have e : (ByteArray.mk s.toArray)[p]'hp = s.getD p 0 := by
    have := mk_get s p h
    rw [getElem?_pos _ p hp] at this
    exact Option.some.inj this
  exact decode_high _ p hp (by rw [e]; exact ha)
end iter
end Go.Dx
