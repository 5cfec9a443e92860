/- Laws of one step of a walk, and of what memory holds. No condition beyond what each names. -/
import Derived.Test.YtopbpdgnjnoddaaDoorDxV
set_option linter.unusedSimpArgs false
set_option linter.unusedVariables false
namespace Go.Dx
open Go Go.RowKit

section mk
variable {md : Md} {P : Program} {opsA : Array Oper} {rest : List Oper} {Q : Exit → Act → World → Prop} {a : Act} {w w0 : World} {h0 : View} {M : List Nat} {O : List OE} {F : View → Prop} {n : Nat} {L : FL}
variable {op : Op} {d : Option Nat} {ty t t2 T e : TypeId} {pos : String} {af : Array Edge} {g : Option (Nat × Bool)} {x y : Operand}

theorem keep_below {w w' : World} (h : Below w.heap.size w w') : Keep [] w w' := ⟨h.os, h.tape, h.output, h.size, fun k hk _ => h.block k hk⟩
theorem calls_below {f : FuncId} {args : Array Value} {v : Value} {h : View} (H : Calls P f args w fun e w' => e = .returned v ∧ Below w.heap.size w w') : Calls P f args w (Ret w h fun u _ => u = v) :=
  H.mono fun e w' ⟨he, hb⟩ => ⟨v, he, keep_below hb, rfl⟩

/-- a row of zero bytes -/
theorem s_make8 {dd m : Nat} {k1 k2 : IntKind} (hF : Fr a n L) (hS : St w0 h0 M w O F) (ht : P.underlying t = some (.slice e)) (hz : ∃ i, P.info? e = some i ∧ i.zero = some (.int .u8 0) ∧ i.size = 1 ∧ i.bytes = 1)
    (hx : ev L x = some (.int k1 (m : Int))) (hy : ev L y = some (.int k2 (m : Int))) (hm0 : 0 < m) (hm : m ≤ 1000000) (hd : Nat.blt dd n = true)
    (k : ∀ b w' a, St w0 h0 M w' (bufE e 1 (.slice (some ⟨b, 0, none⟩) m m) ((List.replicate m (0 : UInt8)).map v8) :: O) F → Fr a n ((dd, .val (.slice (some ⟨b, 0, none⟩) m m)) :: L) → wpM md P opsA Q rest a w') :
    wpM md P opsA Q (⟨some dd, .makeSlice t x y, ty, pos, af, none⟩ :: rest) a w := by
  obtain ⟨i, hi, hzz, hs, hb⟩ := hz
  have e2 : IntKind.i64.wrap (m : Int) = (m : Int) := wrap_i64 (by omega) (by omega)
  have hroom : ¬ (m * 1 > roomBytes) := by simp only [roomBytes]; omega
  have hrun : Ds P L ⟨some dd, .makeSlice t x y, ty, pos, af, none⟩ w fun v' w' => v' = .slice (some ⟨w.heap.size, 0, none⟩) m m ∧ w' = w.alloc (.cells ((List.replicate m (0 : UInt8)).map v8).toArray e) := by
    intro ρ hρ
    have h1 : ¬ ((281474976710656 : Int) < (m : Int)) := by omega
    unfold Does
    have hr : (Instr.makeSlice t (.int k1 (m : Int)) (.int k2 (m : Int))).run P w = .ok (.slice (some ⟨w.heap.size, 0, none⟩) m m) (w.alloc (.cells ((List.replicate m (0 : UInt8)).map v8).toArray e)) := by
      have hne : ¬ m = 0 := by omega
      unfold Instr.makeSlice
      simp [run_underlying ht, asInt, asIntOf, typeInfo, hi, e2, sizeOf, hs, hb, newRow, zeroValue, hzz, Value.cells, h1, show ¬ (m : Int) < 0 by omega, askRoom, hne, show ¬ roomBytes < m by simp only [roomBytes]; omega]
      congr 2
      apply Array.toList_inj.1
      apply List.ext_getElem?
      intro j
      by_cases hj : j < m
      · simp [hj, Nat.mod_one, v8]
      · simp [hj]
    have : (execOp ρ ⟨some dd, .makeSlice t x y, ty, pos, af, none⟩).run P w = .ok (.value (.slice (some ⟨w.heap.size, 0, none⟩) m m)) (w.alloc (.cells ((List.replicate m (0 : UInt8)).map v8).toArray e)) := by
      simp only [execOp, hρ x (by simp [Op.operands]) _ hx, hρ y (by simp [Op.operands]) _ hy, Sem.run_bind, hr, Result.andThen_ok, Sem.run_pure]
    rw [this]
    exact ⟨rfl, rfl⟩
  refine s_ds hF hrun hd ?_
  rintro v' w' a' ⟨rfl, rfl⟩ hF'
  refine k _ _ _ ?_ hF'
  refine hS.new _ (C := BufC e 1 (.slice (some ⟨w.heap.size, 0, none⟩) m m) ((List.replicate m (0 : UInt8)).map v8)) (.inr ⟨w.heap.size, 0, m, m, ((List.replicate m (0 : UInt8)).map v8).toArray, (0, 0), rfl, rfl, ?_, ?_, Nat.le_refl _, ?_, ?_, ?_⟩)
  · exact noFz00 _
  · simp
  · simp only [maxLen]; omega
  · simp
  · simp
end mk
end Go.Dx
