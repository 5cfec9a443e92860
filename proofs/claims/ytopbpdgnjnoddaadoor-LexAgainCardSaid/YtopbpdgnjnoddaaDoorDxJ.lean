/- Laws of one step of a walk, and of what memory holds. No condition beyond what each names. -/
import Derived.Test.YtopbpdgnjnoddaaDoorDxI
set_option linter.unusedSimpArgs false
set_option linter.unusedVariables false
namespace Go.Dx
open Go Go.RowKit

def flat (css : List (List Value)) : List Value := css.flatten

section mem
variable {md : Md} {P : Program} {opsA : Array Oper} {rest : List Oper} {Q : Exit → Act → World → Prop} {a : Act} {w w0 : World} {h0 : View} {M : List Nat} {O : List OE} {F : View → Prop} {n : Nat} {L : FL}
variable {op : Op} {d : Option Nat} {ty t t2 T e : TypeId} {pos : String} {af : Array Edge} {g : Option (Nat × Bool)} {x y : Operand}

/-! slices of slices -/
theorem run_bound_i {k : IntKind} {i : Int} {m : Nat} {c : BoundsCode} (h0 : 0 ≤ i) (h1 : i ≤ m) : (Instr.sliceBound (.int k i) m c).run P w = .ok i.toNat w := run_bound h0 h1
theorem pu_sl_to {k : IntKind} {i : Int} {ad : Option Addr} {nn c sz : Nat} (ht : SlT P t e sz) (hx : ev L x = some (.slice ad nn c)) (hy : ev L y = some (.int k i)) (hi0 : 0 ≤ i) (hi1 : i ≤ c) :
    Pu P L ⟨d, .slice t x none (some y) none, ty, pos, af, g⟩ w (.slice ad i.toNat c) := by
  intro ρ hρ
  obtain ⟨ht, inf, hi, hsz⟩ := ht
  simp only [execOp, hρ x (by simp [Op.operands]) _ hx, Option.map_some, Option.map_none, hρ y (by simp [Op.operands]) _ hy]
  unfold Instr.sliceAt Instr.slice Instr.sliceBounds
  have key : ∀ (z : Option Addr), (if c = 0 then z else z.map (·.add (0 * inf.size))) = z := by
    intro z; split
    · rfl
    · cases z <;> simp [Addr.add]
  simp [run_underlying ht, run_bound hi0 hi1, sizeOf, typeInfo, hi]
  cases ad with
  | none => simp
  | some q => simp [Addr.add]
theorem pu_sl_from {k : IntKind} {i : Int} {ad : Option Addr} {nn c sz : Nat} (ht : SlT P t e sz) (hx : ev L x = some (.slice ad nn c)) (hy : ev L y = some (.int k i)) (hi0 : 0 ≤ i) (hi1 : i ≤ nn) (hnc : nn ≤ c) :
    Pu P L ⟨d, .slice t x (some y) none none, ty, pos, af, g⟩ w (.slice (if c = i.toNat then ad else ad.map (·.add (i.toNat * sz))) (nn - i.toNat) (c - i.toNat)) := by
  intro ρ hρ
  obtain ⟨ht, inf, hi, hsz⟩ := ht
  subst hsz
  simp only [execOp, hρ x (by simp [Op.operands]) _ hx, Option.map_some, Option.map_none, hρ y (by simp [Op.operands]) _ hy]
  unfold Instr.sliceAt Instr.slice Instr.sliceBounds
  simp [run_underlying ht, run_bound hi0 hi1, sizeOf, typeInfo, hi]
theorem pu_sl_fromto {k k' : IntKind} {i j : Int} {z : Operand} {ad : Option Addr} {nn c sz : Nat} (ht : SlT P t e sz) (hx : ev L x = some (.slice ad nn c)) (hy : ev L y = some (.int k i)) (hz : ev L z = some (.int k' j)) (hi0 : 0 ≤ i) (hij : i ≤ j) (hj : j ≤ c) :
    Pu P L ⟨d, .slice t x (some y) (some z) none, ty, pos, af, g⟩ w (.slice (if c = i.toNat then ad else ad.map (·.add (i.toNat * sz))) (j.toNat - i.toNat) (c - i.toNat)) := by
  intro ρ hρ
  obtain ⟨ht, inf, hi, hsz⟩ := ht
  subst hsz
  simp only [execOp, hρ x (by simp [Op.operands]) _ hx, Option.map_some, Option.map_none, hρ y (by simp [Op.operands]) _ hy, hρ z (by simp [Op.operands]) _ hz]
  unfold Instr.sliceAt Instr.slice Instr.sliceBounds
  simp [run_underlying ht, run_bound (show 0 ≤ j by omega) hj, run_bound hi0 (show i ≤ ((j.toNat : Nat) : Int) by omega), sizeOf, typeInfo, hi]
/-- an array's slice -/
theorem pu_ar_slice {b o nn sz : Nat} {lo hi : Option Operand} {i j : Nat} (ht : ArT P t nn e sz) (hx : ev L x = some (.pointer (some ⟨b, o, none⟩)))
    (hlo : match lo with | none => i = 0 | some q => ∃ k : IntKind, ev L q = some (.int k i)) (hhi : match hi with | none => j = nn | some q => ∃ k : IntKind, ev L q = some (.int k j)) (hij : i ≤ j) (hj : j ≤ nn) :
    Pu P L ⟨d, .slice t x lo hi none, ty, pos, af, g⟩ w (.slice (some (if nn = i then ⟨b, o, none⟩ else ⟨b, o + i * sz, none⟩)) (j - i) (nn - i)) := by
  intro ρ hρ
  obtain ⟨ht, inf, hinf, hsz⟩ := ht
  subst hsz
  have hb : (Instr.sliceBounds false nn nn (lo.map ρ) (hi.map ρ) none).run P w = .ok (i, j, nn) w := by
    unfold Instr.sliceBounds
    cases lo with
    | none =>
      cases hi with
      | none => simp at hlo hhi; subst hlo hhi; simp
      | some q =>
        obtain ⟨k, hk⟩ := hhi
        simp at hlo; subst hlo
        simp [hρ q (by simp [Op.operands]) _ hk, run_bound (show (0 : Int) ≤ (j : Int) by omega) (show (j : Int) ≤ (nn : Int) by omega)]
    | some q =>
      obtain ⟨k, hk⟩ := hlo
      cases hi with
      | none =>
        simp at hhi; subst hhi
        simp [hρ q (by simp [Op.operands]) _ hk, run_bound (show (0 : Int) ≤ (i : Int) by omega) (show (i : Int) ≤ (j : Int) by omega)]
      | some r =>
        obtain ⟨k', hk'⟩ := hhi
        simp [hρ q (by simp [Op.operands]) _ hk, hρ r (by simp [Op.operands]) _ hk', run_bound (show (0 : Int) ≤ (i : Int) by omega) (show (i : Int) ≤ (j : Int) by omega), run_bound (show (0 : Int) ≤ (j : Int) by omega) (show (j : Int) ≤ (nn : Int) by omega)]
  simp only [execOp, hρ x (by simp [Op.operands]) _ hx, Option.map_none]
  unfold Instr.sliceAt
  simp [run_underlying ht, Instr.sureAddr, hb, sizeOf, typeInfo, hinf, add_mk]

/-! make -/
theorem s_make0 {dd bytes sz : Nat} {k1 k2 : IntKind} {c : Int} (hF : Fr a n L) (hS : St w0 h0 M w O F) (ht : P.underlying t = some (.slice e)) (hT : ∃ i z, P.info? e = some i ∧ i.zero = some z ∧ z.cells.size = i.size ∧ i.size = sz ∧ i.bytes = bytes)
    (hx : ev L x = some (.int k1 0)) (hy : ev L y = some (.int k2 c)) (hc0 : 0 ≤ c) (hc1 : c * ((bytes : Int) + 1) ≤ 140737488355328) (hd : Nat.blt dd n = true)
    (k : ∀ b w' a, St w0 h0 M w' (bufE e sz (.slice (some ⟨b, 0, none⟩) 0 c.toNat) [] :: O) F → Fr a n ((dd, .val (.slice (some ⟨b, 0, none⟩) 0 c.toNat)) :: L) → wpM md P opsA Q rest a w') :
    wpM md P opsA Q (⟨some dd, .makeSlice t x y, ty, pos, af, none⟩ :: rest) a w := by
  obtain ⟨i, z, hi, hz, hzs, rfl, rfl⟩ := hT
  obtain ⟨m, rfl⟩ := Int.eq_ofNat_of_zero_le hc0
  have hle : (m : Int) ≤ (m : Int) * ((i.bytes : Int) + 1) := by
    have : (m : Int) * 1 ≤ (m : Int) * ((i.bytes : Int) + 1) := Int.mul_le_mul_of_nonneg_left (by omega) (by omega)
    omega
  have hb : (i.bytes : Int) * (m : Int) ≤ 140737488355328 := by
    have : (m : Int) * ((i.bytes : Int) + 1) = (i.bytes : Int) * m + m := by rw [Int.mul_add, Int.mul_comm]; omega
    omega
  have hw0 : IntKind.i64.wrap 0 = 0 := by decide
  have hwm : IntKind.i64.wrap (m : Int) = (m : Int) := wrap_i64 (by omega) (by omega)
  have hroom : ¬ (m * i.bytes > roomBytes) := by
    have : ((m * i.bytes : Nat) : Int) ≤ 140737488355328 := by rw [Int.natCast_mul, Int.mul_comm]; exact hb
    simp only [roomBytes]; omega
  have hrun : Ds P L ⟨some dd, .makeSlice t x y, ty, pos, af, none⟩ w fun v' w' => ∃ cs : Array Value, cs.size = m * i.size ∧ v' = .slice (some ⟨w.heap.size, 0, none⟩) 0 m ∧ w' = w.alloc (.cells cs e) := by
    intro ρ hρ
    have h1 : ¬ ((281474976710656 : Int) < (i.bytes : Int) * (m : Int)) := by omega
    unfold Does
    have hrun : ∃ cs : Array Value, cs.size = m * i.size ∧ (Instr.makeSlice t (.int k1 0) (.int k2 m)).run P w = .ok (.slice (some ⟨w.heap.size, 0, none⟩) 0 m) (w.alloc (.cells cs e)) := by
      by_cases hn0 : m * i.size = 0
      · refine ⟨(Array.range (m * i.size)).map fun j => (#[] : Array Value)[j % 0]!, by simp, ?_⟩
        unfold Instr.makeSlice
        simp [run_underlying ht, asInt, asIntOf, typeInfo, hi, hw0, hwm, h1, askRoom, hroom, sizeOf, hn0, newRow, show ¬ (m : Int) < 0 by omega]
      · refine ⟨(Array.range (m * i.size)).map fun j => z.cells[j % z.cells.size]!, by simp, ?_⟩
        unfold Instr.makeSlice
        simp [run_underlying ht, asInt, asIntOf, typeInfo, hi, hw0, hwm, h1, askRoom, hroom, sizeOf, hn0, newRow, zeroValue, hz, show ¬ (m : Int) < 0 by omega]
    obtain ⟨cs, hcs, hr⟩ := hrun
    have : (execOp ρ ⟨some dd, .makeSlice t x y, ty, pos, af, none⟩).run P w = .ok (.value (.slice (some ⟨w.heap.size, 0, none⟩) 0 m)) (w.alloc (.cells cs e)) := by
      simp only [execOp, hρ x (by simp [Op.operands]) _ hx, hρ y (by simp [Op.operands]) _ hy, Sem.run_bind, hr, Result.andThen_ok, Sem.run_pure]
    rw [this]
    exact ⟨cs, hcs, rfl, rfl⟩
  refine s_ds hF hrun hd ?_
  rintro v' w' a' ⟨cs, hcs, rfl, rfl⟩ hF'
  refine k w.heap.size _ _ ?_ hF'
  have hmax : m ≤ maxLen := by simp only [maxLen]; omega
  exact hS.new _ (.inr ⟨w.heap.size, 0, 0, m, cs, (0, 0), by simp, rfl, noFz00 _, by simp, by omega, by simpa using hmax, by omega, by simp⟩)
end mem
end Go.Dx
