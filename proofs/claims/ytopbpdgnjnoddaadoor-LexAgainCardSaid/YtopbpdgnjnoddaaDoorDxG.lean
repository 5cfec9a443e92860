/- Laws of one step of a walk, and of what memory holds. No condition beyond what each names. -/
import Derived.Test.YtopbpdgnjnoddaaDoorDxF
set_option linter.unusedSimpArgs false
set_option linter.unusedVariables false
namespace Go.Dx
open Go Go.RowKit

/-! words and bytes -/
abbrev v32 (x : BitVec 32) : Value := .int .u32 x.toNat
abbrev v64 (x : BitVec 64) : Value := .int .u64 x.toNat
abbrev v8 (b : UInt8) : Value := .int .u8 b.toNat

theorem ofInt_toNat {n : Nat} (x : BitVec n) : BitVec.ofInt n (x.toNat : Int) = x := by
  apply BitVec.eq_of_toNat_eq
  rw [BitVec.ofInt_natCast]; simp
theorem wrap_u32_nat (n : Nat) : IntKind.u32.wrap (n : Int) = ((n % 2 ^ 32 : Nat) : Int) := by
  simp only [IntKind.wrap, IntKind.bits, IntKind.signed, Bool.false_and, Bool.false_eq_true, if_false]; omega
theorem wrap_u64_nat (n : Nat) : IntKind.u64.wrap (n : Int) = ((n % 2 ^ 64 : Nat) : Int) := by
  simp only [IntKind.wrap, IntKind.bits, IntKind.signed, Bool.false_and, Bool.false_eq_true, if_false]; omega
theorem wrap_u8_nat (n : Nat) : IntKind.u8.wrap (n : Int) = ((n % 2 ^ 8 : Nat) : Int) := by
  simp only [IntKind.wrap, IntKind.bits, IntKind.signed, Bool.false_and, Bool.false_eq_true, if_false]; omega
theorem fdiv_nat (m n : Nat) : (m : Int).fdiv (n : Int) = ((m / n : Nat) : Int) := by
  rw [Int.fdiv_eq_ediv_of_nonneg _ (by omega)]; rfl

section w32
variable {P : Program} {L : FL} {w : World} {d : Option Nat} {ty t t' : TypeId} {pos : String} {af : Array Edge} {g : Option (Nat × Bool)} {x y : Operand}
variable {a b : BitVec 32}
theorem p32_add (hx : ev L x = some (v32 a)) (hy : ev L y = some (v32 b)) : Pu P L ⟨d, .binOp .add t x y t', ty, pos, af, g⟩ w (v32 (a + b)) :=
  pu_add hx hy (by rw [← Int.natCast_add, wrap_u32_nat, BitVec.toNat_add])
theorem p32_sub (hx : ev L x = some (v32 a)) (hy : ev L y = some (v32 b)) : Pu P L ⟨d, .binOp .sub t x y t', ty, pos, af, g⟩ w (v32 (a - b)) :=
  pu_sub hx hy (by
    have := a.isLt; have := b.isLt
    simp only [IntKind.wrap, IntKind.bits, IntKind.signed, Bool.false_and, Bool.false_eq_true, if_false, BitVec.toNat_sub]; omega)
theorem p32_xor (hx : ev L x = some (v32 a)) (hy : ev L y = some (v32 b)) : Pu P L ⟨d, .binOp .xor t x y t', ty, pos, af, g⟩ w (v32 (a ^^^ b)) :=
  pu_xor hx hy (by show IntKind.u32.wrap ((BitVec.ofInt 32 _ ^^^ BitVec.ofInt 32 _).toNat : Int) = _; rw [ofInt_toNat, ofInt_toNat, wrap_u32_nat, Nat.mod_eq_of_lt (a ^^^ b).isLt])
theorem p32_and (hx : ev L x = some (v32 a)) (hy : ev L y = some (v32 b)) : Pu P L ⟨d, .binOp .and t x y t', ty, pos, af, g⟩ w (v32 (a &&& b)) :=
  pu_and hx hy (by show IntKind.u32.wrap ((BitVec.ofInt 32 _ &&& BitVec.ofInt 32 _).toNat : Int) = _; rw [ofInt_toNat, ofInt_toNat, wrap_u32_nat, Nat.mod_eq_of_lt (a &&& b).isLt])
theorem p32_or (hx : ev L x = some (v32 a)) (hy : ev L y = some (v32 b)) : Pu P L ⟨d, .binOp .or t x y t', ty, pos, af, g⟩ w (v32 (a ||| b)) :=
  pu_or hx hy (by show IntKind.u32.wrap ((BitVec.ofInt 32 _ ||| BitVec.ofInt 32 _).toNat : Int) = _; rw [ofInt_toNat, ofInt_toNat, wrap_u32_nat, Nat.mod_eq_of_lt (a ||| b).isLt])
theorem p32_shl {k : IntKind} {n : Int} {m : Nat} (hx : ev L x = some (v32 a)) (hy : ev L y = some (.int k n)) (hn : n = (m : Int)) : Pu P L ⟨d, .binOp .shl t x y t', ty, pos, af, g⟩ w (v32 (a <<< m)) :=
  pu_shl hx hy (by omega) (by
    subst hn
    have e : (2 : Int) ^ min (Int.toNat (m : Int)) IntKind.u32.bits = ((2 ^ min m 32 : Nat) : Int) := by simp [IntKind.bits]
    rw [e, ← Int.natCast_mul, wrap_u32_nat, BitVec.toNat_shiftLeft, Nat.shiftLeft_eq]
    congr 1
    by_cases h : m ≤ 32
    · rw [Nat.min_eq_left h]
    · rw [Nat.min_eq_right (by omega)]
      obtain ⟨j, rfl⟩ : ∃ j, m = 32 + j := ⟨m - 32, by omega⟩
      rw [Nat.pow_add, ← Nat.mul_assoc, Nat.mul_right_comm, Nat.mul_mod_left, Nat.mul_mod_left])
theorem p32_shr {k : IntKind} {n : Int} {m : Nat} (hx : ev L x = some (v32 a)) (hy : ev L y = some (.int k n)) (hn : n = (m : Int)) : Pu P L ⟨d, .binOp .shr t x y t', ty, pos, af, g⟩ w (v32 (a >>> m)) :=
  pu_shr hx hy (by omega) (by
    subst hn
    have e : (2 : Int) ^ min (Int.toNat (m : Int)) IntKind.u32.bits = ((2 ^ min m 32 : Nat) : Int) := by simp [IntKind.bits]
    rw [e, fdiv_nat, BitVec.toNat_ushiftRight, Nat.shiftRight_eq_div_pow]
    congr 1
    by_cases h : m ≤ 32
    · rw [Nat.min_eq_left h]
    · rw [Nat.min_eq_right (by omega), Nat.div_eq_of_lt (by have := a.isLt; omega), Nat.div_eq_of_lt]
      exact Nat.lt_of_lt_of_le a.isLt (Nat.pow_le_pow_right (by omega) (by omega)))
theorem p32_of8 {c : UInt8} (ht' : P.underlying t' = some (.int .u32)) (ht : ∃ u, P.underlying t = some u) (hx : ev L x = some (v8 c)) :
    Pu P L ⟨d, .convert t t' x, ty, pos, af, g⟩ w (v32 (BitVec.ofNat 32 c.toNat)) :=
  pu_conv ht' ht hx (by rw [wrap_u32_nat, BitVec.toNat_ofNat])
theorem p8_of32 (ht' : P.underlying t' = some (.int .u8)) (ht : ∃ u, P.underlying t = some u) (hx : ev L x = some (v32 a)) :
    Pu P L ⟨d, .convert t t' x, ty, pos, af, g⟩ w (v8 (UInt8.ofNat a.toNat)) :=
  pu_conv ht' ht hx (by rw [wrap_u8_nat]; simp)
theorem pi_of8 {c : UInt8} (ht' : P.underlying t' = some (.int .i64)) (ht : ∃ u, P.underlying t = some u) (hx : ev L x = some (v8 c)) :
    Pu P L ⟨d, .convert t t' x, ty, pos, af, g⟩ w (.int .i64 c.toNat) :=
  pu_conv ht' ht hx (wrap_i64 (by omega) (by have := c.toNat_lt; omega))
theorem pu_idxn {l : List UInt8} {k : IntKind} {i : Int} {j : Nat} (ht : P.underlying t = some .string) (hx : ev L x = some (vs l)) (hy : ev L y = some (.int k i)) (hj : i = (j : Int)) (h1 : j < l.length) :
    Pu P L ⟨d, .index t x y, ty, pos, af, g⟩ w (v8 (l.getD j 0)) := by
  subst hj
  exact pu_idx ht hx hy (by omega) (by omega)
variable {c : UInt8}
theorem p8_shr {k : IntKind} {n : Int} {m : Nat} (hx : ev L x = some (v8 c)) (hy : ev L y = some (.int k n)) (hn : n = (m : Int)) (hm : m ≤ 8) : Pu P L ⟨d, .binOp .shr t x y t', ty, pos, af, g⟩ w (.int .u8 ((c.toNat / 2 ^ m : Nat) : Int)) :=
  pu_shr hx hy (by omega) (by
    subst hn
    have e : (2 : Int) ^ min (Int.toNat (m : Int)) IntKind.u8.bits = ((2 ^ m : Nat) : Int) := by
      rw [Int.toNat_natCast, show min m IntKind.u8.bits = m from Nat.min_eq_left hm]; simp
    rw [e, fdiv_nat])
theorem and15 : ∀ n : Nat, n < 256 → IntKind.u8.wrap ((BitVec.ofInt IntKind.u8.bits (n : Int) &&& BitVec.ofInt IntKind.u8.bits 15).toNat : Int) = ((n % 16 : Nat) : Int) := by decide +kernel
theorem p8_and15 (hx : ev L x = some (v8 c)) (hy : ev L y = some (.int .u8 15)) : Pu P L ⟨d, .binOp .and t x y t', ty, pos, af, g⟩ w (.int .u8 ((c.toNat % 16 : Nat) : Int)) :=
  pu_and hx hy (and15 _ c.toNat_lt)
theorem p8_quo {m : Nat} (hx : ev L x = some (v8 c)) (hy : ev L y = some (.int .u8 m)) (hm : 0 < m) : Pu P L ⟨d, .binOp .quo t x y t', ty, pos, af, g⟩ w (.int .u8 ((c.toNat / m : Nat) : Int)) :=
  pu_quo hx hy (by omega) (by
    have e : (c.toNat : Int).tdiv (m : Int) = ((c.toNat / m : Nat) : Int) := by rw [Int.tdiv_eq_ediv_of_nonneg (by omega)]; rfl
    have h1 := Nat.div_le_self c.toNat m
    have h2 := c.toNat_lt
    rw [e]
    generalize c.toNat / m = q at *
    exact wrap_u8 (by omega) (by omega))
theorem p8_rem {m : Nat} (hx : ev L x = some (v8 c)) (hy : ev L y = some (.int .u8 m)) (hm : 0 < m) : Pu P L ⟨d, .binOp .rem t x y t', ty, pos, af, g⟩ w (.int .u8 ((c.toNat % m : Nat) : Int)) :=
  pu_rem hx hy (by omega) (by rw [Int.tmod_eq_emod_of_nonneg (by omega)]; rfl)
end w32
end Go.Dx
