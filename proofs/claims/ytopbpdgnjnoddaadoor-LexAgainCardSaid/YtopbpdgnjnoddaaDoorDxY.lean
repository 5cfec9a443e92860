/- Laws of one step of a walk, and of what memory holds. No condition beyond what each names. -/
import Derived.Test.YtopbpdgnjnoddaaDoorDxX
import Derived.Lib.Bytealg
set_option linter.unusedSimpArgs false
set_option linter.unusedVariables false
namespace Go.Dx
open Go Go.RowKit

section
variable {P : Program} {L : FL} {w : World} {d : Option Nat} {ty t t' : TypeId} {pos : String} {af : Array Edge} {g : Option (Nat × Bool)} {x y : Operand}
theorem pu_min {k k' : IntKind} {m n r : Int} {ats : Array TypeId} (hx : ev L x = some (.int k m)) (hy : ev L y = some (.int k' n)) (hr : (if n < m then n else m) = r) : Pu P L ⟨d, .call ⟨.builtin .min, #[x, y], ats⟩, ty, pos, af, g⟩ w (.int k r) := by
  subst hr
  intro ρ hρ
  simp [execOp, resolve, invoke, builtin, hρ x (by simp [Op.operands, Call.operands]) _ hx, hρ y (by simp [Op.operands, Call.operands]) _ hy, Builtin.min_, Builtin.min2]
theorem pu_max {k k' : IntKind} {m n r : Int} {ats : Array TypeId} (hx : ev L x = some (.int k m)) (hy : ev L y = some (.int k' n)) (hr : (if m < n then n else m) = r) : Pu P L ⟨d, .call ⟨.builtin .max, #[x, y], ats⟩, ty, pos, af, g⟩ w (.int k r) := by
  subst hr
  intro ρ hρ
  simp [execOp, resolve, invoke, builtin, hρ x (by simp [Op.operands, Call.operands]) _ hx, hρ y (by simp [Op.operands, Call.operands]) _ hy, Builtin.max_, Builtin.max2]
end

/-! numbers as bytes -/
def I64 (n : Int) : Prop := -9223372036854775808 ≤ n ∧ n ≤ 9223372036854775807
def codeN (n : Int) : Nat := if n < 0 then 2 * (-1 - n).toNat + 1 else 2 * n.toNat
def numN (c : Nat) : Int := if c % 2 = 1 then -1 - ((c / 2 : Nat) : Int) else ((c / 2 : Nat) : Int)
theorem codeN_lt {n : Int} (h : I64 n) : codeN n < 18446744073709551616 := by
  unfold codeN; obtain ⟨h1, h2⟩ := h; split <;> omega
theorem num_code (n : Int) : numN (codeN n) = n := by
  unfold codeN
  split
  · rw [numN, if_pos (by omega)]; omega
  · rw [numN, if_neg (by omega)]; omega
theorem code_num (c : Nat) : codeN (numN c) = c := by
  unfold numN
  split
  · rw [codeN, if_pos (by omega)]; omega
  · rw [codeN, if_neg (by omega)]; omega
theorem numN_i64 {c : Nat} (h : c < 18446744073709551616) : I64 (numN c) := by
  unfold numN I64; split <;> omega
def vnum (c : Nat) : List UInt8 := if c < 128 then [UInt8.ofNat c] else UInt8.ofNat (128 + c % 128) :: vnum (c / 128)
theorem vnum_lo {c : Nat} (h : c < 128) : vnum c = [UInt8.ofNat c] := by rw [vnum, if_pos h]
theorem vnum_hi {c : Nat} (h : 128 ≤ c) : vnum c = UInt8.ofNat (128 + c % 128) :: vnum (c / 128) := by rw [vnum, if_neg (by omega)]
theorem vnum_len (k : Nat) : ∀ c, c < 128 ^ (k + 1) → (vnum c).length ≤ k + 1 := by
  induction k with
  | zero => intro c h; rw [vnum_lo (by simpa using h)]; simp
  | succ k ih =>
    intro c h
    rcases Nat.lt_or_ge c 128 with h1 | h1
    · rw [vnum_lo h1]; simp
    · rw [vnum_hi h1, List.length_cons]
      have := ih (c / 128) (by rw [Nat.div_lt_iff_lt_mul (by omega)]; rw [Nat.pow_succ] at h; exact h)
      omega
theorem vnum_len10 {c : Nat} (h : c < 18446744073709551616) : (vnum c).length ≤ 10 := vnum_len 9 c (Nat.lt_of_lt_of_le h (by decide))
theorem vnum_ne (c : Nat) : vnum c ≠ [] := by
  rw [vnum]; split <;> simp
def numS (n : Int) : List UInt8 := vnum (codeN n)
theorem numS_len {n : Int} (h : I64 n) : (numS n).length ≤ 10 := vnum_len10 (codeN_lt h)
def textS (s : List UInt8) : List UInt8 := numS s.length ++ s
theorem textS_len {s : List UInt8} (h : s.length ≤ 9223372036854775807) : (textS s).length ≤ 10 + s.length := by
  have := numS_len (n := s.length) ⟨by omega, by omega⟩
  rw [textS, List.length_append]; omega
/-- a number off the front: bytes from the i-th on, c the code of those ahead. -/
def takeG : Nat → Nat → List UInt8 → Int × List UInt8 × Int
  | _, _, [] => (0, [], 3)
  | i, c, b :: s => if (0 < i ∧ b = 0) ∨ (i = 9 ∧ 1 < b.toNat) then (0, [], 4) else if b.toNat < 128 then (numN (c + b.toNat % 128 * 128 ^ i), s, 0) else takeG (i + 1) (c + b.toNat % 128 * 128 ^ i) s
def takeN (s : List UInt8) : Int × List UInt8 × Int := takeG 0 0 s
def sizeS (s : List UInt8) (most : Int) : Int × List UInt8 × Int :=
  if (takeN s).2.2 ≠ 0 then (0, [], (takeN s).2.2) else if (takeN s).1 < 0 then (0, [], 4) else if most < (takeN s).1 then (0, [], 5) else takeN s
def takeT (s : List UInt8) (most : Int) : List UInt8 × List UInt8 × Int :=
  if (sizeS s most).2.2 ≠ 0 then ([], [], (sizeS s most).2.2) else if ((sizeS s most).2.1.length : Int) < (sizeS s most).1 then ([], [], 3) else ((sizeS s most).2.1.take (sizeS s most).1.toNat, (sizeS s most).2.1.drop (sizeS s most).1.toNat, 0)
theorem pow_le9 {k : Nat} (h : k ≤ 9) : 128 ^ k ≤ 9223372036854775808 := Nat.le_trans (Nat.pow_le_pow_right (by omega) h) (by decide)
theorem pow_le8 {k : Nat} (h : k < 9) : 128 ^ (k + 1) ≤ 9223372036854775808 := pow_le9 h
theorem pow_pos128 (k : Nat) : 0 < 128 ^ k := Nat.pow_pos (by omega)
theorem mul_lt_pow {d k : Nat} (h : d < 128) : d * 128 ^ k + 128 ^ k ≤ 128 ^ (k + 1) := by
  rw [Nat.pow_succ, ← Nat.succ_mul, Nat.mul_comm (128 ^ k)]
  exact Nat.mul_le_mul_right _ (by omega)
theorem take_fit {k c : Nat} {b : UInt8} (hk : k ≤ 9) (hc : c < 128 ^ k) (hb : ¬ (k = 9 ∧ 1 < b.toNat)) : c + b.toNat % 128 * 128 ^ k < 18446744073709551616 := by
  rcases Nat.lt_or_ge k 9 with h | h
  · have h1 := mul_lt_pow (d := b.toNat % 128) (k := k) (by omega)
    have h2 := pow_le8 h
    omega
  · obtain rfl : k = 9 := by omega
    have : b.toNat % 128 ≤ 1 := by omega
    have : b.toNat % 128 * 128 ^ 9 ≤ 1 * 128 ^ 9 := Nat.mul_le_mul_right _ this
    have e : 128 ^ 9 = 9223372036854775808 := by decide
    omega
theorem take_fit2 {k c : Nat} {b : UInt8} (hc : c < 128 ^ k) : c + b.toNat % 128 * 128 ^ k < 128 ^ (k + 1) := by
  have h1 := mul_lt_pow (d := b.toNat % 128) (k := k) (by omega)
  omega
theorem takeG_done {k c : Nat} {s : List UInt8} {b : UInt8} (h1 : ¬ ((0 < k ∧ b = 0) ∨ (k = 9 ∧ 1 < b.toNat))) (h2 : b.toNat < 128) : takeG k c (b :: s) = (numN (c + b.toNat % 128 * 128 ^ k), s, 0) := by
  rw [takeG, if_neg h1, if_pos h2]
theorem takeG_more {k c : Nat} {s : List UInt8} {b : UInt8} (h1 : ¬ ((0 < k ∧ b = 0) ∨ (k = 9 ∧ 1 < b.toNat))) (h2 : ¬ b.toNat < 128) : takeG k c (b :: s) = takeG (k + 1) (c + b.toNat % 128 * 128 ^ k) s := by
  rw [takeG, if_neg h1, if_neg h2]
theorem takeG_form {k c : Nat} {s : List UInt8} {b : UInt8} (h1 : (0 < k ∧ b = 0) ∨ (k = 9 ∧ 1 < b.toNat)) : takeG k c (b :: s) = (0, [], 4) := by
  rw [takeG, if_pos h1]
theorem drop_getD (s : List UInt8) (k : Nat) (h : k < s.length) : s.drop k = s.getD k 0 :: s.drop (k + 1) := by
  rw [List.drop_eq_getElem_cons h]; simp [List.getElem?_eq_getElem h]
theorem byte_lo {m : Nat} (h : m < 256) : (UInt8.ofNat m).toNat = m := by simp; omega
theorem takeG_vnum (r : List UInt8) : ∀ (m i c : Nat), i ≤ 9 → c + m * 128 ^ i < 18446744073709551616 → (0 < i → 0 < m) → takeG i c (vnum m ++ r) = (numN (c + m * 128 ^ i), r, 0) := by
  intro m
  induction m using Nat.strongRecOn with
  | _ m ih =>
    intro i c hi hc hm
    rcases Nat.lt_or_ge m 128 with h | h
    · have hb := byte_lo (m := m) (by omega)
      rw [vnum_lo h, List.singleton_append, takeG_done, hb, Nat.mod_eq_of_lt h]
      · rintro (⟨h1, h2⟩ | ⟨h1, h2⟩)
        · have := hm h1
          have : (UInt8.ofNat m).toNat = 0 := by rw [h2]; rfl
          omega
        · rw [hb] at h2
          subst h1
          have : 2 * 128 ^ 9 ≤ m * 128 ^ 9 := Nat.mul_le_mul_right _ h2
          have e : 128 ^ 9 = 9223372036854775808 := by decide
          omega
      · omega
    · have hb := byte_lo (m := 128 + m % 128) (by omega)
      have hi9 : i ≠ 9 := by
        rintro rfl
        have : 128 * 128 ^ 9 ≤ m * 128 ^ 9 := Nat.mul_le_mul_right _ h
        have e : 128 ^ 9 = 9223372036854775808 := by decide
        omega
      have e : c + (128 + m % 128) % 128 * 128 ^ i + m / 128 * 128 ^ (i + 1) = c + m * 128 ^ i := by
        rw [Nat.pow_succ, Nat.mul_comm (128 ^ i) 128, ← Nat.mul_assoc, Nat.add_assoc, ← Nat.add_mul]
        congr 2
        omega
      rw [vnum_hi h, List.cons_append, takeG_more, hb, ih (m / 128) (by omega) (i + 1) _ (by omega) (by rw [e]; exact hc) (fun _ => by omega), e]
      · rintro (⟨h1, h2⟩ | ⟨h1, h2⟩)
        · have : (UInt8.ofNat (128 + m % 128)).toNat = 0 := by rw [h2]; rfl
          omega
        · exact hi9 h1
      · omega
theorem take_num {n : Int} (h : I64 n) (r : List UInt8) : takeN (numS n ++ r) = (n, r, 0) := by
  rw [takeN, numS, takeG_vnum r _ 0 0 (by omega) (by have := codeN_lt h; omega) (by omega), show 0 + codeN n * 128 ^ 0 = codeN n by simp, num_code]
theorem vnum_takeG : ∀ (s : List UInt8) (i c : Nat), i ≤ 9 → c < 128 ^ i → (takeG i c s).2.2 = 0 → ∃ m, s = vnum m ++ (takeG i c s).2.1 ∧ (takeG i c s).1 = numN (c + m * 128 ^ i) ∧ c + m * 128 ^ i < 18446744073709551616 ∧ (0 < i → 0 < m) := by
  intro s
  induction s with
  | nil => intro i c _ _ h; simp [takeG] at h
  | cons b s ih =>
    intro i c hi hc h
    have hbl := b.toNat_lt
    by_cases h1 : (0 < i ∧ b = 0) ∨ (i = 9 ∧ 1 < b.toNat)
    · rw [takeG_form h1] at h; simp at h
    · have h9 : ¬ (i = 9 ∧ 1 < b.toNat) := fun h => h1 (.inr h)
      have hf := take_fit hi hc h9
      by_cases h2 : b.toNat < 128
      · rw [takeG_done h1 h2] at h ⊢
        rw [Nat.mod_eq_of_lt h2] at hf ⊢
        refine ⟨b.toNat, by rw [vnum_lo h2]; simp, rfl, hf, fun h0 => ?_⟩
        rcases Nat.eq_zero_or_pos b.toNat with hz | hz
        · exact absurd (.inl ⟨h0, UInt8.toNat_inj.1 hz⟩) h1
        · exact hz
      · rw [takeG_more h1 h2] at h ⊢
        obtain ⟨m, e1, e2, e3, e4⟩ := ih (i + 1) _ (by omega) (take_fit2 hc) h
        have e : c + b.toNat % 128 * 128 ^ i + m * 128 ^ (i + 1) = c + (b.toNat % 128 + 128 * m) * 128 ^ i := by
          rw [Nat.pow_succ, Nat.mul_comm (128 ^ i) 128, ← Nat.mul_assoc, Nat.add_assoc, ← Nat.add_mul, Nat.mul_comm 128 m]
        have hm := e4 (by omega)
        refine ⟨b.toNat % 128 + 128 * m, ?_, by rw [e2, e], by rw [← e]; exact e3, fun _ => by omega⟩
        rw [vnum_hi (by omega), List.cons_append, show (b.toNat % 128 + 128 * m) / 128 = m by omega, show 128 + (b.toNat % 128 + 128 * m) % 128 = b.toNat by omega]
        simp [← e1]
theorem num_take {s : List UInt8} (h : (takeN s).2.2 = 0) : s = numS (takeN s).1 ++ (takeN s).2.1 ∧ I64 (takeN s).1 := by
  obtain ⟨m, e1, e2, e3, _⟩ := vnum_takeG s 0 0 (by omega) (by simp) h
  simp only [Nat.pow_zero, Nat.mul_one, Nat.zero_add] at e2 e3
  refine ⟨?_, by rw [takeN, e2]; exact numN_i64 e3⟩
  rw [numS, takeN, e2, code_num]; exact e1
theorem takeG_err : ∀ (s : List UInt8) (i c : Nat), ((takeG i c s).2.2 = 0 ∨ (takeG i c s = (0, [], 3) ∨ takeG i c s = (0, [], 4))) ∧ (takeG i c s).2.1.length ≤ s.length := by
  intro s
  induction s with
  | nil => intro i c; simp [takeG]
  | cons b s ih =>
    intro i c
    by_cases h1 : (0 < i ∧ b = 0) ∨ (i = 9 ∧ 1 < b.toNat)
    · rw [takeG_form h1]; simp
    · by_cases h2 : b.toNat < 128
      · rw [takeG_done h1 h2]; simp
      · rw [takeG_more h1 h2]
        have := ih (i + 1) (c + b.toNat % 128 * 128 ^ i)
        exact ⟨this.1, Nat.le_trans this.2 (by simp)⟩
theorem takeN_err (s : List UInt8) : (takeN s).2.2 = 0 ∨ takeN s = (0, [], 3) ∨ takeN s = (0, [], 4) := (takeG_err s 0 0).1
theorem takeN_len (s : List UInt8) : (takeN s).2.1.length ≤ s.length := (takeG_err s 0 0).2
theorem takeN_i64 (s : List UInt8) : I64 (takeN s).1 := by
  rcases takeN_err s with h | h | h
  · exact (num_take h).2
  · rw [h]; exact ⟨show (-9223372036854775808 : Int) ≤ 0 by decide, show (0 : Int) ≤ 9223372036854775807 by decide⟩
  · rw [h]; exact ⟨show (-9223372036854775808 : Int) ≤ 0 by decide, show (0 : Int) ≤ 9223372036854775807 by decide⟩
theorem sizeS_ok {s : List UInt8} {most : Int} (h : (sizeS s most).2.2 = 0) : sizeS s most = takeN s ∧ (takeN s).2.2 = 0 ∧ 0 ≤ (takeN s).1 ∧ (takeN s).1 ≤ most := by
  unfold sizeS at h ⊢
  split at h
  · exact absurd h (by assumption)
  · rename_i h1
    rw [if_neg h1]
    split at h
    · cases h
    · rename_i h2
      rw [if_neg h2]
      split at h
      · cases h
      · rename_i h3
        rw [if_neg h3]
        exact ⟨rfl, h, by omega, by omega⟩
theorem sizeS_len (s : List UInt8) (most : Int) : (sizeS s most).2.1.length ≤ s.length := by
  have := takeN_len s
  unfold sizeS
  split
  · simp
  · split
    · simp
    · split
      · simp
      · exact this
theorem sizeS_i64 (s : List UInt8) (most : Int) : I64 (sizeS s most).1 := by
  have := takeN_i64 s
  have z : I64 0 := ⟨by decide, by decide⟩
  unfold sizeS
  split
  · exact z
  · split
    · exact z
    · split
      · exact z
      · exact this
theorem takeT_len (s : List UInt8) (most : Int) : (takeT s most).1.length ≤ s.length ∧ (takeT s most).2.1.length ≤ s.length := by
  have := sizeS_len s most
  unfold takeT
  split
  · simp
  · split
    · simp
    · constructor
      · simp [List.length_take]; omega
      · simp [List.length_drop]; omega
theorem take_text {t : List UInt8} {most : Int} (h : (t.length : Int) ≤ most) (h2 : t.length ≤ 9223372036854775807) (r : List UInt8) : takeT (textS t ++ r) most = (t, r, 0) := by
  have hn : takeN (textS t ++ r) = ((t.length : Int), t ++ r, 0) := by
    rw [textS, List.append_assoc]; exact take_num ⟨by omega, by omega⟩ _
  have hs : sizeS (textS t ++ r) most = ((t.length : Int), t ++ r, 0) := by
    rw [sizeS, hn, if_neg (by simp), if_neg (show ¬ ((t.length : Int) < 0) by omega), if_neg (show ¬ (most < (t.length : Int)) by omega)]
  rw [takeT, hs, if_neg (by simp), if_neg (show ¬ (((t ++ r).length : Int) < (t.length : Int)) by rw [List.length_append]; omega)]
  simp
theorem text_take {s : List UInt8} {most : Int} (h : (takeT s most).2.2 = 0) : s = textS (takeT s most).1 ++ (takeT s most).2.1 ∧ ((takeT s most).1.length : Int) ≤ most := by
  unfold takeT at h ⊢
  split at h
  · exact absurd h (by assumption)
  · rename_i h1
    rw [if_neg h1]
    split at h
    · cases h
    · rename_i h2
      rw [if_neg h2]
      obtain ⟨e1, e2, e3, e4⟩ := sizeS_ok (Decidable.not_not.1 h1)
      rw [e1] at h2 ⊢
      obtain ⟨n1, _⟩ := num_take e2
      have hl : ((takeN s).2.1.take (takeN s).1.toNat).length = (takeN s).1.toNat := by rw [List.length_take]; omega
      refine ⟨?_, by rw [hl]; omega⟩
      show s = textS ((takeN s).2.1.take (takeN s).1.toNat) ++ (takeN s).2.1.drop (takeN s).1.toNat
      rw [textS, hl, List.append_assoc, List.take_append_drop, show (((takeN s).1.toNat : Nat) : Int) = (takeN s).1 by omega]
      exact n1
theorem takeT_err (s : List UInt8) (most : Int) : (takeT s most).2.2 = 0 ∨ takeT s most = ([], [], (takeT s most).2.2) := by
  unfold takeT
  split
  · exact .inr rfl
  · split
    · exact .inr rfl
    · exact .inl rfl

/-! the same with bits -/
theorem ofInt_nat {k n : Nat} (h : n < 2 ^ k) : (BitVec.ofInt k (n : Int)).toNat = n := by
  rw [BitVec.toNat_ofInt, ← Int.natCast_emod, Int.toNat_natCast, Nat.mod_eq_of_lt h]
theorem code_bits {n : Int} (h : I64 n) : IntKind.u64.wrap ((BitVec.ofInt IntKind.u64.bits (IntKind.u64.wrap (IntKind.u64.wrap n * 2 ^ (min (Int.toNat 1) IntKind.u64.bits))) ^^^ BitVec.ofInt IntKind.u64.bits (IntKind.u64.wrap (n.fdiv (2 ^ (min (Int.toNat 63) IntKind.i64.bits))))).toNat : Int) = (codeN n : Int) := by
  obtain ⟨h1, h2⟩ := h
  have e1 : (2 : Int) ^ (min (Int.toNat 1) IntKind.u64.bits) = 2 := by decide
  have e2 : (2 : Int) ^ (min (Int.toNat 63) IntKind.i64.bits) = 9223372036854775808 := by decide
  rw [e1, e2]
  show IntKind.u64.wrap ((BitVec.ofInt 64 _ ^^^ BitVec.ofInt 64 _).toNat : Int) = _
  rw [Int.fdiv_eq_ediv_of_nonneg _ (by omega)]
  by_cases hn : n < 0
  · have a : IntKind.u64.wrap n = n + 18446744073709551616 := by
      simp only [IntKind.wrap, IntKind.bits, IntKind.signed, Bool.false_and, Bool.false_eq_true, if_false]; omega
    have b : IntKind.u64.wrap ((n + 18446744073709551616) * 2) = ((18446744073709551615 - codeN n : Nat) : Int) := by
      simp only [IntKind.wrap, IntKind.bits, IntKind.signed, Bool.false_and, Bool.false_eq_true, if_false, codeN, if_pos hn]; omega
    have c : IntKind.u64.wrap (n / 9223372036854775808) = ((18446744073709551615 : Nat) : Int) := by
      rw [show n / 9223372036854775808 = -1 by omega]; decide
    have hc : codeN n ≤ 18446744073709551615 := by have := codeN_lt ⟨h1, h2⟩; omega
    rw [a, b, c, BitVec.toNat_xor, ofInt_nat (by omega), ofInt_nat (by omega)]
    have : ∀ m, m ≤ 18446744073709551615 → (m ^^^ 18446744073709551615) = 18446744073709551615 - m := fun m hm => by
      have h3 := BitVec.toNat_not (x := BitVec.ofNat 64 m)
      rw [BitVec.not_def, BitVec.toNat_xor, BitVec.toNat_ofNat, BitVec.toNat_allOnes, Nat.mod_eq_of_lt (by omega), Nat.xor_comm] at h3
      rw [show (18446744073709551615 : Nat) = 2 ^ 64 - 1 by decide]
      rw [Nat.xor_comm] at h3 ⊢
      first | exact h3 | (rw [Nat.xor_comm]; exact h3)
    rw [this _ (by omega), wrap_u64 (by omega) (by omega)]
    omega
  · have a : IntKind.u64.wrap n = n := wrap_u64 (by omega) (by omega)
    have b : IntKind.u64.wrap (n * 2) = (codeN n : Int) := by
      rw [wrap_u64 (by omega) (by omega), codeN, if_neg hn]; omega
    have c : IntKind.u64.wrap (n / 9223372036854775808) = ((0 : Nat) : Int) := by
      rw [show n / 9223372036854775808 = 0 by omega]; decide
    have hc := codeN_lt ⟨h1, h2⟩
    rw [a, b, c, BitVec.toNat_xor, ofInt_nat (by omega), ofInt_nat (by omega), Nat.xor_zero, wrap_u64 (by omega) (by omega)]
theorem num_bits {c : Nat} (h : c < 18446744073709551616) : IntKind.i64.wrap ((BitVec.ofInt IntKind.i64.bits (IntKind.i64.wrap ((c : Int).fdiv (2 ^ (min (Int.toNat 1) IntKind.u64.bits)))) ^^^ BitVec.ofInt IntKind.i64.bits (IntKind.i64.wrap (0 - IntKind.i64.wrap (IntKind.u64.wrap ((BitVec.ofInt IntKind.u64.bits (c : Int) &&& BitVec.ofInt IntKind.u64.bits 1).toNat : Int))))).toNat : Int) = numN c := by
  have e1 : (2 : Int) ^ (min (Int.toNat 1) IntKind.u64.bits) = ((2 : Nat) : Int) := by decide
  rw [e1, fdiv_nat]
  show IntKind.i64.wrap ((BitVec.ofInt 64 _ ^^^ BitVec.ofInt 64 (IntKind.i64.wrap (0 - IntKind.i64.wrap (IntKind.u64.wrap ((BitVec.ofInt 64 (c : Int) &&& BitVec.ofInt 64 ((1 : Nat) : Int)).toNat : Int))))).toNat : Int) = _
  have ea : (BitVec.ofInt 64 (c : Int) &&& BitVec.ofInt 64 ((1 : Nat) : Int)).toNat = c % 2 := by
    rw [BitVec.toNat_and, ofInt_nat (by omega), ofInt_nat (by omega), Nat.and_one_is_mod]
  rw [ea, wrap_u64 (by omega) (by omega), wrap_i64 (n := ((c % 2 : Nat) : Int)) (by omega) (by omega), wrap_i64 (n := 0 - _) (by omega) (by omega), wrap_i64 (n := ((c / 2 : Nat) : Int)) (by omega) (by omega)]
  by_cases hc : c % 2 = 1
  · rw [numN, if_pos hc, hc]
    have hm : BitVec.ofInt 64 (0 - ((1 : Nat) : Int)) = BitVec.allOnes 64 := by decide
    rw [hm, BitVec.xor_comm, ← BitVec.not_def, BitVec.toNat_not, ofInt_nat (by omega)]
    have e3 : ((2 ^ 64 - 1 - c / 2 : Nat) : Int) = 18446744073709551615 - ((c / 2 : Nat) : Int) := by omega
    have h3 : ((c / 2 : Nat) : Int) < 9223372036854775808 := by omega
    have h4 : (0 : Int) ≤ ((c / 2 : Nat) : Int) := by omega
    rw [e3]
    generalize ((c / 2 : Nat) : Int) = q at *
    have h5 : (18446744073709551615 - q) % (2 ^ 64 : Int) = 18446744073709551615 - q := Int.emod_eq_of_lt (by omega) (by omega)
    have h6 : IntKind.i64.wrap (18446744073709551615 - q) = (if (18446744073709551615 - q) % (2 ^ 64 : Int) ≥ (2 ^ 63 : Int) then (18446744073709551615 - q) % (2 ^ 64 : Int) - 2 ^ 64 else (18446744073709551615 - q) % (2 ^ 64 : Int)) := by
      show (if (true && decide _) = true then _ else _) = _
      simp only [Bool.true_and, decide_eq_true_eq]; rfl
    rw [h6, h5, if_pos (by omega)]; omega
  · rw [numN, if_neg hc, show c % 2 = 0 by omega]
    have hm : BitVec.ofInt 64 (0 - ((0 : Nat) : Int)) = 0#64 := by decide
    rw [hm, BitVec.xor_zero, ofInt_nat (by omega), wrap_i64 (by omega) (by omega)]
theorem and127 : ∀ n : Nat, n < 256 → IntKind.u8.wrap ((BitVec.ofInt IntKind.u8.bits (n : Int) &&& BitVec.ofInt IntKind.u8.bits 127).toNat : Int) = ((n % 128 : Nat) : Int) := by decide +kernel
theorem or128 : ∀ n : Nat, n < 128 → IntKind.u8.wrap ((BitVec.ofInt IntKind.u8.bits (n : Int) ||| BitVec.ofInt IntKind.u8.bits 128).toNat : Int) = (((UInt8.ofNat (128 + n)).toNat : Nat) : Int) := by decide +kernel
theorem low_bits (c : Nat) : IntKind.u8.wrap ((BitVec.ofInt IntKind.u8.bits (IntKind.u8.wrap (c : Int)) &&& BitVec.ofInt IntKind.u8.bits 127).toNat : Int) = ((c % 128 : Nat) : Int) := by
  have h := and127 (c % 2 ^ 8) (by omega)
  rw [wrap_u8_nat c, h]
  congr 1; omega
theorem shl_or {c d k : Nat} (hc : c < 128 ^ k) (hd : d < 128) (hk : k ≤ 9) (hf : c + d * 128 ^ k < 18446744073709551616) :
    IntKind.u64.wrap ((BitVec.ofInt IntKind.u64.bits (c : Int) ||| BitVec.ofInt IntKind.u64.bits (IntKind.u64.wrap ((d : Int) * 2 ^ (min (Int.toNat ((7 * k : Nat) : Int)) IntKind.u64.bits)))).toNat : Int) = ((c + d * 128 ^ k : Nat) : Int) := by
  have e7 : min (Int.toNat ((7 * k : Nat) : Int)) IntKind.u64.bits = 7 * k := by
    rw [Int.toNat_natCast]; exact Nat.min_eq_left (show 7 * k ≤ 64 by omega)
  have e2 : (2 : Int) ^ (7 * k) = ((128 ^ k : Nat) : Int) := by rw [show 128 ^ k = 2 ^ (7 * k) by rw [Nat.pow_mul]]; simp
  rw [e7, e2, ← Int.natCast_mul, wrap_u64 (n := ((d * 128 ^ k : Nat) : Int)) (by omega) (by omega)]
  show IntKind.u64.wrap ((BitVec.ofInt 64 _ ||| BitVec.ofInt 64 _).toNat : Int) = _
  rw [BitVec.toNat_or, ofInt_nat (by omega), ofInt_nat (by omega)]
  have hp : 128 ^ k = 2 ^ (7 * k) := by rw [Nat.pow_mul]
  have : c ||| d * 128 ^ k = c + d * 128 ^ k := by
    rw [hp] at hc ⊢
    rw [← Nat.shiftLeft_eq, Nat.or_comm, ← Nat.shiftLeft_add_eq_or_of_lt hc, Nat.add_comm]
  rw [this, wrap_u64 (by omega) (by omega)]

/-! two arrays of plain elements -/
section
variable {P : Program}
theorem run_eqArr {d n : Nat} {t e : TypeId} {k : PK} (ht : P.underlying t = some (.array n e)) (hz : SzIs P e 1) (hk : k.ty P e) {xs ys : Array Value} (hc : ∀ i, i < n → ∃ u v, xs[i]? = some u ∧ ys[i]? = some v ∧ k.fits u ∧ k.fits v) (w : World) :
    (Op.equalIn (d + 2) t (.agg xs) (.agg ys)).run P w = .ok ((List.range n).all fun i => eqC (xs.getD i undef) (ys.getD i undef)) w := by
  obtain ⟨inf, hi, hs⟩ := hz
  have hz : ∀ w, (sizeOf e).run P w = .ok 1 w := fun w => by rw [← hs]; simp [sizeOf, typeInfo, hi]
  rw [Op.equalIn]
  simp only [Sem.run_bind, run_underlying ht, Result.andThen_ok, hz]
  simp only [Std.Legacy.Range.forIn_eq_forIn_range', Std.Legacy.Range.size, Nat.sub_zero, Nat.add_sub_cancel, Nat.div_one, Nat.mul_one]
  rw [← List.range_eq_range']
  have hl : ∀ i ∈ List.range n, i < n := fun i hi => List.mem_range.1 hi
  generalize List.range n = l at hl
  induction l with
  | nil => simp
  | cons i l ih =>
    obtain ⟨u, v, hu, hv, fu, fv⟩ := hc i (hl i (by simp))
    have eu : xs.getD i undef = u := by simp [hu]
    have ev : ys.getD i undef = v := by simp [hv]
    have ih := ih fun j hj => hl j (by simp [hj])
    simp only [List.forIn_cons, Sem.run_bind, run_partC hk hu, run_partC hk hv, Result.andThen_ok, run_eqC hk fu fv, List.all_cons, eu, ev]
    cases eqC u v
    · simp
    · simpa using ih
theorem EqT.ofArr {α : Type} [DecidableEq α] {t e : TypeId} {f : α → List Value} (n : Nat) (k : PK) (hg : P.eqGuardType P.depth t = false) (ht : P.underlying t = some (.array n e)) (hz : SzIs P e 1) (hk : k.ty P e)
    (hc : ∀ a b : α, ∀ i, i < n → ∃ u v, (f a)[i]? = some u ∧ (f b)[i]? = some v ∧ k.fits u ∧ k.fits v)
    (he : ∀ a b : α, ((List.range n).all fun i => eqC ((f a).toArray.getD i undef) ((f b).toArray.getD i undef)) = decide (a = b)) : EqT P t f := by
  refine ⟨hg, fun w a b => ?_⟩
  rw [show (10000 : Nat) = 9998 + 2 from rfl, run_eqArr ht hz hk (fun i hi => by
    obtain ⟨u, v, h1, h2, h3, h4⟩ := hc a b i hi
    exact ⟨u, v, by simpa using h1, by simpa using h2, h3, h4⟩), he a b]
end
theorem shr7 (c : Nat) : (c : Int).fdiv (2 ^ (min (Int.toNat 7) IntKind.u64.bits)) = ((c / 128 : Nat) : Int) := by
  rw [show (2 : Int) ^ (min (Int.toNat 7) IntKind.u64.bits) = ((128 : Nat) : Int) by decide, fdiv_nat]
theorem quo_u64 {c d : Nat} (h : c < 18446744073709551616) (hd : 0 < d) : IntKind.u64.wrap ((c : Int).tdiv (d : Int)) = ((c / d : Nat) : Int) := by
  have h1 := Nat.div_le_self c d
  have e : (c : Int).tdiv (d : Int) = ((c / d : Nat) : Int) := by rw [Int.tdiv_eq_ediv_of_nonneg (by omega)]; rfl
  rw [e]
  generalize c / d = q at *
  exact wrap_u64 (by omega) (by omega)
theorem tmod_nat (c d : Nat) : (c : Int).tmod (d : Int) = ((c % d : Nat) : Int) := by rw [Int.tmod_eq_emod_of_nonneg (by omega)]; rfl
theorem tg_end {s : List UInt8} {k c : Nat} (h : s.length ≤ k) : takeG k c (s.drop k) = (0, [], 3) := by rw [List.drop_of_length_le h]; rfl
theorem tg_form {s : List UInt8} {k c : Nat} (hd : k < s.length) (h : (0 < k ∧ (s.getD k 0).toNat = 0) ∨ (k = 9 ∧ 1 < (s.getD k 0).toNat)) : takeG k c (s.drop k) = (0, [], 4) := by
  rw [drop_getD s k hd, takeG_form (h.imp (fun h => ⟨h.1, UInt8.toNat_inj.1 h.2⟩) id)]
theorem tg_not {k : Nat} {b : UInt8} (h : ¬ ((0 < k ∧ b.toNat = 0) ∨ (k = 9 ∧ 1 < b.toNat))) : ¬ ((0 < k ∧ b = 0) ∨ (k = 9 ∧ 1 < b.toNat)) := by
  rintro (⟨h1, rfl⟩ | h2)
  · exact h (.inl ⟨h1, rfl⟩)
  · exact h (.inr h2)
theorem tg_done {s : List UInt8} {k c : Nat} (hd : k < s.length) (h : ¬ ((0 < k ∧ (s.getD k 0).toNat = 0) ∨ (k = 9 ∧ 1 < (s.getD k 0).toNat))) (h2 : (s.getD k 0).toNat < 128) : takeG k c (s.drop k) = (numN (c + (s.getD k 0).toNat % 128 * 128 ^ k), s.drop (k + 1), 0) := by
  rw [drop_getD s k hd, takeG_done (tg_not h) h2]
theorem tg_more {s : List UInt8} {k c : Nat} (hd : k < s.length) (h : ¬ ((0 < k ∧ (s.getD k 0).toNat = 0) ∨ (k = 9 ∧ 1 < (s.getD k 0).toNat))) (h2 : ¬ (s.getD k 0).toNat < 128) : takeG k c (s.drop k) = takeG (k + 1) (c + (s.getD k 0).toNat % 128 * 128 ^ k) (s.drop (k + 1)) := by
  rw [drop_getD s k hd, takeG_more (tg_not h) h2]
def tkV (r : Int × List UInt8 × Int) : Value := .tuple #[.int .i64 r.1, vs r.2.1, .int .i64 r.2.2]
def ttV (r : List UInt8 × List UInt8 × Int) : Value := .tuple #[vs r.1, vs r.2.1, .int .i64 r.2.2]

/-! strings in their order; calls that hand back a new buffer beside other values -/
theorem less_cmp : ∀ a b : List UInt8, Op.bytesLess a b = decide (Lib.compareBytes a b = -1)
  | [], [] => rfl
  | [], _ :: _ => rfl
  | _ :: _, [] => rfl
  | a :: as, b :: bs => by
    unfold Op.bytesLess Lib.compareBytes
    by_cases h1 : a < b
    · simp [h1]
    · by_cases h2 : b < a
      · have : ¬ a = b := fun e => by subst e; exact h1 h2
        simp [h1, h2, this]
      · have : a = b := UInt8.le_antisymm (UInt8.not_lt.1 h2) (UInt8.not_lt.1 h1)
        subst this
        simp [h1, less_cmp as bs]
theorem cmp_refl : ∀ a : List UInt8, Lib.compareBytes a a = 0
  | [] => rfl
  | a :: as => by unfold Lib.compareBytes; simp [cmp_refl as]
theorem cmp_zero : ∀ {a b : List UInt8}, Lib.compareBytes a b = 0 → a = b
  | [], [], _ => rfl
  | [], _ :: _, h => by cases h
  | _ :: _, [], h => by cases h
  | a :: as, b :: bs, h => by
    unfold Lib.compareBytes at h
    by_cases h1 : a < b
    · simp [h1] at h
    · by_cases h2 : b < a
      · simp [h1, h2] at h
      · simp [h1, h2] at h
        have hab : a = b := UInt8.le_antisymm (UInt8.not_lt.1 h2) (UInt8.not_lt.1 h1)
        rw [hab, cmp_zero h]
theorem cmp_three : ∀ a b : List UInt8, Lib.compareBytes a b = -1 ∨ Lib.compareBytes a b = 0 ∨ Lib.compareBytes a b = 1
  | [], [] => .inr (.inl rfl)
  | [], _ :: _ => .inl rfl
  | _ :: _, [] => .inr (.inr rfl)
  | a :: as, b :: bs => by
    unfold Lib.compareBytes
    by_cases h1 : a < b
    · simp [h1]
    · by_cases h2 : b < a
      · simp [h1, h2]
      · simp only [h1, h2, if_false]; exact cmp_three as bs
theorem cmp_swap : ∀ a b : List UInt8, Lib.compareBytes b a = -Lib.compareBytes a b
  | [], [] => rfl
  | [], _ :: _ => rfl
  | _ :: _, [] => rfl
  | a :: as, b :: bs => by
    unfold Lib.compareBytes
    by_cases h1 : a < b
    · have h2 : ¬ b < a := fun h => UInt8.lt_irrefl _ (UInt8.lt_trans h1 h)
      simp [h1, h2]
    · by_cases h2 : b < a
      · simp [h1, h2]
      · simp [h1, h2, cmp_swap as bs]
theorem cmp_trans : ∀ a b c : List UInt8, Lib.compareBytes a b = -1 → Lib.compareBytes b c = -1 → Lib.compareBytes a c = -1
  | [], [], _, h, _ => by cases h
  | [], _ :: _, [], _, h => by cases h
  | [], _ :: _, _ :: _, _, _ => rfl
  | _ :: _, [], _, h, _ => by cases h
  | _ :: _, _ :: _, [], _, h => by cases h
  | a :: as, b :: bs, c :: cs, h, k => by
    unfold Lib.compareBytes at h k ⊢
    by_cases h1 : a < b
    · by_cases k1 : b < c
      · simp [UInt8.lt_trans h1 k1]
      · by_cases k2 : c < b
        · simp [k1, k2] at k
        · have : b = c := UInt8.le_antisymm (UInt8.not_lt.1 k2) (UInt8.not_lt.1 k1)
          subst this; simp [h1]
    · by_cases h2 : b < a
      · simp [h1, h2] at h
      · have : a = b := UInt8.le_antisymm (UInt8.not_lt.1 h2) (UInt8.not_lt.1 h1)
        subst this
        by_cases k1 : a < c
        · simp [k1]
        · by_cases k2 : c < a
          · simp [k1, k2] at k
          · simp only [k1, k2, h1, if_false] at h k ⊢
            exact cmp_trans as bs cs h k
section
variable {P : Program} {L : FL} {w : World} {d : Option Nat} {ty t t' : TypeId} {pos : String} {af : Array Edge} {g : Option (Nat × Bool)} {x y : Operand} {l l' : List UInt8}
theorem pu_slt (hx : ev L x = some (vs l)) (hy : ev L y = some (vs l')) : Pu P L ⟨d, .binOp .lss t x y t', ty, pos, af, g⟩ w (.bool (decide (Lib.compareBytes l l' = -1))) := by
  intro ρ hρ
  have e : binOp .lss t (vs l) (vs l') = pure (.bool (decide (Lib.compareBytes l l' = -1))) := by rw [binOp_string_lss, less_cmp]; simp [toList_mk]
  simp only [execOp, hρ x (by simp [Op.operands]) _ hx, hρ y (by simp [Op.operands]) _ hy, Sem.run_bind, e]
  simp [eqGuard]
end
section
variable {md : Md} {P : Program} {opsA : Array Oper} {rest : List Oper} {Q : Exit → Act → World → Prop} {a : Act} {w w0 : World} {h0 : View} {M : List Nat} {O : List OE} {F : View → Prop} {n : Nat} {L : FL} {T ty : TypeId} {pos : String} {af : Array Edge}
theorem s_callBT {dd sz : Nat} {xs : List Value} {tl : List Value} {f : FuncId} {args : List Operand} {vsl : List Value} {ats : Array TypeId} (hF : Fr a n L) (hS : St w0 h0 M w O F) (hc : CallOk P f) (ha : evs L args = some vsl)
    (H : Calls P f vsl.toArray w (RetM [] w fun v w' => ∃ u, v = .tuple (u :: tl).toArray ∧ NewBuf w T sz xs u w')) (hd : Nat.blt dd n = true)
    (k : ∀ a0 nn c w' a, nn * sz = xs.length → St w0 h0 M w' (bufE T sz (.slice a0 nn c) xs :: O) F → Fr a n ((dd, .val (.tuple (.slice a0 nn c :: tl).toArray)) :: L) → wpM md P opsA Q rest a w') :
    wpM md P opsA Q (⟨some dd, .call ⟨.value (.func f), args.toArray, ats⟩, ty, pos, af, none⟩ :: rest) a w := by
  refine s_ds hF (ds_call (Post := fun u w' => ∃ a0 nn c, u = .tuple (.slice a0 nn c :: tl).toArray ∧ nn * sz = xs.length ∧ St w0 h0 M w' (bufE T sz (.slice a0 nn c) xs :: O) F) hc ha (H.mono ?_)) hd ?_
  · rintro e w' ⟨v, rfl, hk, u, rfl, hB⟩
    obtain ⟨a0, nn, c, rfl, hnn⟩ := hB.form
    exact ⟨_, rfl, a0, nn, c, rfl, hnn, hS.addBuf hk hB⟩
  · rintro v w' a' ⟨a0, nn, c, rfl, hnn, hS'⟩ hF'
    exact k a0 nn c w' a' hnn hS' hF'
end
theorem calls_same {P : Program} {w : World} {f : FuncId} {args : Array Value} {v : Value} {h : View} (H : Calls P f args w fun e w' => e = .returned v ∧ w' = w) : Calls P f args w (Ret w h fun u _ => u = v) :=
  calls_below (H.mono fun e w' ⟨he, hw⟩ => ⟨he, by subst hw; exact Below.refl _ _⟩)
theorem St.bufFull {w w0 : World} {h0 : View} {M : List Nat} {O : List OE} {F : View → Prop} {T : TypeId} {i sz nn c : Nat} {a0 : Option Addr} {α : Type} {f : α → List Value} {l : List α} (hS : St w0 h0 M w O F) (hi : O[i]? = some (bufE T sz (.slice a0 nn c) (l.map f).flatten)) (hf : ∀ x ∈ l, (f x).length = sz) (hn : nn = l.length) :
    SlC T sz (flatR f) (Full w) (.slice a0 nn c) l := by
  refine BufC.sl (hS.own _ (List.mem_of_getElem? hi)) (fun b hb => ?_) hf hn
  have hb2 : (bufE T sz (Value.slice a0 nn c) (l.map f).flatten).1 = some b := hb
  rw [hb2]; rfl
end Go.Dx
