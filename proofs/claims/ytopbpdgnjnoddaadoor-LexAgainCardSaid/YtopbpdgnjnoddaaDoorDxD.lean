/- Laws of one step of a walk, and of what memory holds. No condition beyond what each names. -/
import Derived.Test.YtopbpdgnjnoddaaDoorDxC
set_option linter.unusedSimpArgs false
set_option linter.unusedVariables false
namespace Go.Dx
open Go Go.RowKit

abbrev vs (l : List UInt8) : Value := .string ⟨l.toArray⟩

section pure
variable {P : Program} {L : FL} {w : World} {d : Option Nat} {ty t t' : TypeId} {pos : String} {af : Array Edge} {g : Option (Nat × Bool)} {x y z : Operand}

theorem pu_move {v : Value} (h : ev L x = some v) : Pu P L ⟨d, .move x, ty, pos, af, g⟩ w v := by
  intro ρ hρ; simp [execOp, hρ x (by simp [Op.operands]) _ h]
theorem pu_assign {v : Value} (h : ev L x = some v) : Pu P L ⟨d, .assign x, ty, pos, af, g⟩ w v := by
  intro ρ hρ; simp [execOp, hρ x (by simp [Op.operands]) _ h]
theorem pu_nil {ad : Addr} (h : ev L x = some (.pointer (some ad))) : Pu P L ⟨d, .nilCheck x, ty, pos, af, g⟩ w (.pointer (some ad)) := by
  intro ρ hρ; simp [execOp, hρ x (by simp [Op.operands]) _ h]
theorem pu_pick_t {b : Bool} {v : Value} (hc : ev L x = some (.bool b)) (hb : b = true) (h : ev L y = some v) : Pu P L ⟨d, .pick x y z, ty, pos, af, g⟩ w v := by
  intro ρ hρ; subst hb; simp [execOp, hρ x (by simp [Op.operands]) _ hc, hρ y (by simp [Op.operands]) _ h, asBool]
theorem pu_pick_f {b : Bool} {v : Value} (hc : ev L x = some (.bool b)) (hb : b = false) (h : ev L z = some v) : Pu P L ⟨d, .pick x y z, ty, pos, af, g⟩ w v := by
  intro ρ hρ; subst hb; simp [execOp, hρ x (by simp [Op.operands]) _ hc, hρ z (by simp [Op.operands]) _ h, asBool]

/-! integers -/
section int
variable {k : IntKind} {m n r : Int}
theorem pu_add (hx : ev L x = some (.int k m)) (hy : ev L y = some (.int k n)) (hr : k.wrap (m + n) = r) : Pu P L ⟨d, .binOp .add t x y t', ty, pos, af, g⟩ w (.int k r) := by
  intro ρ hρ; simp [execOp, hρ x (by simp [Op.operands]) _ hx, hρ y (by simp [Op.operands]) _ hy, binOp, eqGuard, Op.intArith, hr]
theorem pu_sub (hx : ev L x = some (.int k m)) (hy : ev L y = some (.int k n)) (hr : k.wrap (m - n) = r) : Pu P L ⟨d, .binOp .sub t x y t', ty, pos, af, g⟩ w (.int k r) := by
  intro ρ hρ; simp [execOp, hρ x (by simp [Op.operands]) _ hx, hρ y (by simp [Op.operands]) _ hy, binOp, eqGuard, Op.intArith, hr]
theorem pu_mul (hx : ev L x = some (.int k m)) (hy : ev L y = some (.int k n)) (hr : k.wrap (m * n) = r) : Pu P L ⟨d, .binOp .mul t x y t', ty, pos, af, g⟩ w (.int k r) := by
  intro ρ hρ; simp [execOp, hρ x (by simp [Op.operands]) _ hx, hρ y (by simp [Op.operands]) _ hy, binOp, eqGuard, Op.intArith, hr]
theorem pu_quo (hx : ev L x = some (.int k m)) (hy : ev L y = some (.int k n)) (h0 : n ≠ 0) (hr : k.wrap (m.tdiv n) = r) : Pu P L ⟨d, .binOp .quo t x y t', ty, pos, af, g⟩ w (.int k r) := by
  intro ρ hρ; simp [execOp, hρ x (by simp [Op.operands]) _ hx, hρ y (by simp [Op.operands]) _ hy, binOp, eqGuard, Op.intDiv, hr, h0]
theorem pu_rem (hx : ev L x = some (.int k m)) (hy : ev L y = some (.int k n)) (h0 : n ≠ 0) (hr : m.tmod n = r) : Pu P L ⟨d, .binOp .rem t x y t', ty, pos, af, g⟩ w (.int k r) := by
  intro ρ hρ; simp [execOp, hρ x (by simp [Op.operands]) _ hx, hρ y (by simp [Op.operands]) _ hy, binOp, eqGuard, Op.intDiv, hr, h0]
theorem pu_ieq (hx : ev L x = some (.int k m)) (hy : ev L y = some (.int k n)) : Pu P L ⟨d, .binOp .eql t x y t', ty, pos, af, g⟩ w (.bool (decide (m = n))) := by
  intro ρ hρ; simp [execOp, hρ x (by simp [Op.operands]) _ hx, hρ y (by simp [Op.operands]) _ hy, binOp, eqGuard, Op.intCmp]; rfl
theorem pu_ine (hx : ev L x = some (.int k m)) (hy : ev L y = some (.int k n)) : Pu P L ⟨d, .binOp .neq t x y t', ty, pos, af, g⟩ w (.bool (!decide (m = n))) := by
  intro ρ hρ; simp [execOp, hρ x (by simp [Op.operands]) _ hx, hρ y (by simp [Op.operands]) _ hy, binOp, eqGuard, Op.intCmp]; rfl
theorem pu_ilt (hx : ev L x = some (.int k m)) (hy : ev L y = some (.int k n)) : Pu P L ⟨d, .binOp .lss t x y t', ty, pos, af, g⟩ w (.bool (decide (m < n))) := by
  intro ρ hρ; simp [execOp, hρ x (by simp [Op.operands]) _ hx, hρ y (by simp [Op.operands]) _ hy, binOp, eqGuard, Op.intCmp]
theorem pu_ile (hx : ev L x = some (.int k m)) (hy : ev L y = some (.int k n)) : Pu P L ⟨d, .binOp .leq t x y t', ty, pos, af, g⟩ w (.bool (decide (m ≤ n))) := by
  intro ρ hρ; simp [execOp, hρ x (by simp [Op.operands]) _ hx, hρ y (by simp [Op.operands]) _ hy, binOp, eqGuard, Op.intCmp]
theorem pu_igt (hx : ev L x = some (.int k m)) (hy : ev L y = some (.int k n)) : Pu P L ⟨d, .binOp .gtr t x y t', ty, pos, af, g⟩ w (.bool (decide (n < m))) := by
  intro ρ hρ; simp [execOp, hρ x (by simp [Op.operands]) _ hx, hρ y (by simp [Op.operands]) _ hy, binOp, eqGuard, Op.intCmp]
theorem pu_ige (hx : ev L x = some (.int k m)) (hy : ev L y = some (.int k n)) : Pu P L ⟨d, .binOp .geq t x y t', ty, pos, af, g⟩ w (.bool (decide (n ≤ m))) := by
  intro ρ hρ; simp [execOp, hρ x (by simp [Op.operands]) _ hx, hρ y (by simp [Op.operands]) _ hy, binOp, eqGuard, Op.intCmp]
theorem pu_neg (hx : ev L x = some (.int k m)) (hr : k.wrap (0 - m) = r) : Pu P L ⟨d, .unOp .neg t x, ty, pos, af, g⟩ w (.int k r) := by
  intro ρ hρ; simp [execOp, hρ x (by simp [Op.operands]) _ hx, Op.unary, Op.intArith]; simpa using hr
theorem pu_conv {k' : IntKind} (ht' : P.underlying t' = some (.int k')) (ht : ∃ u, P.underlying t = some u) (hx : ev L x = some (.int k m)) (hr : k'.wrap m = r) :
    Pu P L ⟨d, .convert t t' x, ty, pos, af, g⟩ w (.int k' r) := by
  intro ρ hρ
  obtain ⟨u, hu⟩ := ht
  simp [execOp, hρ x (by simp [Op.operands]) _ hx, convert, run_underlying hu, run_underlying ht', Conv.intToInt, hr]
theorem pu_shl {k2 : IntKind} (hx : ev L x = some (.int k m)) (hy : ev L y = some (.int k2 n)) (h0 : 0 ≤ n) (hr : k.wrap (m * 2 ^ (min n.toNat k.bits)) = r) : Pu P L ⟨d, .binOp .shl t x y t', ty, pos, af, g⟩ w (.int k r) := by
  intro ρ hρ; simp [execOp, hρ x (by simp [Op.operands]) _ hx, hρ y (by simp [Op.operands]) _ hy, binOp, eqGuard, Op.shift, hr, show ¬ n < 0 by omega]
theorem pu_shr {k2 : IntKind} (hx : ev L x = some (.int k m)) (hy : ev L y = some (.int k2 n)) (h0 : 0 ≤ n) (hr : m.fdiv (2 ^ (min n.toNat k.bits)) = r) : Pu P L ⟨d, .binOp .shr t x y t', ty, pos, af, g⟩ w (.int k r) := by
  intro ρ hρ; simp [execOp, hρ x (by simp [Op.operands]) _ hx, hρ y (by simp [Op.operands]) _ hy, binOp, eqGuard, Op.shift, hr, show ¬ n < 0 by omega]
theorem pu_and (hx : ev L x = some (.int k m)) (hy : ev L y = some (.int k n)) (hr : k.wrap ((BitVec.ofInt k.bits m &&& BitVec.ofInt k.bits n).toNat : Int) = r) : Pu P L ⟨d, .binOp .and t x y t', ty, pos, af, g⟩ w (.int k r) := by
  intro ρ hρ; simp only [execOp, hρ x (by simp [Op.operands]) _ hx, hρ y (by simp [Op.operands]) _ hy, binOp, eqGuard, Op.intBits]; rw [hr]; simp
theorem pu_or (hx : ev L x = some (.int k m)) (hy : ev L y = some (.int k n)) (hr : k.wrap ((BitVec.ofInt k.bits m ||| BitVec.ofInt k.bits n).toNat : Int) = r) : Pu P L ⟨d, .binOp .or t x y t', ty, pos, af, g⟩ w (.int k r) := by
  intro ρ hρ; simp only [execOp, hρ x (by simp [Op.operands]) _ hx, hρ y (by simp [Op.operands]) _ hy, binOp, eqGuard, Op.intBits]; rw [hr]; simp
theorem pu_xor (hx : ev L x = some (.int k m)) (hy : ev L y = some (.int k n)) (hr : k.wrap ((BitVec.ofInt k.bits m ^^^ BitVec.ofInt k.bits n).toNat : Int) = r) : Pu P L ⟨d, .binOp .xor t x y t', ty, pos, af, g⟩ w (.int k r) := by
  intro ρ hρ; simp only [execOp, hρ x (by simp [Op.operands]) _ hx, hρ y (by simp [Op.operands]) _ hy, binOp, eqGuard, Op.intBits]; rw [hr]; simp
theorem pu_andnot (hx : ev L x = some (.int k m)) (hy : ev L y = some (.int k n)) (hr : k.wrap ((BitVec.ofInt k.bits m &&& ~~~ BitVec.ofInt k.bits n).toNat : Int) = r) : Pu P L ⟨d, .binOp .andNot t x y t', ty, pos, af, g⟩ w (.int k r) := by
  intro ρ hρ; simp only [execOp, hρ x (by simp [Op.operands]) _ hx, hρ y (by simp [Op.operands]) _ hy, binOp, eqGuard, Op.intBits]; rw [hr]; simp
end int

/-! bools -/
theorem pu_not {b : Bool} (hx : ev L x = some (.bool b)) : Pu P L ⟨d, .unOp .not t x, ty, pos, af, g⟩ w (.bool (!b)) := by
  intro ρ hρ; simp [execOp, hρ x (by simp [Op.operands]) _ hx, Op.unary]
theorem run_equal_bool {b c : Bool} (ht : P.underlying t = some .bool) : (Op.equal t (.bool b) (.bool c)).run P w = .ok (b == c) w := by
  unfold Op.equal Op.maxDepth Op.equalIn
  simp only [Sem.run_bind, run_underlying ht, Result.andThen_ok, Sem.run_pure]
theorem run_beq {b c : Bool} (ht : P.underlying t = some .bool) : (binOp .eql t (.bool b) (.bool c)).run P w = .ok (.bool (b == c)) w := by
  simp only [binOp, Sem.run_bind, run_equal_bool ht, Result.andThen_ok, Sem.run_pure]
theorem run_bne {b c : Bool} (ht : P.underlying t = some .bool) : (binOp .neq t (.bool b) (.bool c)).run P w = .ok (.bool (!(b == c))) w := by
  simp only [binOp, Sem.run_bind, run_equal_bool ht, Result.andThen_ok, Sem.run_pure]
theorem pu_beq {b c : Bool} (ht : P.underlying t = some .bool) (hx : ev L x = some (.bool b)) (hy : ev L y = some (.bool c)) : Pu P L ⟨d, .binOp .eql t x y t', ty, pos, af, g⟩ w (.bool (b == c)) := by
  intro ρ hρ; simp only [execOp, hρ x (by simp [Op.operands]) _ hx, hρ y (by simp [Op.operands]) _ hy]
  simp [eqGuard, run_beq ht]
theorem pu_bne {b c : Bool} (ht : P.underlying t = some .bool) (hx : ev L x = some (.bool b)) (hy : ev L y = some (.bool c)) : Pu P L ⟨d, .binOp .neq t x y t', ty, pos, af, g⟩ w (.bool (!(b == c))) := by
  intro ρ hρ; simp only [execOp, hρ x (by simp [Op.operands]) _ hx, hρ y (by simp [Op.operands]) _ hy]
  simp [eqGuard, run_bne ht]

/-! strings -/
section str
variable {l l' : List UInt8}
theorem size_mk (l : List UInt8) : (ByteArray.mk l.toArray).size = l.length := by simp [← ByteArray.size_data]
theorem run_len_s {ats : Array TypeId} (ht : P.underlying t = some .string) (ha : ats[0]? = some t) : (Builtin.len_ ats ty #[vs l]).run P w = .ok (.int .i64 l.length) w := by
  unfold Builtin.len_
  simp only [ha, List.getElem?_toArray, List.getElem?_cons_zero, Sem.run_bind, run_underlying ht, Result.andThen_ok, Sem.run_pure, goInt, size_mk]
theorem pu_len_s {ats : Array TypeId} (ht : P.underlying t = some .string) (ha : ats[0]? = some t) (hx : ev L x = some (vs l)) : Pu P L ⟨d, .call ⟨.builtin .len, #[x], ats⟩, ty, pos, af, g⟩ w (.int .i64 l.length) := by
  intro ρ hρ; simp [execOp, resolve, invoke, builtin, hρ x (by simp [Op.operands, Call.operands]) _ hx, run_len_s ht ha]
theorem pu_len_sl {ats : Array TypeId} {e : TypeId} {a : Option Addr} {n c : Nat} (ht : P.underlying t = some (.slice e)) (ha : ats[0]? = some t) (hx : ev L x = some (.slice a n c)) :
    Pu P L ⟨d, .call ⟨.builtin .len, #[x], ats⟩, ty, pos, af, g⟩ w (.int .i64 n) := by
  intro ρ hρ; simp [execOp, resolve, invoke, builtin, hρ x (by simp [Op.operands, Call.operands]) _ hx, Builtin.len_, ha, run_underlying ht, goInt]
theorem toList_mk (l : List UInt8) : (ByteArray.mk l.toArray).toList = l := by simp
theorem mk_append (l l' : List UInt8) : (ByteArray.mk l.toArray) ++ (ByteArray.mk l'.toArray) = ⟨(l ++ l').toArray⟩ := by
  apply ByteArray.ext; simp
theorem pu_cat (hx : ev L x = some (vs l)) (hy : ev L y = some (vs l')) (hs : l.length + l'.length ≤ 9223372036854775807) : Pu P L ⟨d, .binOp .add t x y t', ty, pos, af, g⟩ w (vs (l ++ l')) := by
  intro ρ hρ
  have e : ¬ (((ByteArray.mk l.toArray).size + (ByteArray.mk l'.toArray).size : Nat) : Int) > IntKind.i64.max := by
    rw [size_mk, size_mk]; have : IntKind.i64.max = 9223372036854775807 := by decide
    omega
  simp only [execOp, hρ x (by simp [Op.operands]) _ hx, hρ y (by simp [Op.operands]) _ hy, binOp, eqGuard, Op.stringOp]
  rw [if_neg e, mk_append]
  simp
theorem beq_dec (l l' : List UInt8) : (l == l') = decide (l = l') := by rw [Bool.eq_iff_iff]; simp
theorem pu_seq (hx : ev L x = some (vs l)) (hy : ev L y = some (vs l')) : Pu P L ⟨d, .binOp .eql t x y t', ty, pos, af, g⟩ w (.bool (decide (l = l'))) := by
  intro ρ hρ; simp [execOp, hρ x (by simp [Op.operands]) _ hx, hρ y (by simp [Op.operands]) _ hy, binOp, eqGuard, Op.stringOp]; exact beq_dec l l'
theorem pu_sne (hx : ev L x = some (vs l)) (hy : ev L y = some (vs l')) : Pu P L ⟨d, .binOp .neq t x y t', ty, pos, af, g⟩ w (.bool (!decide (l = l'))) := by
  intro ρ hρ; simp [execOp, hρ x (by simp [Op.operands]) _ hx, hρ y (by simp [Op.operands]) _ hy, binOp, eqGuard, Op.stringOp]; exact beq_dec l l'
theorem mk_get (l : List UInt8) (i : Nat) (h : i < l.length) : (ByteArray.mk l.toArray)[i]? = some (l.getD i 0) := by
  have h2 : i < (ByteArray.mk l.toArray).size := by rw [size_mk]; exact h
  rw [getElem?_pos _ i h2]
  congr 1
  simp [h]
  rfl
theorem run_idx {k : IntKind} {i : Int} (ht : P.underlying t = some .string) (h0 : 0 ≤ i) (h1 : i < l.length) : (Instr.index t (vs l) (.int k i)).run P w = .ok (.int .u8 ((l.getD i.toNat 0).toNat : Int)) w := by
  have hlt : i.toNat < l.length := by omega
  unfold Instr.index
  simp only [asIntOf, Sem.run_bind, Sem.run_pure, Result.andThen_ok, run_underlying ht, h0, if_true, mk_get l _ hlt]
theorem pu_idx {k : IntKind} {i : Int} (ht : P.underlying t = some .string) (hx : ev L x = some (vs l)) (hy : ev L y = some (.int k i)) (h0 : 0 ≤ i) (h1 : i < l.length) :
    Pu P L ⟨d, .index t x y, ty, pos, af, g⟩ w (.int .u8 ((l.getD i.toNat 0).toNat : Int)) := by
  intro ρ hρ
  simp [execOp, hρ x (by simp [Op.operands]) _ hx, hρ y (by simp [Op.operands]) _ hy, run_idx ht h0 h1]
theorem mk_extract (l : List UInt8) (a b : Nat) : (ByteArray.mk l.toArray).extract a b = ⟨((l.drop a).take (b - a)).toArray⟩ := by
  apply ByteArray.ext
  simp
theorem run_bound {k : IntKind} {i : Int} {y : Nat} {c : BoundsCode} (h0 : 0 ≤ i) (h1 : i ≤ y) : (Instr.sliceBound (.int k i) y c).run P w = .ok i.toNat w := by
  unfold Instr.sliceBound
  simp only [asIntOf, Sem.run_bind, Sem.run_pure, Result.andThen_ok, h0, h1, and_self, if_true]
theorem pu_from {k : IntKind} {i : Int} (ht : P.underlying t = some .string) (hx : ev L x = some (vs l)) (hy : ev L y = some (.int k i)) (h0 : 0 ≤ i) (h1 : i ≤ l.length) :
    Pu P L ⟨d, .slice t x (some y) none none, ty, pos, af, g⟩ w (vs (l.drop i.toNat)) := by
  intro ρ hρ
  have e : (l.drop i.toNat).take (l.length - i.toNat) = l.drop i.toNat := List.take_of_length_le (by simp)
  simp only [execOp, hρ x (by simp [Op.operands]) _ hx, Option.map_some, Option.map_none, hρ y (by simp [Op.operands]) _ hy]
  unfold Instr.sliceAt Instr.slice Instr.sliceBounds
  simp [run_underlying ht, run_bound h0 h1, mk_extract, size_mk, e]
theorem pu_to {k : IntKind} {i : Int} (ht : P.underlying t = some .string) (hx : ev L x = some (vs l)) (hy : ev L y = some (.int k i)) (h0 : 0 ≤ i) (h1 : i ≤ l.length) :
    Pu P L ⟨d, .slice t x none (some y) none, ty, pos, af, g⟩ w (vs (l.take i.toNat)) := by
  intro ρ hρ
  simp only [execOp, hρ x (by simp [Op.operands]) _ hx, Option.map_some, Option.map_none, hρ y (by simp [Op.operands]) _ hy]
  unfold Instr.sliceAt Instr.slice Instr.sliceBounds
  simp [run_underlying ht, run_bound h0 h1, mk_extract, size_mk]
theorem pu_fromto {k k' : IntKind} {i j : Int} (ht : P.underlying t = some .string) (hx : ev L x = some (vs l)) (hy : ev L y = some (.int k i)) (hz : ev L z = some (.int k' j)) (h0 : 0 ≤ i) (hij : i ≤ j) (h1 : j ≤ l.length) :
    Pu P L ⟨d, .slice t x (some y) (some z) none, ty, pos, af, g⟩ w (vs ((l.drop i.toNat).take (j.toNat - i.toNat))) := by
  intro ρ hρ
  simp only [execOp, hρ x (by simp [Op.operands]) _ hx, Option.map_some, Option.map_none, hρ y (by simp [Op.operands]) _ hy, hρ z (by simp [Op.operands]) _ hz]
  unfold Instr.sliceAt Instr.slice Instr.sliceBounds
  simp [run_underlying ht, run_bound (show 0 ≤ j by omega) h1, run_bound h0 (show i ≤ ((j.toNat : Nat) : Int) by omega), mk_extract, size_mk]
end str

/-! addresses, tuples, calls -/
theorem pu_extract {vsl : List Value} {i : Nat} {v : Value} (hx : ev L x = some (.tuple vsl.toArray)) (hi : vsl[i]? = some v) : Pu P L ⟨d, .extract x i, ty, pos, af, g⟩ w v := by
  intro ρ hρ
  simp [execOp, hρ x (by simp [Op.operands]) _ hx, Instr.extract, hi]
theorem add_mk (b o n : Nat) : (⟨b, o, none⟩ : Addr).add n = ⟨b, o + n, none⟩ := by unfold Addr.add; split <;> simp_all
def SzIs (P : Program) (t : TypeId) (n : Nat) : Prop := ∃ inf, P.info? t = some inf ∧ inf.size = n
def FldAt (P : Program) (t : TypeId) (i off : Nat) : Prop := ∃ fields f n, P.underlying t = some (.struct fields) ∧ fields[i]? = some f ∧ SzIs P f.type n ∧ n ≠ 0 ∧ f.offset = off
def SlT (P : Program) (t e : TypeId) (sz : Nat) : Prop := P.underlying t = some (.slice e) ∧ SzIs P e sz
def ArT (P : Program) (t : TypeId) (n : Nat) (e : TypeId) (sz : Nat) : Prop := P.underlying t = some (.array n e) ∧ SzIs P e sz
def aggB : TypeDesc → Bool
  | .struct _ | .array _ _ => true
  | _ => false
def OneT (P : Program) (t : TypeId) : Prop := ∃ u, P.underlying t = some u ∧ aggB u = false
def AggT (P : Program) (t : TypeId) (n : Nat) : Prop := (∃ u, P.underlying t = some u ∧ aggB u = true) ∧ SzIs P t n
def ZeroT (P : Program) (t : TypeId) (cs : List Value) : Prop := ∃ inf z, P.info? t = some inf ∧ inf.zero = some z ∧ z.cells = cs.toArray ∧ inf.size = cs.length

theorem pu_faddr {b o i off : Nat} (hf : FldAt P t i off) (hx : ev L x = some (.pointer (some ⟨b, o, none⟩))) : Pu P L ⟨d, .fieldAddr t x i, ty, pos, af, g⟩ w (.pointer (some ⟨b, o + off, none⟩)) := by
  intro ρ hρ
  obtain ⟨fields, f, n, ht, hf, ⟨inf, hi, hs⟩, h0, rfl⟩ := hf
  have hz : inf.size ≠ 0 := by rw [hs]; exact h0
  simp [execOp, hρ x (by simp [Op.operands]) _ hx, Instr.fieldAt, run_underlying ht, hf, Instr.sureAddr, fieldPlace, sizeOf, typeInfo, hi, hz, add_mk]
theorem pu_iaddr_sl {k : IntKind} {b o sz : Nat} {e : TypeId} {n c : Nat} {i : Int} (ht : SlT P t e sz)
    (hx : ev L x = some (.slice (some ⟨b, o, none⟩) n c)) (hy : ev L y = some (.int k i)) (h0 : 0 ≤ i) (h1 : i < n) : Pu P L ⟨d, .indexAddr t x y, ty, pos, af, g⟩ w (.pointer (some ⟨b, o + i.toNat * sz, none⟩)) := by
  intro ρ hρ
  obtain ⟨ht, inf, hi, rfl⟩ := ht
  simp [execOp, hρ x (by simp [Op.operands]) _ hx, hρ y (by simp [Op.operands]) _ hy, Instr.indexAt, asIntOf, run_underlying ht, sizeOf, typeInfo, hi, h0, h1, add_mk]
theorem pu_iaddr_ar {k : IntKind} {b o sz : Nat} {e : TypeId} {n : Nat} {i : Int} (ht : ArT P t n e sz)
    (hx : ev L x = some (.pointer (some ⟨b, o, none⟩))) (hy : ev L y = some (.int k i)) (h0 : 0 ≤ i) (h1 : i < n) : Pu P L ⟨d, .indexAddr t x y, ty, pos, af, g⟩ w (.pointer (some ⟨b, o + i.toNat * sz, none⟩)) := by
  intro ρ hρ
  obtain ⟨ht, inf, hi, rfl⟩ := ht
  simp [execOp, hρ x (by simp [Op.operands]) _ hx, hρ y (by simp [Op.operands]) _ hy, Instr.indexAt, asIntOf, run_underlying ht, sizeOf, typeInfo, hi, h0, h1, Instr.sureAddr, add_mk]
theorem run_isAgg {u : TypeDesc} (h : P.underlying t = some u) : (isAgg t).run P w = .ok (aggB u) w := by
  unfold isAgg
  rw [Sem.run_bind, run_underlying h w]
  cases u <;> simp [aggB]
theorem run_load1 {ad : Addr} {v : Value} (ht : OneT P t) (hr : w.cell? ad = some v) : (loadVar t ad).run P w = .ok v w := by
  obtain ⟨u, hu, ha⟩ := ht
  unfold loadVar
  rw [Sem.run_bind, run_isAgg hu, ha]
  simp [load, Sem.run, hr]
theorem run_loadA {ad : Addr} {cs : List Value} (ht : AggT P t cs.length) (hr : ∀ j v, cs[j]? = some v → w.cell? (ad.add j) = some v) : (loadVar t ad).run P w = .ok (.agg cs.toArray) w := by
  obtain ⟨⟨u, hu, ha⟩, inf, hi, hs⟩ := ht
  have hl := run_loadCells_list (P := P) w ad cs hr
  unfold loadVar
  rw [Sem.run_bind, run_isAgg hu, ha]
  simp [sizeOf, typeInfo, hi, hs, hl]
theorem pu_load1 {ad : Addr} {v : Value} (ht : OneT P t) (hx : ev L x = some (.pointer (some ad))) (hr : w.cell? ad = some v) : Pu P L ⟨d, .load t x, ty, pos, af, g⟩ w v := by
  intro ρ hρ
  simp [execOp, hρ x (by simp [Op.operands]) _ hx, Instr.loadAt, Instr.sureAddr, run_load1 ht hr]
theorem pu_loadA {ad : Addr} {cs : List Value} (ht : AggT P t cs.length) (hx : ev L x = some (.pointer (some ad))) (hr : ∀ j v, cs[j]? = some v → w.cell? (ad.add j) = some v) : Pu P L ⟨d, .load t x, ty, pos, af, g⟩ w (.agg cs.toArray) := by
  intro ρ hρ
  simp [execOp, hρ x (by simp [Op.operands]) _ hx, Instr.loadAt, Instr.sureAddr, run_loadA ht hr]
theorem pu_func {fn : Fn} {cap : List Operand} {vsl : List Value} (hc : evs L cap = some vsl) : Pu P L ⟨d, .makeFunc fn #[] cap.toArray, ty, pos, af, g⟩ w (.func fn #[] vsl.toArray) := by
  intro ρ hρ
  have key : ∀ (l : List Operand) (vsl : List Value), evs L l = some vsl → (∀ x ∈ l, ∀ u, ev L x = some u → ρ x = u) → l.map ρ = vsl := by
    intro l
    induction l with
    | nil => intro vsl h _; simpa [evs] using h
    | cons x r ih =>
      intro vsl h hr
      unfold evs at h
      cases h1 : ev L x with
      | none => simp [h1] at h
      | some v =>
        cases h2 : evs L r with
        | none => simp [h1, h2] at h
        | some us =>
          simp [h1, h2] at h
          rw [List.map_cons, hr x (by simp) _ h1, ih us h2 fun y hy => hr y (by simp [hy]), h]
  have := key cap vsl hc fun x hx u hu => hρ x (by simp [Op.operands, hx]) u hu
  simp [execOp, this, Instr.makeFunc]

/-- A call of a named Go function. -/
def CallOk (P : Program) (f : FuncId) : Prop := ∃ fn, P.funcs[f]? = some fn ∧ (fn.name == "runtime.NumGoroutine") = false ∧ fn.body.isNone = false

theorem evs_map {ρ : Operand → Value} : ∀ (l : List Operand) (vsl : List Value), evs L l = some vsl → (∀ x ∈ l, ∀ u, ev L x = some u → ρ x = u) → l.map ρ = vsl := by
  intro l
  induction l with
  | nil => intro vsl h _; simpa [evs] using h
  | cons x r ih =>
    intro vsl h hr
    unfold evs at h
    cases h1 : ev L x with
    | none => simp [h1] at h
    | some v =>
      cases h2 : evs L r with
      | none => simp [h1, h2] at h
      | some us =>
        simp [h1, h2] at h
        rw [List.map_cons, hr x (by simp) _ h1, ih us h2 fun y hy => hr y (by simp [hy]), h]

theorem run_call {f : FuncId} {args : Array Value} (h : CallOk P f) : (callFunc f args).run P w = .ok (.enter f args) w := by
  obtain ⟨fn, hf, hn, hb⟩ := h
  unfold callFunc
  simp only [Sem.run_bind, run_program, Result.andThen_ok, hf, hn, Bool.false_eq_true, if_false, hb, Sem.run_pure]

theorem ds_call {f : FuncId} {args : List Operand} {vsl : List Value} {ats : Array TypeId} {Post : VP} (hc : CallOk P f) (ha : evs L args = some vsl)
    (H : Calls P f vsl.toArray w fun e w' => ∃ v, e = .returned v ∧ Post v w') : Ds P L ⟨d, .call ⟨.value (.func f), args.toArray, ats⟩, ty, pos, af, g⟩ w Post := by
  intro ρ hρ
  have hm := evs_map args vsl ha fun x hx u hu => hρ x (by simp [Op.operands, Call.operands, hx]) u hu
  have hf : ρ (.func f) = .func (.func f) #[] #[] := hρ (.func f) (by simp [Op.operands, Call.operands]) _ rfl
  unfold Does
  have : (execOp ρ ⟨d, .call ⟨.value (.func f), args.toArray, ats⟩, ty, pos, af, g⟩).run P w = .ok (.enter f vsl.toArray) w := by
    simp only [execOp, resolve, List.map_toArray, hm, hf, Deferred.ofValue, Sem.run_bind, Sem.run_pure, Result.andThen_ok, invoke, Array.append_empty, Array.empty_append]
    exact run_call hc
  rw [this]
  exact H
end pure
end Go.Dx
