/- Plain functions: values, their bytes and texts, and how they stand. -/
import Derived.Test.YtopbpdgnjnoddaaDoorDxY
set_option linter.unusedSimpArgs false
set_option linter.unusedVariables false
namespace Go.Proofs.YtopbpdgnjnoddaaDoor
open Go Go.Dx Go.RowKit
structure Val where
  k : Int
  n : Int
  s : List UInt8
deriving DecidableEq
def v0 : Val := ⟨0, 0, []⟩
def valC (v : Val) : List Value := [.int .i64 v.k, .int .i64 v.n, vs v.s]
def i64 (n : Int) : Prop := -9223372036854775808 ≤ n ∧ n ≤ 9223372036854775807
def valB (v : Val) : Prop := i64 v.k ∧ i64 v.n
def plainS (s : List UInt8) : Bool := decide (s.length ≤ 40) && s.all fun b => decide (32 ≤ (b.toNat : Int)) && decide ((b.toNat : Int) ≤ 126)
def plB (b : UInt8) : Bool := decide (32 ≤ (b.toNat : Int)) && decide ((b.toNat : Int) ≤ 126)
theorem pl_yes {b : UInt8} (h1 : ¬ (b.toNat : Int) < 32) (h2 : ¬ (b.toNat : Int) > 126) : plB b = true := by simp [plB]; omega
theorem pl_no {b : UInt8} (h : (b.toNat : Int) < 32 ∨ (b.toNat : Int) > 126) : plB b = false := by simp [plB]; omega
theorem plain_not {s : List UInt8} {k : Nat} (hk : k < s.length) (h : plB (s.getD k 0) = false) : plainS s = false := by
  have := all_not (p := plB) 0 hk h
  rw [plainS, show (s.all fun b => decide (32 ≤ (b.toNat : Int)) && decide ((b.toNat : Int) ≤ 126)) = s.all plB from rfl, this, Bool.and_false]
theorem plain_no {s : List UInt8} {k : Nat} (hk : k < s.length) (h : ((s.getD k 0).toNat : Int) < 32 ∨ ((s.getD k 0).toNat : Int) > 126) : plainS s = false := plain_not hk (pl_no h)
theorem plain_len (s : List UInt8) (h : ∀ j, j < s.length → plB (s.getD j 0) = true) : decide ((s.length : Int) ≤ 40) = plainS s := by
  have := all_upto (p := plB) 0 h
  rw [plainS, show (s.all fun b => decide (32 ≤ (b.toNat : Int)) && decide ((b.toNat : Int) ≤ 126)) = s.all plB from rfl, this, Bool.and_true]
  exact Bool.eq_iff_iff.2 (by simp; omega)
theorem plain_long {s : List UInt8} (h : 40 < s.length) : plainS s = false := by rw [plainS, decide_eq_false (by omega), Bool.false_and]
theorem plain_all {s : List UInt8} (h0 : s.length ≤ 40) (h : ∀ j, j < s.length → plB (s.getD j 0) = true) : plainS s = true := by rw [← plain_len s h]; simp; omega
theorem dec_plain {s : List UInt8} {k : Nat} (hk : k < s.length) (h1 : ¬ ((Utf8.decode ⟨s.toArray⟩ k).1 : Int) < 32) (h2 : ¬ ((Utf8.decode ⟨s.toArray⟩ k).1 : Int) > 126) : plB (s.getD k 0) = true ∧ (Utf8.decode ⟨s.toArray⟩ k).2 = 1 := by
  rcases Nat.lt_or_ge (s.getD k 0).toNat 128 with h | h
  · have e := decode_lo hk h
    rw [e] at h1 h2 ⊢
    exact ⟨pl_yes h1 h2, rfl⟩
  · have := (decode_hi hk h).1
    omega
theorem dec_bad {s : List UInt8} {k : Nat} (hk : k < s.length) (h1 : ((Utf8.decode ⟨s.toArray⟩ k).1 : Int) < 32 ∨ ((Utf8.decode ⟨s.toArray⟩ k).1 : Int) > 126) : plB (s.getD k 0) = false := by
  rcases Nat.lt_or_ge (s.getD k 0).toNat 128 with h | h
  · have e := decode_lo hk h
    rw [e] at h1
    exact pl_no h1
  · exact pl_no (by omega)
theorem andnot1 {n : Int} (h : i64 n) {r : Int} (hr : IntKind.i64.wrap ((BitVec.ofInt IntKind.i64.bits n &&& ~~~ BitVec.ofInt IntKind.i64.bits 1).toNat : Int) = r) : (r = 0) ↔ (n = 0 ∨ n = 1) := by
  subst hr
  constructor
  · intro hw
    have hz : (BitVec.ofInt IntKind.i64.bits n &&& ~~~ BitVec.ofInt IntKind.i64.bits 1).toNat = 0 := by
      have hlt := (BitVec.ofInt IntKind.i64.bits n &&& ~~~ BitVec.ofInt IntKind.i64.bits 1).isLt
      generalize (BitVec.ofInt IntKind.i64.bits n &&& ~~~ BitVec.ofInt IntKind.i64.bits 1).toNat = m at *
      have hb : IntKind.i64.bits = 64 := rfl
      rw [hb] at hlt
      simp only [IntKind.wrap, IntKind.bits, IntKind.signed] at hw
      omega
    have hx : (BitVec.ofInt IntKind.i64.bits n).toNat < 2 ^ 1 := by
      refine Nat.lt_pow_two_of_testBit _ fun i hi => ?_
      have e : (BitVec.ofInt IntKind.i64.bits n &&& ~~~ BitVec.ofInt IntKind.i64.bits 1) = 0#_ := BitVec.eq_of_toNat_eq (by simpa using hz)
      have e2 := congrArg (fun x => x.getLsbD i) e
      simp only [BitVec.getLsbD_and, BitVec.getLsbD_not, BitVec.getLsbD_zero] at e2
      rw [BitVec.testBit_toNat]
      by_cases hi2 : i < IntKind.i64.bits
      · have : (BitVec.ofInt IntKind.i64.bits 1).getLsbD i = false := by
          rw [show BitVec.ofInt IntKind.i64.bits 1 = 1#IntKind.i64.bits from rfl, BitVec.getLsbD_one]
          simp; omega
        rw [this] at e2
        simpa only [hi2, decide_true, Bool.true_and, Bool.not_false, Bool.and_true] using e2
      · exact BitVec.getLsbD_of_ge _ _ (by omega)
    rw [BitVec.toNat_ofInt] at hx
    have hb : IntKind.i64.bits = 64 := rfl
    rw [hb] at hx
    unfold i64 at h
    omega
  · rintro (rfl | rfl) <;> decide
def valOk (v : Val) : Bool :=
  if v.k = 0 then decide (v.n = 0) && decide (v.s = []) else if v.k = 1 then decide (v.s = []) else if v.k = 2 then decide (v.n = 0) && plainS v.s
  else if v.k = 3 then decide (v.s = []) && (decide (v.n = 0) || decide (v.n = 1)) else false
theorem upto_snoc {P : Nat → Prop} {k : Nat} (h : ∀ j, j < k → P j) (hk : P k) : ∀ j, j < k + 1 → P j := by
  intro j hj
  rcases Nat.lt_or_ge j k with h1 | h1
  · exact h j h1
  · rw [show j = k by omega]; exact hk

theorem getD_mem {α : Type} (l : List α) (k : Nat) (d : α) (h : k < l.length) : l.getD k d ∈ l := by
  simp [List.getD, h]
theorem getD_lt {α : Type} (l : List α) (k : Nat) (d : α) (h : k < l.length) : l.getD k d = l[k] := by
  simp [List.getD, h]
theorem mem_takeD {α : Type} (d : α) {l : List α} {k : Nat} {v : α} (h : v ∈ l.take k) : ∃ j, (j < k ∧ j < l.length) ∧ l.getD j d = v := by
  obtain ⟨j, hj, rfl⟩ := List.mem_iff_getElem.1 h
  rw [List.length_take] at hj
  exact ⟨j, ⟨by omega, by omega⟩, by simp [List.getD, show j < l.length by omega]⟩
theorem valOk_cases {v : Val} (h : valOk v = true) : (v.k = 0 ∧ v.n = 0 ∧ v.s = []) ∨ (v.k = 1 ∧ v.s = []) ∨ (v.k = 2 ∧ v.n = 0 ∧ plainS v.s = true) ∨ (v.k = 3 ∧ v.s = [] ∧ (v.n = 0 ∨ v.n = 1)) := by
  unfold valOk at h
  split at h
  · simp at h; exact .inl ⟨by assumption, h.1, h.2⟩
  · split at h
    · simp at h; exact .inr (.inl ⟨by assumption, h⟩)
    · split at h
      · simp at h; exact .inr (.inr (.inl ⟨by assumption, h.1, h.2⟩))
      · split at h
        · simp at h; exact .inr (.inr (.inr ⟨by assumption, h.1, h.2⟩))
        · cases h
theorem plain_40 {s : List UInt8} (h : plainS s = true) : s.length ≤ 40 := by
  simp only [plainS, Bool.and_eq_true, decide_eq_true_eq] at h; exact h.1
theorem valOk_40 {v : Val} (h : valOk v = true) : v.s.length ≤ 40 := by
  rcases valOk_cases h with ⟨_, _, h⟩ | ⟨_, h⟩ | ⟨_, _, h⟩ | ⟨_, h, _⟩
  · simp [h]
  · simp [h]
  · exact plain_40 h
  · simp [h]
def chkV (v : Val) : Int := if valOk v then 0 else 2
def tailV (v : Val) : List UInt8 := if v.k = 2 then textS v.s else if v.k = 1 ∨ v.k = 3 then numS v.n else []
def bytesV (v : Val) : List UInt8 := numS v.k ++ tailV v
def vbR (v : Val) : List UInt8 × Int := if valOk v then (bytesV v, 0) else ([], 2)
def tsV (r : List UInt8 × Int) : Value := .tuple #[vs r.1, .int .i64 r.2]
def tvV (r : Val × List UInt8 × Int) : Value := .tuple #[.agg (valC r.1).toArray, vs r.2.1, .int .i64 r.2.2]
theorem tailV_len {v : Val} (h : valOk v = true) (hb : valB v) : (tailV v).length ≤ 50 := by
  have h4 := valOk_40 h
  have h1 := textS_len (s := v.s) (by omega)
  have h2 := numS_len (n := v.n) hb.2
  unfold tailV
  split
  · omega
  · split
    · omega
    · simp
theorem bytesV_len {v : Val} (h : valOk v = true) (hb : valB v) : (bytesV v).length ≤ 60 := by
  have h1 := tailV_len h hb
  have h2 := numS_len (n := v.k) hb.1
  rw [bytesV, List.length_append]; omega
/-! a value off the front -/
def takeU (s : List UInt8) : Val × List UInt8 × Int :=
  if (takeN s).2.2 ≠ 0 then (⟨(takeN s).1, 0, []⟩, (takeN s).2.1, (takeN s).2.2)
  else if (takeN s).1 = 0 then (⟨(takeN s).1, 0, []⟩, (takeN s).2.1, 0)
  else if (takeN s).1 = 1 ∨ (takeN s).1 = 3 then (⟨(takeN s).1, (takeN (takeN s).2.1).1, []⟩, (takeN (takeN s).2.1).2.1, (takeN (takeN s).2.1).2.2)
  else if (takeN s).1 = 2 then (⟨(takeN s).1, 0, (takeT (takeN s).2.1 40).1⟩, (takeT (takeN s).2.1 40).2.1, (takeT (takeN s).2.1 40).2.2)
  else (⟨(takeN s).1, 0, []⟩, (takeN s).2.1, 4)
theorem takeU_err {s : List UInt8} (h : ¬ (takeN s).2.2 = 0) : takeU s = (⟨(takeN s).1, 0, []⟩, (takeN s).2.1, (takeN s).2.2) := by rw [takeU, if_pos h]
theorem takeU_k0 {s : List UInt8} (h : (takeN s).2.2 = 0) (h1 : (takeN s).1 = 0) : takeU s = (⟨(takeN s).1, 0, []⟩, (takeN s).2.1, 0) := by rw [takeU, if_neg (by omega), if_pos h1]
theorem takeU_k0e {s : List UInt8} (h : (takeN s).2.2 = 0) (h1 : (takeN s).1 = 0) : takeU s = (⟨(takeN s).1, 0, []⟩, (takeN s).2.1, (takeN s).2.2) := by rw [takeU_k0 h h1, h]
theorem takeU_k13 {s : List UInt8} (h : (takeN s).2.2 = 0) (h1 : (takeN s).1 = 1 ∨ (takeN s).1 = 3) : takeU s = (⟨(takeN s).1, (takeN (takeN s).2.1).1, []⟩, (takeN (takeN s).2.1).2.1, (takeN (takeN s).2.1).2.2) := by rw [takeU, if_neg (by omega), if_neg (by omega), if_pos h1]
theorem takeU_k2 {s : List UInt8} (h : (takeN s).2.2 = 0) (h1 : (takeN s).1 = 2) : takeU s = (⟨(takeN s).1, 0, (takeT (takeN s).2.1 40).1⟩, (takeT (takeN s).2.1 40).2.1, (takeT (takeN s).2.1 40).2.2) := by rw [takeU, if_neg (by omega), if_neg (by omega), if_neg (by omega), if_pos h1]
theorem takeU_no {s : List UInt8} (h : (takeN s).2.2 = 0) (h0 : ¬ (takeN s).1 = 0) (h1 : ¬ (takeN s).1 = 1) (h2 : ¬ (takeN s).1 = 2) (h3 : ¬ (takeN s).1 = 3) : takeU s = (⟨(takeN s).1, 0, []⟩, (takeN s).2.1, 4) := by rw [takeU, if_neg (by omega), if_neg (by omega), if_neg (by omega), if_neg (by omega)]
def takeV (s : List UInt8) : Val × List UInt8 × Int := if (takeU s).2.2 = 0 then (if valOk (takeU s).1 then ((takeU s).1, (takeU s).2.1, 0) else (v0, [], 4)) else (v0, [], (takeU s).2.2)
theorem takeU_B (s : List UInt8) : valB (takeU s).1 := by
  have z : i64 0 := ⟨by decide, by decide⟩
  have a := takeN_i64 s
  have b := takeN_i64 (takeN s).2.1
  unfold takeU
  split
  · exact ⟨a, z⟩
  · split
    · exact ⟨a, z⟩
    · split
      · exact ⟨a, b⟩
      · split
        · exact ⟨a, z⟩
        · exact ⟨a, z⟩
theorem takeV_B (s : List UInt8) : valB (takeV s).1 := by
  have z : valB v0 := ⟨⟨by decide, by decide⟩, ⟨by decide, by decide⟩⟩
  unfold takeV
  split
  · split
    · exact takeU_B s
    · exact z
  · exact z
theorem takeU_s (s : List UInt8) (h : s.length ≤ 9223372036854775807) : (takeU s).1.s.length ≤ 9223372036854775807 := by
  have h1 := takeN_len s
  have h2 := (takeT_len (takeN s).2.1 40).1
  unfold takeU
  split
  · simp
  · split
    · simp
    · split
      · simp
      · split
        · show (takeT (takeN s).2.1 40).1.length ≤ _; omega
        · simp
theorem takeU_cat {s : List UInt8} (h : (takeU s).2.2 = 0) : s = numS (takeU s).1.k ++ tailV (takeU s).1 ++ (takeU s).2.1 := by
  by_cases h0 : (takeN s).2.2 = 0
  · have e1 := (num_take h0).1
    by_cases k0 : (takeN s).1 = 0
    · rw [takeU_k0 h0 k0, tailV, if_neg (by simp [k0]), if_neg (by simp [k0])]
      simpa using e1
    · by_cases k1 : (takeN s).1 = 1 ∨ (takeN s).1 = 3
      · rw [takeU_k13 h0 k1] at h ⊢
        have e2 := (num_take h).1
        rw [tailV, if_neg (show ¬ (takeN s).1 = 2 by omega), if_pos k1, List.append_assoc]
        show s = numS (takeN s).1 ++ (numS (takeN (takeN s).2.1).1 ++ (takeN (takeN s).2.1).2.1)
        rw [← e2]; exact e1
      · by_cases k2 : (takeN s).1 = 2
        · rw [takeU_k2 h0 k2] at h ⊢
          have e2 := (text_take h).1
          rw [tailV, if_pos k2, List.append_assoc]
          show s = numS (takeN s).1 ++ (textS (takeT (takeN s).2.1 40).1 ++ (takeT (takeN s).2.1 40).2.1)
          rw [← e2]; exact e1
        · rw [takeU_no h0 k0 (by omega) k2 (by omega)] at h; cases h
  · rw [takeU_err h0] at h; exact absurd h h0
theorem takeV_or (s : List UInt8) : ((takeV s).2.2 = 0 ∧ takeV s = ((takeU s).1, (takeU s).2.1, 0) ∧ (takeU s).2.2 = 0 ∧ valOk (takeU s).1 = true) ∨ ((takeV s).2.2 ≠ 0 ∧ takeV s = (v0, [], (takeV s).2.2)) := by
  unfold takeV
  split
  · rename_i h
    split
    · rename_i h2; exact .inl ⟨rfl, rfl, h, h2⟩
    · exact .inr ⟨by simp, rfl⟩
  · rename_i h; exact .inr ⟨h, rfl⟩
theorem takeV_back {s : List UInt8} (h : (takeV s).2.2 = 0) : valOk (takeV s).1 = true ∧ bytesV (takeV s).1 ++ (takeV s).2.1 = s := by
  rcases takeV_or s with ⟨_, e, h1, h2⟩ | ⟨h1, _⟩
  · rw [e]; exact ⟨h2, (takeU_cat h1).symm⟩
  · exact absurd h h1
theorem takeV_lt {s : List UInt8} (h : (takeV s).2.2 = 0) : (takeV s).2.1.length < s.length := by
  have := congrArg List.length (takeV_back h).2
  rw [List.length_append, bytesV, List.length_append] at this
  have h2 := List.length_pos_iff.2 (vnum_ne (codeN (takeV s).1.k))
  rw [show (numS (takeV s).1.k) = vnum (codeN (takeV s).1.k) from rfl] at this
  omega
theorem takeV_le (s : List UInt8) : (takeV s).2.1.length ≤ s.length := by
  rcases takeV_or s with ⟨h, _⟩ | ⟨_, e⟩
  · exact Nat.le_of_lt (takeV_lt h)
  · rw [e]; simp
theorem take_bytes {v : Val} (h : valOk v = true) (hb : valB v) (r : List UInt8) : takeV (bytesV v ++ r) = (v, r, 0) := by
  obtain ⟨k, n, s⟩ := v
  have a : takeN (bytesV ⟨k, n, s⟩ ++ r) = (k, tailV ⟨k, n, s⟩ ++ r, 0) := by
    rw [bytesV, List.append_assoc]; exact take_num hb.1 _
  have u : takeU (bytesV ⟨k, n, s⟩ ++ r) = (⟨k, n, s⟩, r, 0) := by
    rcases valOk_cases h with ⟨h1, h2, h3⟩ | ⟨h1, h3⟩ | ⟨h1, h2, h3⟩ | ⟨h1, h3, h2⟩
    · simp only at h1 h2 h3; subst h1 h2 h3
      rw [takeU_k0 (by rw [a]) (by rw [a]), a]; rfl
    · simp only at h1 h3; subst h1 h3
      have t : takeN (tailV ⟨1, n, []⟩ ++ r) = (n, r, 0) := take_num hb.2 _
      rw [takeU_k13 (by rw [a]) (by rw [a]; exact .inl rfl), a]
      show ((⟨1, (takeN (tailV ⟨1, n, []⟩ ++ r)).1, []⟩ : Val), (takeN (tailV ⟨1, n, []⟩ ++ r)).2.1, (takeN (tailV ⟨1, n, []⟩ ++ r)).2.2) = _
      rw [t]
    · simp only at h1 h2 h3; subst h1 h2
      have h4 := plain_40 h3
      have t : takeT (tailV ⟨2, 0, s⟩ ++ r) 40 = (s, r, 0) := take_text (t := s) (by omega) (by omega) _
      rw [takeU_k2 (by rw [a]) (by rw [a]), a]
      show ((⟨2, 0, (takeT (tailV ⟨2, 0, s⟩ ++ r) 40).1⟩ : Val), (takeT (tailV ⟨2, 0, s⟩ ++ r) 40).2.1, (takeT (tailV ⟨2, 0, s⟩ ++ r) 40).2.2) = _
      rw [t]
    · simp only at h1 h3; subst h1 h3
      have t : takeN (tailV ⟨3, n, []⟩ ++ r) = (n, r, 0) := take_num hb.2 _
      rw [takeU_k13 (by rw [a]) (by rw [a]; exact .inr rfl), a]
      show ((⟨3, (takeN (tailV ⟨3, n, []⟩ ++ r)).1, []⟩ : Val), (takeN (tailV ⟨3, n, []⟩ ++ r)).2.1, (takeN (tailV ⟨3, n, []⟩ ++ r)).2.2) = _
      rw [t]
  rw [takeV, u, if_pos rfl, if_pos h]
/-! rows -/
def rowB (l : List Val) : List UInt8 := (l.map bytesV).flatten
def rowS (l : List Val) : List UInt8 := numS l.length ++ rowB l
def rowR (l : List Val) : List UInt8 × Int := if l.all valOk then (rowS l, 0) else ([], 2)
def rowG : Nat → List Val → List UInt8 → List Val × List UInt8 × Int
  | 0, acc, r => (acc, r, 0)
  | k + 1, acc, r => if (takeV r).2.2 ≠ 0 then ([], [], (takeV r).2.2) else rowG k (acc ++ [(takeV r).1]) (takeV r).2.1
def takeRow (s : List UInt8) (most : Int) : List Val × List UInt8 × Int :=
  if (takeN s).2.2 ≠ 0 then ([], [], (takeN s).2.2) else if (takeN s).1 < 0 then ([], [], 4) else if most < (takeN s).1 then ([], [], 5) else rowG (takeN s).1.toNat [] (takeN s).2.1
theorem row_snoc (l : List Val) (k : Nat) (h : k < l.length) : rowB (l.take (k + 1)) = rowB (l.take k) ++ bytesV (l.getD k v0) := by
  rw [rowB, rowB, List.take_add_one, List.getElem?_eq_getElem h, List.map_append, List.flatten_append]
  congr 1
  simp [h]
theorem row_len {l : List Val} (h : ∀ v ∈ l, valOk v = true ∧ valB v) : (rowB l).length ≤ 60 * l.length := by
  induction l with
  | nil => simp [rowB]
  | cons v l ih =>
    have h1 := bytesV_len (h v (by simp)).1 (h v (by simp)).2
    have h2 := ih fun x hx => h x (by simp [hx])
    simp only [rowB, List.map_cons, List.flatten_cons, List.length_append, List.length_cons] at *
    omega
theorem rowG_step {n : Nat} {acc : List Val} {r : List UInt8} (h : acc.length < n) (he : (takeV r).2.2 = 0) : rowG (n - acc.length) acc r = rowG (n - (acc ++ [(takeV r).1]).length) (acc ++ [(takeV r).1]) (takeV r).2.1 := by
  rw [show n - acc.length = (n - (acc ++ [(takeV r).1]).length) + 1 by simp; omega, rowG, if_neg (by simpa using he)]
theorem rowG_err {n : Nat} {acc : List Val} {r : List UInt8} (h : acc.length < n) (he : ¬ (takeV r).2.2 = 0) : rowG (n - acc.length) acc r = ([], [], (takeV r).2.2) := by
  rw [show n - acc.length = (n - acc.length - 1) + 1 by omega, rowG, if_pos he]
theorem rowG_done {n : Nat} {acc : List Val} {r : List UInt8} (h : n ≤ acc.length) : rowG (n - acc.length) acc r = (acc, r, 0) := by
  rw [show n - acc.length = 0 by omega, rowG]
theorem rowG_row : ∀ (l acc : List Val) (r : List UInt8), (∀ v ∈ l, valOk v = true ∧ valB v) → rowG l.length acc (rowB l ++ r) = (acc ++ l, r, 0)
  | [], acc, r, _ => by simp [rowG, rowB]
  | v :: l, acc, r, h => by
    have hv := h v (by simp)
    have e : rowB (v :: l) ++ r = bytesV v ++ (rowB l ++ r) := by simp [rowB]
    have t := take_bytes hv.1 hv.2 (rowB l ++ r)
    rw [List.length_cons, rowG, e, t, if_neg (by simp), rowG_row l _ r fun x hx => h x (by simp [hx])]
    simp
theorem take_row {l : List Val} (h : ∀ v ∈ l, valOk v = true ∧ valB v) (hl : l.length ≤ 1000000) (r : List UInt8) : takeRow (rowS l ++ r) l.length = (l, r, 0) := by
  have a : takeN (rowS l ++ r) = ((l.length : Int), rowB l ++ r, 0) := by
    rw [rowS, List.append_assoc]; exact take_num ⟨by omega, by omega⟩ _
  rw [takeRow, a, if_neg (by simp), if_neg (show ¬ ((l.length : Int) < 0) by omega), if_neg (show ¬ ((l.length : Int) < (l.length : Int)) by omega)]
  have := rowG_row l [] r h
  simpa using this
theorem rowG_B : ∀ (n : Nat) (acc : List Val) (r : List UInt8), (∀ v ∈ acc, valB v) → ∀ v ∈ (rowG n acc r).1, valB v
  | 0, acc, r, h => h
  | n + 1, acc, r, h => by
    rw [rowG]
    split
    · simp
    · refine rowG_B n _ _ fun v hv => ?_
      rcases List.mem_append.1 hv with h1 | h1
      · exact h v h1
      · rw [List.mem_singleton.1 h1]; exact takeV_B _
/-! the order -/
def cmpI (x y : Int) : Int := if x < y then -1 else if y < x then 1 else 0
def cmpV (a b : Val) : Int := if cmpI a.k b.k ≠ 0 then cmpI a.k b.k else if cmpI a.n b.n ≠ 0 then cmpI a.n b.n else Lib.compareBytes a.s b.s
def lessV (a b : Val) : Prop := a.k < b.k ∨ (a.k = b.k ∧ (a.n < b.n ∨ (a.n = b.n ∧ Lib.compareBytes a.s b.s = -1)))
theorem cmp_less {a b : Val} (h : lessV a b) : cmpV a b = -1 := by
  unfold cmpV cmpI
  rcases h with h | ⟨h, h2 | ⟨h2, h3⟩⟩
  · simp [h]
  · simp [h, h2]
  · simp [h, h2, h3]
theorem cmp_same (a : Val) : cmpV a a = 0 := by simp [cmpV, cmpI, cmp_refl]
theorem cmp_more {a b : Val} (h : ¬ lessV a b) (hn : ¬ a = b) : cmpV a b = 1 := by
  obtain ⟨k, n, s⟩ := a
  obtain ⟨k', n', s'⟩ := b
  simp only [lessV, not_or] at h
  obtain ⟨h1, h2⟩ := h
  unfold cmpV cmpI
  simp only at h1 h2 ⊢
  by_cases hk : k' < k
  · simp [h1, hk]
  · have : k = k' := by omega
    subst this
    have h2 : ¬ (n < n' ∨ n = n' ∧ Lib.compareBytes s s' = -1) := fun h => h2 ⟨rfl, h⟩
    by_cases hn1 : n' < n
    · have : ¬ n < n' := by omega
      simp [this, hn1]
    · have : n = n' := by
        rcases Int.lt_or_le n n' with h | h
        · exact absurd (.inl h) h2
        · omega
      subst this
      simp only [Int.lt_irrefl, if_false, ne_eq, not_true_eq_false]
      rcases cmp_three s s' with h | h | h
      · exact absurd (.inr ⟨rfl, h⟩) h2
      · rw [cmp_zero h] at hn; exact absurd rfl hn
      · exact h
def orI (l : List Int) : Int := (l.find? fun x => !decide (x = 0)).getD 0
theorem orI_three (a b c : Int) : orI [a, b, c] = if a ≠ 0 then a else if b ≠ 0 then b else c := by
  by_cases ha : a = 0
  · by_cases hb : b = 0
    · by_cases hc : c = 0
      · simp [orI, ha, hb, hc]
      · simp [orI, ha, hb, hc]
    · simp [orI, ha, hb]
  · simp [orI, ha]
theorem orI_hit (l : List Int) (k : Nat) (hk : k < l.length) (hn : ∀ j, j < k → l.getD j 0 = 0) (h : ¬ l.getD k 0 = 0) : orI l = l.getD k 0 := by
  have e : l.find? (fun x => !decide (x = 0)) = some (l.getD k 0) := by
    rw [List.find?_eq_some_iff_getElem]
    refine ⟨by simpa using h, k, hk, by simp [hk], fun j hj => ?_⟩
    have := hn j hj
    simpa [List.getD, show j < l.length by omega] using this
  rw [orI, e]; rfl
theorem orI_none (l : List Int) (hn : ∀ j, j < l.length → l.getD j 0 = 0) : orI l = 0 := by
  have e : l.find? (fun x => !decide (x = 0)) = none := by
    rw [List.find?_eq_none]
    intro b hb
    obtain ⟨j, hj⟩ := List.mem_iff_getElem?.1 hb
    have hlt := (List.getElem?_eq_some_iff.1 hj).1
    have := hn j hlt
    simpa [List.getD, hj] using this
  rw [orI, e]; rfl
/-! texts -/
def quS (s : List UInt8) : List UInt8 := 34 :: (s.flatMap fun b => if b = 34 ∨ b = 92 then [92, b] else [b]) ++ [34]
end Go.Proofs.YtopbpdgnjnoddaaDoor
