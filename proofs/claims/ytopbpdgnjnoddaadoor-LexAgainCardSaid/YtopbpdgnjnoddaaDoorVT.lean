/- Plain functions: the texts of values, and how values stand. No condition. -/
import Derived.Test.YtopbpdgnjnoddaaDoorVSpec
import Derived.Lib.ItoaNum
set_option linter.unusedSimpArgs false
set_option linter.unusedVariables false
namespace Go.Proofs.YtopbpdgnjnoddaaDoor
open Go Go.Dx Go.RowKit
/-! numerals -/
theorem dec_lo {u : Nat} (h : u < 10) : Lib.decDigits u = [UInt8.ofNat (48 + u)] := Lib.decDigits_one h
theorem dec_hi {u : Nat} (h : ¬ u < 10) : Lib.decDigits u = Lib.decDigits (u / 10) ++ [UInt8.ofNat (48 + u % 10)] := by rw [Lib.decDigits, dif_neg h]
theorem itoa_pos {n : Int} (h : ¬ n < 0) : Lib.itoa n = Lib.decDigits n.natAbs := by
  rw [Lib.itoa, if_neg h, show n.toNat = n.natAbs by omega]
theorem itoa_neg' {n : Int} (h : n < 0) : Lib.itoa n = 45 :: Lib.decDigits n.natAbs := by rw [Lib.itoa, if_pos h]
theorem itoa_hi {n : Int} (h : n < -9 ∨ 9 < n) : Lib.itoa n = Lib.itoa (n.tdiv 10) ++ [UInt8.ofNat (48 + (n.natAbs % 10))] := by
  have e : (n.tdiv 10).natAbs = n.natAbs / 10 := by rw [Int.natAbs_tdiv]; rfl
  have q : ∀ m : Nat, (m : Int).tdiv 10 = ((m / 10 : Nat) : Int) := fun m => by rw [Int.tdiv_eq_ediv_of_nonneg (by omega)]; rfl
  by_cases hn : n < 0
  · have : n.tdiv 10 < 0 := by
      obtain ⟨m, rfl⟩ : ∃ m : Nat, n = -(m : Int) := ⟨n.natAbs, by omega⟩
      rw [Int.neg_tdiv, q]; omega
    rw [itoa_neg' hn, itoa_neg' this, e, dec_hi (by omega)]; rfl
  · have : ¬ n.tdiv 10 < 0 := by
      obtain ⟨m, rfl⟩ : ∃ m : Nat, n = (m : Int) := ⟨n.natAbs, by omega⟩
      rw [q]; omega
    rw [itoa_pos hn, itoa_pos this, e, dec_hi (by omega)]
theorem digit_val {m : Nat} (h : m < 10) : (UInt8.ofNat (48 + m)).toNat = 48 + m := byte_lo (by omega)
/-- the number of a numeral -/
def decV (l : List UInt8) : Nat := l.foldl (fun a b => a * 10 + (b.toNat - 48)) 0
theorem dec_back : ∀ u : Nat, decV (Lib.decDigits u) = u := by
  intro u
  induction u using Nat.strongRecOn with
  | _ u ih =>
    by_cases h : u < 10
    · rw [dec_lo h]; simp only [decV, List.foldl_cons, List.foldl_nil, digit_val h]; omega
    · have := ih (u / 10) (by omega)
      rw [dec_hi h]
      simp only [decV, List.foldl_append, List.foldl_cons, List.foldl_nil] at this ⊢
      rw [this, digit_val (by omega)]; omega
theorem dec_head : ∀ u : Nat, ∃ m r, m < 10 ∧ Lib.decDigits u = UInt8.ofNat (48 + m) :: r := by
  intro u
  induction u using Nat.strongRecOn with
  | _ u ih =>
    by_cases h : u < 10
    · exact ⟨u, [], h, dec_lo h⟩
    · obtain ⟨m, r, hm, hr⟩ := ih (u / 10) (by omega)
      exact ⟨m, _, hm, by rw [dec_hi h, hr]; rfl⟩
theorem dec_inj {u v : Nat} (h : Lib.decDigits u = Lib.decDigits v) : u = v := by rw [← dec_back u, h, dec_back]
theorem byte_ne {m n : Nat} (hm : m < 256) (hn : n < 256) (h : m ≠ n) : UInt8.ofNat m ≠ UInt8.ofNat n := fun e => h (by rw [← byte_lo hm, e, byte_lo hn])
theorem itoa_inj {m n : Int} (h : Lib.itoa m = Lib.itoa n) : m = n := by
  by_cases hm : m < 0 <;> by_cases hn : n < 0
  · rw [itoa_neg' hm, itoa_neg' hn] at h
    have := dec_inj (List.cons.inj h).2; omega
  · rw [itoa_neg' hm, itoa_pos hn] at h
    obtain ⟨d, r, hd, hr⟩ := dec_head n.natAbs
    rw [hr] at h
    have := congrArg UInt8.toNat (List.cons.inj h).1
    rw [digit_val hd] at this
    have e : (45 : UInt8).toNat = 45 := rfl
    omega
  · rw [itoa_pos hm, itoa_neg' hn] at h
    obtain ⟨d, r, hd, hr⟩ := dec_head m.natAbs
    rw [hr] at h
    have := congrArg UInt8.toNat (List.cons.inj h).1
    rw [digit_val hd] at this
    have e : (45 : UInt8).toNat = 45 := rfl
    omega
  · rw [itoa_pos hm, itoa_pos hn] at h
    have := dec_inj h; omega
/-- how a numeral begins -/
theorem itoa_first (n : Int) : ∃ b r, Lib.itoa n = b :: r ∧ (b.toNat = 45 ∨ (48 ≤ b.toNat ∧ b.toNat ≤ 57)) := by
  by_cases hn : n < 0
  · exact ⟨45, _, itoa_neg' hn, .inl rfl⟩
  · obtain ⟨d, r, hd, hr⟩ := dec_head n.natAbs
    exact ⟨_, r, by rw [itoa_pos hn, hr], .inr (by rw [digit_val hd]; omega)⟩
/-! quoted texts -/
def qB (b : UInt8) : List UInt8 := if b = 34 ∨ b = 92 then [92, b] else [b]
theorem quS_eq (s : List UInt8) : quS s = 34 :: (s.flatMap qB) ++ [34] := rfl
theorem qB_len (b : UInt8) : 1 ≤ (qB b).length ∧ (qB b).length ≤ 2 := by unfold qB; split <;> simp
theorem flat_len (s : List UInt8) : (s.flatMap qB).length ≤ 2 * s.length := by
  induction s with
  | nil => simp
  | cons b s ih =>
    have := (qB_len b).2
    simp only [List.flatMap_cons, List.length_append, List.length_cons]; omega
theorem flat_snoc (s : List UInt8) (k : Nat) (h : k < s.length) : (s.take (k + 1)).flatMap qB = (s.take k).flatMap qB ++ qB (s.getD k 0) := by
  rw [List.take_add_one, List.getElem?_eq_getElem h, List.flatMap_append]
  congr 1
  simp [h]
theorem qB_inj {b b' : UInt8} {r r' : List UInt8} (h : qB b ++ r = qB b' ++ r') : b = b' ∧ r = r' := by
  unfold qB at h
  split at h <;> split at h
  · have := List.cons.inj h
    have h2 := List.cons.inj this.2
    exact ⟨h2.1, h2.2⟩
  · rename_i h1 h2
    have := (List.cons.inj h).1
    exact absurd (.inr this.symm) h2
  · rename_i h1 h2
    have := (List.cons.inj h).1
    exact absurd (.inr this) h1
  · have := List.cons.inj h
    exact ⟨this.1, this.2⟩
theorem flat_inj : ∀ {s t : List UInt8}, s.flatMap qB = t.flatMap qB → s = t
  | [], [], _ => rfl
  | [], b :: t, h => by
    have := congrArg List.length h
    have h2 := (qB_len b).1
    simp only [List.flatMap_nil, List.length_nil, List.flatMap_cons, List.length_append] at this; omega
  | b :: s, [], h => by
    have := congrArg List.length h
    have h2 := (qB_len b).1
    simp only [List.flatMap_nil, List.length_nil, List.flatMap_cons, List.length_append] at this; omega
  | b :: s, b' :: t, h => by
    simp only [List.flatMap_cons] at h
    obtain ⟨rfl, h2⟩ := qB_inj h
    rw [flat_inj h2]
theorem quS_inj {s t : List UInt8} (h : quS s = quS t) : s = t := by
  rw [quS_eq, quS_eq] at h
  have h1 := (List.cons.inj h).2
  have := (List.append_inj' h1 rfl).1
  exact flat_inj this
/-! a value's text -/
def nullS : List UInt8 := [110, 117, 108, 108]
def trueS : List UInt8 := [116, 114, 117, 101]
def falseS : List UInt8 := [102, 97, 108, 115, 101]
def boolS (b : Bool) : List UInt8 := if b then trueS else falseS
def txS (v : Val) : List UInt8 := if v.k = 1 then Lib.itoa v.n else if v.k = 2 then quS v.s else if v.k = 3 then boolS (decide (v.n = 1)) else nullS
def txR (v : Val) : List UInt8 × Int := if valOk v then (txS v, 0) else ([], 2)
/-- what a text begins with -/
def kindB (b : Nat) : Int := if b = 110 then 0 else if b = 34 then 2 else if b = 116 ∨ b = 102 then 3 else 1
theorem tx_first {v : Val} (h : valOk v = true) : ∃ b r, txS v = b :: r ∧ kindB b.toNat = v.k := by
  obtain ⟨k, n, s⟩ := v
  rcases valOk_cases h with ⟨h1, _⟩ | ⟨h1, _⟩ | ⟨h1, _⟩ | ⟨h1, _, h2⟩
  · simp only at h1; subst h1; exact ⟨110, _, rfl, rfl⟩
  · simp only at h1; subst h1
    obtain ⟨b, r, h3, h4⟩ := itoa_first n
    refine ⟨b, r, h3, ?_⟩
    unfold kindB
    rw [if_neg (by omega), if_neg (by omega), if_neg (by omega)]
  · simp only at h1; subst h1; exact ⟨34, _, rfl, rfl⟩
  · simp only at h1 h2; subst h1
    rcases h2 with rfl | rfl
    · exact ⟨102, _, rfl, rfl⟩
    · exact ⟨116, _, rfl, rfl⟩
theorem tx_inj {a b : Val} (ha : valOk a = true) (hb : valOk b = true) (h : txS a = txS b) : a = b := by
  obtain ⟨x, r, h1, h2⟩ := tx_first ha
  obtain ⟨y, q, h3, h4⟩ := tx_first hb
  rw [h1, h3] at h
  have hk : a.k = b.k := by rw [← h2, ← h4, (List.cons.inj h).1]
  have h : txS a = txS b := by rw [h1, h3, h]
  obtain ⟨k, n, s⟩ := a
  obtain ⟨k', n', s'⟩ := b
  simp only at hk
  subst hk
  rcases valOk_cases ha with ⟨g1, g2, g3⟩ | ⟨g1, g3⟩ | ⟨g1, g2, g3⟩ | ⟨g1, g3, g2⟩ <;> rcases valOk_cases hb with ⟨q1, q2, q3⟩ | ⟨q1, q3⟩ | ⟨q1, q2, q3⟩ | ⟨q1, q3, q2⟩ <;> simp only at g1 q1 <;> try omega
  · simp only at g2 g3 q2 q3; subst g2 g3 q2 q3; rfl
  · simp only at g3 q3; subst g1 g3 q3
    have : Lib.itoa n = Lib.itoa n' := h
    rw [itoa_inj this]
  · simp only at g2 q2; subst g1 g2 q2
    have : quS s = quS s' := h
    rw [quS_inj this]
  · simp only at g2 g3 q2 q3; subst g1 g3 q3
    have e : boolS (decide (n = 1)) = boolS (decide (n' = 1)) := h
    rcases g2 with rfl | rfl <;> rcases q2 with rfl | rfl <;> first | rfl | (exfalso; revert e; decide)
/-! the order -/
theorem cmpV_three (a b : Val) : cmpV a b = -1 ∨ cmpV a b = 0 ∨ cmpV a b = 1 := by
  by_cases h : lessV a b
  · exact .inl (cmp_less h)
  · by_cases he : a = b
    · subst he; exact .inr (.inl (cmp_same a))
    · exact .inr (.inr (cmp_more h he))
theorem cmpI_swap (x y : Int) : cmpI y x = -cmpI x y := by unfold cmpI; split <;> split <;> first | rfl | omega
theorem cmpV_swap (a b : Val) : cmpV b a = -cmpV a b := by
  unfold cmpV
  rw [cmpI_swap a.k b.k, cmpI_swap a.n b.n, cmp_swap a.s b.s]
  by_cases h1 : cmpI a.k b.k = 0
  · by_cases h2 : cmpI a.n b.n = 0
    · simp [h1, h2]
    · simp [h1, h2]
  · simp [h1]
theorem cmpV_zero {a b : Val} : cmpV a b = 0 ↔ a = b := by
  constructor
  · intro h
    by_cases hl : lessV a b
    · rw [cmp_less hl] at h; cases h
    · by_cases he : a = b
      · exact he
      · rw [cmp_more hl he] at h; cases h
  · rintro rfl; exact cmp_same a
theorem less_of {a b : Val} (h : cmpV a b < 0) : lessV a b := by
  by_cases hl : lessV a b
  · exact hl
  · by_cases he : a = b
    · subst he; rw [cmp_same] at h; omega
    · rw [cmp_more hl he] at h; omega
theorem less_trans {a b c : Val} (h : lessV a b) (k : lessV b c) : lessV a c := by
  unfold lessV at *
  rcases h with h | ⟨h, h2⟩ <;> rcases k with k | ⟨k, k2⟩
  · exact .inl (by omega)
  · exact .inl (by omega)
  · exact .inl (by omega)
  · refine .inr ⟨by omega, ?_⟩
    rcases h2 with h2 | ⟨h2, h3⟩ <;> rcases k2 with k2 | ⟨k2, k3⟩
    · exact .inl (by omega)
    · exact .inl (by omega)
    · exact .inl (by omega)
    · exact .inr ⟨by omega, cmp_trans _ _ _ h3 k3⟩
theorem cmpV_trans (a b c : Val) : 0 < cmpV a b ∨ 0 < cmpV b c ∨ cmpV a c < 0 ∨ (cmpV a b = 0 ∧ cmpV b c = 0 ∧ cmpV a c = 0) := by
  rcases cmpV_three a b with h | h | h
  · rcases cmpV_three b c with k | k | k
    · exact .inr (.inr (.inl (by rw [cmp_less (less_trans (b := b) (less_of (by omega)) (less_of (by omega)))]; decide)))
    · have := cmpV_zero.1 k; subst this; exact .inr (.inr (.inl (by rw [h]; decide)))
    · exact .inr (.inl (by omega))
  · have := cmpV_zero.1 h; subst this
    rcases cmpV_three a c with k | k | k
    · exact .inr (.inr (.inl (by omega)))
    · exact .inr (.inr (.inr ⟨h, k, k⟩))
    · exact .inr (.inl (by omega))
  · exact .inl (by omega)
end Go.Proofs.YtopbpdgnjnoddaaDoor
