/- Plain functions: marks, and how texts are linked from one on. -/
import Derived.Test.YtaogkonanncpiaaDxY
import Derived.Test.YtaogkonanncpiaaShaSpec
set_option linter.unusedSimpArgs false
set_option linter.unusedVariables false
namespace Go.Proofs.Ytaogkonanncpiaa
open Go Go.Dx Go.RowKit
def i64 (n : Int) : Prop := -9223372036854775808 ≤ n ∧ n ≤ 9223372036854775807
structure Mk where
  base : Int
  count : Int
  anchor : List UInt8
  head : List UInt8
deriving DecidableEq
def mkC (m : Mk) : List Value := [.int .i64 m.base, .int .i64 m.count, vs m.anchor, vs m.head]
def mkB (m : Mk) : Prop := i64 m.base ∧ i64 m.count
def mz : Mk := ⟨0, 0, [], []⟩
def RightM (m : Mk) : Prop := 0 ≤ m.base ∧ m.base ≤ m.count ∧ m.count ≤ 1125899906842624 ∧ m.anchor.length = 32 ∧ m.head.length = 32 ∧ (m.base < m.count ∨ m.anchor = m.head)
instance (m : Mk) : Decidable (RightM m) := inferInstanceAs (Decidable (_ ∧ _ ∧ _ ∧ _ ∧ _ ∧ _))
def chkM (m : Mk) : Int := if RightM m then 0 else 2
def verM (m : Mk) (l : List (List UInt8)) : Int := if RightM m then (if (l.length : Int) ≠ m.count - m.base ∨ chainS m.anchor l ≠ m.head then 23 else 0) else 2
def cutM (m : Mk) (l : List (List UInt8)) (k : Int) : Mk × Int := if verM m l ≠ 0 then (mz, verM m l) else if k < m.base ∨ m.count < k then (mz, 22) else (⟨k, m.count, chainS m.anchor (l.take (k - m.base).toNat), m.head⟩, 0)
def pushM (m : Mk) (s : List UInt8) : Mk × Int := if RightM m then (if m.count = 1125899906842624 then (mz, 24) else (⟨m.base, m.count + 1, m.anchor, linkS m.head s⟩, 0)) else (mz, 2)
def Z32 : List UInt8 := List.replicate 32 0
def beginM : Mk := ⟨0, 0, Z32, Z32⟩
def mkV (r : Mk × Int) : Value := .tuple #[.agg (mkC r.1).toArray, .int .i64 r.2]
theorem chk_right {m : Mk} (h : chkM m = 0) : RightM m := by
  unfold chkM at h
  split at h
  · assumption
  · cases h
theorem chk_not {m : Mk} (h : ¬ chkM m = 0) : ¬ RightM m := fun h2 => h (if_pos h2)
theorem ver_ok {m : Mk} {l : List (List UInt8)} (h : verM m l = 0) : RightM m ∧ (l.length : Int) = m.count - m.base ∧ chainS m.anchor l = m.head := by
  unfold verM at h
  split at h
  · rename_i hr
    split at h
    · cases h
    · rename_i hn
      exact ⟨hr, Decidable.not_not.1 fun h1 => hn (.inl h1), Decidable.not_not.1 fun h2 => hn (.inr h2)⟩
  · cases h
theorem push_begin (s : List UInt8) : pushM beginM s = (⟨0, 1, Z32, linkS Z32 s⟩, 0) := by
  rw [pushM, if_pos (by decide), if_neg (by decide)]; rfl
theorem ver_one (s : List UInt8) : verM ⟨0, 1, Z32, linkS Z32 s⟩ [s] = 0 := by
  have hr : RightM ⟨0, 1, Z32, linkS Z32 s⟩ := ⟨show (0 : Int) ≤ 0 by decide, show (0 : Int) ≤ 1 by decide, show (1 : Int) ≤ 1125899906842624 by decide, show Z32.length = 32 by decide, show (linkS Z32 s).length = 32 by simp [linkS, dig_len], .inl (show (0 : Int) < 1 by decide)⟩
  rw [verM, if_pos hr, if_neg]
  rintro (h | h)
  · exact h rfl
  · exact h rfl
theorem upto_snoc {P : Nat → Prop} {k : Nat} (h : ∀ j, j < k → P j) (hk : P k) : ∀ j, j < k + 1 → P j := by
  intro j hj
  rcases Nat.lt_or_ge j k with h1 | h1
  · exact h j h1
  · rw [show j = k by omega]; exact hk
def stM (l : List (List UInt8)) (k : Nat) : Mk := ⟨0, (k : Int), Z32, chainS Z32 (l.take k)⟩
def cN (l : List (List UInt8)) (k : Nat) : Mk := ⟨(k : Int), (l.length : Int), chainS Z32 (l.take k), chainS Z32 l⟩
def oN (l : List (List UInt8)) : Mk := ⟨(l.length : Int), (l.length : Int), chainS Z32 l, chainS Z32 l⟩
theorem chain32 (l : List (List UInt8)) : ∀ x : List UInt8, x.length = 32 → (chainS x l).length = 32 := by
  induction l with
  | nil => intro x h; exact h
  | cons a l ih => intro x _; exact ih _ (by unfold linkS; rw [dig_len])
theorem z_len : Z32.length = 32 := by decide
theorem right_st (l : List (List UInt8)) (k : Nat) (hk : k ≤ l.length) (hl : l.length ≤ 12) : RightM (stM l k) := by
  refine ⟨show (0 : Int) ≤ 0 by decide, show (0 : Int) ≤ (k : Int) by omega, show (k : Int) ≤ 1125899906842624 by omega, z_len, chain32 _ _ z_len, ?_⟩
  rcases Nat.eq_zero_or_pos k with rfl | h
  · exact .inr rfl
  · exact .inl (show (0 : Int) < (k : Int) by omega)
theorem push_st (l : List (List UInt8)) (k : Nat) (hk : k < l.length) (hl : l.length ≤ 12) : pushM (stM l k) (l.getD k []) = (stM l (k + 1), 0) := by
  rw [pushM, if_pos (right_st l k (by omega) hl), if_neg (show ¬ ((stM l k).count = 1125899906842624) by show ¬ ((k : Int) = 1125899906842624); omega)]
  show ((⟨0, (k : Int) + 1, Z32, linkS (chainS Z32 (l.take k)) (l.getD k [])⟩ : Mk), (0 : Int)) = _
  rw [← chain_step Z32 l k hk]
  rfl
theorem ver_st (l : List (List UInt8)) (hl : l.length ≤ 12) : verM (stM l l.length) l = 0 := by
  rw [verM, if_pos (right_st l _ (Nat.le_refl _) hl), if_neg]
  rintro (h | h)
  · exact h (show (l.length : Int) = (l.length : Int) - 0 by omega)
  · exact h (show chainS Z32 l = chainS Z32 (l.take l.length) by rw [List.take_length])
theorem cut_st (l : List (List UInt8)) (k : Nat) (hk : k ≤ l.length) (hl : l.length ≤ 12) : cutM (stM l l.length) l (k : Int) = (cN l k, 0) := by
  rw [cutM, if_neg (by rw [ver_st l hl]; simp), if_neg (show ¬ ((k : Int) < (stM l l.length).base ∨ (stM l l.length).count < (k : Int)) by show ¬ ((k : Int) < 0 ∨ (l.length : Int) < (k : Int)); omega)]
  show ((⟨(k : Int), (l.length : Int), chainS Z32 (l.take ((k : Int) - 0).toNat), chainS Z32 (l.take l.length)⟩ : Mk), (0 : Int)) = _
  rw [List.take_length, show ((k : Int) - 0).toNat = k by omega]
  rfl
theorem right_cN (l : List (List UInt8)) (k : Nat) (hk : k ≤ l.length) (hl : l.length ≤ 12) : RightM (cN l k) := by
  refine ⟨show (0 : Int) ≤ (k : Int) by omega, show (k : Int) ≤ (l.length : Int) by omega, show (l.length : Int) ≤ 1125899906842624 by omega, chain32 _ _ z_len, chain32 _ _ z_len, ?_⟩
  rcases Nat.lt_or_ge k l.length with h | h
  · exact .inl (show (k : Int) < (l.length : Int) by omega)
  · exact .inr (show chainS Z32 (l.take k) = chainS Z32 l by rw [List.take_of_length_le h])
theorem chain_cat (x : List UInt8) (l : List (List UInt8)) (k : Nat) : chainS (chainS x (l.take k)) (l.drop k) = chainS x l := by
  unfold chainS
  rw [← List.foldl_append, List.take_append_drop]
theorem ver_cN (l : List (List UInt8)) (k : Nat) (hk : k ≤ l.length) (hl : l.length ≤ 12) : verM (cN l k) (l.drop k) = 0 := by
  rw [verM, if_pos (right_cN l k hk hl), if_neg]
  rintro (h | h)
  · exact h (show ((l.drop k).length : Int) = (l.length : Int) - (k : Int) by rw [List.length_drop]; omega)
  · exact h (chain_cat Z32 l k)
theorem cut_cN (l : List (List UInt8)) (k : Nat) (hk : k ≤ l.length) (hl : l.length ≤ 12) : cutM (cN l k) (l.drop k) (l.length : Int) = (oN l, 0) := by
  rw [cutM, if_neg (by rw [ver_cN l k hk hl]; simp), if_neg (show ¬ ((l.length : Int) < (cN l k).base ∨ (cN l k).count < (l.length : Int)) by show ¬ ((l.length : Int) < (k : Int) ∨ (l.length : Int) < (l.length : Int)); omega)]
  show ((⟨(l.length : Int), (l.length : Int), chainS (chainS Z32 (l.take k)) ((l.drop k).take ((l.length : Int) - (k : Int)).toNat), chainS Z32 l⟩ : Mk), (0 : Int)) = _
  rw [List.take_of_length_le (show (l.drop k).length ≤ ((l.length : Int) - (k : Int)).toNat by rw [List.length_drop]; omega), chain_cat]
  rfl
theorem ver_oN (l : List (List UInt8)) (hl : l.length ≤ 12) : verM (oN l) [] = 0 := by
  have hr : RightM (oN l) := ⟨show (0 : Int) ≤ (l.length : Int) by omega, Int.le_refl _, show (l.length : Int) ≤ 1125899906842624 by omega, chain32 _ _ z_len, chain32 _ _ z_len, .inr rfl⟩
  rw [verM, if_pos hr, if_neg]
  rintro (h | h)
  · exact h (show (0 : Int) = (l.length : Int) - (l.length : Int) by omega)
  · exact h rfl
def lightS (m : Mk) : Bool := decide (m.anchor.length ≤ 300) && decide (m.head.length ≤ 300)
def longS (l : List (List UInt8)) : Bool := decide (12 < l.length) || decide (1500 < l.flatten.length)
theorem long_not {l : List (List UInt8)} (h : longS l = false) : l.length ≤ 12 ∧ l.flatten.length ≤ 1500 ∧ ∀ s ∈ l, s.length ≤ 1500 := by
  simp only [longS, Bool.or_eq_false_iff, decide_eq_false_iff_not] at h
  refine ⟨by omega, by omega, fun s hs => ?_⟩
  have := mem_flat_le hs
  omega
def textM (m : Mk) : List UInt8 := numS m.base ++ numS m.count ++ textS m.anchor ++ textS m.head
def bytesM (m : Mk) : List UInt8 × Int := if RightM m then (textM m, 0) else ([], 2)
def parseT (s : List UInt8) : Mk := ⟨(takeN s).1, (takeN (takeN s).2.1).1, (takeT (takeN (takeN s).2.1).2.1 32).1, (takeT (takeT (takeN (takeN s).2.1).2.1 32).2.1 32).1⟩
def parseR (s : List UInt8) : List UInt8 := (takeT (takeT (takeN (takeN s).2.1).2.1 32).2.1 32).2.1
def parseE (s : List UInt8) : Prop := (takeN s).2.2 = 0 ∧ (takeN (takeN s).2.1).2.2 = 0 ∧ (takeT (takeN (takeN s).2.1).2.1 32).2.2 = 0 ∧ (takeT (takeT (takeN (takeN s).2.1).2.1 32).2.1 32).2.2 = 0
instance (s : List UInt8) : Decidable (parseE s) := inferInstanceAs (Decidable (_ ∧ _ ∧ _ ∧ _))
def parseM (s : List UInt8) : Mk × Int := if parseE s ∧ RightM (parseT s) ∧ parseR s = [] then (parseT s, 0) else (mz, 4)
def tsV (r : List UInt8 × Int) : Value := .tuple #[vs r.1, .int .i64 r.2]
theorem parse_cat {s : List UInt8} (h : parseE s) : s = textM (parseT s) ++ parseR s := by
  obtain ⟨h1, h2, h3, h4⟩ := h
  have e1 := (num_take h1).1
  have e2 := (num_take h2).1
  have e3 := (text_take h3).1
  have e4 := (text_take h4).1
  simp only [textM, parseT, parseR]
  rw [List.append_assoc, List.append_assoc, List.append_assoc, ← e4, ← e3, ← e2]
  exact e1
theorem parse_ok {s : List UInt8} (h : parseE s) (hr : RightM (parseT s)) (ht : textM (parseT s) = s) : parseM s = (parseT s, 0) := by
  have hc := parse_cat h
  rw [ht] at hc
  have : parseR s = [] := by
    have hl := congrArg List.length hc
    rw [List.length_append] at hl
    exact List.length_eq_zero_iff.1 (by omega)
  rw [parseM, if_pos ⟨h, hr, this⟩]
theorem parse_not {s : List UInt8} (h : ¬ (parseE s ∧ RightM (parseT s) ∧ textM (parseT s) = s)) : parseM s = (mz, 4) := by
  rw [parseM, if_neg]
  rintro ⟨h1, h2, h3⟩
  have hc := parse_cat h1
  rw [h3, List.append_nil] at hc
  exact h ⟨h1, h2, hc.symm⟩
theorem parse_bytes {m : Mk} (h : RightM m) : parseM (textM m) = (m, 0) := by
  obtain ⟨h1, h2, h3, h4, h5, h6⟩ := id h
  have a1 : takeN (textM m) = (m.base, numS m.count ++ textS m.anchor ++ textS m.head, 0) := by
    rw [textM, List.append_assoc, List.append_assoc]; rw [take_num ⟨by omega, by omega⟩, List.append_assoc]
  have a2 : takeN (numS m.count ++ textS m.anchor ++ textS m.head) = (m.count, textS m.anchor ++ textS m.head, 0) := by
    rw [List.append_assoc, take_num ⟨by omega, by omega⟩]
  have a3 : takeT (textS m.anchor ++ textS m.head) 32 = (m.anchor, textS m.head, 0) := take_text (by omega) (by omega) _
  have a4 : takeT (textS m.head) 32 = (m.head, [], 0) := by
    have := take_text (t := m.head) (most := 32) (by omega) (by omega) []
    rwa [List.append_nil] at this
  have e : parseT (textM m) = m := by simp only [parseT, a1, a2, a3, a4]
  rw [parse_ok, e]
  · simp only [parseE, a1, a2, a3, a4, and_self]
  · rw [e]; exact h
  · rw [e]
theorem parse_back {s : List UInt8} (h : (parseM s).2 = 0) : RightM (parseM s).1 ∧ textM (parseM s).1 = s := by
  unfold parseM at h ⊢
  split
  · rename_i h1
    have hc := parse_cat h1.1
    rw [h1.2.2, List.append_nil] at hc
    exact ⟨h1.2.1, hc.symm⟩
  · rename_i h1; rw [if_neg h1] at h; cases h
theorem parse_or (s : List UInt8) : (parseM s).2 = 0 ∨ parseM s = (mz, 4) := by
  unfold parseM; split
  · exact .inl rfl
  · exact .inr rfl
theorem chk_bytes (m : Mk) : chkM m = (bytesM m).2 := by
  unfold chkM bytesM; split <;> rfl
theorem right_len {m : Mk} (h : RightM m) : (textM m).length ≤ 104 := by
  obtain ⟨h1, h2, h3, h4, h5, h6⟩ := h
  have l1 := numS_len (n := m.base) ⟨by omega, by omega⟩
  have l2 := numS_len (n := m.count) ⟨by omega, by omega⟩
  have l3 := textS_len (s := m.anchor) (by omega)
  have l4 := textS_len (s := m.head) (by omega)
  simp only [textM, List.length_append]; omega
end Go.Proofs.Ytaogkonanncpiaa
