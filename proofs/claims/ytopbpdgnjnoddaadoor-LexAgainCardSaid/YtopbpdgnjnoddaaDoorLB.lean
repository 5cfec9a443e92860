/- Plain functions: what was joined is read back. No condition. -/
import Derived.Test.YtopbpdgnjnoddaaDoorLT
set_option linter.unusedSimpArgs false
set_option linter.unusedVariables false
namespace Go.Proofs.YtopbpdgnjnoddaaDoor
open Go Go.Dx Go.RowKit
/-- what may stand behind a token -/
def Tail (r : List UInt8) : Prop := r = [] ∨ ∃ q, r = 32 :: q
theorem getD_app {α : Type} (A X : List α) (d : α) : (A ++ X).getD A.length d = X.getD 0 d := by
  simp [List.getD, List.getElem?_append_right]
theorem getD_app' {α : Type} (A X : List α) (j : Nat) (d : α) : (A ++ X).getD (A.length + j) d = X.getD j d := by
  simp [List.getD, List.getElem?_append_right]
theorem sp_word : isWord 32 = false := by decide +kernel
theorem sp_dig : isDig 32 = false := by decide +kernel
theorem tw_tail (p : UInt8 → Bool) (hp : p 32 = false) : ∀ (s r : List UInt8), s.all p = true → Tail r → (s ++ r).takeWhile p = s
  | [], r, _, h => by
    rcases h with rfl | ⟨q, rfl⟩
    · rfl
    · simp [List.takeWhile_cons, hp]
  | b :: s, r, ha, h => by
    simp only [List.all_cons, Bool.and_eq_true] at ha
    rw [List.cons_append, List.takeWhile_cons_of_pos (by simpa using ha.1), tw_tail p hp s r ha.2 h]
theorem tw_all (p : UInt8 → Bool) : ∀ s : List UInt8, (s.takeWhile p).length = s.length → s.all p = true
  | [], _ => rfl
  | b :: s, h => by
    rw [List.takeWhile_cons] at h
    cases hb : p b
    · rw [hb] at h; simp at h
    · rw [hb] at h
      rw [List.all_cons, hb, Bool.true_and]
      exact tw_all p s (by simpa using h)
theorem word_all {s : List UInt8} (h : s ≠ []) (hw : wordN s = s.length) : isLet (s.getD 0 0) = true ∧ s.all isWord = true := by
  have h0 : 0 < s.length := List.length_pos_iff.2 h
  cases hl : isLet (s.getD 0 0)
  · rw [wordN_zero s (.inr hl)] at hw; omega
  · rw [wordN_pos s h hl] at hw
    exact ⟨rfl, tw_all isWord s hw⟩
theorem one_name {s r : List UInt8} (h : s ≠ []) (hw : wordN s = s.length) (hl : s.length ≤ 16) (hr : Tail r) : oneS (s ++ r) = .ok ⟨1, s, 0, 0⟩ s.length := by
  obtain ⟨h1, h2⟩ := word_all h hw
  have e0 : (s ++ r).getD 0 0 = s.getD 0 0 := by
    match s, h with
    | b :: s, _ => rfl
  have hw2 : wordN (s ++ r) = s.length := by
    rw [wordN_pos _ (by simp [h]) (by rw [e0]; exact h1), tw_tail isWord sp_word s r h2 hr]
  rw [one_let (by rw [e0]; exact h1), nameS, hw2, if_neg (by omega)]
  congr 1
  rw [List.take_append_of_le_length (Nat.le_refl _), List.take_length]
/-! numbers -/
theorem dig_of {m : Nat} (h : m < 10) : isDig (UInt8.ofNat (48 + m)) = true := by
  have := digit_val h
  simp [isDig]; omega
theorem dec_all : ∀ u : Nat, (Lib.decDigits u).all isDig = true := by
  intro u
  induction u using Nat.strongRecOn with
  | _ u ih =>
    by_cases h : u < 10
    · rw [dec_lo h, List.all_cons, dig_of h]; rfl
    · rw [dec_hi h, List.all_append, ih _ (by omega), List.all_cons, dig_of (Nat.mod_lt u (by decide : 0 < 10))]; rfl
theorem num_snoc (l : List UInt8) (b : UInt8) : numF (l ++ [b]) = numStep (numF l) b := by simp [numF, List.foldl_append]
theorem num_dec : ∀ u : Nat, u ≤ 9223372036854775807 → numF (Lib.decDigits u) = some u := by
  intro u
  induction u using Nat.strongRecOn with
  | _ u ih =>
    intro hu
    by_cases h : u < 10
    · rw [dec_lo h]
      have := digit_val h
      simp only [numF, List.foldl_cons, List.foldl_nil, numStep, Option.bind_some, this]
      rw [if_neg (by omega)]; congr 1; omega
    · have := digit_val (Nat.mod_lt u (by decide : 0 < 10))
      rw [dec_hi h, num_snoc, ih (u / 10) (by omega) (by omega), numStep, Option.bind_some, this, if_neg (by omega)]
      congr 1; omega
theorem dec_lead : ∀ u : Nat, 1 < (Lib.decDigits u).length → ∃ b r, Lib.decDigits u = b :: r ∧ b.toNat ≠ 48 := by
  intro u
  induction u using Nat.strongRecOn with
  | _ u ih =>
    intro hl
    by_cases h : u < 10
    · rw [dec_lo h] at hl; simp at hl
    · rw [dec_hi h]
      by_cases h2 : u / 10 < 10
      · rw [dec_lo h2]
        refine ⟨_, _, rfl, ?_⟩
        have := digit_val h2; omega
      · obtain ⟨b, r, e, hb⟩ := ih (u / 10) (by omega) (by
          rw [dec_hi h2, List.length_append]
          have : Lib.decDigits (u / 10 / 10) ≠ [] := by
            obtain ⟨m, r, _, e⟩ := dec_head (u / 10 / 10)
            rw [e]; simp
          have := List.length_pos_iff.2 this
          simp; omega)
        exact ⟨b, r ++ _, by rw [e]; rfl, hb⟩
theorem isLet_dig {b : UInt8} (h : isDig b = true) : isLet b = false := by
  have := dig_b h
  rw [isLet_ref]
  simp; omega
theorem one_num {n : Int} (h0 : 0 ≤ n) (hn : I64 n) {r : List UInt8} (hr : Tail r) : oneS (Lib.itoa n ++ r) = .ok ⟨2, [], n, 0⟩ (Lib.itoa n).length := by
  have hn2 := hn.2
  rw [itoa_pos (by omega)]
  obtain ⟨m, q, hm, e⟩ := dec_head n.natAbs
  have hall := dec_all n.natAbs
  have e0 : (Lib.decDigits n.natAbs ++ r).getD 0 0 = UInt8.ofNat (48 + m) := by rw [e]; rfl
  have hd : digN (Lib.decDigits n.natAbs ++ r) = (Lib.decDigits n.natAbs).length := by unfold digN; rw [tw_tail isDig sp_dig _ r hall hr]
  rw [one_dig (by rw [e0]; exact isLet_dig (dig_of hm)) (by rw [e0]; exact dig_of hm), numS, hd, if_neg, List.take_append_of_le_length (Nat.le_refl _), List.take_length, num_dec _ (by omega)]
  · simp only [Res.ok.injEq, Tok.mk.injEq, true_and, and_true]
    omega
  · rintro ⟨h1, h2⟩
    obtain ⟨b, q', e', hb⟩ := dec_lead _ h1
    have : (Lib.decDigits n.natAbs ++ r).getD 0 0 = b := by rw [e']; rfl
    rw [this] at h2; omega
/-! texts -/
theorem bt_app (P X : List UInt8) : bt (P ++ X) P.length = ((X.getD 0 0).toNat : Int) := by unfold bt; rw [getD_app]
theorem text_back : ∀ (s P acc r : List UInt8), (∀ b ∈ s, 32 ≤ b.toNat ∧ b.toNat ≤ 126) → textG (P ++ (s.flatMap qB ++ 34 :: r)) P.length acc = if 40 < (acc ++ s).length then .err 5 else .ok ⟨3, acc ++ s, 0, 0⟩ (P.length + (s.flatMap qB).length + 1)
  | [], P, acc, r, _ => by
    have hlt : P.length < (P ++ (List.flatMap qB [] ++ 34 :: r)).length := by simp
    have hb : bt (P ++ (List.flatMap qB [] ++ 34 :: r)) P.length = 34 := by rw [bt_app]; rfl
    by_cases h : 40 < acc.length
    · rw [tx_big hlt hb h, List.append_nil, if_pos h]
    · rw [tx_end hlt hb h, List.append_nil, if_neg h]; simp
  | b :: s, P, acc, r, hp => by
    have hb := hp b (by simp)
    have ih := fun P acc => text_back s P acc r fun x hx => hp x (by simp [hx])
    have ea : acc ++ b :: s = (acc ++ [b]) ++ s := by simp
    by_cases hq : b = 34 ∨ b = 92
    · have e : List.flatMap qB (b :: s) ++ 34 :: r = 92 :: b :: (s.flatMap qB ++ 34 :: r) := by rw [List.flatMap_cons, qB, if_pos hq]; simp
      have e2 : P ++ 92 :: b :: (s.flatMap qB ++ 34 :: r) = (P ++ [92, b]) ++ (s.flatMap qB ++ 34 :: r) := by simp
      have hlt : P.length < (P ++ 92 :: b :: (s.flatMap qB ++ 34 :: r)).length := by simp
      have h1 : bt (P ++ 92 :: b :: (s.flatMap qB ++ 34 :: r)) P.length = 92 := by rw [bt_app]; rfl
      have h2 : (P ++ 92 :: b :: (s.flatMap qB ++ 34 :: r)).getD (P.length + 1) 0 = b := by rw [getD_app']; rfl
      have h3 : bt (P ++ 92 :: b :: (s.flatMap qB ++ 34 :: r)) (P.length + 1) = (b.toNat : Int) := by unfold bt; rw [h2]
      rw [e, tx_esc hlt (by rw [h1]; decide) h1 (by
        rw [h3]
        rintro (h | ⟨h4, h5⟩)
        · simp at h
        · rcases hq with rfl | rfl
          · exact h4 rfl
          · exact h5 rfl), h2, e2]
      have := ih (P ++ [92, b]) (acc ++ [b])
      rw [show (P ++ [92, b]).length = P.length + 2 by simp] at this
      rw [this, ← ea]
      split
      · rfl
      · congr 1
        rw [List.flatMap_cons, qB, if_pos hq]; simp; omega
    · have e : List.flatMap qB (b :: s) ++ 34 :: r = b :: (s.flatMap qB ++ 34 :: r) := by rw [List.flatMap_cons, qB, if_neg hq]; simp
      have e2 : P ++ b :: (s.flatMap qB ++ 34 :: r) = (P ++ [b]) ++ (s.flatMap qB ++ 34 :: r) := by simp
      have hlt : P.length < (P ++ b :: (s.flatMap qB ++ 34 :: r)).length := by simp
      have h1 : bt (P ++ b :: (s.flatMap qB ++ 34 :: r)) P.length = (b.toNat : Int) := by rw [bt_app]; rfl
      have h2 : (P ++ b :: (s.flatMap qB ++ 34 :: r)).getD P.length 0 = b := by rw [getD_app]; rfl
      have n34 : b.toNat ≠ 34 := fun h => hq (.inl (UInt8.toNat_inj.1 h))
      have n92 : b.toNat ≠ 92 := fun h => hq (.inr (UInt8.toNat_inj.1 h))
      rw [e, tx_ch hlt (by rw [h1]; omega) (by rw [h1]; omega) (by rw [h1]; omega), h2, e2]
      have := ih (P ++ [b]) (acc ++ [b])
      rw [show (P ++ [b]).length = P.length + 1 by simp] at this
      rw [this, ← ea]
      split
      · rfl
      · congr 1
        rw [List.flatMap_cons, qB, if_neg hq]; simp; omega
theorem plain_bytes {s : List UInt8} (h : plainS s = true) : ∀ b ∈ s, 32 ≤ b.toNat ∧ b.toNat ≤ 126 := by
  intro b hb
  simp only [plainS, Bool.and_eq_true, List.all_eq_true, decide_eq_true_eq] at h
  have := h.2 b hb; omega
theorem one_text {s r : List UInt8} (h : plainS s = true) : oneS (quS s ++ r) = .ok ⟨3, s, 0, 0⟩ (quS s).length := by
  have h40 := plain_40 h
  have e : quS s ++ r = [34] ++ (s.flatMap qB ++ 34 :: r) := by rw [quS_eq]; simp
  have e0 : ([34] ++ (s.flatMap qB ++ 34 :: r) : List UInt8).getD 0 0 = 34 := rfl
  rw [e, one_txt (by rw [e0]; decide +kernel) (by rw [e0]; decide +kernel) (by unfold bt; rw [e0]; rfl), textS]
  have := text_back s [34] [] r (plain_bytes h)
  rw [show ([34] : List UInt8).length = 1 from rfl] at this
  rw [this, if_neg (by simp; omega), quS_eq]
  congr 1
  simp; omega
/-! marks -/
theorem one_mk {s r : List UInt8} (h : s ∈ marksL) (hr : Tail r) : oneS (s ++ r) = .ok ⟨4, s, 0, 0⟩ s.length := by
  have key : ∀ s ∈ marksL, isLet (s.getD 0 0) = false ∧ isDig (s.getD 0 0) = false ∧ ¬ bt s 0 = 34 ∧ s ≠ [] := by decide +kernel
  obtain ⟨k1, k2, k3, k4⟩ := key s h
  have e0 : (s ++ r).getD 0 0 = s.getD 0 0 := by
    match s, k4 with
    | b :: s, _ => rfl
  rw [one_mark (by rw [e0]; exact k1) (by rw [e0]; exact k2) (by unfold bt; rw [e0]; exact k3)]
  simp only [marksL, List.mem_cons, List.not_mem_nil, or_false] at h
  rcases hr with rfl | ⟨q, rfl⟩
  · rcases h with rfl | rfl | rfl | rfl | rfl | rfl | rfl | rfl | rfl | rfl | rfl | rfl | rfl | rfl | rfl | rfl <;> simp [markG, marksL, pre]
  · rcases h with rfl | rfl | rfl | rfl | rfl | rfl | rfl | rfl | rfl | rfl | rfl | rfl | rfl | rfl | rfl | rfl <;> simp [markG, marksL, pre]
/-! any token -/
def bare (t : Tok) : Tok := { t with p := 0 }
theorem one_tk {t : Tok} (h : rightT t = true) (hn : I64 t.n) {r : List UInt8} (hr : Tail r) : oneS (tkS t ++ r) = .ok (bare t) (tkS t).length := by
  obtain ⟨k, s, n, p⟩ := t
  by_cases h1 : k = 1
  · subst h1
    rw [right_1 rfl] at h
    simp only [Bool.and_eq_true, decide_eq_true_eq, Bool.not_eq_true', decide_eq_false_iff_not] at h
    obtain ⟨⟨⟨rfl, hs⟩, hw⟩, hl⟩ := h
    have hw : (wordN s : Int) = s.length := hw
    have hl : (s.length : Int) ≤ 16 := hl
    exact one_name (s := s) hs (by omega) (by omega) hr
  · by_cases h2 : k = 2
    · subst h2
      rw [right_2 rfl] at h
      simp only [Bool.and_eq_true, decide_eq_true_eq] at h
      obtain ⟨h0, rfl⟩ := h
      exact one_num h0 hn hr
    · by_cases h3 : k = 3
      · subst h3
        rw [right_3 rfl] at h
        simp only [Bool.and_eq_true, decide_eq_true_eq] at h
        obtain ⟨rfl, hp⟩ := h
        exact one_text hp
      · by_cases h4 : k = 4
        · subst h4
          rw [right_4 rfl] at h
          simp only [Bool.and_eq_true, decide_eq_true_eq, List.contains_eq_mem] at h
          obtain ⟨rfl, hm⟩ := h
          exact one_mk hm hr
        · rw [right_0 h1 h2 h3 h4] at h; cases h
theorem tk_first {t : Tok} (h : rightT t = true) : ∃ b q, tkS t = b :: q ∧ b ≠ 32 := by
  obtain ⟨k, s, n, p⟩ := t
  by_cases h1 : k = 1
  · subst h1
    rw [right_1 rfl] at h
    simp only [Bool.and_eq_true, decide_eq_true_eq, Bool.not_eq_true', decide_eq_false_iff_not] at h
    obtain ⟨⟨⟨rfl, hs⟩, hw⟩, hl⟩ := h
    match s, hs with
    | b :: q, hs =>
      have := (word_all hs (by omega)).1
      refine ⟨b, q, rfl, ?_⟩
      rintro rfl
      have : isLet 32 = true := this
      revert this; decide +kernel
  · by_cases h2 : k = 2
    · subst h2
      rw [right_2 rfl] at h
      simp only [Bool.and_eq_true, decide_eq_true_eq] at h
      obtain ⟨h0, rfl⟩ := h
      have h0 : 0 ≤ n := h0
      obtain ⟨m, q, hm, e⟩ := dec_head n.natAbs
      refine ⟨_, q, (itoa_pos (n := n) (by omega)).trans e, fun hh => ?_⟩
      have := digit_val hm
      rw [hh] at this
      have e : (32 : UInt8).toNat = 32 := rfl
      omega
    · by_cases h3 : k = 3
      · subst h3
        exact ⟨34, _, rfl, by decide⟩
      · by_cases h4 : k = 4
        · subst h4
          rw [right_4 rfl] at h
          simp only [Bool.and_eq_true, decide_eq_true_eq, List.contains_eq_mem] at h
          obtain ⟨rfl, hm⟩ := h
          have key : ∀ s ∈ marksL, ∃ b q, s = b :: q ∧ b ≠ 32 := by
            intro s hs
            simp only [marksL, List.mem_cons, List.not_mem_nil, or_false] at hs
            rcases hs with rfl | rfl | rfl | rfl | rfl | rfl | rfl | rfl | rfl | rfl | rfl | rfl | rfl | rfl | rfl | rfl <;> exact ⟨_, _, rfl, by decide⟩
          exact key s hm
        · rw [right_0 h1 h2 h3 h4] at h; cases h
theorem bt_at {A : List UInt8} {b : UInt8} {q : List UInt8} : bt (A ++ b :: q) A.length = (b.toNat : Int) := by rw [bt_app]; rfl
theorem lex_tok {A r : List UInt8} {t : Tok} (h : rightT t = true) (hn : I64 t.n) (hr : Tail r) (out : List Tok) :
    lexG (A ++ (tkS t ++ r)) A.length out = lexG (A ++ (tkS t ++ r)) (A.length + (tkS t).length) (out ++ [{ t with p := (A.length : Int) }]) := by
  obtain ⟨b, q, e, hb⟩ := tk_first h
  have hlt : A.length < (A ++ (tkS t ++ r)).length := by rw [e]; simp
  have hd : (A ++ (tkS t ++ r)).drop A.length = tkS t ++ r := by simp
  have := lex_ok (out := out) hlt (by
    rw [e, List.cons_append, bt_at]
    intro hh; exact hb (UInt8.toNat_inj.1 (by have e : (32 : UInt8).toNat = 32 := rfl; omega))) (by rw [hd]; exact one_tk h hn hr) (by rw [e]; simp)
  exact this
theorem jo_two (t u : Tok) (l : List Tok) : joS (t :: u :: l) = tkS t ++ 32 :: joS (u :: l) := by
  unfold joS
  rw [List.map_cons, List.map_cons, Lib.join_cons, Lib.join_cons]
  simp [Lib.joinTail]
theorem lex_join : ∀ (l : List Tok) (A : List UInt8) (out : List Tok), (∀ t ∈ l, rightT t = true ∧ I64 t.n) → ∃ l', lexG (A ++ joS l) A.length out = (out ++ l', 0, 0) ∧ l'.map (key false) = l.map (key false)
  | [], A, out, _ => ⟨[], by rw [lex_end (by simp [joS, Lib.join, List.intercalate]), List.append_nil], rfl⟩
  | [t], A, out, h => by
    refine ⟨[{ t with p := (A.length : Int) }], ?_, rfl⟩
    have := lex_tok (A := A) (r := []) (h t (by simp)).1 (h t (by simp)).2 (.inl rfl) out
    rw [List.append_nil] at this
    rw [jo_one, this, lex_end (by simp)]
  | t :: u :: l, A, out, h => by
    obtain ⟨l', e, hk⟩ := lex_join (u :: l) (A ++ tkS t ++ [32]) (out ++ [{ t with p := (A.length : Int) }]) fun x hx => h x (by simp [List.mem_cons] at hx ⊢; exact .inr hx)
    refine ⟨{ t with p := (A.length : Int) } :: l', ?_, by rw [List.map_cons, hk]; rfl⟩
    have e1 : A ++ (tkS t ++ 32 :: joS (u :: l)) = (A ++ tkS t) ++ 32 :: joS (u :: l) := by simp
    have e2 : A ++ (tkS t ++ 32 :: joS (u :: l)) = (A ++ tkS t ++ [32]) ++ joS (u :: l) := by simp
    rw [jo_two, lex_tok (h t (by simp)).1 (h t (by simp)).2 (.inr ⟨_, rfl⟩), lex_sp (by simp) (by rw [e1, ← List.length_append, bt_at]; rfl), e2]
    rw [show A.length + (tkS t).length + 1 = (A ++ tkS t ++ [32]).length by simp; omega, e]
    simp
theorem lex_back {l : List Tok} (h : ∀ t ∈ l, rightT t = true ∧ I64 t.n) : ∃ l', lexS (joS l) = (if 200 < (joS l).length then ([], 0, 5) else (l', 0, 0)) ∧ sameS l l' false = true := by
  obtain ⟨l', e, hk⟩ := lex_join l [] [] h
  refine ⟨l', ?_, decide_eq_true hk.symm⟩
  rw [lexS]
  split
  · rfl
  · simpa using e
end Go.Proofs.YtopbpdgnjnoddaaDoor
