/- Plain functions: the tokens of a text, on lists of bytes. -/
import Derived.Test.YtopbpdgnjnoddaaDoorVT
set_option linter.unusedSimpArgs false
set_option linter.unusedVariables false
namespace Go.Proofs.YtopbpdgnjnoddaaDoor
open Go Go.Dx Go.RowKit
theorem take_snoc {α : Type} (l : List α) (k : Nat) (h : k < l.length) : l.take (k + 1) = l.take k ++ [l[k]] := by
  rw [List.take_succ_eq_append_getElem h]
theorem take_snocD {α : Type} (l : List α) (k : Nat) (d : α) (h : k < l.length) : l.take (k + 1) = l.take k ++ [l.getD k d] := by rw [take_snoc l k h, getD_lt l k d h]
theorem u8_all {p : Nat → Prop} (h : ∀ n < 256, p n) (b : UInt8) : p b.toNat := h _ b.toNat_lt
/-! bytes -/
def low (b : UInt8) : Int := IntKind.u8.wrap ((BitVec.ofInt IntKind.u8.bits (b.toNat : Int) ||| BitVec.ofInt IntKind.u8.bits 32).toNat : Int)
def isLet (b : UInt8) : Bool := decide (97 ≤ low b) && decide (low b ≤ 122) || decide ((b.toNat : Int) = 95)
def isDig (b : UInt8) : Bool := decide (48 ≤ (b.toNat : Int)) && decide ((b.toNat : Int) ≤ 57)
theorem isLet_ref (b : UInt8) : isLet b = (decide (97 ≤ (b.toNat : Int)) && decide ((b.toNat : Int) ≤ 122) || decide (65 ≤ (b.toNat : Int)) && decide ((b.toNat : Int) ≤ 90) || decide ((b.toNat : Int) = 95)) := by
  unfold isLet low
  exact u8_all (p := fun n => (decide (97 ≤ IntKind.u8.wrap ((BitVec.ofInt IntKind.u8.bits (n : Int) ||| BitVec.ofInt IntKind.u8.bits 32).toNat : Int)) && decide (IntKind.u8.wrap ((BitVec.ofInt IntKind.u8.bits (n : Int) ||| BitVec.ofInt IntKind.u8.bits 32).toNat : Int) ≤ 122) || decide ((n : Int) = 95)) = (decide (97 ≤ (n : Int)) && decide ((n : Int) ≤ 122) || decide (65 ≤ (n : Int)) && decide ((n : Int) ≤ 90) || decide ((n : Int) = 95))) (by decide +kernel) b
def isWord (b : UInt8) : Bool := isLet b || isDig b
/-! runs -/
theorem tw_len (p : UInt8 → Bool) : ∀ (s : List UInt8) (k : Nat), (s.take k).all p = true → k ≤ s.length → (k = s.length ∨ p (s.getD k 0) = false) → (s.takeWhile p).length = k
  | [], k, _, hk, _ => by simp at hk; subst hk; rfl
  | b :: s, 0, _, _, h => by
    have : p b = false := by simpa using h
    simp [List.takeWhile_cons, this]
  | b :: s, k + 1, ha, hk, h => by
    simp only [List.take_succ_cons, List.all_cons, Bool.and_eq_true] at ha
    rw [List.takeWhile_cons_of_pos (by simpa using ha.1), List.length_cons, tw_len p s k ha.2 (by simpa using hk) (by simpa using h)]
theorem tw_le (p : UInt8 → Bool) (s : List UInt8) : (s.takeWhile p).length ≤ s.length := by
  induction s with
  | nil => simp
  | cons b s ih => rw [List.takeWhile_cons]; split <;> simp; exact ih
theorem all_snoc (p : UInt8 → Bool) (s : List UInt8) (k : Nat) (hk : k < s.length) (h : (s.take k).all p = true) (hp : p (s.getD k 0) = true) : (s.take (k + 1)).all p = true := by
  rw [take_snocD s k 0 hk, List.all_append, h]
  simpa using hp
def wordN (s : List UInt8) : Nat := match s with
  | [] => 0
  | b :: _ => bif isLet b then (s.takeWhile isWord).length else 0
theorem wordN_le (s : List UInt8) : wordN s ≤ s.length := by
  unfold wordN
  split
  · simp
  · cases isLet _
    · simp
    · exact tw_le _ _
theorem wordN_pos (s : List UInt8) (h : s ≠ []) (hl : isLet (s.getD 0 0) = true) : wordN s = (s.takeWhile isWord).length := by
  match s, h with
  | b :: s, _ => simp at hl; simp [wordN, hl]
theorem wordN_zero (s : List UInt8) (h : s = [] ∨ isLet (s.getD 0 0) = false) : wordN s = 0 := by
  match s, h with
  | [], _ => rfl
  | b :: s, h => simp at h; simp [wordN, h]
theorem wordN_posit (s : List UInt8) (h : s ≠ []) (hl : isLet (s.getD 0 0) = true) : 0 < wordN s := by
  rw [wordN_pos s h hl]
  match s, h with
  | b :: s, _ =>
    simp at hl
    rw [List.takeWhile_cons_of_pos (by simp [isWord, hl])]; simp
/-! tokens -/
structure Tok where
  k : Int
  s : List UInt8
  n : Int
  p : Int
deriving DecidableEq
def tokC (t : Tok) : List Value := [.int .i64 t.k, vs t.s, .int .i64 t.n, .int .i64 t.p]
theorem tokC_len (t : Tok) : (tokC t).length = 4 := rfl
inductive Res where
  | err (e : Int)
  | ok (t : Tok) (n : Nat)
def t0 : Tok := ⟨0, [], 0, 0⟩
def resT : Res → Tok
  | .err _ => t0
  | .ok t _ => t
def resN : Res → Nat
  | .err _ => 0
  | .ok _ n => n
def resE : Res → Int
  | .err e => e
  | .ok _ _ => 0
def resC (r : Res) : List Value := tokC (resT r) ++ [Value.int .i64 (resN r : Int)]
def resA (r : Res) : Value := .tuple #[.agg (resC r).toArray, .int .i64 (resE r)]
def resB (r : Res) : Value := .tuple #[.agg (tokC (resT r)).toArray, .int .i64 (resN r : Int), .int .i64 (resE r)]
def nameS (s : List UInt8) : Res := if 16 < wordN s then .err 5 else .ok ⟨1, s.take (wordN s), 0, 0⟩ (wordN s)
def numStep (o : Option Nat) (b : UInt8) : Option Nat := o.bind fun v => if (9223372036854775807 - (b.toNat - 48)) / 10 < v then none else some (10 * v + (b.toNat - 48))
def numF (ds : List UInt8) : Option Nat := ds.foldl numStep (some 0)
def digN (s : List UInt8) : Nat := (s.takeWhile isDig).length
def numS (s : List UInt8) : Res := if 1 < digN s ∧ ((s.getD 0 0).toNat : Int) = 48 then .err 11 else match numF (s.take (digN s)) with
  | none => .err 15
  | some v => .ok ⟨2, [], v, 0⟩ (digN s)
theorem digN_le (s : List UInt8) : digN s ≤ s.length := tw_le _ _
theorem foldl_none : ∀ l : List UInt8, l.foldl numStep none = none
  | [] => rfl
  | b :: l => foldl_none l
theorem numF_none (s : List UInt8) (k n : Nat) (hk : k ≤ n) (h : numF (s.take k) = none) : numF (s.take n) = none := by
  have e : (s.take n).take k = s.take k := by rw [List.take_take, Nat.min_eq_left hk]
  rw [← List.take_append_drop k (s.take n), e]
  unfold numF at *
  rw [List.foldl_append, h, foldl_none]
theorem numF_snoc (s : List UInt8) (k : Nat) (hk : k < s.length) : numF (s.take (k + 1)) = numStep (numF (s.take k)) (s.getD k 0) := by
  rw [take_snocD s k 0 hk]; simp [numF, List.foldl_append]
abbrev bt (s : List UInt8) (i : Nat) : Int := ((s.getD i 0).toNat : Int)
def textG (s : List UInt8) (i : Nat) (b : List UInt8) : Res :=
  if h : i < s.length then
    if bt s i = 34 then (if 40 < b.length then .err 5 else .ok ⟨3, b, 0, 0⟩ (i + 1))
    else if bt s i = 92 then (if i + 1 = s.length ∨ (bt s (i + 1) ≠ 34 ∧ bt s (i + 1) ≠ 92) then .err 11 else textG s (i + 2) (b ++ [s.getD (i + 1) 0]))
    else if bt s i < 32 ∨ 126 < bt s i then .err 11 else textG s (i + 1) (b ++ [s.getD i 0])
  else .err 11
termination_by s.length - i
theorem tx_over {s : List UInt8} {i : Nat} {b : List UInt8} (h : ¬ i < s.length) : textG s i b = .err 11 := by rw [textG, dif_neg h]
theorem tx_big {s : List UInt8} {i : Nat} {b : List UInt8} (h : i < s.length) (h1 : bt s i = 34) (h2 : 40 < b.length) : textG s i b = .err 5 := by rw [textG, dif_pos h, if_pos h1, if_pos h2]
theorem tx_end {s : List UInt8} {i : Nat} {b : List UInt8} (h : i < s.length) (h1 : bt s i = 34) (h2 : ¬ 40 < b.length) : textG s i b = .ok ⟨3, b, 0, 0⟩ (i + 1) := by rw [textG, dif_pos h, if_pos h1, if_neg h2]
theorem tx_bad {s : List UInt8} {i : Nat} {b : List UInt8} (h : i < s.length) (h1 : ¬ bt s i = 34) (h2 : bt s i = 92) (h3 : i + 1 = s.length ∨ (bt s (i + 1) ≠ 34 ∧ bt s (i + 1) ≠ 92)) : textG s i b = .err 11 := by rw [textG, dif_pos h, if_neg h1, if_pos h2, if_pos h3]
theorem tx_esc {s : List UInt8} {i : Nat} {b : List UInt8} (h : i < s.length) (h1 : ¬ bt s i = 34) (h2 : bt s i = 92) (h3 : ¬ (i + 1 = s.length ∨ (bt s (i + 1) ≠ 34 ∧ bt s (i + 1) ≠ 92))) : textG s i b = textG s (i + 2) (b ++ [s.getD (i + 1) 0]) := by rw [textG, dif_pos h, if_neg h1, if_pos h2, if_neg h3]
theorem tx_ctl {s : List UInt8} {i : Nat} {b : List UInt8} (h : i < s.length) (h1 : ¬ bt s i = 34) (h2 : ¬ bt s i = 92) (h3 : bt s i < 32 ∨ 126 < bt s i) : textG s i b = .err 11 := by rw [textG, dif_pos h, if_neg h1, if_neg h2, if_pos h3]
theorem tx_ch {s : List UInt8} {i : Nat} {b : List UInt8} (h : i < s.length) (h1 : ¬ bt s i = 34) (h2 : ¬ bt s i = 92) (h3 : ¬ (bt s i < 32 ∨ 126 < bt s i)) : textG s i b = textG s (i + 1) (b ++ [s.getD i 0]) := by rw [textG, dif_pos h, if_neg h1, if_neg h2, if_neg h3]
def textS (s : List UInt8) : Res := textG s 1 []
def marksL : List (List UInt8) := [[46, 46], [33, 61], [60, 61], [62, 61], [40], [41], [91], [93], [44], [43], [45], [42], [47], [61], [60], [62]]
def pre (s m : List UInt8) : Bool := decide (m.length ≤ s.length) && decide (s.take m.length = m)
def markG (s : List UInt8) : List (List UInt8) → Res
  | [] => .err 11
  | m :: l => bif pre s m then .ok ⟨4, m, 0, 0⟩ m.length else markG s l
def oneS (s : List UInt8) : Res :=
  bif isLet (s.getD 0 0) then nameS s else bif isDig (s.getD 0 0) then numS s else bif decide (bt s 0 = 34) then textS s else markG s marksL
theorem one_let {s : List UInt8} (h : isLet (s.getD 0 0) = true) : oneS s = nameS s := by rw [oneS, h]; rfl
theorem one_dig {s : List UInt8} (h : isLet (s.getD 0 0) = false) (h2 : isDig (s.getD 0 0) = true) : oneS s = numS s := by rw [oneS, h, h2]; rfl
theorem one_txt {s : List UInt8} (h : isLet (s.getD 0 0) = false) (h2 : isDig (s.getD 0 0) = false) (h3 : bt s 0 = 34) : oneS s = textS s := by rw [oneS, h, h2, decide_eq_true h3]; rfl
theorem one_mark {s : List UInt8} (h : isLet (s.getD 0 0) = false) (h2 : isDig (s.getD 0 0) = false) (h3 : ¬ bt s 0 = 34) : oneS s = markG s marksL := by rw [oneS, h, h2, decide_eq_false h3]; rfl
def lexG (s : List UInt8) (i : Nat) (out : List Tok) : List Tok × Int × Int :=
  if h : i < s.length then
    if bt s i = 32 then lexG s (i + 1) out
    else match oneS (s.drop i) with
      | .err e => ([], (i : Int), e)
      | .ok t n => if hn : 0 < n then lexG s (i + n) (out ++ [{ t with p := (i : Int) }]) else ([], 0, 0)
  else (out, 0, 0)
termination_by s.length - i
def lexS (s : List UInt8) : List Tok × Int × Int := if 200 < s.length then ([], 0, 5) else lexG s 0 []
def resvL : List (List UInt8) := [[97, 110, 100], [111, 114], [110, 111, 116], [105, 102], [116, 104, 101, 110], [101, 108, 115, 101], [116, 114, 117, 101], [102, 97, 108, 115, 101], [110, 117, 108, 108]]
def resS (s : List UInt8) : Bool := resvL.contains s
def nameOk (s : List UInt8) : Bool := !decide (s = []) && (decide ((wordN s : Int) = (s.length : Int)) && (decide ((s.length : Int) ≤ 16) && !resS s))
def key (pl : Bool) (t : Tok) : Tok := bif pl then t else { t with p := 0 }
def sameS (a b : List Tok) (pl : Bool) : Bool := decide (a.map (key pl) = b.map (key pl))
theorem text_ok (s : List UInt8) (hs : 0 < s.length) : ∀ (i : Nat) (b : List UInt8), (∃ e, textG s i b = .err e ∧ e ≠ 0) ∨ (∃ t n, textG s i b = .ok t n ∧ 0 < n ∧ n ≤ s.length) := by
  intro i b
  induction i, b using textG.induct (s := s) with
  | case1 i b h h1 h2 => exact .inl ⟨5, tx_big h h1 h2, by decide⟩
  | case2 i b h h1 h2 => exact .inr ⟨_, _, tx_end h h1 h2, by omega, by omega⟩
  | case3 i b h h1 h2 h3 => exact .inl ⟨11, tx_bad h h1 h2 h3, by decide⟩
  | case4 i b h h1 h2 h3 ih => rw [tx_esc h h1 h2 h3]; exact ih
  | case5 i b h h1 h2 h3 => exact .inl ⟨11, tx_ctl h h1 h2 h3, by decide⟩
  | case6 i b h h1 h2 h3 ih => rw [tx_ch h h1 h2 h3]; exact ih
  | case7 i b h => exact .inl ⟨11, tx_over h, by decide⟩
theorem mark_ok (s : List UInt8) : ∀ l : List (List UInt8), (∀ m ∈ l, 0 < m.length) → (∃ e, markG s l = .err e ∧ e ≠ 0) ∨ (∃ t n, markG s l = .ok t n ∧ 0 < n ∧ n ≤ s.length)
  | [], _ => .inl ⟨11, rfl, by decide⟩
  | m :: l, h => by
    rw [markG]
    cases hp : pre s m
    · exact mark_ok s l fun x hx => h x (by simp [hx])
    · refine .inr ⟨_, _, rfl, h m (by simp), ?_⟩
      simp [pre] at hp; exact hp.1
theorem digN_pos (s : List UInt8) (h : 0 < s.length) (hl : isDig (s.getD 0 0) = true) : 0 < digN s := by
  unfold digN
  match s, h with
  | b :: s, _ => simp at hl; rw [List.takeWhile_cons_of_pos (by simp [hl])]; simp
theorem one_ok (s : List UInt8) (hs : 0 < s.length) : (∃ e, oneS s = .err e ∧ e ≠ 0) ∨ (∃ t n, oneS s = .ok t n ∧ 0 < n ∧ n ≤ s.length) := by
  cases h1 : isLet (s.getD 0 0)
  · cases h2 : isDig (s.getD 0 0)
    · by_cases h3 : bt s 0 = 34
      · rw [one_txt h1 h2 h3]; exact text_ok s hs 1 []
      · rw [one_mark h1 h2 h3]; exact mark_ok s marksL (by decide)
    · rw [one_dig h1 h2, numS]
      split
      · exact .inl ⟨11, rfl, by decide⟩
      · split
        · exact .inl ⟨15, rfl, by decide⟩
        · exact .inr ⟨_, _, rfl, digN_pos s hs h2, digN_le s⟩
  · rw [one_let h1, nameS]
    split
    · exact .inl ⟨5, rfl, by decide⟩
    · exact .inr ⟨_, _, rfl, wordN_posit s (by intro e; subst e; simp at hs) h1, wordN_le s⟩
theorem lex_end {s : List UInt8} {i : Nat} {out : List Tok} (h : ¬ i < s.length) : lexG s i out = (out, 0, 0) := by rw [lexG, dif_neg h]
theorem lex_sp {s : List UInt8} {i : Nat} {out : List Tok} (h : i < s.length) (h1 : bt s i = 32) : lexG s i out = lexG s (i + 1) out := by rw [lexG, dif_pos h, if_pos h1]
theorem lex_err {s : List UInt8} {i : Nat} {out : List Tok} {e : Int} (h : i < s.length) (h1 : ¬ bt s i = 32) (he : oneS (s.drop i) = .err e) : lexG s i out = ([], (i : Int), e) := by rw [lexG, dif_pos h, if_neg h1, he]
theorem lex_ok {s : List UInt8} {i : Nat} {out : List Tok} {t : Tok} {n : Nat} (h : i < s.length) (h1 : ¬ bt s i = 32) (he : oneS (s.drop i) = .ok t n) (hn : 0 < n) : lexG s i out = lexG s (i + n) (out ++ [{ t with p := (i : Int) }]) := by
  rw [lexG, dif_pos h, if_neg h1, he]; simp only [dif_pos hn]
theorem flatC_len (l : List Tok) : (l.map tokC).flatten.length = 4 * l.length := by
  induction l with
  | nil => rfl
  | cons t l ih => simp only [List.map_cons, List.flatten_cons, List.length_append, ih, tokC_len, List.length_cons]; omega
theorem one_cases (s : List UInt8) (hs : 0 < s.length) : (resE (oneS s) = 0 → ∃ t n, oneS s = .ok t n ∧ 0 < n ∧ n ≤ s.length) ∧ (¬ resE (oneS s) = 0 → oneS s = .err (resE (oneS s))) := by
  rcases one_ok s hs with ⟨e, h, he⟩ | ⟨t, n, h, hn⟩
  · rw [h]; exact ⟨fun h => absurd h he, fun _ => rfl⟩
  · rw [h]; exact ⟨fun _ => ⟨t, n, rfl, hn⟩, fun hh => absurd rfl hh⟩
theorem word_end (s : List UInt8) (k : Nat) (hk : k ≤ s.length) (ha : (s.take k).all isWord = true) (h0 : k = 0 ∨ isLet (s.getD 0 0) = true) (he : k = s.length ∨ (isLet (s.getD k 0) = false ∧ (k = 0 ∨ isDig (s.getD k 0) = false))) : wordN s = k := by
  rcases Nat.eq_zero_or_pos k with rfl | hp
  · refine wordN_zero s ?_
    rcases he with h | h
    · exact .inl (List.length_eq_zero_iff.1 h.symm)
    · exact .inr h.1
  · have hl := h0.resolve_left (by omega)
    rw [wordN_pos s (by intro e; subst e; simp at hk; omega) hl]
    refine tw_len isWord s k ha hk (he.imp id fun h => ?_)
    rw [isWord, h.1, h.2.resolve_left (by omega)]; rfl
theorem resv_get : ∀ i, i < 9 → (cellsL (resvL.map vs))[0 + i * 1]? = some (vs (resvL.getD i []))
  | 0, _ | 1, _ | 2, _ | 3, _ | 4, _ | 5, _ | 6, _ | 7, _ | 8, _ => rfl
  | n + 9, h => by omega
theorem resv_snoc (s : List UInt8) (k : Nat) (hk : k < 9) (h : s ∉ resvL.take k) (hp : ¬ resvL.getD k [] = s) : s ∉ resvL.take (k + 1) := by
  rw [take_snocD resvL k [] hk, List.mem_append]
  rintro (h1 | h1)
  · exact h h1
  · simp only [List.mem_singleton] at h1; exact hp h1.symm
theorem resv_yes (s : List UInt8) (k : Nat) (hk : k < 9) (hp : resvL.getD k [] = s) : resS s = true := by
  have : s ∈ resvL := by rw [← hp]; exact getD_mem resvL k [] hk
  simpa [resS] using this
theorem resv_no (s : List UInt8) (h : s ∉ resvL.take 9) : resS s = false := by
  have : s ∉ resvL := h
  simpa [resS] using this
theorem dig_b {b : UInt8} (h : isDig b = true) : 48 ≤ b.toNat ∧ b.toNat ≤ 57 := by simp [isDig] at h; omega
theorem numS_none {s : List UInt8} {k : Nat} (hk : k < s.length) (h : numF (s.take k) = none) : numF (s.take (k + 1)) = none := by rw [numF_snoc s k hk, h]; rfl
theorem numS_over {s : List UInt8} {k v : Nat} (hk : k < s.length) (h : numF (s.take k) = some v) (ho : (9223372036854775807 - ((s.getD k 0).toNat - 48)) / 10 < v) : numF (s.take (k + 1)) = none := by rw [numF_snoc s k hk, h, numStep, Option.bind_some, if_pos ho]
theorem numS_step {s : List UInt8} {k v : Nat} (hk : k < s.length) (h : numF (s.take k) = some v) (ho : ¬ (9223372036854775807 - ((s.getD k 0).toNat - 48)) / 10 < v) : numF (s.take (k + 1)) = some (10 * v + ((s.getD k 0).toNat - 48)) := by rw [numF_snoc s k hk, h, numStep, Option.bind_some, if_neg ho]
theorem slice1 (s : List UInt8) (i : Nat) (h : i < s.length) {a b : Int} (ha : a = (i : Int)) (hb : b = (i : Int) + 1) : (s.drop a.toNat).take (b.toNat - a.toNat) = [s.getD i 0] := by
  subst ha hb
  rw [show ((i : Int) + 1).toNat - ((i : Nat) : Int).toNat = 1 by omega, Int.toNat_natCast, List.drop_eq_getElem_cons h, getD_lt s i 0 h]
  rfl
theorem mark_step (s : List UInt8) (k : Nat) (hk : k < 16) : markG s (marksL.drop k) = bif pre s (marksL.getD k []) then .ok ⟨4, marksL.getD k [], 0, 0⟩ (marksL.getD k []).length else markG s (marksL.drop (k + 1)) := by
  have hk' : k < marksL.length := hk
  rw [List.drop_eq_getElem_cons hk', markG, getD_lt marksL k [] hk']
theorem pre_yes {s m : List UInt8} (h : (m.length : Int) ≤ s.length) (h2 : s.take (m.length : Int).toNat = m) : pre s m = true := by
  rw [pre, decide_eq_true (by omega), decide_eq_true (by simpa using h2)]; rfl
theorem pre_no1 {s m : List UInt8} (h : ¬ (m.length : Int) ≤ s.length) : pre s m = false := by rw [pre, decide_eq_false (by omega)]; rfl
theorem pre_no2 {s m : List UInt8} (h2 : ¬ s.take (m.length : Int).toNat = m) : pre s m = false := by
  rw [pre, decide_eq_false (p := s.take m.length = m) (by simpa using h2), Bool.and_false]
theorem same_len {a b : List Tok} {pl : Bool} (h : ¬ (a.length : Int) = b.length) : sameS a b pl = false := by
  refine decide_eq_false fun e => h ?_
  have := congrArg List.length e
  simp only [List.length_map] at this
  omega
theorem key_eq (pl : Bool) (t u : Tok) : key pl t = key pl u ↔ t.k = u.k ∧ t.s = u.s ∧ t.n = u.n ∧ (pl = true → t.p = u.p) := by
  obtain ⟨a, b, c, d⟩ := t
  obtain ⟨e, f, g, h⟩ := u
  cases pl <;> simp [key]
theorem same_no {a b : List Tok} {pl : Bool} (k : Nat) (hk : k < a.length) (hb : k < b.length) (h : ¬ key pl (a.getD k t0) = key pl (b.getD k t0)) : sameS a b pl = false := by
  refine decide_eq_false fun e => h ?_
  have := congrArg (fun l => l[k]?) e
  simp only [List.getElem?_map, List.getElem?_eq_getElem hk, List.getElem?_eq_getElem hb, Option.map_some, Option.some.injEq] at this
  rw [getD_lt a k t0 hk, getD_lt b k t0 hb]; exact this
theorem same_snoc {a b : List Tok} {pl : Bool} (k : Nat) (hk : k < a.length) (hb : k < b.length) (h : (a.take k).map (key pl) = (b.take k).map (key pl)) (h2 : key pl (a.getD k t0) = key pl (b.getD k t0)) : (a.take (k + 1)).map (key pl) = (b.take (k + 1)).map (key pl) := by
  rw [take_snocD a k t0 hk, take_snocD b k t0 hb, List.map_append, List.map_append, h, List.map_singleton, List.map_singleton, h2]
theorem same_yes {a b : List Tok} {pl : Bool} (k : Nat) (hk : k = a.length) (hb : k = b.length) (h : (a.take k).map (key pl) = (b.take k).map (key pl)) : sameS a b pl = true := by
  rw [hk, List.take_length, ← hk, hb, List.take_length] at h
  exact decide_eq_true h
theorem same_self (a : List Tok) (pl : Bool) : sameS a a pl = true := decide_eq_true rfl
def exL : List Tok := [⟨1, [97], 0, 0⟩, ⟨4, [60, 61], 0, 1⟩, ⟨2, [], 12, 4⟩]
theorem ex_w : oneS [97, 60, 61, 32, 49, 50] = .ok ⟨1, [97], 0, 0⟩ 1 := by rw [one_let (by decide +kernel)]; rfl
theorem ex_m : oneS [60, 61, 32, 49, 50] = .ok ⟨4, [60, 61], 0, 0⟩ 2 := by rw [one_mark (by decide +kernel) (by decide +kernel) (by decide +kernel)]; rfl
theorem ex_n : oneS [49, 50] = .ok ⟨2, [], 12, 0⟩ 2 := by
  rw [one_dig (by decide +kernel) (by decide +kernel), numS, if_neg (by decide +kernel), show numF (List.take (digN [49, 50]) [49, 50]) = some 12 by decide +kernel, show digN [49, 50] = 2 by decide +kernel]
  rfl
theorem lex_ex : lexS [97, 60, 61, 32, 49, 50] = (exL, 0, 0) := by
  have a0 : lexS [97, 60, 61, 32, 49, 50] = lexG [97, 60, 61, 32, 49, 50] 0 [] := by rw [lexS, if_neg (by decide)]
  have a1 := lex_ok (s := [97, 60, 61, 32, 49, 50]) (i := 0) (out := []) (by decide) (by decide) ex_w (by decide)
  have a2 := lex_ok (s := [97, 60, 61, 32, 49, 50]) (i := 1) (out := [⟨1, [97], 0, 0⟩]) (by decide) (by decide) ex_m (by decide)
  have a3 := lex_sp (s := [97, 60, 61, 32, 49, 50]) (i := 3) (out := [⟨1, [97], 0, 0⟩, ⟨4, [60, 61], 0, 1⟩]) (by decide) (by decide)
  have a4 := lex_ok (s := [97, 60, 61, 32, 49, 50]) (i := 4) (out := [⟨1, [97], 0, 0⟩, ⟨4, [60, 61], 0, 1⟩]) (by decide) (by decide) ex_n (by decide)
  have a5 := lex_end (s := [97, 60, 61, 32, 49, 50]) (i := 6) (out := exL) (by decide)
  exact a0.trans (a1.trans (a2.trans (a3.trans (a4.trans a5))))
theorem name_a : nameOk [97] = true := by decide +kernel
theorem name_and : nameOk [97, 110, 100] = false := by decide +kernel
theorem lexG_len (s : List UInt8) : ∀ (i : Nat) (out : List Tok), (lexG s i out).1.length ≤ out.length + (s.length - i) := by
  intro i out
  induction i, out using lexG.induct (s := s) with
  | case1 i out h h1 ih => rw [lex_sp h h1]; omega
  | case2 i out h h1 e he => rw [lex_err h h1 he]; simp
  | case3 i out h h1 t n he hn ih => rw [lex_ok h h1 he hn]; simp at ih ⊢; omega
  | case4 i out h h1 t n he hn => rw [lexG, dif_pos h, if_neg h1, he]; simp only [dif_neg hn]; simp
  | case5 i out h => rw [lex_end h]; simp
theorem lexS_len (s : List UInt8) : (lexS s).1.length ≤ s.length := by
  unfold lexS
  split
  · simp
  · have := lexG_len s 0 []; simpa using this
def ixF (p : List UInt8 → Bool) (l : List (List UInt8)) : Int := match l.findIdx? p with
  | some i => (i : Int)
  | none => -1
theorem any_snoc (p : List UInt8 → Bool) (l : List (List UInt8)) (k : Nat) (hk : k < l.length) (h : (l.take k).any p = false) (hp : p (l.getD k []) = false) : (l.take (k + 1)).any p = false := by
  rw [take_snocD l k [] hk, List.any_append, h]
  simpa using hp
theorem ixF_at (p : List UInt8 → Bool) (l : List (List UInt8)) (k : Nat) (hk : k < l.length) (h : (l.take k).any p = false) (hp : p (l.getD k []) = true) : ixF p l = (k : Int) := by
  have : l.findIdx? p = some k := by
    rw [List.findIdx?_eq_some_iff_getElem]
    refine ⟨hk, by rwa [getD_lt l k [] hk] at hp, fun j hj => ?_⟩
    have hm : l[j] ∈ l.take k := by rw [List.mem_take_iff_getElem]; exact ⟨j, by omega, rfl⟩
    have := List.any_eq_false.1 h _ hm
    simpa using this
  simp [ixF, this]
theorem dig_at (s : List UInt8) (k : Nat) (hk : k < digN s) : 48 ≤ (s.getD k 0).toNat ∧ (s.getD k 0).toNat ≤ 57 := by
  unfold digN at hk
  induction s generalizing k with
  | nil => simp at hk
  | cons b s ih =>
    rw [List.takeWhile_cons] at hk
    split at hk
    · rename_i hb
      match k with
      | 0 => simp [isDig] at hb; simp; omega
      | k + 1 => simpa using ih k (by simpa using hk)
    · simp at hk
theorem marks_get : ∀ i, i < 16 → (cellsL (marksL.map vs))[0 + i * 1]? = some (vs (marksL.getD i []))
  | 0, _ | 1, _ | 2, _ | 3, _ | 4, _ | 5, _ | 6, _ | 7, _ | 8, _ | 9, _ | 10, _ | 11, _ | 12, _ | 13, _ | 14, _ | 15, _ => rfl
  | n + 16, h => by omega
theorem markG_ix (s : List UInt8) : ∀ l : List (List UInt8), markG s l = match l.findIdx? (pre s) with
    | some i => .ok ⟨4, l.getD i [], 0, 0⟩ (l.getD i []).length
    | none => .err 11
  | [] => rfl
  | m :: l => by
    rw [markG, List.findIdx?_cons]
    cases hp : pre s m
    · simp only [cond_false]
      rw [markG_ix s l]
      cases List.findIdx? (pre s) l <;> simp
    · simp
theorem mark_none (s : List UInt8) (h : ixF (pre s) marksL < 0) : markG s marksL = .err 11 := by
  rw [markG_ix]
  unfold ixF at h
  split
  · rename_i i hi; rw [hi] at h; simp at h; omega
  · rfl
theorem mark_found (s : List UInt8) (h : ¬ ixF (pre s) marksL < 0) : ∃ i : Nat, i < 16 ∧ ixF (pre s) marksL = (i : Int) ∧ markG s marksL = .ok ⟨4, marksL.getD i [], 0, 0⟩ (marksL.getD i []).length := by
  rw [markG_ix]
  unfold ixF at h ⊢
  cases hi : marksL.findIdx? (pre s) with
  | none => rw [hi] at h; simp at h
  | some i =>
    rw [List.findIdx?_eq_some_iff_getElem] at hi
    obtain ⟨hlt, _⟩ := hi
    exact ⟨i, hlt, rfl, rfl⟩
theorem ixF_none (p : List UInt8 → Bool) (l : List (List UInt8)) (h : l.any p = false) : ixF p l = -1 := by
  have : l.findIdx? p = none := by
    rw [List.findIdx?_eq_none_iff]
    intro x hx
    have := List.any_eq_false.1 h x hx
    simpa using this
  simp [ixF, this]
end Go.Proofs.YtopbpdgnjnoddaaDoor
