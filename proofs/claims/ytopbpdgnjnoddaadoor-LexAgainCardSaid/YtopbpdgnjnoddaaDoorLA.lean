/- Plain functions: how a text's tokens stand in it. No condition. -/
import Derived.Test.YtopbpdgnjnoddaaDoorLB
set_option linter.unusedSimpArgs false
set_option linter.unusedVariables false
namespace Go.Proofs.YtopbpdgnjnoddaaDoor
open Go Go.Dx Go.RowKit
theorem take_tw (p : UInt8 → Bool) : ∀ s : List UInt8, s.take (s.takeWhile p).length = s.takeWhile p
  | [] => rfl
  | b :: s => by
    rw [List.takeWhile_cons]
    split
    · rw [List.length_cons, List.take_succ_cons, take_tw p s]
    · rfl
theorem tw_tw (p : UInt8 → Bool) : ∀ s : List UInt8, (s.takeWhile p).takeWhile p = s.takeWhile p
  | [] => rfl
  | b :: s => by
    rw [List.takeWhile_cons]
    split
    · rename_i h; rw [List.takeWhile_cons_of_pos h, tw_tw p s]
    · rfl
theorem tw_ok (p : UInt8 → Bool) : ∀ s : List UInt8, (s.takeWhile p).all p = true
  | [] => rfl
  | b :: s => by
    rw [List.takeWhile_cons]
    split
    · rename_i h; rw [List.all_cons, h, tw_ok p s]; rfl
    · rfl
theorem word_take {x : List UInt8} (h : x ≠ []) (hl : isLet (x.getD 0 0) = true) : wordN (x.take (wordN x)) = (x.take (wordN x)).length := by
  have hp := wordN_posit x h hl
  have e : x.take (wordN x) = x.takeWhile isWord := by rw [wordN_pos x h hl, take_tw]
  have e0 : (x.take (wordN x)).getD 0 0 = x.getD 0 0 := by
    match x, h, hp with
    | b :: x, _, hp =>
      obtain ⟨m, hm⟩ := Nat.exists_eq_succ_of_ne_zero (Nat.pos_iff_ne_zero.1 hp)
      rw [hm]; rfl
  have hne : x.take (wordN x) ≠ [] := by
    intro hh
    have := congrArg List.length hh
    rw [List.length_take, List.length_nil] at this
    have := List.length_pos_iff.2 h
    omega
  rw [wordN_pos _ hne (by rw [e0]; exact hl), e, tw_tw]
theorem byte_dig {b : UInt8} (h : isDig b = true) : UInt8.ofNat (48 + (b.toNat - 48)) = b := by
  have := dig_b h
  exact UInt8.toNat_inj.1 (by rw [byte_lo (by omega)]; omega)
theorem i64_0 : I64 0 := ⟨by decide, by decide⟩
theorem num_inv' : ∀ (n : Nat) (ds : List UInt8), ds.length = n → ds ≠ [] → ds.all isDig = true → (1 < ds.length → ds.getD 0 0 ≠ 48) → ∀ v, numF ds = some v → v ≤ 9223372036854775807 ∧ Lib.decDigits v = ds := by
  intro n
  induction n using Nat.strongRecOn with
  | _ n ihn =>
    intro ds0 hn hne ha hl v hv
    rcases List.eq_nil_or_concat ds0 with rfl | ⟨ds, b, rfl⟩
    · exact absurd rfl hne
    rw [List.concat_eq_append] at *
    have ih := ihn ds.length (by simp at hn; omega) ds rfl
    rw [List.all_append, Bool.and_eq_true] at ha
    have hb : isDig b = true := by simpa using ha.2
    have hbr := dig_b hb
    rw [num_snoc] at hv
    by_cases he : ds = []
    · subst he
      simp only [numF, List.foldl_nil, numStep, Option.bind_some] at hv
      rw [if_neg (by omega)] at hv
      have hv := Option.some.inj hv
      subst hv
      rw [dec_lo (by omega)]
      refine ⟨by omega, ?_⟩
      rw [Nat.mul_zero, Nat.zero_add, byte_dig hb]; rfl
    · have h0 : 0 < ds.length := List.length_pos_iff.2 he
      have e0 : (ds ++ [b]).getD 0 0 = ds.getD 0 0 := by
        match ds, he with
        | c :: ds, _ => rfl
      have hl' := hl (by simp; omega)
      rw [e0] at hl'
      cases hv' : numF ds with
      | none => rw [hv'] at hv; cases hv
      | some v' =>
        rw [hv', numStep, Option.bind_some] at hv
        obtain ⟨h1, h2⟩ := ih he ha.1 (fun _ => hl') v' hv'
        by_cases hc : (9223372036854775807 - (b.toNat - 48)) / 10 < v'
        · rw [if_pos hc] at hv; cases hv
        · rw [if_neg hc] at hv
          have hv := Option.some.inj hv
          subst hv
          have hz : v' ≠ 0 := by
            rintro rfl
            rw [dec_lo (by decide)] at h2
            rw [← h2] at hl'
            exact hl' rfl
          refine ⟨by omega, ?_⟩
          rw [dec_hi (by omega), show (10 * v' + (b.toNat - 48)) / 10 = v' by omega, show (10 * v' + (b.toNat - 48)) % 10 = b.toNat - 48 by omega, h2, byte_dig hb]
theorem num_inv (ds : List UInt8) (h : ds ≠ []) (ha : ds.all isDig = true) (hl : 1 < ds.length → ds.getD 0 0 ≠ 48) (v : Nat) (hv : numF ds = some v) : v ≤ 9223372036854775807 ∧ Lib.decDigits v = ds := num_inv' _ ds rfl h ha hl v hv
theorem getD_drop0 (x : List UInt8) (i : Nat) (h : i < x.length) : x.drop i = x.getD i 0 :: x.drop (i + 1) := by
  rw [List.drop_eq_getElem_cons h, getD_lt x i 0 h]
theorem text_inv (x : List UInt8) : ∀ (i : Nat) (b : List UInt8) (t : Tok) (n : Nat), textG x i b = .ok t n → ∃ s, t = ⟨3, b ++ s, 0, 0⟩ ∧ (∀ c ∈ s, 32 ≤ c.toNat ∧ c.toNat ≤ 126) ∧ (b ++ s).length ≤ 40 ∧ i < n ∧ n ≤ x.length ∧ (x.drop i).take (n - i) = s.flatMap qB ++ [34] := by
  intro i b
  induction i, b using textG.induct (s := x) with
  | case1 i b h h1 h2 => intro t n he; rw [tx_big h h1 h2] at he; cases he
  | case2 i b h h1 h2 =>
    intro t n he
    rw [tx_end h h1 h2] at he
    cases he
    refine ⟨[], by rw [List.append_nil], by simp, by rw [List.append_nil]; omega, by omega, by omega, ?_⟩
    rw [show i + 1 - i = 1 by omega, getD_drop0 x i h]
    have : x.getD i 0 = 34 := UInt8.toNat_inj.1 (by unfold bt at h1; have e : (34 : UInt8).toNat = 34 := rfl; omega)
    rw [this]; rfl
  | case3 i b h h1 h2 h3 => intro t n he; rw [tx_bad h h1 h2 h3] at he; cases he
  | case4 i b h h1 h2 h3 ih =>
    intro t n he
    rw [tx_esc h h1 h2 h3] at he
    obtain ⟨s, rfl, g1, g2, g3, g4, g5⟩ := ih t n he
    have hi1 : i + 1 < x.length := by omega
    have hq : x.getD (i + 1) 0 = 34 ∨ x.getD (i + 1) 0 = 92 := by
      by_cases a : bt x (i + 1) = 34
      · left; exact UInt8.toNat_inj.1 (by unfold bt at a; have e : (34 : UInt8).toNat = 34 := rfl; omega)
      · by_cases a' : bt x (i + 1) = 92
        · right; exact UInt8.toNat_inj.1 (by unfold bt at a'; have e : (92 : UInt8).toNat = 92 := rfl; omega)
        · exact absurd (.inr ⟨a, a'⟩) h3
    have h92 : x.getD i 0 = 92 := UInt8.toNat_inj.1 (by unfold bt at h2; have e : (92 : UInt8).toNat = 92 := rfl; omega)
    refine ⟨x.getD (i + 1) 0 :: s, by simp, fun c hc => ?_, by simpa using g2, by omega, g4, ?_⟩
    · rcases List.mem_cons.1 hc with rfl | hc
      · rcases hq with hq | hq <;> rw [hq] <;> decide
      · exact g1 c hc
    · rw [show n - i = (n - (i + 2)) + 1 + 1 by omega, getD_drop0 x i h, List.take_succ_cons, getD_drop0 x (i + 1) hi1, List.take_succ_cons, g5, h92, List.flatMap_cons, qB, if_pos hq]
      rfl
  | case5 i b h h1 h2 h3 => intro t n he; rw [tx_ctl h h1 h2 h3] at he; cases he
  | case6 i b h h1 h2 h3 ih =>
    intro t n he
    rw [tx_ch h h1 h2 h3] at he
    obtain ⟨s, rfl, g1, g2, g3, g4, g5⟩ := ih t n he
    have hq : ¬ (x.getD i 0 = 34 ∨ x.getD i 0 = 92) := by
      rintro (a | a)
      · exact h1 (by unfold bt; rw [a]; rfl)
      · exact h2 (by unfold bt; rw [a]; rfl)
    refine ⟨x.getD i 0 :: s, by simp, fun c hc => ?_, by simpa using g2, by omega, g4, ?_⟩
    · rcases List.mem_cons.1 hc with rfl | hc
      · unfold bt at h3; omega
      · exact g1 c hc
    · rw [show n - i = (n - (i + 1)) + 1 by omega, getD_drop0 x i h, List.take_succ_cons, g5, List.flatMap_cons, qB, if_neg hq]
      rfl
  | case7 i b h => intro t n he; rw [tx_over h] at he; cases he
theorem plain_of {s : List UInt8} (h : ∀ c ∈ s, 32 ≤ c.toNat ∧ c.toNat ≤ 126) (hl : s.length ≤ 40) : plainS s = true := by
  simp only [plainS, Bool.and_eq_true, List.all_eq_true, decide_eq_true_eq]
  exact ⟨hl, fun b hb => by have := h b hb; omega⟩
theorem one_inv {x : List UInt8} {t : Tok} {n : Nat} (hx : 0 < x.length) (h : oneS x = .ok t n) : rightT t = true ∧ I64 t.n ∧ x.take n = tkS t ∧ 0 < n ∧ n ≤ x.length := by
  have hne : x ≠ [] := List.length_pos_iff.1 hx
  obtain ⟨t', n', e', hn0, hnx⟩ : ∃ t' n', oneS x = .ok t' n' ∧ 0 < n' ∧ n' ≤ x.length := by
    rcases one_ok x hx with ⟨e, he, _⟩ | h'
    · rw [h] at he; cases he
    · exact h'
  rw [h] at e'
  cases e'
  suffices rightT t = true ∧ I64 t.n ∧ x.take n = tkS t from ⟨this.1, this.2.1, this.2.2, hn0, hnx⟩
  cases h1 : isLet (x.getD 0 0)
  · cases h2 : isDig (x.getD 0 0)
    · by_cases h3 : bt x 0 = 34
      · rw [one_txt h1 h2 h3, textS] at h
        obtain ⟨s, rfl, g1, g2, g3, g4, g5⟩ := text_inv x 1 [] t n h
        have hp := plain_of g1 (by simpa using g2)
        refine ⟨by rw [right_3 rfl]; simp [hp], i64_0, ?_⟩
        have e : x = x.getD 0 0 :: x.drop 1 := by simpa using getD_drop0 x 0 hx
        have h34 : x.getD 0 0 = 34 := UInt8.toNat_inj.1 (by unfold bt at h3; have e : (34 : UInt8).toNat = 34 := rfl; omega)
        have e2 : x.take n = 34 :: (x.drop 1).take (n - 1) := by
          conv => lhs; rw [e, h34, show n = (n - 1) + 1 by omega, List.take_succ_cons]
        rw [e2, g5]
        show _ = quS s
        rw [quS_eq]; simp
      · rw [one_mark h1 h2 h3, markG_ix] at h
        split at h
        · rename_i i hi
          rw [List.findIdx?_eq_some_iff_getElem] at hi
          obtain ⟨hlt, hpre, _⟩ := hi
          cases h
          have hm : marksL.getD i [] ∈ marksL := getD_mem marksL i [] hlt
          rw [← getD_lt marksL i [] hlt] at hpre
          simp only [pre, Bool.and_eq_true, decide_eq_true_eq] at hpre
          refine ⟨by rw [right_4 rfl]; simp only [Bool.and_eq_true, decide_eq_true_eq, List.contains_eq_mem]; exact ⟨trivial, hm⟩, i64_0, hpre.2⟩
        · cases h
    · rw [one_dig h1 h2, numS] at h
      split at h
      · cases h
      · rename_i hc
        split at h
        · cases h
        · rename_i v hv
          cases h
          have hd := digN_pos x hx h2
          have e : x.take (digN x) = x.takeWhile isDig := take_tw isDig x
          have hlen : (x.take (digN x)).length = digN x := by rw [List.length_take]; have := digN_le x; omega
          have e0 : (x.take (digN x)).getD 0 0 = x.getD 0 0 := by
            match x, hne, hd with
            | b :: x, _, hd =>
              obtain ⟨m, hm⟩ := Nat.exists_eq_succ_of_ne_zero (Nat.pos_iff_ne_zero.1 hd)
              rw [hm]; rfl
          obtain ⟨g1, g2⟩ := num_inv (x.take (digN x)) (fun hh => by rw [hh] at hlen; simp at hlen; omega) (by rw [e]; exact tw_ok isDig x) (fun hl => by
            rw [e0]
            intro hh
            exact hc ⟨by omega, by rw [hh]; rfl⟩) v hv
          refine ⟨by rw [right_2 rfl]; simp, ⟨by show (-9223372036854775808 : Int) ≤ (v : Int); omega, by show (v : Int) ≤ _; omega⟩, ?_⟩
          show _ = Lib.itoa (v : Int)
          rw [itoa_pos (by omega), Int.natAbs_natCast, g2]
  · rw [one_let h1, nameS] at h
    split at h
    · cases h
    · cases h
      have hw := word_take hne h1
      have hp := wordN_posit x hne h1
      have hlen : (x.take (wordN x)).length = wordN x := by rw [List.length_take]; have := wordN_le x; omega
      refine ⟨?_, i64_0, rfl⟩
      rw [right_1 rfl]
      simp only [Bool.and_eq_true, decide_eq_true_eq, Bool.not_eq_true', decide_eq_false_iff_not]
      exact ⟨⟨⟨trivial, fun hh => by rw [hh] at hlen; simp at hlen; omega⟩, by rw [hw]⟩, by omega⟩
/-! in a text -/
def blank (s : List UInt8) (a b : Nat) : Prop := ∀ j, a ≤ j → j < b → bt s j = 32
def Lay (s : List UInt8) : Nat → List Tok → Prop
  | e, [] => e ≤ s.length ∧ blank s e s.length
  | e, t :: r => ∃ p : Nat, t.p = (p : Int) ∧ e ≤ p ∧ p + (tkS t).length ≤ s.length ∧ blank s e p ∧ (s.drop p).take (tkS t).length = tkS t ∧ 0 < (tkS t).length ∧ rightT t = true ∧ I64 t.n ∧ Lay s (p + (tkS t).length) r
theorem blank_one {s : List UInt8} {i b : Nat} (h : bt s i = 32) (hb : blank s (i + 1) b) : blank s i b := fun j h1 h2 => by
  by_cases e : j = i
  · rw [e]; exact h
  · exact hb j (by omega) h2
theorem Lay.sp {s : List UInt8} {i : Nat} (hi : i < s.length) (h : bt s i = 32) : ∀ {l : List Tok}, Lay s (i + 1) l → Lay s i l
  | [], hl => ⟨by omega, blank_one h hl.2⟩
  | t :: r, ⟨p, h1, h2, h3, h4, h5⟩ => ⟨p, h1, by omega, h3, blank_one h h4, h5⟩
theorem lex_lay (s : List UInt8) : ∀ (i : Nat) (out : List Tok), i ≤ s.length → ((lexG s i out).2.2 = 0 ∧ ∃ l', lexG s i out = (out ++ l', 0, 0) ∧ Lay s i l') ∨ (¬ (lexG s i out).2.2 = 0 ∧ ∃ j : Nat, j ≤ s.length ∧ (lexG s i out).1 = [] ∧ (lexG s i out).2.1 = (j : Int)) := by
  intro i out
  induction i, out using lexG.induct (s := s) with
  | case1 i out h h1 ih =>
    intro hi
    rw [lex_sp h h1]
    rcases ih (by omega) with ⟨g, l', e, hl⟩ | g
    · exact .inl ⟨g, l', e, hl.sp h h1⟩
    · exact .inr g
  | case2 i out h h1 e he =>
    intro hi
    rw [lex_err h h1 he]
    have hx : 0 < (s.drop i).length := by rw [List.length_drop]; omega
    refine .inr ⟨?_, i, hi, rfl, rfl⟩
    rcases one_ok _ hx with ⟨e', he', hne⟩ | ⟨t, n, ht, _⟩
    · rw [he] at he'; cases he'; exact hne
    · rw [he] at ht; cases ht
  | case3 i out h h1 t n he hn ih =>
    intro hi
    have hx : 0 < (s.drop i).length := by rw [List.length_drop]; omega
    obtain ⟨g1, g2, g3, g4, g5⟩ := one_inv hx he
    rw [List.length_drop] at g5
    rw [lex_ok h h1 he hn]
    rcases ih (by omega) with ⟨g, l', e, hl⟩ | g
    · have hlen : (tkS t).length = n := by rw [← g3, List.length_take, List.length_drop]; omega
      refine .inl ⟨g, { t with p := (i : Int) } :: l', by rw [e]; simp, i, rfl, Nat.le_refl _, ?_, fun j a b => absurd b (by omega), ?_, ?_, g1, g2, ?_⟩
      · show i + (tkS t).length ≤ _; omega
      · show (s.drop i).take (tkS t).length = tkS t
        rw [hlen]; exact g3
      · show 0 < (tkS t).length; omega
      · show Lay s (i + (tkS t).length) l'
        rw [hlen]; exact hl
    · exact .inr g
  | case4 i out h h1 t n he hn =>
    intro hi
    have hx : 0 < (s.drop i).length := by rw [List.length_drop]; omega
    exact absurd (one_inv hx he).2.2.2.1 hn
  | case5 i out h =>
    intro hi
    rw [lex_end h]
    exact .inl ⟨rfl, [], by rw [List.append_nil], hi, fun j a b => absurd b (by omega)⟩
theorem lexS_lay (s : List UInt8) : (∃ l, lexS s = (l, 0, 0) ∧ Lay s 0 l) ∨ (∃ (j : Nat) (e : Int), lexS s = ([], (j : Int), e) ∧ ¬ e = 0 ∧ j ≤ s.length) := by
  rw [lexS]
  split
  · exact .inr ⟨0, 5, rfl, by decide, Nat.zero_le _⟩
  · rcases lex_lay s 0 [] (Nat.zero_le _) with ⟨_, l, e, hl⟩ | ⟨h, j, hj, e1, e2⟩
    · exact .inl ⟨l, by simpa using e, hl⟩
    · exact .inr ⟨j, _, Prod.ext e1 (Prod.ext e2 rfl), h, hj⟩
theorem Lay.all {s : List UInt8} : ∀ {e : Nat} {l : List Tok}, Lay s e l → ∀ t ∈ l, rightT t = true ∧ I64 t.n
  | _, [], _, t, ht => by simp at ht
  | _, u :: r, ⟨p, _, _, _, _, _, _, h1, h2, h3⟩, t, ht => by
    rcases List.mem_cons.1 ht with rfl | ht
    · exact ⟨h1, h2⟩
    · exact h3.all t ht
theorem right_len {t : Tok} (h : rightT t = true) : t.s.length ≤ 100 := by
  by_cases h1 : t.k = 1
  · rw [right_1 h1] at h; simp only [Bool.and_eq_true, decide_eq_true_eq] at h; omega
  · by_cases h2 : t.k = 2
    · rw [right_2 h2] at h; simp only [Bool.and_eq_true, decide_eq_true_eq] at h; rw [h.2]; simp
    · by_cases h3 : t.k = 3
      · rw [right_3 h3] at h; simp only [Bool.and_eq_true] at h; have := plain_40 h.2; omega
      · by_cases h4 : t.k = 4
        · rw [right_4 h4] at h
          simp only [Bool.and_eq_true, List.contains_eq_mem, decide_eq_true_eq] at h
          have : ∀ m ∈ marksL, m.length ≤ 2 := by decide
          have := this _ h.2; omega
        · rw [right_0 h1 h2 h3 h4] at h; cases h
end Go.Proofs.YtopbpdgnjnoddaaDoor
