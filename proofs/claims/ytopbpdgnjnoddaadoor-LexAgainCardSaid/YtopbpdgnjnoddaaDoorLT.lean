/- Plain functions: the texts of tokens. No condition. -/
import Derived.Test.YtopbpdgnjnoddaaDoorLexSpec
import Derived.Lib.Join
import Derived.Lib.ItoaLen
set_option linter.unusedSimpArgs false
set_option linter.unusedVariables false
namespace Go.Proofs.YtopbpdgnjnoddaaDoor
open Go Go.Dx Go.RowKit
def rightT (t : Tok) : Bool :=
  if t.k = 1 then decide (t.n = 0) && !decide (t.s = []) && decide ((wordN t.s : Int) = (t.s.length : Int)) && decide ((t.s.length : Int) ≤ 16)
  else if t.k = 2 then decide (t.n ≥ 0) && decide (t.s = [])
  else if t.k = 3 then decide (t.n = 0) && plainS t.s
  else if t.k = 4 then decide (t.n = 0) && marksL.contains t.s else false
def tkS (t : Tok) : List UInt8 := if t.k = 2 then Lib.itoa t.n else if t.k = 3 then quS t.s else t.s
def tkR (t : Tok) : List UInt8 × Int := if rightT t then (tkS t, 0) else ([], 2)
def joS (l : List Tok) : List UInt8 := Lib.join (l.map tkS) [32]
def joR (l : List Tok) : List UInt8 × Int := if l.all rightT then (joS l, 0) else ([], 2)
theorem right_1 {t : Tok} (h : t.k = 1) : rightT t = (decide (t.n = 0) && !decide (t.s = []) && decide ((wordN t.s : Int) = (t.s.length : Int)) && decide ((t.s.length : Int) ≤ 16)) := by rw [rightT, if_pos h]
theorem right_2 {t : Tok} (h : t.k = 2) : rightT t = (decide (t.n ≥ 0) && decide (t.s = [])) := by rw [rightT, if_neg (by omega), if_pos h]
theorem right_3 {t : Tok} (h : t.k = 3) : rightT t = (decide (t.n = 0) && plainS t.s) := by rw [rightT, if_neg (by omega), if_neg (by omega), if_pos h]
theorem right_4 {t : Tok} (h : t.k = 4) : rightT t = (decide (t.n = 0) && marksL.contains t.s) := by rw [rightT, if_neg (by omega), if_neg (by omega), if_neg (by omega), if_pos h]
theorem right_0 {t : Tok} (h1 : ¬ t.k = 1) (h2 : ¬ t.k = 2) (h3 : ¬ t.k = 3) (h4 : ¬ t.k = 4) : rightT t = false := by rw [rightT, if_neg h1, if_neg h2, if_neg h3, if_neg h4]
theorem tkR_ok {t : Tok} (h : rightT t = true) : tkR t = (tkS t, 0) := by rw [tkR, if_pos h]
theorem tkR_no {t : Tok} (h : rightT t = false) : tkR t = ([], 2) := by rw [tkR, h]; rfl
theorem tkS_len {t : Tok} (h : rightT t = true) (hn : I64 t.n) : (tkS t).length ≤ 100 := by
  unfold tkS
  split
  · have := Lib.itoa_length_le t.n hn.1 hn.2; omega
  · split
    · rename_i h3
      have hp : plainS t.s = true := by rw [right_3 h3] at h; simp only [Bool.and_eq_true] at h; exact h.2
      have := plain_40 hp
      rw [quS_eq]
      have := flat_len t.s
      simp only [List.length_append, List.length_cons, List.length_nil]; omega
    · rename_i h2 h3
      by_cases h1 : t.k = 1
      · rw [right_1 h1] at h; simp only [Bool.and_eq_true, decide_eq_true_eq] at h; omega
      · by_cases h4 : t.k = 4
        · rw [right_4 h4] at h
          simp only [Bool.and_eq_true, List.contains_eq_mem, decide_eq_true_eq] at h
          have : ∀ m ∈ marksL, m.length ≤ 2 := by decide
          have := this _ h.2; omega
        · rw [right_0 h1 h2 h3 h4] at h; cases h
/-! joined -/
theorem jo_one (t : Tok) : joS [t] = tkS t := Lib.join_one _ _
theorem joinT_snoc (x : List UInt8) (r : List (List UInt8)) (y : List UInt8) : Lib.join (x :: r ++ [y]) [32] = Lib.join (x :: r) [32] ++ [32] ++ y := by
  rw [List.cons_append, Lib.join_cons, Lib.join_cons]
  simp [Lib.joinTail]
theorem jo_snoc (l : List Tok) (h : l ≠ []) (t : Tok) : joS (l ++ [t]) = joS l ++ [32] ++ tkS t := by
  match l, h with
  | x :: r, _ =>
    have := joinT_snoc (tkS x) (r.map tkS) (tkS t)
    unfold joS
    rw [List.map_append, List.map_cons, List.map_singleton]
    exact this
theorem jo_len : ∀ (l : List Tok), (∀ t ∈ l, rightT t = true ∧ I64 t.n) → (joS l).length ≤ 101 * l.length
  | [], _ => by simp [joS, Lib.join, List.intercalate]
  | [t], h => by rw [jo_one]; have := tkS_len (h t (by simp)).1 (h t (by simp)).2; simp; omega
  | t :: u :: l, h => by
    have ih := jo_len (u :: l) fun x hx => h x (by simp [List.mem_cons] at hx ⊢; exact .inr hx)
    have ht := tkS_len (h t (by simp)).1 (h t (by simp)).2
    have e : joS (t :: u :: l) = tkS t ++ ([32] ++ joS (u :: l)) := by
      unfold joS
      rw [List.map_cons, List.map_cons, Lib.join_cons, Lib.join_cons]
      simp [Lib.joinTail]
    rw [e]
    simp only [List.length_append, List.length_cons, List.length_nil] at ih ⊢
    omega
theorem joR_no {l : List Tok} {k : Nat} (hk : k < l.length) (h : rightT (l.getD k t0) = false) : joR l = ([], 2) := by
  rw [joR, if_neg]
  rw [List.all_eq_true]
  intro hh
  have := hh _ (getD_mem l k t0 hk)
  rw [h] at this; cases this
theorem joR_ok {l : List Tok} (h : ∀ j, j < l.length → rightT (l.getD j t0) = true) : joR l = (joS l, 0) := by
  rw [joR, if_pos]
  rw [List.all_eq_true]
  intro t ht
  obtain ⟨j, hj, rfl⟩ := List.mem_iff_getElem.1 ht
  have := h j hj
  rwa [getD_lt l j t0 hj] at this
theorem take_right {l : List Tok} {k : Nat} (h : ∀ j, j < k → rightT (l.getD j t0) = true) (hn : ∀ t ∈ l, I64 t.n) : ∀ t ∈ l.take k, rightT t = true ∧ I64 t.n := by
  intro t ht
  obtain ⟨j, ⟨hj, hl⟩, rfl⟩ := mem_takeD t0 ht
  exact ⟨h j hj, hn _ (getD_mem l j t0 hl)⟩
end Go.Proofs.YtopbpdgnjnoddaaDoor
