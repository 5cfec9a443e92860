/- Opening: what came in holds; the tables that the row lists. No condition. -/
import Derived.Test.YtopbpdgnjnoddaaDoorDxT
import Derived.Test.YtopbpdgnjnoddaaDoorDx1
import Derived.Test.YtopbpdgnjnoddaaDoorLexSpec
import Derived.Test.YtopbpdgnjnoddaaDoorRows
set_option linter.unusedSimpArgs false
set_option linter.unusedVariables false
namespace Go.Proofs.YtopbpdgnjnoddaaDoor
open Go Go.Dx Go.RowKit Go.ChangeShapes Go.WideShapes Go.ChangeAt
section
variable {H : Type} {enc : TypeId × Value → H} {W : World}
theorem sl_map {α : Type} {T sz : Nat} {h : View} {v : Value} {n : Nat} {c : Nat → List Value} {f : α → List Value} {g : Nat → α} (hs : SlC T sz (flatR c) h v (List.range n)) (hc : ∀ i, i < n → c i = f (g i)) : SlC T sz (flatR f) h v ((List.range n).map g) := by
  obtain ⟨a, cap, hv, h1, h2, h3⟩ := hs
  refine ⟨a, cap, by simpa using hv, by simpa using h1, h2, fun hne => ?_⟩
  obtain ⟨gb, off, arr, fz, ha, hg, hx⟩ := h3 (by intro e; rw [e] at hne; exact hne rfl)
  refine ⟨gb, off, arr, fz, ha, hg, fun i x hi => ?_⟩
  have hin : i < n := by have := (List.getElem?_eq_some_iff.1 hi).1; simpa using this
  have hxe : x = g i := by simp [hin] at hi; exact hi.symm
  obtain ⟨cs, c1, c2, c3⟩ := hx i i (by simp [hin])
  have c2' : cs = c i := c2
  exact ⟨cs, c1, by show cs = f x; rw [c2', hxe, hc i hin], c3⟩
theorem open_tokC {fuel : Nat} {cs : List Value} {x : DataW H × List MemPlace} (h : DataW.trod enc Tryd.prog W 0 (fun _ => true) true fuel 26 cs = some x) : ∃ x : Tok, cs = tokC x ∧ I64 x.k ∧ x.s.length ≤ 9223372036854775807 ∧ I64 x.n ∧ I64 x.p := by
  obtain ⟨hl, n0, y0, _, h0⟩ := trod_at (FldIs.of (P := Tryd.prog) (t := 26) (i := 0) (off := 0) (ty := 24) (sz := 1) (by kernel_rfl)) h
  obtain ⟨_, n1, y1, _, h1⟩ := trod_at (FldIs.of (P := Tryd.prog) (t := 26) (i := 1) (off := 1) (ty := 9) (sz := 1) (by kernel_rfl)) h
  obtain ⟨_, n2, y2, _, h2⟩ := trod_at (FldIs.of (P := Tryd.prog) (t := 26) (i := 2) (off := 2) (ty := 3) (sz := 1) (by kernel_rfl)) h
  obtain ⟨_, n3, y3, _, h3⟩ := trod_at (FldIs.of (P := Tryd.prog) (t := 26) (i := 3) (off := 3) (ty := 3) (sz := 1) (by kernel_rfl)) h
  have hl' : cs.length = 4 := hl.trans (by kernel_rfl)
  match cs, hl' with
  | [a0, a1, a2, a3], _ =>
    obtain ⟨k0, e0, b0⟩ := trod_i (by kernel_rfl) h0
    obtain ⟨k1, e1, b1⟩ := trod_s (by kernel_rfl) h1
    obtain ⟨k2, e2, b2⟩ := trod_i (by kernel_rfl) h2
    obtain ⟨k3, e3, b3⟩ := trod_i (by kernel_rfl) h3
    simp at e0 e1 e2 e3
    subst e0 e1 e2 e3
    exact ⟨⟨k0, k1, k2, k3⟩, rfl, b0, b1, b2, b3⟩
set_option maxRecDepth 100000 in
theorem open_tok {v : Value} {d : DataW H} {ps : List MemPlace} {b0 : Nat} (hok : Value.okWide Tryd.prog W .any b0 26 v) (h : DataW.Trod enc Tryd.prog W 0 (fun _ => true) true 26 v d ps) : ∃ x : Tok, v = .agg (tokC x).toArray ∧ I64 x.k ∧ x.s.length ≤ 9223372036854775807 ∧ I64 x.n ∧ I64 x.p := by
  obtain ⟨fs, _, hu, _⟩ := (FldIs.of (P := Tryd.prog) (t := 26) (i := 0) (off := 0) (ty := 24) (sz := 1) (by kernel_rfl))
  obtain ⟨cs, rfl, _⟩ := okWide_struct (P := Tryd.prog) (t := 26) hu hok
  obtain ⟨fuel, hf⟩ := h
  obtain ⟨x, hx, hb⟩ := open_tokC hf
  refine ⟨x, ?_, hb⟩
  congr 1
  apply Array.toList_inj.1; simpa [Value.cells] using hx
set_option maxRecDepth 100000 in
theorem open_toks {v : Value} {d : DataW H} {ps : List MemPlace} {b0 : Nat} (hok : Value.okWide Tryd.prog W .any b0 22 v) (h : DataW.Trod enc Tryd.prog W 0 (fun _ => true) true 22 v d ps) :
    ∃ (ad : Option Addr) (cap : Nat) (l : List Tok), v = .slice ad l.length cap ∧ SlC 26 4 (flatR tokC) (Full W) (.slice ad l.length cap) l ∧ ∀ x ∈ l, I64 x.k ∧ x.s.length ≤ 9223372036854775807 ∧ I64 x.n ∧ I64 x.p := by
  have hu : Tryd.prog.underlying 22 = some (.slice 26) := by kernel_rfl
  obtain ⟨a0, n0, p0, rfl⟩ := okWide_slice hu hok
  obtain ⟨fuel, hf⟩ := h
  obtain ⟨ad, cap, n, cc, e, hs, hk⟩ := open_sl (sz := 4) (t := 22) (e := 26) (by kernel_rfl) (by kernel_rfl) (by decide) (show DataW.trod enc Tryd.prog W 0 (fun _ => true) true fuel 22 [.slice a0 n0 p0] = some (d, ps) from hf)
  cases e
  have : Inhabited Tok := ⟨t0⟩
  obtain ⟨g, hg⟩ := Go.Deep.choose_lt (fun i hi => by
    obtain ⟨m, z, _, hz⟩ := hk i hi
    exact open_tokC hz : ∀ i, i < n0 → ∃ x : Tok, cc i = tokC x ∧ I64 x.k ∧ x.s.length ≤ 9223372036854775807 ∧ I64 x.n ∧ I64 x.p)
  have h1 := sl_map hs (fun i hi => (hg i hi).1)
  refine ⟨a0, p0, (List.range n0).map g, by simp, ?_, fun x hx => ?_⟩
  · simp only [List.length_range, List.length_map] at h1 ⊢
    exact h1
  · obtain ⟨i, hi, rfl⟩ := List.mem_map.1 hx
    exact (hg i (List.mem_range.1 hi)).2
end
def laidL : List (String × DataW Unit) := [("math/bits.deBruijn32tab", Rows.laid_math_bits_deBruijn32tab), ("math/bits.deBruijn64tab", Rows.laid_math_bits_deBruijn64tab), ("internal/strconv.uint64pow10", Rows.laid_internal_strconv_uint64pow10)]
theorem door_met (os : Os) (args : Array Value) : laidMetH Tryd.prog laidL ((World.doorLaid Tryd.prog 400 os).forCall (fun _ _ => 0) ⟨#[], args, []⟩).memory :=
  laidMetH_of_parts3 (fuel := 8) (laidMet_of_run' 8 (by kernel_rfl) (by kernel_rfl)) (by kernel_rfl) (by kernel_rfl)
end Go.Proofs.YtopbpdgnjnoddaaDoor
