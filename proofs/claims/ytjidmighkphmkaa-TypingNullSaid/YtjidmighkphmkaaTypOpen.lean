/- Opening: what an argument holds, as a tree or a list. No condition. -/
import Derived.Test.YtjidmighkphmkaaDxT
import Derived.Test.YtjidmighkphmkaaTypSpec
import Derived.Test.YtjidmighkphmkaaRows
set_option linter.unusedSimpArgs false
set_option linter.unusedVariables false
namespace Go.Proofs.Ytjidmighkphmkaa
open Go Go.Dx Go.RowKit Go.ChangeShapes Go.WideShapes Go.ChangeAt
section
variable {H : Type} {enc : TypeId × Value → H} {W : World}
theorem sl_map {α : Type} {T sz : Nat} {h : View} {v : Value} {n : Nat} {c : Nat → List Value} {f : α → List Value} {g : Nat → α} (hs : SlC T sz (flatR c) h v (List.range n)) (hc : ∀ i, i < n → c i = f (g i)) : SlC T sz (flatR f) h v ((List.range n).map g) := by
  obtain ⟨a, cap, hv, h1, h2, h3⟩ := hs
  refine ⟨a, cap, by simpa using hv, by simpa using h1, h2, fun hne => ?_⟩
  obtain ⟨gb, off, arr, fz, ha, hg, hx⟩ := h3 (by intro e; rw [e] at hne; exact hne rfl)
  refine ⟨gb, off, arr, fz, ha, hg, fun i x hi => ?_⟩
  have hin : i < n := by have := (List.getElem?_eq_some_iff.1 hi).1; simpa using this
  have hxe : x = g i := by simp [hin] at hi; exact hi.symm
  obtain ⟨cs, c1, c2, c3⟩ := hx i i (by simp [hin])
  have c2' : cs = c i := c2
  exact ⟨cs, c1, by show cs = f x; rw [c2', hxe, hc i hin], c3⟩
theorem open_valC {fuel : Nat} {cs : List Value} {x : DataW H × List MemPlace} (h : DataW.trod enc Try.prog W 0 (fun _ => true) true fuel 34 cs = some x) : ∃ v : Val, cs = valC v ∧ valB v ∧ v.s.length ≤ 9223372036854775807 := by
  obtain ⟨hl, n0, y0, _, h0⟩ := trod_at (FldIs.of (P := Try.prog) (t := 34) (i := 0) (off := 0) (ty := 32) (sz := 1) (by kernel_rfl)) h
  obtain ⟨_, n1, y1, _, h1⟩ := trod_at (FldIs.of (P := Try.prog) (t := 34) (i := 1) (off := 1) (ty := 3) (sz := 1) (by kernel_rfl)) h
  obtain ⟨_, n2, y2, _, h2⟩ := trod_at (FldIs.of (P := Try.prog) (t := 34) (i := 2) (off := 2) (ty := 9) (sz := 1) (by kernel_rfl)) h
  have hl' : cs.length = 3 := hl.trans (by kernel_rfl)
  match cs, hl' with
  | [a, b, c], _ =>
    obtain ⟨k, e0, b0⟩ := trod_i (by kernel_rfl) h0
    obtain ⟨m, e1, b1⟩ := trod_i (by kernel_rfl) h1
    obtain ⟨s, e2, l2⟩ := trod_s (by kernel_rfl) h2
    simp at e0 e1 e2
    subst e0 e1 e2
    exact ⟨⟨k, m, s⟩, rfl, ⟨b0, b1⟩, l2⟩
theorem open_colC {fuel : Nat} {cs : List Value} {x : DataW H × List MemPlace} (h : DataW.trod enc Try.prog W 0 (fun _ => true) true fuel 58 cs = some x) : ∃ c : Col, cs = colC c := by
  obtain ⟨hl, n0, y0, _, h0⟩ := trod_at (FldIs.of (P := Try.prog) (t := 58) (i := 0) (off := 0) (ty := 9) (sz := 1) (by kernel_rfl)) h
  obtain ⟨_, n1, y1, _, h1⟩ := trod_at (FldIs.of (P := Try.prog) (t := 58) (i := 1) (off := 1) (ty := 32) (sz := 1) (by kernel_rfl)) h
  obtain ⟨_, n2, y2, _, h2⟩ := trod_at (FldIs.of (P := Try.prog) (t := 58) (i := 2) (off := 2) (ty := 56) (sz := 1) (by kernel_rfl)) h
  have hl' : cs.length = 3 := hl.trans (by kernel_rfl)
  match cs, hl' with
  | [a, b, c], _ =>
    obtain ⟨s, e0, _⟩ := trod_s (by kernel_rfl) h0
    obtain ⟨k, e1, _⟩ := trod_i (by kernel_rfl) h1
    obtain ⟨ad, cap, n, cc, e2, _⟩ := open_sl (sz := 3) (t := 56) (e := 34) (by kernel_rfl) (by kernel_rfl) (by decide) (show DataW.trod enc Try.prog W 0 (fun _ => true) true n2 56 [c] = some y2 from h2)
    simp at e0 e1
    subst e0 e1 e2
    exact ⟨⟨s, k, ad, n, cap⟩, rfl⟩
theorem open_exC : ∀ (fuel : Nat) (cs : List Value) (x : DataW H × List MemPlace), DataW.trod enc Try.prog W 0 (fun _ => true) true fuel 37 cs = some x → ∃ y : Ex, RX (Full W) cs y := by
  intro fuel
  induction fuel using Nat.strongRecOn with
  | _ fuel ih =>
    intro cs x h
    obtain ⟨hl, n0, y0, _, h0⟩ := trod_at (FldIs.of (P := Try.prog) (t := 37) (i := 0) (off := 0) (ty := 31) (sz := 1) (by kernel_rfl)) h
    obtain ⟨_, n1, y1, _, h1⟩ := trod_at (FldIs.of (P := Try.prog) (t := 37) (i := 1) (off := 1) (ty := 34) (sz := 3) (by kernel_rfl)) h
    obtain ⟨_, n2, y2, _, h2⟩ := trod_at (FldIs.of (P := Try.prog) (t := 37) (i := 2) (off := 4) (ty := 9) (sz := 1) (by kernel_rfl)) h
    obtain ⟨_, n3, y3, hn3, h3⟩ := trod_at (FldIs.of (P := Try.prog) (t := 37) (i := 3) (off := 5) (ty := 35) (sz := 1) (by kernel_rfl)) h
    have hl' : cs.length = 6 := hl.trans (by kernel_rfl)
    match cs, hl' with
    | [a, b, c, d, e, f], _ =>
      obtain ⟨op, e0, b0⟩ := trod_i (by kernel_rfl) h0
      obtain ⟨v, e1, b1, _⟩ := open_valC h1
      obtain ⟨s, e2, _⟩ := trod_s (by kernel_rfl) h2
      obtain ⟨ad, cap, n, cc, e3, hs, hk⟩ := open_sl (sz := 6) (t := 35) (e := 37) (by kernel_rfl) (by kernel_rfl) (by decide) (show DataW.trod enc Try.prog W 0 (fun _ => true) true n3 35 [f] = some y3 from h3)
      have kids : ∀ i, i < n → ∃ y : Ex, RX (Full W) (cc i) y := fun i hi => by
        obtain ⟨m, z, hm, hz⟩ := hk i hi
        exact ih m (Nat.lt_trans hm hn3) (cc i) z hz
      have : Inhabited Ex := ⟨ex0⟩
      obtain ⟨g, hg⟩ := Go.Deep.choose_lt kids
      simp [valC] at e0 e1 e2
      obtain ⟨rfl, rfl, rfl⟩ := e1
      subst e0 e2 e3
      have hlen : ((List.range n).map g).length = n := by simp
      have := RX.mk (h := Full W) op v s ((List.range n).map g) ad cap cc ⟨b0, b1⟩ (by rw [hlen]; exact hs) (fun i y hi => by
        have hin : i < n := by have := (List.getElem?_eq_some_iff.1 hi).1; simpa using this
        have : y = g i := by simp [hin] at hi; exact hi.symm
        subst this; exact hg i hin)
      rw [hlen] at this
      exact ⟨_, this⟩
set_option maxRecDepth 100000 in
theorem open_val {v : Value} {d : DataW H} {ps : List MemPlace} {b0 : Nat} (hok : Value.okWide Try.prog W .any b0 34 v) (h : DataW.Trod enc Try.prog W 0 (fun _ => true) true 34 v d ps) : ∃ x : Val, v = .agg (valC x).toArray ∧ valB x ∧ x.s.length ≤ 9223372036854775807 := by
  obtain ⟨fs, _, hu, _⟩ := (FldIs.of (P := Try.prog) (t := 34) (i := 0) (off := 0) (ty := 32) (sz := 1) (by kernel_rfl))
  obtain ⟨cs, rfl, _⟩ := okWide_struct (P := Try.prog) (t := 34) hu hok
  obtain ⟨fuel, hf⟩ := h
  obtain ⟨x, hx, hb⟩ := open_valC hf
  refine ⟨x, ?_, hb⟩
  congr 1
  apply Array.toList_inj.1; simpa [Value.cells] using hx
set_option maxRecDepth 100000 in
theorem open_expr {v : Value} {d : DataW H} {ps : List MemPlace} {b0 : Nat} (hok : Value.okWide Try.prog W .any b0 37 v) (h : DataW.Trod enc Try.prog W 0 (fun _ => true) true 37 v d ps) :
    ∃ (x : Ex) (ad : Option Addr) (cap : Nat), v = .agg (exC x.op x.v x.s (.slice ad x.l.length cap)).toArray ∧ i64 x.op ∧ valB x.v ∧ XL (Full W) ad cap x.l := by
  obtain ⟨fs, _, hu, _⟩ := (FldIs.of (P := Try.prog) (t := 37) (i := 0) (off := 0) (ty := 31) (sz := 1) (by kernel_rfl))
  obtain ⟨cs, rfl, _⟩ := okWide_struct (P := Try.prog) (t := 37) hu hok
  obtain ⟨fuel, hf⟩ := h
  obtain ⟨x, hx⟩ := open_exC fuel _ _ hf
  obtain ⟨ad, cap, e, h1, h2, h3⟩ := hx.inv
  refine ⟨x, ad, cap, ?_, h1, h2, h3⟩
  congr 1
  apply Array.toList_inj.1; simpa [Value.cells] using e
set_option maxRecDepth 100000 in
theorem open_cols {v : Value} {d : DataW H} {ps : List MemPlace} {b0 : Nat} (hok : Value.okWide Try.prog W .any b0 38 v) (h : DataW.Trod enc Try.prog W 0 (fun _ => true) true 38 v d ps) :
    ∃ (ad : Option Addr) (cap : Nat) (l : List Col), v = .slice ad l.length cap ∧ SlC 0 3 (flatR colC) (Full W) (.slice ad l.length cap) l := by
  have hu : Try.prog.underlying 38 = some (.slice 58) := by kernel_rfl
  obtain ⟨a0, n0, p0, rfl⟩ := okWide_slice hu hok
  obtain ⟨fuel, hf⟩ := h
  obtain ⟨ad, cap, n, cc, e, hs, hk⟩ := open_sl (sz := 3) (t := 38) (e := 58) (by kernel_rfl) (by kernel_rfl) (by decide) (show DataW.trod enc Try.prog W 0 (fun _ => true) true fuel 38 [.slice a0 n0 p0] = some (d, ps) from hf)
  cases e
  have : Inhabited Col := ⟨c0⟩
  obtain ⟨g, hg⟩ := Go.Deep.choose_lt (fun i hi => by
    obtain ⟨m, z, _, hz⟩ := hk i hi
    exact open_colC hz : ∀ i, i < n0 → ∃ c : Col, cc i = colC c)
  have h1 := sl_map hs hg
  refine ⟨a0, p0, (List.range n0).map g, by simp, ?_⟩
  simp only [List.length_range, List.length_map] at h1 ⊢
  exact h1
end
end Go.Proofs.Ytjidmighkphmkaa
