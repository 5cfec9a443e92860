/- Laws of walks, and what functions of the program compute: part 5. Each with the conditions that it names. -/
import Derived.Test.YtpcgdhhndeanoaaGreatDoorRows
import Derived.Test.YtpcgdhhndeanoaaGreatDoorProg
import Derived.Shelf.Strconv.Itoa0
import Derived.Shelf.Strconv.Itoa1
import Derived.Shelf.LaysM
import Derived.Shelf.Strconv.Itoa2
import Derived.Shelf.Strconv.Itoa3
import Derived.Lib.AppendIntMem
import Derived.Lib.LaidTab
import Derived.Lib.ItoaLen
import Derived.Sort.Grow
import Derived.LaidSub
import Derived.Test.YtpcgdhhndeanoaaGreatDoorSyTd
set_option linter.unusedSimpArgs false
set_option linter.unusedVariables false
namespace Go.Proofs.YtpcgdhhndeanoaaGreatDoor
open Go Go.Dx Go.RowKit Go.ChangeShapes Go.WideShapes Go.ChangeAt
section
variable {H : Type} {enc : TypeId × Value → H} {W : World}
theorem sl_map {α : Type} {T sz : Nat} {h : View} {v : Value} {n : Nat} {c : Nat → List Value} {f : α → List Value} {g : Nat → α} (hs : SlC T sz (flatR c) h v (List.range n)) (hc : ∀ i, i < n → c i = f (g i)) : SlC T sz (flatR f) h v ((List.range n).map g) := by
  obtain ⟨a, cap, hv, h1, h2, h3⟩ := hs
  refine ⟨a, cap, by simpa using hv, by simpa using h1, h2, fun hne => ?_⟩
  obtain ⟨gb, off, arr, fz, ha, hg, hx⟩ := h3 (by intro e; rw [e] at hne; exact hne rfl)
  refine ⟨gb, off, arr, fz, ha, hg, fun i x hi => ?_⟩
  have hin : i < n := by have := (List.getElem?_eq_some_iff.1 hi).1; simpa using this
  have hxe : x = g i := by simp [hin] at hi; exact hi.symm
  obtain ⟨cs, c1, c2, c3⟩ := hx i i (by simp [hin])
  have c2' : cs = c i := c2
  exact ⟨cs, c1, by show cs = f x; rw [c2', hxe, hc i hin], c3⟩
end
def laidL : List (String × DataW Unit) := [("math/bits.deBruijn32tab", Rows.laid_math_bits_deBruijn32tab), ("math/bits.deBruijn64tab", Rows.laid_math_bits_deBruijn64tab), ("internal/strconv.uint64pow10", Rows.laid_internal_strconv_uint64pow10)]
theorem door_met (os : Os) (args : Array Value) : laidMetH Tryz.prog laidL ((World.doorLaid Tryz.prog 400 os).forCall (fun _ _ => 0) ⟨#[], args, []⟩).memory :=
  laidMetH_of_parts3 (fuel := 8) (laidMet_of_run' 8 (by kernel_rfl) (by kernel_rfl)) (by kernel_rfl) (by kernel_rfl)
end Go.Proofs.YtpcgdhhndeanoaaGreatDoor
namespace Go.Proofs.YtpcgdhhndeanoaaGreatDoor
open Go Go.Dx Go.RowKit Go.ChangeShapes Go.WideShapes Go.ChangeAt
section
variable {H : Type} {enc : TypeId × Value → H} {W : World}
theorem open_valC {fuel : Nat} {cs : List Value} {x : DataW H × List MemPlace} (h : DataW.trod enc Tryz.prog W 0 (fun _ => true) true fuel 25 cs = some x) : ∃ v : Val, cs = valC v ∧ valB v ∧ v.s.length ≤ 9223372036854775807 := by
  obtain ⟨hl, n0, y0, _, h0⟩ := trod_at (FldIs.of (P := Tryz.prog) (t := 25) (i := 0) (off := 0) (ty := 23) (sz := 1) (by kernel_rfl)) h
  obtain ⟨_, n1, y1, _, h1⟩ := trod_at (FldIs.of (P := Tryz.prog) (t := 25) (i := 1) (off := 1) (ty := 3) (sz := 1) (by kernel_rfl)) h
  obtain ⟨_, n2, y2, _, h2⟩ := trod_at (FldIs.of (P := Tryz.prog) (t := 25) (i := 2) (off := 2) (ty := 9) (sz := 1) (by kernel_rfl)) h
  have hl' : cs.length = 3 := hl.trans (by kernel_rfl)
  match cs, hl' with
  | [a, b, c], _ =>
    obtain ⟨k, e0, b0⟩ := trod_i (by kernel_rfl) h0
    obtain ⟨m, e1, b1⟩ := trod_i (by kernel_rfl) h1
    obtain ⟨s, e2, l2⟩ := trod_s (by kernel_rfl) h2
    simp at e0 e1 e2
    subst e0 e1 e2
    exact ⟨⟨k, m, s⟩, rfl, ⟨b0, b1⟩, l2⟩
theorem open_exC : ∀ (fuel : Nat) (cs : List Value) (x : DataW H × List MemPlace), DataW.trod enc Tryz.prog W 0 (fun _ => true) true fuel 28 cs = some x → ∃ y : Ex, RX (Full W) cs y := by
  intro fuel
  induction fuel using Nat.strongRecOn with
  | _ fuel ih =>
    intro cs x h
    obtain ⟨hl, n0, y0, _, h0⟩ := trod_at (FldIs.of (P := Tryz.prog) (t := 28) (i := 0) (off := 0) (ty := 22) (sz := 1) (by kernel_rfl)) h
    obtain ⟨_, n1, y1, _, h1⟩ := trod_at (FldIs.of (P := Tryz.prog) (t := 28) (i := 1) (off := 1) (ty := 25) (sz := 3) (by kernel_rfl)) h
    obtain ⟨_, n2, y2, _, h2⟩ := trod_at (FldIs.of (P := Tryz.prog) (t := 28) (i := 2) (off := 4) (ty := 9) (sz := 1) (by kernel_rfl)) h
    obtain ⟨_, n3, y3, hn3, h3⟩ := trod_at (FldIs.of (P := Tryz.prog) (t := 28) (i := 3) (off := 5) (ty := 26) (sz := 1) (by kernel_rfl)) h
    have hl' : cs.length = 6 := hl.trans (by kernel_rfl)
    match cs, hl' with
    | [a, b, c, d, e, f], _ =>
      obtain ⟨op, e0, b0⟩ := trod_i (by kernel_rfl) h0
      obtain ⟨v, e1, b1, _⟩ := open_valC h1
      obtain ⟨s, e2, _⟩ := trod_s (by kernel_rfl) h2
      obtain ⟨ad, cap, n, cc, e3, hs, hk⟩ := open_sl (sz := 6) (t := 26) (e := 28) (by kernel_rfl) (by kernel_rfl) (by decide) (show DataW.trod enc Tryz.prog W 0 (fun _ => true) true n3 26 [f] = some y3 from h3)
      have kids : ∀ i, i < n → ∃ y : Ex, RX (Full W) (cc i) y := fun i hi => by
        obtain ⟨m, z, hm, hz⟩ := hk i hi
        exact ih m (Nat.lt_trans hm hn3) (cc i) z hz
      have : Inhabited Ex := ⟨ex0⟩
      obtain ⟨g, hg⟩ := Go.Deep.choose_lt kids
      simp [valC] at e0 e1 e2
      obtain ⟨rfl, rfl, rfl⟩ := e1
      subst e0 e2 e3
      have hlen : ((List.range n).map g).length = n := by simp
      have := RX.mk (h := Full W) op v s ((List.range n).map g) ad cap cc ⟨b0, b1⟩ (by rw [hlen]; exact hs) (fun i y hi => by
        have hin : i < n := by have := (List.getElem?_eq_some_iff.1 hi).1; simpa using this
        have : y = g i := by simp [hin] at hi; exact hi.symm
        subst this; exact hg i hin)
      rw [hlen] at this
      exact ⟨_, this⟩
set_option maxRecDepth 100000 in
theorem open_val {v : Value} {d : DataW H} {ps : List MemPlace} {b0 : Nat} (hok : Value.okWide Tryz.prog W .any b0 25 v) (h : DataW.Trod enc Tryz.prog W 0 (fun _ => true) true 25 v d ps) : ∃ x : Val, v = .agg (valC x).toArray ∧ valB x ∧ x.s.length ≤ 9223372036854775807 := by
  obtain ⟨fs, _, hu, _⟩ := (FldIs.of (P := Tryz.prog) (t := 25) (i := 0) (off := 0) (ty := 23) (sz := 1) (by kernel_rfl))
  obtain ⟨cs, rfl, _⟩ := okWide_struct (P := Tryz.prog) (t := 25) hu hok
  obtain ⟨fuel, hf⟩ := h
  obtain ⟨x, hx, hb⟩ := open_valC hf
  refine ⟨x, ?_, hb⟩
  congr 1
  apply Array.toList_inj.1; simpa [Value.cells] using hx
set_option maxRecDepth 100000 in
theorem open_expr {v : Value} {d : DataW H} {ps : List MemPlace} {b0 : Nat} (hok : Value.okWide Tryz.prog W .any b0 28 v) (h : DataW.Trod enc Tryz.prog W 0 (fun _ => true) true 28 v d ps) :
    ∃ (x : Ex) (ad : Option Addr) (cap : Nat), v = .agg (exC x.op x.v x.s (.slice ad x.l.length cap)).toArray ∧ i64 x.op ∧ valB x.v ∧ XL (Full W) ad cap x.l := by
  obtain ⟨fs, _, hu, _⟩ := (FldIs.of (P := Tryz.prog) (t := 28) (i := 0) (off := 0) (ty := 22) (sz := 1) (by kernel_rfl))
  obtain ⟨cs, rfl, _⟩ := okWide_struct (P := Tryz.prog) (t := 28) hu hok
  obtain ⟨fuel, hf⟩ := h
  obtain ⟨x, hx⟩ := open_exC fuel _ _ hf
  obtain ⟨ad, cap, e, h1, h2, h3⟩ := hx.inv
  refine ⟨x, ad, cap, ?_, h1, h2, h3⟩
  congr 1
  apply Array.toList_inj.1; simpa [Value.cells] using e
end
end Go.Proofs.YtpcgdhhndeanoaaGreatDoor
set_option maxRecDepth 100000
namespace Go.Proofs.YtpcgdhhndeanoaaGreatDoor
open Go Go.Dx Go.RowKit Go.ChangeShapes Go.WideShapes Go.ChangeAt
mutual
/-- how much an expression holds -/
def bkX : Ex → Nat
  | .mk _ v s l => 1 + s.length + v.s.length + bkXL l
def bkXL : List Ex → Nat
  | [] => 0
  | x :: l => bkX x + bkXL l
end
theorem bkXL_sum : ∀ l : List Ex, bkXL l = (l.map bkX).sum
  | [] => rfl
  | x :: l => by rw [bkXL, bkXL_sum l]; rfl
mutual
theorem nm_bk : ∀ x : Ex, (nmS x).length ≤ bkX x
  | .mk o v s l => by
    have := nmL_bk l
    rw [nmS, bkX, List.length_append]
    split <;> simp <;> omega
theorem nmL_bk : ∀ l : List Ex, (nmL l).length ≤ bkXL l
  | [] => by simp [nmL, bkXL]
  | x :: l => by
    have := nm_bk x
    have := nmL_bk l
    rw [nmL, bkXL, List.length_append]; omega
end
theorem sum_le_range {f g : Nat → Nat} : ∀ n, (∀ i, i < n → f i ≤ g i) → ((List.range n).map f).sum ≤ ((List.range n).map g).sum
  | 0, _ => Nat.le_refl _
  | n + 1, h => by
    have := sum_le_range n fun i hi => h i (by omega)
    have := h n (by omega)
    simp only [List.range_succ, List.map_append, List.sum_append, List.map_cons, List.map_nil, List.sum_cons, List.sum_nil]
    omega
section
variable {H : Type} {enc : TypeId × Value → H} {W : World}
mutual
theorem bk_le {H : Type} : ∀ d : DataW H, bkD d ≤ Rows.uptoBulk d
  | .lit l => by cases l <;> simp [bkD, Rows.uptoBulk]
  | .nil => by simp [bkD, Rows.uptoBulk]
  | .ptr d => by simp [bkD, Rows.uptoBulk]
  | .slice e s => by have := bkL_le e; simp only [bkD, Rows.uptoBulk]; omega
  | .agg p => by have := bkL_le p; simp only [bkD, Rows.uptoBulk]; omega
  | .iface _ _ => by simp [bkD, Rows.uptoBulk]
  | .map _ => by simp [bkD, Rows.uptoBulk]
  | .held _ => by simp [bkD, Rows.uptoBulk]
theorem bkL_le {H : Type} : ∀ l : List (DataW H), bkL l ≤ Rows.uptoBulkAll l
  | [] => by simp [bkL, Rows.uptoBulkAll]
  | d :: r => by have := bk_le d; have := bkL_le r; simp only [bkL, Rows.uptoBulkAll]; omega
end
theorem bulk_of {H : Type} {l : List (DataW H)} (hk : Rows.uptoSmall H l = true) : bkL l ≤ 1048576 :=
  Nat.le_trans (bkL_le l) (of_decide_eq_true hk)
theorem open_valB {fuel : Nat} {cs : List Value} {x : DataW H × List MemPlace} (h : DataW.trod enc Tryz.prog W 0 (fun _ => true) true fuel 25 cs = some x) : ∃ v : Val, cs = valC v ∧ valB v ∧ v.s.length ≤ 9223372036854775807 ∧ v.s.length < bkD x.1 := by
  obtain ⟨v, e, h1, h2⟩ := open_valC h
  refine ⟨v, e, h1, h2, ?_⟩
  obtain ⟨hl, n2, y2, _, h3, h4⟩ := trod_bk (FldIs.of (P := Tryz.prog) (t := 25) (i := 2) (off := 2) (ty := 9) (sz := 1) (by kernel_rfl)) h
  obtain ⟨s, e2, l2, _⟩ := trod_sB (by kernel_rfl) h3
  subst e
  have e2 : vs v.s = vs s := by simpa [valC] using e2
  have e3 : v.s = s := by
    have := e2
    simp only [vs, Value.string.injEq, ByteArray.mk.injEq] at this
    simpa using this
  rw [e3]
  obtain ⟨fs, f, hu, _⟩ := (FldIs.of (P := Tryz.prog) (t := 25) (i := 2) (off := 2) (ty := 9) (sz := 1) (by kernel_rfl))
  have hs := trod_sum hu h
  have hfs : fs.size = 3 := by
    have hb : (match Tryz.prog.underlying 25 with | some (.struct fs) => fs.size | _ => 0) = 3 := by kernel_rfl
    rw [hu] at hb; exact hb
  rw [hfs] at hs
  simp only [List.range_succ, List.range_zero, List.map_append, List.map_cons, List.map_nil, List.sum_append, List.sum_cons, List.sum_nil, List.nil_append] at hs
  omega
theorem open_exB : ∀ (fuel : Nat) (cs : List Value) (x : DataW H × List MemPlace), DataW.trod enc Tryz.prog W 0 (fun _ => true) true fuel 28 cs = some x → ∃ y : Ex, RX (Full W) cs y ∧ bkX y ≤ bkD x.1 := by
  intro fuel
  induction fuel using Nat.strongRecOn with
  | _ fuel ih =>
    intro cs x h
    obtain ⟨hl, n0, y0, _, h0, _⟩ := trod_bk (FldIs.of (P := Tryz.prog) (t := 28) (i := 0) (off := 0) (ty := 22) (sz := 1) (by kernel_rfl)) h
    obtain ⟨_, n1, y1, _, h1, k1⟩ := trod_bk (FldIs.of (P := Tryz.prog) (t := 28) (i := 1) (off := 1) (ty := 25) (sz := 3) (by kernel_rfl)) h
    obtain ⟨_, n2, y2, _, h2, k2⟩ := trod_bk (FldIs.of (P := Tryz.prog) (t := 28) (i := 2) (off := 4) (ty := 9) (sz := 1) (by kernel_rfl)) h
    obtain ⟨_, n3, y3, hn3, h3, k3⟩ := trod_bk (FldIs.of (P := Tryz.prog) (t := 28) (i := 3) (off := 5) (ty := 26) (sz := 1) (by kernel_rfl)) h
    have hsum : bkD x.1 = bkAt 0 x.1 + bkAt 1 x.1 + bkAt 2 x.1 + bkAt 3 x.1 + 1 := by
      obtain ⟨fs, f, hu, _⟩ := (FldIs.of (P := Tryz.prog) (t := 28) (i := 0) (off := 0) (ty := 22) (sz := 1) (by kernel_rfl))
      have hs := trod_sum hu h
      have hfs : fs.size = 4 := by
        have hb : (match Tryz.prog.underlying 28 with | some (.struct fs) => fs.size | _ => 0) = 4 := by kernel_rfl
        rw [hu] at hb; exact hb
      rw [hfs] at hs
      simp only [List.range_succ, List.range_zero, List.map_append, List.map_cons, List.map_nil, List.sum_append, List.sum_cons, List.sum_nil, List.nil_append] at hs
      omega
    have hl' : cs.length = 6 := hl.trans (by kernel_rfl)
    match cs, hl' with
    | [a, b, c, d, e, f], _ =>
      obtain ⟨op, e0, b0⟩ := trod_i (by kernel_rfl) h0
      obtain ⟨v, e1, b1, _, j1⟩ := open_valB h1
      obtain ⟨s, e2, j2, _⟩ := trod_sB (by kernel_rfl) h2
      obtain ⟨ad, cap, n, cc, gb, e3, hs, hk, j3⟩ := open_slB (sz := 6) (t := 26) (e := 28) (by kernel_rfl) (by kernel_rfl) (by decide) (show DataW.trod enc Tryz.prog W 0 (fun _ => true) true n3 26 [f] = some y3 from h3)
      have kids : ∀ i, i < n → ∃ y : Ex, RX (Full W) (cc i) y ∧ bkX y ≤ gb i := fun i hi => by
        obtain ⟨m, z, hm, hz, hb⟩ := hk i hi
        obtain ⟨y, hy, hyb⟩ := ih m (Nat.lt_trans hm hn3) (cc i) z hz
        exact ⟨y, hy, by rw [← hb]; exact hyb⟩
      have : Inhabited Ex := ⟨ex0⟩
      obtain ⟨g, hg⟩ := Go.Deep.choose_lt kids
      simp [valC] at e0 e1 e2
      obtain ⟨rfl, rfl, rfl⟩ := e1
      subst e0 e2 e3
      have hlen : ((List.range n).map g).length = n := by simp
      have := RX.mk (h := Full W) op v s ((List.range n).map g) ad cap cc ⟨b0, b1⟩ (by rw [hlen]; exact hs) (fun i y hi => by
        have hin : i < n := by have := (List.getElem?_eq_some_iff.1 hi).1; simpa using this
        have : y = g i := by simp [hin] at hi; exact hi.symm
        subst this; exact (hg i hin).1)
      rw [hlen] at this
      refine ⟨_, this, ?_⟩
      have hle := sum_le_range (f := fun i => bkX (g i)) (g := gb) n fun i hi => (hg i hi).2
      rw [bkX, bkXL_sum, List.map_map, hsum, k1, k2, k3, j3]
      have hle : (List.map (bkX ∘ g) (List.range n)).sum ≤ ((List.range n).map gb).sum := hle
      omega
set_option maxRecDepth 100000 in
theorem open_exprB {v : Value} {d : DataW H} {ps : List MemPlace} {b0 : Nat} (hok : Value.okWide Tryz.prog W .any b0 28 v) (h : DataW.Trod enc Tryz.prog W 0 (fun _ => true) true 28 v d ps) :
    ∃ (x : Ex) (ad : Option Addr) (cap : Nat), v = .agg (exC x.op x.v x.s (.slice ad x.l.length cap)).toArray ∧ i64 x.op ∧ valB x.v ∧ XL (Full W) ad cap x.l ∧ bkX x ≤ bkD d := by
  obtain ⟨fs, _, hu, _⟩ := (FldIs.of (P := Tryz.prog) (t := 28) (i := 0) (off := 0) (ty := 22) (sz := 1) (by kernel_rfl))
  obtain ⟨cs, rfl, _⟩ := okWide_struct (P := Tryz.prog) (t := 28) hu hok
  obtain ⟨fuel, hf⟩ := h
  obtain ⟨x, hx, hb⟩ := open_exB fuel _ _ hf
  obtain ⟨ad, cap, e, h1, h2, h3⟩ := hx.inv
  refine ⟨x, ad, cap, ?_, h1, h2, h3, hb⟩
  congr 1
  apply Array.toList_inj.1; simpa [Value.cells] using e
end

end Go.Proofs.YtpcgdhhndeanoaaGreatDoor
set_option maxRecDepth 100000
namespace Go.Proofs.YtpcgdhhndeanoaaGreatDoor
open Go Go.Dx Go.RowKit
def TT : Tab := ⟨[(2, ⟨.int .i64, 1, false, [.int .i64 0]⟩),
  (3, ⟨.int .i64, 1, false, [.int .i64 0]⟩),
  (4, ⟨.bool, 1, false, [.bool false]⟩),
  (5, ⟨.int .u8, 1, false, [.int .u8 0]⟩),
  (9, ⟨.str, 1, false, [vs []]⟩),
  (21, ⟨.int .i32, 1, false, [.int .i32 0]⟩),
  (22, ⟨.int .i64, 1, false, [.int .i64 0]⟩),
  (23, ⟨.int .i64, 1, false, [.int .i64 0]⟩),
  (25, ⟨.st [(0, 1, false), (1, 1, false), (2, 1, false)], 3, true, [.int .i64 0, .int .i64 0, vs []]⟩),
  (26, ⟨.sl 28 6, 1, false, [.slice none 0 0]⟩),
  (28, ⟨.st [(0, 1, false), (1, 3, true), (4, 1, false), (5, 1, false)], 6, true, [.int .i64 0, .int .i64 0, .int .i64 0, vs [], vs [], .slice none 0 0]⟩),
  (29, ⟨.st [(0, 1, false), (1, 3, true), (4, 1, false), (5, 1, false)], 6, true, [.int .i64 0, .int .i64 0, .int .i64 0, vs [], vs [], .slice none 0 0]⟩),
  (31, ⟨.int .i64, 1, false, [.int .i64 0]⟩),
  (37, ⟨.ot, 1, false, [.nilFunc]⟩),
  (40, ⟨.sl 9 1, 1, false, [.slice none 0 0]⟩),
  (42, ⟨.ot, 1, false, [.nilFunc]⟩),
  (46, ⟨.ot, 1, false, [.pointer none]⟩),
  (47, ⟨.ot, 1, false, [.pointer none]⟩),
  (48, ⟨.sl 5 1, 1, false, [.slice none 0 0]⟩),
  (50, ⟨.st [(0, 1, false), (1, 1, false)], 2, true, [.pointer none, .slice none 0 0]⟩),
  (52, ⟨.st [(0, 2, true)], 2, true, [.pointer none, .slice none 0 0]⟩),
  (59, ⟨.ot, 1, false, [.nilFunc]⟩),
  (64, ⟨.sl 70 4, 1, false, [.slice none 0 0]⟩),
  (68, ⟨.int .i64, 1, false, [.int .i64 0]⟩),
  (70, ⟨.st [(0, 1, false), (1, 1, false), (2, 1, false), (3, 1, false)], 4, true, [.int .i64 0, vs [], .int .i64 0, .int .i64 0]⟩),
  (79, ⟨.ar 3 9 1, 3, true, [vs [], vs [], vs []]⟩),
  (81, ⟨.st [(0, 1, false), (1, 1, false), (2, 1, false)], 3, true, [.int .i64 0, vs [], .int .i64 0]⟩),
  (83, ⟨.ot, 1, false, [.pointer none]⟩),
  (90, ⟨.st [(0, 4, true), (4, 1, false)], 5, true, [.int .i64 0, vs [], .int .i64 0, .int .i64 0, .int .i64 0]⟩),
  (93, ⟨.ot, 1, false, [.pointer none]⟩),
  (95, ⟨.st [(0, 1, false), (1, 1, false), (2, 1, false)], 3, true, [.slice none 0 0, .int .i64 0, .bool false]⟩),
  (101, ⟨.sl 81 3, 1, false, [.slice none 0 0]⟩),
  (103, ⟨.ot, 1, false, [.nilFunc]⟩),
  (108, ⟨.ot, 1, false, [.pointer none]⟩),
  (120, ⟨.ar 24 5 1, 24, true, [.int .u8 0, .int .u8 0, .int .u8 0, .int .u8 0, .int .u8 0, .int .u8 0, .int .u8 0, .int .u8 0, .int .u8 0, .int .u8 0, .int .u8 0, .int .u8 0, .int .u8 0, .int .u8 0, .int .u8 0, .int .u8 0, .int .u8 0, .int .u8 0, .int .u8 0, .int .u8 0, .int .u8 0, .int .u8 0, .int .u8 0, .int .u8 0]⟩),
  (121, ⟨.int .u64, 1, false, [.int .u64 0]⟩),
  (126, ⟨.int .u32, 1, false, [.int .u32 0]⟩),
  (129, ⟨.ar 20 121 1, 20, true, [.int .u64 0, .int .u64 0, .int .u64 0, .int .u64 0, .int .u64 0, .int .u64 0, .int .u64 0, .int .u64 0, .int .u64 0, .int .u64 0, .int .u64 0, .int .u64 0, .int .u64 0, .int .u64 0, .int .u64 0, .int .u64 0, .int .u64 0, .int .u64 0, .int .u64 0, .int .u64 0]⟩),
  (132, ⟨.int .u64, 1, false, [.int .u64 0]⟩),
  (135, ⟨.ar 32 5 1, 32, true, [.int .u8 0, .int .u8 0, .int .u8 0, .int .u8 0, .int .u8 0, .int .u8 0, .int .u8 0, .int .u8 0, .int .u8 0, .int .u8 0, .int .u8 0, .int .u8 0, .int .u8 0, .int .u8 0, .int .u8 0, .int .u8 0, .int .u8 0, .int .u8 0, .int .u8 0, .int .u8 0, .int .u8 0, .int .u8 0, .int .u8 0, .int .u8 0, .int .u8 0, .int .u8 0, .int .u8 0, .int .u8 0, .int .u8 0, .int .u8 0, .int .u8 0, .int .u8 0]⟩)], [4, 5, 6, 7, 8, 9, 10, 11, 12, 13, 14, 15, 16, 17, 18, 19, 20, 21, 22, 23, 24, 25, 26, 27, 28, 29, 30, 31, 32, 33, 34, 35, 36, 37, 38, 39, 40, 41, 42, 43, 44, 45, 46, 47, 48, 49, 50, 51, 52, 53, 54, 55, 56, 57, 58, 59, 60, 61, 62, 63, 64, 65, 66, 67, 68, 69, 70, 71, 72, 73, 74, 75, 76, 77, 78, 80, 81, 82, 83, 84, 85, 86, 87, 88, 89, 90, 91, 92, 93, 94, 95, 96, 97, 98, 99, 100, 101, 102, 103, 104]⟩
theorem TT_ok : Tab.Ok Tryz.prog TT := ⟨by kernel_rfl, by kernel_rfl, by kernel_rfl⟩
theorem pow_fol : Tryz.prog.follows .mixedOrders = true := by kernel_rfl

end Go.Proofs.YtpcgdhhndeanoaaGreatDoor
set_option maxRecDepth 100000
namespace Go.Proofs.YtpcgdhhndeanoaaGreatDoor
open Go Go.Dx Go.RowKit
theorem c_letter (b : UInt8) (w0 : World) (h0 : View) (hv : VLe h0 (Full w0)) : Calls Tryz.prog 67 #[v8 b] w0 (Ret w0 h0 fun u _ => u = .bool (isLet b)) := by
  refine ent (args := [v8 b]) TT_ok [] [] Tryz.func67 rfl Tryz.ntmps67 rfl rfl hv ?_
  refine ew (low b) rfl ?_
  refine ew (low b) (fun _ => rfl) ?_
  exact rfl
theorem c_digit (b : UInt8) (w0 : World) (h0 : View) (hv : VLe h0 (Full w0)) : Calls Tryz.prog 69 #[v8 b] w0 (Ret w0 h0 fun u _ => u = .bool (isDig b)) := by
  refine ent (args := [v8 b]) TT_ok [] [] Tryz.func69 rfl Tryz.ntmps69 rfl rfl hv ?_
  exact rfl
set_option maxRecDepth 100000 in
theorem c_Rletter' (b : UInt8) (w0 : World) (h0 : View) (hv : VLe h0 (Full w0)) : Calls Tryz.prog 65 #[v8 b] w0 (Ret w0 h0 fun u _ => u = .bool (decide (97 ≤ (b.toNat : Int)) && decide ((b.toNat : Int) ≤ 122) || decide (65 ≤ (b.toNat : Int)) && decide ((b.toNat : Int) ≤ 90) || decide ((b.toNat : Int) = 95))) := by
  refine ent (args := [v8 b]) TT_ok [] [] Tryz.func65 rfl Tryz.ntmps65 rfl rfl hv ?_
  exact rfl
theorem c_Rletter (b : UInt8) (w0 : World) (h0 : View) (hv : VLe h0 (Full w0)) : Calls Tryz.prog 65 #[v8 b] w0 (Ret w0 h0 fun u _ => u = .bool (isLet b)) := by
  have := c_Rletter' b w0 h0 hv
  rw [← isLet_ref] at this
  exact this
theorem c_Rdigit (b : UInt8) (w0 : World) (h0 : View) (hv : VLe h0 (Full w0)) : Calls Tryz.prog 66 #[v8 b] w0 (Ret w0 h0 fun u _ => u = .bool (isDig b)) := by
  refine ent (args := [v8 b]) TT_ok [] [] Tryz.func66 rfl Tryz.ntmps66 rfl rfl hv ?_
  exact rfl
theorem c_word1 (b : UInt8) (w0 : World) (h0 : View) (hv : VLe h0 (Full w0)) : Calls Tryz.prog 78 #[v8 b] w0 (Ret w0 h0 fun u _ => u = .bool (isWord b)) := by
  refine ent (args := [v8 b]) TT_ok [] [] Tryz.func78 rfl Tryz.ntmps78 rfl rfl hv ?_
  refine cl (c_letter b) ?_
  refine clg (fun _ => c_digit b) ?_
  exact rfl
theorem all_snocW {p : UInt8 → Bool} {s : List UInt8} {k : Nat} (hk : k < s.length) (ha : (s.take k).all p = true) (h : p (s.getD k 0) = true) : (s.take (k + 1)).all p = true := by
  rw [take_snocD s k 0 hk, List.all_append, ha]; simp only [List.all_cons, h, List.all_nil, Bool.and_self]
theorem c_runW (s : List UInt8) (hs : s.length ≤ 1000000) (w0 : World) (h0 : View) (hv : VLe h0 (Full w0)) : Calls Tryz.prog 77 #[vs s, .func (.func 78) #[] #[]] w0 (Ret w0 h0 fun u _ => u = .int .i64 ((s.takeWhile isWord).length : Nat)) := by
  refine ent (args := [vs s, .func (.func 78) #[] #[]]) TT_ok [] [] Tryz.func77 rfl Tryz.ntmps77 rfl rfl hv ?_
  refine w_loop TT_ok (fun k : Nat => [(8, .v (.int .i64 k))]) 0 (fun k => k ≤ s.length ∧ (s.take k).all isWord = true) (fun k => s.length - k) ?_
  refine And.intro ⟨⟨Nat.zero_le _, by simp⟩, gs⟩ ?_
  intro k ⟨hk, ha⟩
  refine cnd (fun h => ?_) (fun h => ?_)
  · refine ix k ?_
    refine cl (c_word1 (s.getD k 0)) ?_
    refine cnd (fun h1 => ?_) (fun h1 => ?_)
    · show Value.int .i64 (k : Int) = _
      rw [tw_len isWord s k ha hk (.inr h1)]
    · refine wi ?_
      exact ⟨k + 1, ⟨⟨by omega, all_snocW (by omega) ha h1⟩, by omega⟩, gs⟩
  · show Value.int .i64 (s.length : Int) = _
    rw [tw_len isWord s k ha hk (.inl (by omega))]
    rw [show k = s.length by omega]
theorem word_emp {s : List UInt8} (h : s = [] ∨ isLet (s.getD 0 0) = false) : wordN s = 0 := wordN_zero s h
theorem c_word (s : List UInt8) (hs : s.length ≤ 1000000) (w0 : World) (h0 : View) (hv : VLe h0 (Full w0)) : Calls Tryz.prog 55 #[vs s] w0 (Ret w0 h0 fun u _ => u = .int .i64 (wordN s : Nat)) := by
  refine ent (args := [vs s]) TT_ok [] [] Tryz.func55 rfl Tryz.ntmps55 rfl rfl hv ?_
  refine ixg 0 ?_ (fun h => ⟨rfl, by rcases s with _ | ⟨b, s⟩ <;> simp_all⟩)
  refine clg (fun _ => c_letter (s.getD 0 0)) ?_
  refine cnd (fun h => ?_) (fun h => ?_)
  · show Value.int .i64 0 = _
    rw [wordN_zero s h]; rfl
  · refine cl (c_runW s hs) ?_
    show Value.int .i64 _ = _
    rw [wordN_pos s h.1 h.2]
theorem c_reserved (s : List UInt8) (w0 : World) (h0 : View) (hv : VLe h0 (Full w0)) : Calls Tryz.prog 56 #[vs s] w0 (Ret w0 h0 fun u _ => u = .bool (resS s)) := by
  refine ent (args := [vs s]) TT_ok [] [11] Tryz.func56 rfl Tryz.ntmps56 rfl rfl hv ?_
  refine w_cut TT_ok (fun _ : Unit => [(4, .v (.bool (resS s)))]) (fun _ => True) ?_
  refine And.intro ?_ ?_
  · repeat (refine cnd (fun h => ⟨(), trivial, gs (by subst h; rfl)⟩) (fun h => ?_))
    exact ⟨(), trivial, gs (by rw [show resS s = decide (s = [110, 117, 108, 108]) by simp_all [resS, resvL]]; rfl)⟩
  · intro _ _
    refine cnd (fun h => ?_) (fun h => ?_)
    · exact congrArg Value.bool h.symm
    · exact congrArg Value.bool h.symm
theorem c_Name (s : List UInt8) (hs : s.length ≤ 1000000) (w0 : World) (h0 : View) (hv : VLe h0 (Full w0)) : Calls Tryz.prog 35 #[vs s] w0 (Ret w0 h0 fun u _ => u = .bool (nameOk s)) := by
  refine ent (args := [vs s]) TT_ok [] [] Tryz.func35 rfl Tryz.ntmps35 rfl rfl hv ?_
  refine clg (fun _ => c_word s hs) ?_
  refine clg (fun _ => c_reserved s) ?_
  show Value.bool _ = _
  simp only [nameOk, Bool.and_assoc]
theorem c_Rword (s : List UInt8) (hs : s.length ≤ 1000000) (w0 : World) (h0 : View) (hv : VLe h0 (Full w0)) : Calls Tryz.prog 47 #[vs s] w0 (Ret w0 h0 fun u _ => u = .int .i64 (wordN s : Nat)) := by
  refine ent (args := [vs s]) TT_ok [] [] Tryz.func47 rfl Tryz.ntmps47 rfl rfl hv ?_
  refine w_loop TT_ok (fun k : Nat => [(3, .v (.int .i64 k))]) 0 (fun k => k ≤ s.length ∧ (s.take k).all isWord = true ∧ (k = 0 ∨ isLet (s.getD 0 0) = true)) (fun k => s.length - k) ?_
  refine And.intro ⟨⟨Nat.zero_le _, by simp, .inl rfl⟩, gs⟩ ?_
  intro k ⟨hk, ha, h0⟩
  refine ixg k ?_
  refine clg (fun _ => c_Rletter (s.getD k 0)) ?_
  refine ixg k ?_
  refine clg (fun _ => c_Rdigit (s.getD k 0)) ?_
  refine cnd (fun h => ?_) (fun h => ?_)
  · refine wi ?_
    refine ⟨k + 1, ⟨⟨by omega, all_snocW (by omega) ha ?_, ?_⟩, by omega⟩, gs⟩
    · rcases h.2 with h1 | h1
      · rw [isWord, h1, Bool.true_or]
      · rw [isWord, h1.2, Bool.or_true]
    · rcases h0 with rfl | h0
      · rcases h.2 with h1 | h1
        · exact .inr h1
        · exfalso; omega
      · exact .inr h0
  · show Value.int .i64 (k : Int) = _
    rw [word_end s k hk ha h0 (by
      rcases h with h1 | h1
      · exact .inl (by omega)
      · exact .inr ⟨h1.1, by rcases h1.2 with h2 | h2; exact .inl (by omega); exact .inr h2⟩)]
theorem c_RReserved (s : List UInt8) (w0 : World) (h0 : View) (hv : VLe h0 (Full w0)) : Calls Tryz.prog 48 #[vs s] w0 (Ret w0 h0 fun u _ => u = .bool (resS s)) := by
  refine ent (args := [vs s]) TT_ok [] [] Tryz.func48 rfl Tryz.ntmps48 rfl rfl hv ?_
  intro b
  refine shutC 5 (row_sl (g := fun s => [vs s]) (l := resvL) (sz := 1) (n := 9) (cp := 9) rfl) ?_ Mono.slF
  refine w_loop TT_ok (fun k : Nat => [(4, .v (.int .i64 k))]) 0 (fun k => k ≤ 9 ∧ ∀ j, j < k → ¬ resvL.getD j [] = s) (fun k => 9 - k) ?_
  refine And.intro ⟨⟨Nat.zero_le _, fun j hj => absurd hj (Nat.not_lt_zero j)⟩, gs⟩ ?_
  intro k ⟨hk, hn⟩
  have hlen : resvL.length = 9 := rfl
  refine cnd (fun h => ?_) (fun h => ?_)
  · refine ixf (l := resvL) (fun v hF => hF.2) k [] ?_ (by omega)
    refine cnd (fun h1 => ?_) (fun h1 => ?_)
    · show Value.bool true = _
      rw [show resS s = true by rw [resS, ← h1]; exact List.contains_iff_mem.2 (getD_mem resvL k [] (by omega))]
    · refine wi ?_
      refine ⟨k + 1, ⟨⟨by omega, fun j hj => ?_⟩, by omega⟩, gs⟩
      rcases Nat.lt_or_ge j k with h2 | h2
      · exact hn j h2
      · rw [show j = k by omega]; exact h1
  · show Value.bool false = _
    rw [show resS s = false by
      rw [resS, Bool.eq_false_iff]
      intro hc
      obtain ⟨j, hj⟩ := List.mem_iff_getElem?.1 (List.contains_iff_mem.1 hc)
      have hj9 : j < 9 := by have := (List.getElem?_eq_some_iff.1 hj).1; omega
      exact hn j (by omega) (by simp [List.getD, hj])]
set_option maxRecDepth 100000 in
theorem c_RName (s : List UInt8) (hs : s.length ≤ 1000000) (w0 : World) (h0 : View) (hv : VLe h0 (Full w0)) : Calls Tryz.prog 27 #[vs s] w0 (Ret w0 h0 fun u _ => u = .bool (nameOk s)) := by
  refine ent (args := [vs s]) TT_ok [] [] Tryz.func27 rfl Tryz.ntmps27 rfl rfl hv ?_
  refine clg (fun _ => c_Rword s hs) ?_
  refine clg (fun _ => c_RReserved s) ?_
  show Value.bool _ = _
  simp only [nameOk, Bool.and_assoc]

end Go.Proofs.YtpcgdhhndeanoaaGreatDoor
set_option maxRecDepth 100000
namespace Go.Proofs.YtpcgdhhndeanoaaGreatDoor
open Go Go.Dx Go.RowKit
theorem c_runD (s : List UInt8) (hs : s.length ≤ 1000000) (w0 : World) (h0 : View) (hv : VLe h0 (Full w0)) : Calls Tryz.prog 77 #[vs s, .func (.func 69) #[] #[]] w0 (Ret w0 h0 fun u _ => u = .int .i64 (digN s : Nat)) := by
  refine ent (args := [vs s, .func (.func 69) #[] #[]]) TT_ok [] [] Tryz.func77 rfl Tryz.ntmps77 rfl rfl hv ?_
  refine w_loop TT_ok (fun k : Nat => [(8, .v (.int .i64 k))]) 0 (fun k => k ≤ s.length ∧ (s.take k).all isDig = true) (fun k => s.length - k) ?_
  refine And.intro ⟨⟨Nat.zero_le _, by simp⟩, gs⟩ ?_
  intro k ⟨hk, ha⟩
  refine cnd (fun h => ?_) (fun h => ?_)
  · refine ix k ?_
    refine cl (c_digit (s.getD k 0)) ?_
    refine cnd (fun h1 => ?_) (fun h1 => ?_)
    · show Value.int .i64 (k : Int) = _
      rw [digN, tw_len isDig s k ha hk (.inr h1)]
    · refine wi ?_
      exact ⟨k + 1, ⟨⟨by omega, all_snocW (by omega) ha h1⟩, by omega⟩, gs⟩
  · show Value.int .i64 (s.length : Int) = _
    rw [digN, tw_len isDig s k ha hk (.inl (by omega))]
    rw [show k = s.length by omega]
theorem c_Lname (s : List UInt8) (hs : s.length ≤ 1000000) (w0 : World) (h0 : View) (hv : VLe h0 (Full w0)) : Calls Tryz.prog 68 #[vs s] w0 (Ret w0 h0 fun u _ => u = resA (nameS s)) := by
  refine ent (args := [vs s]) TT_ok [] [] Tryz.func68 rfl Tryz.ntmps68 rfl rfl hv ?_
  intro b2
  refine cl (c_word s hs) ?_
  refine cnd (fun h => ?_) (fun h => ?_)
  · rw [nameS, if_pos (by omega)]; exact rfl
  · have := wordN_le s
    refine ixl (wordN s) ?_
    rw [nameS, if_neg (by omega)]; exact rfl
theorem numF_lt (s : List UInt8) : ∀ (k v : Nat), k ≤ s.length → numF (s.take k) = some v → v ≤ 9223372036854775807
  | 0, v, _, h => by simp [numF] at h; omega
  | k + 1, v, hk, h => by
    rw [numF_snoc s k (by omega), numStep] at h
    cases ho : numF (s.take k) with
    | none => rw [ho] at h; cases h
    | some u =>
      rw [ho, Option.bind_some] at h
      split at h
      · cases h
      · rename_i hn
        cases h
        have := (s.getD k 0).toNat_lt
        omega
set_option maxHeartbeats 1000000 in
theorem c_number (s : List UInt8) (hs : s.length ≤ 1000000) (w0 : World) (h0 : View) (hv : VLe h0 (Full w0)) : Calls Tryz.prog 70 #[vs s] w0 (Ret w0 h0 fun u _ => u = resA (numS s)) := by
  refine ent (args := [vs s]) TT_ok [] [] Tryz.func70 rfl Tryz.ntmps70 rfl rfl hv ?_
  intro b2
  refine cl (c_runD s hs) ?_
  have hdl := digN_le s
  refine ixg 0 ?_ (fun h => ⟨rfl, by omega⟩)
  refine cnd (fun h => ?_) (fun h => ?_)
  · rw [numS, if_pos ⟨by omega, h.2⟩]; exact rfl
  · have hne : ¬ (1 < digN s ∧ ((s.getD 0 0).toNat : Int) = 48) := fun g => by rcases h with h | h; omega; exact h g.2
    refine w_loop TT_ok (fun z : Nat × Nat => [(5, .v (.int .i64 z.2)), (19, .v (.int .i64 z.1))]) (0, 0) (fun z => z.1 ≤ digN s ∧ numF (s.take z.1) = some z.2) (fun z => digN s - z.1) ?_
    refine And.intro ⟨⟨Nat.zero_le _, rfl⟩, gs⟩ ?_
    rintro ⟨k, v⟩ ⟨hk, hn⟩
    dsimp only at hk hn ⊢
    refine cnd (fun h2 => ?_) (fun h2 => ?_)
    · have hkd : k < digN s := by omega
      obtain ⟨hd1, hd2⟩ := dig_at s k hkd
      have hv1 := numF_lt s k v (by omega) hn
      refine ix k ?_
      have hov := @numS_over s k v (by omega) hn
      have hst := @numS_step s k v (by omega) hn
      generalize hd : (s.getD k 0).toNat - 48 = d at hov hst
      refine ew (d : Int) (show IntKind.u8.wrap (((s.getD k 0).toNat : Int) - 48) = _ by rw [wrap_u8 (by omega) (by omega)]; omega) ?_
      refine ew (d : Int) (wrap_i64 (by omega) (by omega)) ?_
      refine wi ?_
      refine qu (by decide) ?_ (by rw [Int.tdiv_eq_ediv_of_nonneg (by omega)]; omega)
      refine cnd (fun h3 => ?_) (fun h3 => ?_)
      · rw [Int.tdiv_eq_ediv_of_nonneg (by omega)] at h3
        rw [numS, if_neg hne, numF_none s (k + 1) (digN s) (by omega) (hov (by omega))]; exact rfl
      · rw [Int.tdiv_eq_ediv_of_nonneg (by omega)] at h3
        refine ew ((v * 10 : Nat) : Int) (show IntKind.i64.wrap ((v : Int) * 10) = _ by rw [wrap_i64 (by omega) (by omega)]; omega) ?_
        refine ew ((10 * v + d : Nat) : Int) (show IntKind.i64.wrap (((v * 10 : Nat) : Int) + d) = _ by rw [wrap_i64 (by omega) (by omega)]; omega) ?_
        refine wi ?_
        exact ⟨(k + 1, 10 * v + d), ⟨⟨by show k + 1 ≤ digN s; omega, hst (by omega)⟩, by show digN s - (k + 1) < digN s - k; omega⟩, gs⟩
    · have hkk : k = digN s := by omega
      subst hkk
      rw [numS, if_neg hne, hn]; exact rfl
theorem hp_eq (s m : List UInt8) : (decide (m.length ≤ s.length) && decide (s.take m.length = m)) = pre s m := rfl
theorem c_HasPrefixL (s m : List UInt8) (w0 : World) (h0 : View) (hv : VLe h0 (Full w0)) : Calls Tryz.prog 92 #[vs s, vs m] w0 (Ret w0 h0 fun u _ => u = .bool (pre s m)) := by
  refine ent (args := [vs s, vs m]) TT_ok [] [] Tryz.func92 rfl Tryz.ntmps92 rfl rfl hv ?_
  refine ⟨m.length, fun h => ⟨rfl, by simpa [bq] using h⟩, ?_⟩
  show Value.bool _ = _
  rw [pre]
  congr 2
  exact decide_eq_decide.2 Int.ofNat_le
theorem c_HasPrefix (s m : List UInt8) (w0 : World) (h0 : View) (hv : VLe h0 (Full w0)) : Calls Tryz.prog 86 #[vs s, vs m] w0 (Ret w0 h0 fun u _ => u = .bool (pre s m)) := by
  refine ent (args := [vs s, vs m]) TT_ok [] [] Tryz.func86 rfl Tryz.ntmps86 rfl rfl hv ?_
  refine cl (c_HasPrefixL s m) ?_
  exact rfl
theorem c_marks (w0 : World) (h0 : View) (hv : VLe h0 (Full w0)) : Calls Tryz.prog 83 #[] w0 (Ret w0 h0 fun u h => ∃ b : Nat, u = .slice (some ⟨b, 0, none⟩) 16 16 ∧ SlC 9 1 (flatR fun s => [vs s]) h (.slice (some ⟨b, 0, none⟩) 16 16) marksL) := by
  refine entA (args := []) TT_ok [0] [] Tryz.func83 rfl Tryz.ntmps83 rfl rfl hv (fun _ => Mono.slF) ?_
  refine ⟨rfl, goW TT_ok ?_⟩
  intro b1
  refine shutG TT_ok (Φ := fun h => SlC 9 1 (flatR fun s => [vs s]) h (.slice (some ⟨b1, 0, none⟩) 16 16) marksL) 1 rfl (row_sl (g := fun s => [vs s]) (l := marksL) (sz := 1) (n := 16) (cp := 16) rfl) ?_ Mono.slF
  exact ⟨b1, rfl, fun v _ hF => hF.2⟩
theorem c_mark1 (m s : List UInt8) (b : Nat) (w0 : World) (h0 : View) (hv : VLe h0 (Full w0)) (hb : h0 b = some (.cells [vs s].toArray 9 (0, 0))) : Calls Tryz.prog 85 #[vs m, .pointer (some ⟨b, 0, none⟩)] w0 (Ret w0 h0 fun u _ => u = .bool (pre s m)) := by
  refine ent (args := [vs m, .pointer (some ⟨b, 0, none⟩)]) TT_ok [] [] Tryz.func85 rfl Tryz.ntmps85 rfl rfl hv ?_
  refine ⟨vs s, fun v w g1 g2 g3 => by rw [cell_row (cs := [vs s]) (g3 _ _ (g1 _ _ hb))]; rfl, ?_⟩
  refine cl (c_HasPrefix s m) ?_
  exact rfl
theorem c_IndexMark (s : List UInt8) (b : Nat) (ad : Option Addr) (cap : Nat) (w0 : World) (h0 : View) (hv : VLe h0 (Full w0)) (hb : h0 b = some (.cells [vs s].toArray 9 (0, 0))) (hl : SlC 9 1 (flatR fun s => [vs s]) h0 (.slice ad 16 cap) marksL) :
    Calls Tryz.prog 84 #[.slice ad 16 cap, .func (.func 85) #[] #[.pointer (some ⟨b, 0, none⟩)]] w0 (Ret w0 h0 fun u _ => u = .int .i64 (ixF (pre s) marksL)) := by
  refine ent (args := [.slice ad 16 cap, .func (.func 85) #[] #[.pointer (some ⟨b, 0, none⟩)]]) TT_ok [] [] Tryz.func84 rfl Tryz.ntmps84 rfl rfl hv ?_
  have hml : marksL.length = 16 := rfl
  refine w_loop TT_ok (fun k : Nat => [(8, .v (.int .i64 k))]) 0 (fun k => k ≤ 16 ∧ (marksL.take k).any (pre s) = false) (fun k => 16 - k) ?_
  refine And.intro ⟨⟨Nat.zero_le _, rfl⟩, gs⟩ ?_
  intro k ⟨hk, ha⟩
  refine cnd (fun h => ?_) (fun h => ?_)
  · refine ixs hl k [] ?_ (by omega)
    refine cb (fun w hw => c_mark1 (marksL.getD k []) s b w h0 hw hb) ?_
    refine cnd (fun h1 => ?_) (fun h1 => ?_)
    · show Value.int .i64 (k : Int) = _
      rw [ixF_at (pre s) marksL k (by omega) ha h1]
    · refine wi ?_
      exact ⟨k + 1, ⟨⟨by omega, any_snoc (pre s) marksL k (by omega) ha h1⟩, by omega⟩, gs⟩
  · have : k = 16 := by omega
    subst this
    rw [ixF_none (pre s) marksL (by rw [← hml, List.take_length] at ha; exact ha)]
    exact rfl
theorem c_mark (s : List UInt8) (w0 : World) (h0 : View) (hv : VLe h0 (Full w0)) : Calls Tryz.prog 72 #[vs s] w0 (Ret w0 h0 fun u _ => u = resA (markG s marksL)) := by
  refine ent (args := [vs s]) TT_ok [8] [] Tryz.func72 rfl Tryz.ntmps72 rfl rfl hv ?_
  intro b1 b2
  refine cA TT_ok (fun w v h1 h2 h3 => c_marks w v h3) (fun _ => Mono.slF) (fun b6 => ?_)
  refine shutG TT_ok (Φ := fun h => h b1 = some (.cells [vs s].toArray 9 (0, 0))) 1 rfl (fun hh _ _ hb => hb) ?_ (fun _ _ hle hx => hle _ _ hx)
  refine cf (fun w v h1 h2 h3 => c_IndexMark s b1 (some ⟨b6, 0, none⟩) 16 w v h3 h2.2 h2.1.2) ?_
  refine cnd (fun h => ?_) (fun h => ?_)
  · rw [mark_none s h]; exact rfl
  · obtain ⟨i, hi, e1, e2⟩ := mark_found s h
    have hml : marksL.length = 16 := rfl
    refine And.intro (by kernel_rfl) ?_
    refine ixf (l := marksL) (fun v hF => hF.1.2) i [] ?_ ⟨e1, by omega⟩
    refine ixf (l := marksL) (fun v hF => hF.1.2) i [] ?_ ⟨e1, by omega⟩
    rw [e2]; exact rfl
theorem flat8 (b : List UInt8) : (b.map fun c => [v8 c]).flatten = b.map v8 := by induction b with
  | nil => rfl
  | cons x r ih => simp [ih]
set_option maxRecDepth 100000 in
set_option maxHeartbeats 1000000 in
theorem c_text (s : List UInt8) (hs0 : 0 < s.length) (hs : s.length ≤ 1000000) (w0 : World) (h0 : View) (hv : VLe h0 (Full w0)) : Calls Tryz.prog 71 #[vs s] w0 (Ret w0 h0 fun u _ => u = resA (textS s)) := by
  refine ent (args := [vs s]) TT_ok [29] [16] Tryz.func71 rfl Tryz.ntmps71 rfl rfl hv ?_
  intro b2
  refine nilC 900 5 1 ?_
  refine w_loopB TT_ok (fun z : Option Addr × Nat × Nat × Nat × List UInt8 => [(4, .v (.slice z.1 z.2.1 z.2.2.1)), (5, .v (.int .i64 z.2.2.2.1))]) (fun z => [(900, .e (bufE 5 1 (.slice z.1 z.2.1 z.2.2.1) (z.2.2.2.2.map v8))), (2, .c b2 90 (resC (.err 0)))]) (none, 0, 0, 1, [])
    (fun z => z.2.2.2.1 ≤ s.length ∧ z.2.1 = z.2.2.2.2.length ∧ z.2.2.2.2.length ≤ z.2.2.2.1 ∧ textG s z.2.2.2.1 z.2.2.2.2 = textS s) (fun z => s.length - z.2.2.2.1) ?_
  refine And.intro ⟨⟨by show 1 ≤ s.length; omega, rfl, Nat.zero_le _, rfl⟩, gs⟩ ?_
  rintro ⟨a0, n, cp, i, b⟩ ⟨hi, hn, hb, ht⟩
  dsimp only at hi hn hb ht ⊢
  refine cnd (fun h => ?_) (fun h => ?_)
  · have hil : i < s.length := by omega
    refine ix i ?_
    refine w_cut TT_ok (fun j : Nat => [(5, .v (.int .i64 j))]) (fun j => j < s.length ∧ i ≤ j ∧ textG s (j + 1) (b ++ [s.getD j 0]) = textS s) ?_
    refine And.intro ?_ ?_
    · refine cnd (fun h1 => ?_) (fun h1 => ?_)
      · rw [← ht, tx_big hil h1.1 (by omega)]; exact rfl
      refine cnd (fun h2 => ?_) (fun h2 => ?_)
      · refine cvB TT_ok b 900 rfl ?_
        refine wi ?_
        rw [← ht, tx_end hil h2 (fun hh => by rcases h1 with h1 | h1; exact h1 h2; omega)]; exact rfl
      refine cnd (fun h3 => ?_) (fun h3 => ?_)
      · refine wi ?_
        refine ixg (i + 1) ?_
        refine ixg (i + 1) ?_
        refine cnd (fun h4 => ?_) (fun h4 => ?_)
        · rw [← ht, tx_bad hil h2 h3 (by simp only [bt]; omega)]; exact rfl
        · refine ⟨i + 1, ⟨by omega, by omega, ?_⟩, gs⟩
          rw [← ht, tx_esc hil h2 h3 (by simp only [bt]; omega)]
      · refine cnd (fun h4 => ?_) (fun h4 => ?_)
        · rw [← ht, tx_ctl hil h2 h3 (by simp only [bt]; omega)]; exact rfl
        · refine ⟨i, ⟨by omega, Nat.le_refl _, ?_⟩, gs⟩
          rw [← ht, tx_ch hil h2 h3 (by simp only [bt]; omega)]
    · intro j ⟨hj, hij, hj2⟩
      refine ix j ?_
      intro b68
      refine ap TT_ok 900 (AppT.of (bytes := 1) (sz := 0) (by kernel_rfl) (by kernel_rfl) (by kernel_rfl)) rfl rfl rfl rfl rfl rfl rfl (by rw [List.length_map]; show (_ + 1) * 2 ≤ _; omega) (fun a1 n1 c1 e1 => ?_)
      refine wi ?_
      have hn1 : n1 = b.length + 1 := by
        rw [List.length_map] at e1
        have e1 : n1 * 1 = b.length + 1 := e1
        omega
      refine ⟨(a1, n1, c1, j + 1, b ++ [s.getD j 0]), ⟨⟨by show j + 1 ≤ s.length; omega, by show n1 = (b ++ [s.getD j 0]).length; rw [List.length_append]; exact hn1, by show (b ++ [s.getD j 0]).length ≤ j + 1; rw [List.length_append]; show b.length + 1 ≤ j + 1; omega, hj2⟩, by show s.length - (j + 1) < s.length - i; omega⟩, gs rfl ?_⟩
      show [(900, OB.e (bufE 5 1 (.slice a1 n1 c1) _)), _] = [(900, OB.e (bufE 5 1 (.slice a1 n1 c1) _)), _]
      rw [List.map_append]; rfl
  · rw [← ht, tx_over (by omega)]; exact rfl
theorem c_next (s : List UInt8) (hs0 : 0 < s.length) (hs : s.length ≤ 1000000) (w0 : World) (h0 : View) (hv : VLe h0 (Full w0)) : Calls Tryz.prog 52 #[vs s] w0 (Ret w0 h0 fun u _ => u = resA (oneS s)) := by
  refine ent (args := [vs s]) TT_ok [] [] Tryz.func52 rfl Tryz.ntmps52 rfl rfl hv ?_
  intro b2
  refine ix 0 ?_
  refine cl (c_letter (s.getD 0 0)) ?_
  refine cnd (fun h => ?_) (fun h => ?_)
  · refine cl (c_Lname s hs) ?_
    rw [one_let h]; exact rfl
  refine cl (c_digit (s.getD 0 0)) ?_
  refine cnd (fun h2 => ?_) (fun h2 => ?_)
  · refine cl (c_number s hs) ?_
    rw [one_dig h h2]; exact rfl
  refine cnd (fun h3 => ?_) (fun h3 => ?_)
  · refine cl (c_text s hs0 hs) ?_
    rw [one_txt h h2 h3]; exact rfl
  · refine cl (c_mark s) ?_
    rw [one_mark h h2 h3]; exact rfl
theorem flatT (l : List Tok) : (l.map tokC).flatten.length = 4 * l.length := flatC_len l
set_option maxRecDepth 100000 in
set_option maxHeartbeats 1000000 in
theorem c_Lex (s : List UInt8) (w0 : World) (h0 : View) (hv : VLe h0 (Full w0)) : Calls Tryz.prog 31 #[vs s] w0 (Ret w0 h0 fun u h => ∃ x : Option Addr × Nat, u = .tuple #[.slice x.1 (lexS s).1.length x.2, .int .i64 (lexS s).2.1, .int .i64 (lexS s).2.2] ∧ SlC 70 4 (flatR tokC) h (.slice x.1 (lexS s).1.length x.2) (lexS s).1) := by
  refine entA (args := [vs s]) TT_ok [51] [] Tryz.func31 rfl Tryz.ntmps31 rfl rfl hv (fun _ => Mono.slF) ?_
  refine cnd (fun h => ?_) (fun h => ?_)
  · rw [lexS, if_pos (by omega)]
    exact ⟨(none, 0), rfl, fun v _ _ => SlC.nil (by simp [maxLen])⟩
  have hlx : lexS s = lexG s 0 [] := by rw [lexS, if_neg (by omega)]
  refine nilC 900 70 4 ?_
  refine w_loopB TT_ok (fun z : Option Addr × Nat × Nat × Nat × List Tok => [(5, .v (.slice z.1 z.2.1 z.2.2.1)), (6, .v (.int .i64 z.2.2.2.1))]) (fun z => [(900, .e (bufE 70 4 (.slice z.1 z.2.1 z.2.2.1) (z.2.2.2.2.map tokC).flatten))]) (none, 0, 0, 0, [])
    (fun z => z.2.2.2.1 ≤ s.length ∧ z.2.1 = z.2.2.2.2.length ∧ z.2.2.2.2.length ≤ z.2.2.2.1 ∧ lexG s z.2.2.2.1 z.2.2.2.2 = lexS s) (fun z => s.length - z.2.2.2.1) ?_
  refine And.intro ⟨⟨Nat.zero_le _, rfl, Nat.zero_le _, hlx.symm⟩, gs⟩ ?_
  rintro ⟨a0, n, cp, i, out⟩ ⟨hi, hn, hb, ht⟩
  dsimp only at hi hn hb ht ⊢
  refine w_loop TT_ok (fun j : Nat => [(6, .v (.int .i64 j))]) i (fun j => i ≤ j ∧ j ≤ s.length ∧ lexG s j out = lexS s) (fun j => s.length - j) ?_
  refine And.intro ⟨⟨Nat.le_refl _, hi, ht⟩, gs⟩ ?_
  intro j ⟨hij, hj, hjt⟩
  refine ixg j ?_
  refine cnd (fun h1 => ?_) (fun h1 => ?_)
  · refine wi ?_
    refine ⟨j + 1, ⟨⟨by omega, by omega, ?_⟩, by omega⟩, gs⟩
    rw [← hjt, lex_sp (by omega) h1.2]
  refine cnd (fun h2 => ?_) (fun h2 => ?_)
  · have e : lexS s = (out, 0, 0) := by rw [← hjt, lex_end (by omega)]
    subst hn
    refine And.intro rfl ?_
    refine sealW (g := tokC) (l := out) 900 rfl rfl ?_
    refine goW TT_ok ?_
    rw [e]
    exact ⟨(a0, cp), rfl, fun v _ hF => hF.2⟩
  · have hjl : j < s.length := by omega
    have hne : ¬ bt s j = 32 := fun g => by rcases h1 with h1 | h1; omega; exact h1 g
    have hdl : (s.drop j).length = s.length - j := List.length_drop
    refine ixl j ?_
    rcases one_ok (s.drop j) (by omega) with ⟨e, he, h0e⟩ | ⟨t, m, he, hm, hml⟩
    · refine cl (x := resA (.err e)) (fun w h hv => by have := c_next (s.drop j) (by omega) (by omega) w h hv; rw [he] at this; exact this) ?_
      intro b7
      refine cndT (show (!decide (resE (.err e) = 0)) = true by rw [show resE (.err e) = e from rfl, decide_eq_false h0e]; rfl) ?_
      have e2 : lexS s = ([], (j : Int), e) := by rw [← hjt, lex_err hjl hne he]
      rw [e2]
      exact ⟨(none, 0), rfl, fun v _ _ => SlC.nil (by simp [maxLen])⟩
    · refine cl (x := resA (.ok t m)) (fun w h hv => by have := c_next (s.drop j) (by omega) (by omega) w h hv; rw [he] at this; exact this) ?_
      intro b7
      refine cndF rfl ?_
      intro b45
      refine ap TT_ok 900 (AppT.of (bytes := 40) (sz := 3) (by kernel_rfl) (by kernel_rfl) (by kernel_rfl)) rfl rfl rfl rfl rfl rfl rfl (by rw [flatT]; show (_ + 4) * 41 ≤ _; omega) (fun a1 n1 c1 e1 => ?_)
      refine ew ((j + m : Nat) : Int) (show IntKind.i64.wrap ((j : Int) + m) = _ by rw [wrap_i64 (by omega) (by omega)]; omega) ?_
      have hn1 : n1 = out.length + 1 := by
        rw [flatT] at e1
        have e1 : n1 * 4 = 4 * out.length + 4 := e1
        omega
      refine ⟨(a1, n1, c1, j + m, out ++ [{ t with p := (j : Int) }]), ⟨⟨by show j + m ≤ s.length; omega, by show n1 = (out ++ [{ t with p := (j : Int) }]).length; rw [List.length_append]; exact hn1, by show (out ++ [{ t with p := (j : Int) }]).length ≤ j + m; rw [List.length_append]; show out.length + 1 ≤ j + m; omega, by rw [← hjt, lex_ok hjl hne he hm]⟩, by show s.length - (j + m) < s.length - i; omega⟩, gs rfl ?_⟩
      show [(900, OB.e (bufE 70 4 (.slice a1 n1 c1) _))] = [(900, OB.e (bufE 70 4 (.slice a1 n1 c1) _))]
      rw [List.map_append, List.flatten_append]; rfl

end Go.Proofs.YtpcgdhhndeanoaaGreatDoor
set_option maxRecDepth 100000
namespace Go.Proofs.YtpcgdhhndeanoaaGreatDoor
open Go Go.Dx Go.RowKit
/-- the reader's block -/
def rdC (ad : Option Addr) (n cap : Nat) (at_ : Int) (bad : Bool) : List Value := [.slice ad n cap, .int .i64 at_, .bool bad]
theorem c_now (b : Nat) (ad : Option Addr) (cap : Nat) (l : List Tok) (i : Nat) (bad : Bool) (w0 : World) (h0 : View) (hv : VLe h0 (Full w0)) (hno : h0 b = none) (hl : SlC 70 4 (flatR tokC) h0 (.slice ad l.length cap) l)
    (hbl : w0.heap[b]? = some (.cells (rdC ad l.length cap i bad).toArray 95 (0, 0))) :
    Calls Tryz.prog 87 #[.pointer (some ⟨b, 0, none⟩)] w0 (RetM [b] w0 fun u w' => u = .agg (tokC (nowS l i bad)).toArray ∧ w'.heap[b]? = some (.cells (rdC ad l.length cap i bad).toArray 95 (0, 0))) := by
  refine entM (args := [.pointer (some ⟨b, 0, none⟩)]) TT_ok [] [] [.o 900 0] Tryz.func87 rfl Tryz.ntmps87 rfl rfl hv hbl hno rfl ?_
  intro b2
  refine And.intro (by kernel_rfl) ?_
  refine cnd (fun h => ?_) (fun h => ?_)
  · refine ⟨?_, rfl⟩
    have e : nowS l i bad = t0 := by
      rcases h with h | h
      · rw [nowS, if_pos h]
      · rw [nowS]; split
        · rfl
        · have hge : l.length ≤ i := by omega
          simp [List.getD, List.getElem?_eq_none hge]
    rw [e]; exact rfl
  · refine And.intro (by kernel_rfl) ?_
    refine ixs hl i t0 ?_ (by omega)
    refine ⟨?_, rfl⟩
    rw [nowS, if_neg (by rw [h.1]; decide)]
    exact rfl
theorem c_on (b : Nat) (ad : Option Addr) (cap : Nat) (l : List Tok) (i : Nat) (bad : Bool) (k : Int) (s : List UInt8) (hi : i ≤ 1000000) (w0 : World) (h0 : View) (hv : VLe h0 (Full w0)) (hno : h0 b = none) (hl : SlC 70 4 (flatR tokC) h0 (.slice ad l.length cap) l)
    (hbl : w0.heap[b]? = some (.cells (rdC ad l.length cap i bad).toArray 95 (0, 0))) :
    Calls Tryz.prog 73 #[.pointer (some ⟨b, 0, none⟩), .int .i64 k, vs s] w0 (RetM [b] w0 fun u w' => u = .bool (onS l i bad k s) ∧ w'.heap[b]? = some (.cells (rdC ad l.length cap ((if onS l i bad k s = true then i + 1 else i : Nat) : Int) bad).toArray 95 (0, 0))) := by
  refine entM (args := [.pointer (some ⟨b, 0, none⟩), .int .i64 k, vs s]) TT_ok [] [] [.o 900 0, .v (.int .i64 k), .v (vs s)] Tryz.func73 rfl Tryz.ntmps73 rfl rfl hv hbl hno rfl ?_
  refine cM TT_ok 900 (fun w v h1 h2 h3 h4 h5 => c_now b ad cap l i bad w v h3 h4 (Mono.slF _ _ h1 hl) h5) ?_
  intro b7
  refine cnd (fun h => ?_) (fun h => ?_)
  · have e : onS l i bad k s = false := by rw [onS]; rcases h with h | h <;> simp [h]
    rw [e]; exact ⟨rfl, rfl⟩
  · have e : onS l i bad k s = true := by rw [onS, h.1, h.2]; simp
    rw [e]
    refine wi ?_
    exact ⟨rfl, rfl⟩
theorem c_must (b : Nat) (ad : Option Addr) (cap : Nat) (l : List Tok) (i : Nat) (bad : Bool) (k : Int) (s : List UInt8) (hi : i ≤ 1000000) (w0 : World) (h0 : View) (hv : VLe h0 (Full w0)) (hno : h0 b = none) (hl : SlC 70 4 (flatR tokC) h0 (.slice ad l.length cap) l)
    (hbl : w0.heap[b]? = some (.cells (rdC ad l.length cap i bad).toArray 95 (0, 0))) :
    Calls Tryz.prog 88 #[.pointer (some ⟨b, 0, none⟩), .int .i64 k, vs s] w0 (RetM [b] w0 fun u w' => u = .tuple #[] ∧ w'.heap[b]? = some (.cells (rdC ad l.length cap ((if onS l i bad k s = true then i + 1 else i : Nat) : Int) (bad || !onS l i bad k s)).toArray 95 (0, 0))) := by
  refine entM (args := [.pointer (some ⟨b, 0, none⟩), .int .i64 k, vs s]) TT_ok [] [] [.o 900 0, .v (.int .i64 k), .v (vs s)] Tryz.func88 rfl Tryz.ntmps88 rfl rfl hv hbl hno rfl ?_
  refine cM TT_ok 900 (fun w v h1 h2 h3 h4 h5 => c_on b ad cap l i bad k s hi w v h3 h4 (Mono.slF _ _ h1 hl) h5) ?_
  refine cnd (fun h => ?_) (fun h => ?_)
  · rw [h, Bool.not_false, Bool.or_true]; exact ⟨rfl, rfl⟩
  · rw [h, Bool.not_true, Bool.or_false]; exact ⟨rfl, rfl⟩
theorem c_syWord (s : List UInt8) (w0 : World) (h0 : View) (hv : VLe h0 (Full w0)) : Calls Tryz.prog 89 #[vs s] w0 (Ret w0 h0 fun u _ => u = if s = [110, 117, 108, 108] then .tuple #[.agg (valC v0).toArray, .bool true] else if s = [102, 97, 108, 115, 101] then .tuple #[.agg (valC ⟨3, 0, []⟩).toArray, .bool true] else if s = [116, 114, 117, 101] then .tuple #[.agg (valC ⟨3, 1, []⟩).toArray, .bool true] else .tuple #[.agg (valC v0).toArray, .bool false]) := by
  refine ent (args := [vs s]) TT_ok [] [] Tryz.func89 rfl Tryz.ntmps89 rfl rfl hv ?_
  intro b2
  refine cnd (fun h => ?_) (fun h => ?_)
  · rw [if_pos h]; exact rfl
  rw [if_neg h]
  refine cnd (fun h2 => ?_) (fun h2 => ?_)
  · rw [if_pos h2]; exact rfl
  rw [if_neg h2]
  refine cnd (fun h3 => ?_) (fun h3 => ?_)
  · rw [if_pos h3]; exact rfl
  rw [if_neg h3]; exact rfl

end Go.Proofs.YtpcgdhhndeanoaaGreatDoor
set_option maxRecDepth 100000
namespace Go.Proofs.YtpcgdhhndeanoaaGreatDoor
open Go Go.Dx Go.RowKit
theorem bin_len (b : Int × List UInt8 × Int) : (binC b).length = 3 := rfl
theorem c_binaries (w0 : World) (h0 : View) (hv : VLe h0 (Full w0)) : Calls Tryz.prog 62 #[] w0 (Ret w0 h0 fun u h => ∃ b : Nat, u = .slice (some ⟨b, 0, none⟩) 12 12 ∧ SlC 81 3 (flatR binC) h (.slice (some ⟨b, 0, none⟩) 12 12) binL) := by
  refine entA (args := []) TT_ok [0] [] Tryz.func62 rfl Tryz.ntmps62 rfl rfl hv (fun _ => Mono.slF) ?_
  refine ⟨rfl, goW TT_ok ?_⟩
  intro b
  refine shutG TT_ok 13 rfl (row_sl (g := binC) (l := binL) (sz := 3) (n := 12) (cp := 12) rfl) ?_ Mono.slF
  exact ⟨b, rfl, fun v _ hF => hF.2⟩
theorem c_find (op : Int) (w0 : World) (h0 : View) (hv : VLe h0 (Full w0)) : Calls Tryz.prog 42 #[.int .i64 op] w0 (Ret w0 h0 fun u _ => u = .agg (binC (findS op)).toArray) := by
  refine ent (args := [.int .i64 op]) TT_ok [] [] Tryz.func42 rfl Tryz.ntmps42 rfl rfl hv ?_
  intro b2
  refine cA TT_ok (fun w v h1 h2 h3 => c_binaries w v h3) (fun _ => Mono.slF) (fun mb => ?_)
  refine w_loop TT_ok (fun k : Nat => [(7, .v (.int .i64 k))]) 0 (fun k => k ≤ 12 ∧ ∀ j, j < k → ¬ (binL.getD j (0, [], 0)).1 = op) (fun k => 12 - k) ?_
  refine And.intro ⟨⟨Nat.zero_le _, fun j hj => absurd hj (Nat.not_lt_zero j)⟩, gs⟩ ?_
  intro k ⟨hk, hn⟩
  have hlen : binL.length = 12 := rfl
  refine cnd (fun h => ?_) (fun h => ?_)
  · refine ixf (fun v hF => hF.2) k (0, [], 0) ?_ (by omega)
    intro b4
    refine cnd (fun h1 => ?_) (fun h1 => ?_)
    · show _ = Value.agg (binC (findS op)).toArray
      rw [find_hit op k (by omega) hn h1]; rfl
    · refine wi ?_
      exact ⟨k + 1, ⟨⟨by omega, upto_snoc hn h1⟩, by omega⟩, gs⟩
  · show _ = Value.agg (binC (findS op)).toArray
    rw [find_none op (fun j hj => hn j (by omega))]; rfl
theorem c_count (op : Int) (w0 : World) (h0 : View) (hv : VLe h0 (Full w0)) : Calls Tryz.prog 33 #[.int .i64 op] w0 (Ret w0 h0 fun u _ => u = .int .i64 (cntS op)) := by
  refine ent (args := [.int .i64 op]) TT_ok [] [] Tryz.func33 rfl Tryz.ntmps33 rfl rfl hv ?_
  refine cnd (fun h => ?_) (fun h => ?_)
  · exact congrArg (Value.int .i64) (by rw [cntS, if_pos h])
  refine cnd (fun h2 => ?_) (fun h2 => ?_)
  · exact congrArg (Value.int .i64) (by rw [cntS, if_neg (by omega), if_pos h2])
  refine cnd (fun h3 => ?_) (fun h3 => ?_)
  · exact congrArg (Value.int .i64) (by rw [cntS, if_neg (by omega), if_neg h2, if_pos h3])
  refine cl (c_find op) ?_
  refine cnd (fun h4 => ?_) (fun h4 => ?_)
  · have := (find_lev op).1 h4
    exact congrArg (Value.int .i64) (by rw [cntS, if_neg (by omega), if_neg h2, if_neg h3, if_pos this])
  · have : ¬ (4 ≤ op ∧ op ≤ 15) := fun hh => h4 ((find_lev op).2 hh)
    exact congrArg (Value.int .i64) (by rw [cntS, if_neg (by omega), if_neg h2, if_neg h3, if_neg this])
theorem c_sign (op : Int) (w0 : World) (h0 : View) (hv : VLe h0 (Full w0)) : Calls Tryz.prog 45 #[.int .i64 op] w0 (Ret w0 h0 fun u _ => u = vs (findS op).2.1) := by
  refine ent (args := [.int .i64 op]) TT_ok [] [] Tryz.func45 rfl Tryz.ntmps45 rfl rfl hv ?_
  iterate 12 (refine cnd (fun h => by subst h; exact rfl) (fun h => ?_))
  show vs [] = vs (findS op).2.1
  rw [find_none op (fun j hj => bin_other op (by omega) j hj)]
theorem c_Rcount (op : Int) (w0 : World) (h0 : View) (hv : VLe h0 (Full w0)) : Calls Tryz.prog 25 #[.int .i64 op] w0 (Ret w0 h0 fun u _ => u = .int .i64 (cntS op)) := by
  refine ent (args := [.int .i64 op]) TT_ok [] [] Tryz.func25 rfl Tryz.ntmps25 rfl rfl hv ?_
  refine cnd (fun h => ?_) (fun h => ?_)
  · exact congrArg (Value.int .i64) (by rw [cntS, if_pos h])
  refine cnd (fun h2 => ?_) (fun h2 => ?_)
  · exact congrArg (Value.int .i64) (by rw [cntS, if_neg (by omega), if_pos h2])
  refine cnd (fun h3 => ?_) (fun h3 => ?_)
  · exact congrArg (Value.int .i64) (by rw [cntS, if_neg (by omega), if_neg h2, if_pos h3])
  refine cl (c_sign op) ?_
  refine cnd (fun h4 => ?_) (fun h4 => ?_)
  · have : 4 ≤ op ∧ op ≤ 15 := Decidable.byContradiction fun hh => h4 ((find_sgn op).2 hh)
    exact congrArg (Value.int .i64) (by rw [cntS, if_neg (by omega), if_neg h2, if_neg h3, if_pos this])
  · have : ¬ (4 ≤ op ∧ op ≤ 15) := (find_sgn op).1 h4
    exact congrArg (Value.int .i64) (by rw [cntS, if_neg (by omega), if_neg h2, if_neg h3, if_neg this])

end Go.Proofs.YtpcgdhhndeanoaaGreatDoor
set_option maxRecDepth 100000
namespace Go.Proofs.YtpcgdhhndeanoaaGreatDoor
open Go Go.Dx Go.RowKit
theorem c_binary (b : Nat) (ad : Option Addr) (cap : Nat) (l : List Tok) (i : Nat) (bad : Bool) (lev : Int) (hi : i ≤ 1000000) (w0 : World) (h0 : View) (hv : VLe h0 (Full w0)) (hno : h0 b = none) (hl : SlC 70 4 (flatR tokC) h0 (.slice ad l.length cap) l)
    (hbl : w0.heap[b]? = some (.cells (rdC ad l.length cap i bad).toArray 95 (0, 0))) :
    Calls Tryz.prog 76 #[.pointer (some ⟨b, 0, none⟩), .int .i64 lev] w0 (RetM [b] w0 fun u w' => u = .int .i64 (opS l i bad lev) ∧ w'.heap[b]? = some (.cells (rdC ad l.length cap ((if opS l i bad lev = 0 then i else i + 1 : Nat) : Int) bad).toArray 95 (0, 0))) := by
  refine entM (args := [.pointer (some ⟨b, 0, none⟩), .int .i64 lev]) TT_ok [4000026] [] [.o 900 0, .v (.int .i64 lev)] Tryz.func76 rfl Tryz.ntmps76 rfl rfl hv hbl hno rfl ?_
  refine cA TT_ok (fun w v h1 h2 h3 => c_binaries w v h3) (fun _ => Mono.slF) (fun b8 => ?_)
  refine w_loop TT_ok (fun k : Nat => [(10, .v (.int .i64 k))]) 0 (fun k => k ≤ 12 ∧ ∀ j, j < k → hitB l i bad lev (binL.getD j (0, [], 0)) = false) (fun k => 12 - k) ?_
  refine And.intro ⟨⟨Nat.zero_le _, fun j hj => absurd hj (Nat.not_lt_zero j)⟩, gs⟩ ?_
  intro k ⟨hk, hn⟩
  have hlen : binL.length = 12 := rfl
  refine cnd (fun h => ?_) (fun h => ?_)
  · refine ixf (fun v hF => hF.2) k (0, [], 0) ?_ (by omega)
    have hhit := op_hit l i bad lev k (by omega) hn
    have hpos := op_pos k (by omega)
    have hmiss : hitB l i bad lev (binL.getD k (0, [], 0)) = false → ∀ j, j < k + 1 → hitB l i bad lev (binL.getD j (0, [], 0)) = false := fun hh j hj => by
      by_cases hjk : j = k
      · rw [hjk]; exact hh
      · exact hn j (by omega)
    generalize hbb : binL.getD k (0, [], 0) = bb at hhit hpos hmiss ⊢
    obtain ⟨op, sg, lv⟩ := bb
    have hkd : ∀ kd, kindB (op, sg, lv) = kd → hitB l i bad lev (op, sg, lv) = (decide (lv = lev) && onS l i bad kd sg) := fun kd e => by rw [← e]; rfl
    have fin1 : ∀ kd, kindB (op, sg, lv) = kd → lv = lev → onS l i bad kd sg = true → opS l i bad lev = op := fun kd e h1 h2 => hhit (by rw [hkd kd e, h2, decide_eq_true h1]; rfl)
    intro b6
    refine cnd (fun h3 => ?_) (fun h3 => ?_)
    · have e1 : kindB (op, sg, lv) = 1 := if_pos h3
      refine cnd (fun h4 => ?_) (fun h4 => ?_)
      · refine cMI TT_ok 900 (fun w v h1 h2 h3 h4 h5 => c_on b ad cap l i bad 1 sg hi w v h3 h4 (Mono.slF _ _ h1 hl) h5) ?_
        refine cnd (fun h5 => ?_) (fun h5 => ?_)
        · have e2 := fin1 1 e1 h4 h5.2
          refine ⟨?_, ?_⟩
          · rw [e2]; rfl
          · rw [if_pos h5.2, if_neg (by rw [e2]; exact hpos)]; rfl
        · have h6 : onS l i bad 1 sg = false := h5.resolve_left (fun hh => hh h4)
          rw [if_neg (by rw [h6]; decide)]
          refine wi ?_
          exact ⟨k + 1, ⟨⟨by omega, hmiss (by rw [hkd 1 e1, h6, Bool.and_false])⟩, by omega⟩, gs⟩
      · refine ⟨.bool false, ?_⟩
        refine cndF (by rw [Bool.and_false]) ?_
        refine wi ?_
        exact ⟨k + 1, ⟨⟨by omega, hmiss (by rw [hkd 1 e1, decide_eq_false h4, Bool.false_and])⟩, by omega⟩, gs⟩
    · have e1 : kindB (op, sg, lv) = 4 := if_neg h3
      refine cnd (fun h4 => ?_) (fun h4 => ?_)
      · refine cMI TT_ok 900 (fun w v h1 h2 h3 h4 h5 => c_on b ad cap l i bad 4 sg hi w v h3 h4 (Mono.slF _ _ h1 hl) h5) ?_
        refine cnd (fun h5 => ?_) (fun h5 => ?_)
        · have e2 := fin1 4 e1 h4 h5.2
          refine ⟨?_, ?_⟩
          · rw [e2]; rfl
          · rw [if_pos h5.2, if_neg (by rw [e2]; exact hpos)]; rfl
        · have h6 : onS l i bad 4 sg = false := h5.resolve_left (fun hh => hh h4)
          rw [if_neg (by rw [h6]; decide)]
          refine wi ?_
          exact ⟨k + 1, ⟨⟨by omega, hmiss (by rw [hkd 4 e1, h6, Bool.and_false])⟩, by omega⟩, gs⟩
      · refine ⟨.bool false, ?_⟩
        refine cndF (by rw [Bool.and_false]) ?_
        refine wi ?_
        exact ⟨k + 1, ⟨⟨by omega, hmiss (by rw [hkd 4 e1, decide_eq_false h4, Bool.false_and])⟩, by omega⟩, gs⟩
  · have e : opS l i bad lev = 0 := op_none l i bad lev fun j hj => hn j (by omega)
    refine ⟨?_, ?_⟩
    · rw [e]; rfl
    · rw [if_pos e]; rfl

end Go.Proofs.YtpcgdhhndeanoaaGreatDoor
set_option maxRecDepth 100000
namespace Go.Proofs.YtpcgdhhndeanoaaGreatDoor
open Go Go.Dx Go.RowKit
def exV (e : Ex) (x : Option Addr × Nat) : Value := .agg (exC e.op e.v e.s (.slice x.1 e.l.length x.2)).toArray
theorem c_syWord2 (s : List UInt8) (w0 : World) (h0 : View) (hv : VLe h0 (Full w0)) : Calls Tryz.prog 89 #[vs s] w0 (Ret w0 h0 fun u _ => u = .tuple #[.agg (valC ((wordV s).getD v0)).toArray, .bool (wordV s).isSome]) := by
  refine (c_syWord s w0 h0 hv).mono (Ret.mono fun u _ hu => ?_)
  rw [hu]
  unfold wordV
  by_cases h1 : s = [110, 117, 108, 108]
  · rw [if_pos h1, if_pos h1]; rfl
  rw [if_neg h1, if_neg h1]
  by_cases h2 : s = [102, 97, 108, 115, 101]
  · rw [if_pos h2, if_pos h2]; rfl
  rw [if_neg h2, if_neg h2]
  by_cases h3 : s = [116, 114, 117, 101]
  · rw [if_pos h3, if_pos h3]; rfl
  · rw [if_neg h3, if_neg h3]; rfl
/-- what a reading leaves -/
def RdP (b : Nat) (ad : Option Addr) (n cap : Nat) (r : RdR) (u : Value) (w' : World) (hh : View) : Prop := ∃ x : Option Addr × Nat, u = exV r.1 x ∧ w'.heap[b]? = some (.cells (rdC ad n cap ((r.2.1 : Nat) : Int) r.2.2).toArray 95 (0, 0)) ∧ XL hh x.1 x.2 r.1.l
theorem xl_m (x : Option Addr × Nat) (l : List Ex) : Mono fun h => XL h x.1 x.2 l := fun _ _ hle hx => XL.mono hle hx
/-- the cells of a row of expressions -/
def rowC (es : List (Ex × Option Addr × Nat)) (i : Nat) : List Value := exC (es.getD i (ex0, none, 0)).1.op (es.getD i (ex0, none, 0)).1.v (es.getD i (ex0, none, 0)).1.s (.slice (es.getD i (ex0, none, 0)).2.1 (es.getD i (ex0, none, 0)).1.l.length (es.getD i (ex0, none, 0)).2.2)
theorem rowC_len (es : List (Ex × Option Addr × Nat)) (l : List Nat) : ∀ x ∈ l, (rowC es x).length = 6 := fun _ _ => rfl
theorem rowC_xl (es : List (Ex × Option Addr × Nat)) {h : View} {ad : Option Addr} {cap : Nat} (hs : SlC 28 6 (flatR (rowC es)) h (.slice ad es.length cap) (List.range es.length)) (hc : ∀ (i : Nat) (p : Ex × Option Addr × Nat), es[i]? = some p → RX h (exC p.1.op p.1.v p.1.s (.slice p.2.1 p.1.l.length p.2.2)) p.1) : XL h ad cap (es.map (·.1)) := by
  refine ⟨rowC es, by simpa using hs, fun i y hi => ?_⟩
  rw [List.getElem?_map] at hi
  cases he : es[i]? with
  | none => rw [he] at hi; cases hi
  | some p =>
    rw [he] at hi
    cases hi
    have e : es.getD i (ex0, none, 0) = p := by simp [List.getD, he]
    have := hc i p he
    unfold rowC
    rw [e]; exact this
theorem c_mustS (b : Nat) (ad : Option Addr) (cap : Nat) (l : List Tok) (p : Nat × Bool) (k : Int) (s : List UInt8) (hi : p.1 ≤ 1000000) (w0 : World) (h0 : View) (hv : VLe h0 (Full w0)) (hno : h0 b = none) (hl : SlC 70 4 (flatR tokC) h0 (.slice ad l.length cap) l)
    (hbl : w0.heap[b]? = some (.cells (rdC ad l.length cap ((p.1 : Nat) : Int) p.2).toArray 95 (0, 0))) :
    Calls Tryz.prog 88 #[.pointer (some ⟨b, 0, none⟩), .int .i64 k, vs s] w0 (RetM [b] w0 fun u w' => u = .tuple #[] ∧ w'.heap[b]? = some (.cells (rdC ad l.length cap (((mustS l p k s).1 : Nat) : Int) (mustS l p k s).2).toArray 95 (0, 0))) :=
  c_must b ad cap l p.1 p.2 k s hi w0 h0 hv hno hl hbl
section rd
variable (b : Nat) (ad : Option Addr) (cap : Nat) (l : List Tok)
def RdC (f : Nat) : Prop := ∀ (lev i : Nat) (bad : Bool), lev ≤ 7 → i ≤ l.length → needS l lev i ≤ f → ∀ (w0 : World) (h0 : View), VLe h0 (Full w0) → h0 b = none → SlC 70 4 (flatR tokC) h0 (.slice ad l.length cap) l →
    w0.heap[b]? = some (.cells (rdC ad l.length cap (i : Int) bad).toArray 95 (0, 0)) → Calls Tryz.prog 53 #[.pointer (some ⟨b, 0, none⟩), .int .i64 (lev : Int)] w0 (RetV [b] w0 h0 fun u w' hh => RdP b ad l.length cap (rdF l f lev i bad) u w' hh)
variable {b ad cap l}
theorem c_branch {f : Nat} (ih : RdC b ad cap l f) (hT : TokN l) (hn : l.length ≤ 999999) (i : Nat) (bad : Bool) (hi : i ≤ l.length) (hf : needS l 0 i ≤ f) (w0 : World) (h0 : View) (hv : VLe h0 (Full w0)) (hno : h0 b = none) (hl : SlC 70 4 (flatR tokC) h0 (.slice ad l.length cap) l)
    (hbl : w0.heap[b]? = some (.cells (rdC ad l.length cap (i : Int) bad).toArray 95 (0, 0))) :
    Calls Tryz.prog 74 #[.pointer (some ⟨b, 0, none⟩)] w0 (RetV [b] w0 h0 fun u w' hh => RdP b ad l.length cap (branchS (rdF l f 0) l i bad) u w' hh) := by
  have g1 := rd_ge l f 0 i bad hi
  have d1 := rd_nd hT f 0 i bad
  unfold branchS
  refine entW (args := [.pointer (some ⟨b, 0, none⟩)]) TT_ok [1000005, 18] [] [.o 900 0] Tryz.func74 rfl Tryz.ntmps74 rfl rfl hv hbl hno rfl (fun x => xl_m x _) ?_
  intro b2
  refine cV TT_ok 900 (fun w v h1 h2 h3 h4 h5 => ih 0 i bad (by omega) hi hf w v h3 h4 (Mono.slF _ _ h1 hl) h5) (fun x => xl_m x _) (fun x1 => ?_)
  have m1 := must_ge (l := l) (p := (rdF l f 0 i bad).2) (k := 1) (s := thenT) (by decide) g1.2
  generalize rdF l f 0 i bad = r1 at g1 d1 m1 ⊢
  intro b3
  refine cM TT_ok 900 (fun w v h1 h2 h3 h4 h5 => c_mustS b ad cap l r1.2 1 thenT (by have := g1.2; omega) w v h3 h4 (Mono.slF _ _ h1 hl) h5) ?_
  generalize mustS l r1.2 1 thenT = p1 at m1 ⊢
  have g2 := rd_ge l f 0 p1.1 p1.2 m1.2
  have d2 := rd_nd hT f 0 p1.1 p1.2
  have f2 : needS l 0 p1.1 ≤ f := by have := g1.1; have := m1.1; unfold needS at hf ⊢; omega
  refine cV TT_ok 900 (fun w v h1 h2 h3 h4 h5 => ih 0 p1.1 p1.2 (by omega) m1.2 f2 w v h3 h4 (Mono.slF _ _ h1 hl) h5) (fun x => xl_m x _) (fun x2 => ?_)
  have m2 := must_ge (l := l) (p := (rdF l f 0 p1.1 p1.2).2) (k := 1) (s := elseT) (by decide) g2.2
  generalize rdF l f 0 p1.1 p1.2 = r2 at g2 d2 m2 ⊢
  intro b4
  refine cM TT_ok 900 (fun w v h1 h2 h3 h4 h5 => c_mustS b ad cap l r2.2 1 elseT (by have := g2.2; omega) w v h3 h4 (Mono.slF _ _ h1 hl) h5) ?_
  generalize mustS l r2.2 1 elseT = p2 at m2 ⊢
  have g3 := rd_ge l f 0 p2.1 p2.2 m2.2
  have d3 := rd_nd hT f 0 p2.1 p2.2
  have f3 : needS l 0 p2.1 ≤ f := by have := g2.1; have := m2.1; unfold needS at f2 ⊢; omega
  refine regQ TT_ok [0, 1, 2] [3, 4, 5, 6] [900] true ?_
  refine cV TT_ok 900 (fun w v h1 h2 h3 h4 h5 => ih 0 p2.1 p2.2 (by omega) m2.2 f3 w v h3 h4 (Mono.slF _ _ h1 hl) h5) (fun x => xl_m x _) (fun x3 => ?_)
  generalize rdF l f 0 p2.1 p2.2 = r3 at g3 d3 ⊢
  refine kq ?_
  intro b17
  refine kq ?_
  refine shutG TT_ok 17 rfl (row_sl (g := rowC [(r1.1, x1), (r2.1, x2), (r3.1, x3)]) (l := List.range 3) (sz := 6) (n := 3) (cp := 3) rfl ?_) ?_ Mono.slF rfl (.inr ⟨b, _, _, 900, rfl, by decide, rfl⟩)
  · exact rowC_len _ _
  refine kq ?_
  exact ⟨(some ⟨b17, 0, none⟩, 3), rfl, rfl, fun v _ hF => rowC_xl [(r1.1, x1), (r2.1, x2), (r3.1, x3)] hF.2 (fun i p hp => by
    match i, hp with
    | 0, hp => cases hp; exact XL.rx hF.1.1.1.2 d1
    | 1, hp => cases hp; exact XL.rx hF.1.1.2 d2
    | 2, hp => cases hp; exact XL.rx hF.1.2 d3
    | n + 3, hp => simp at hp)⟩
theorem c_atom {f : Nat} (ih : RdC b ad cap l f) (hT : TokN l) (hTs : ∀ t ∈ l, t.s.length ≤ 1000000) (hn : l.length ≤ 999999) (i : Nat) (bad : Bool) (hi : i ≤ l.length) (hf : needS l 7 i ≤ f + 1) (w0 : World) (h0 : View) (hv : VLe h0 (Full w0)) (hno : h0 b = none) (hl : SlC 70 4 (flatR tokC) h0 (.slice ad l.length cap) l)
    (hbl : w0.heap[b]? = some (.cells (rdC ad l.length cap (i : Int) bad).toArray 95 (0, 0))) :
    Calls Tryz.prog 75 #[.pointer (some ⟨b, 0, none⟩)] w0 (RetV [b] w0 h0 fun u w' hh => RdP b ad l.length cap (atomS (rdF l f 0) l i bad) u w' hh) := by
  have hns : (nowS l i bad).s.length ≤ 1000000 := by
    unfold nowS
    split
    · decide
    · rcases Nat.lt_or_ge i l.length with h | h
      · rw [getD_lt l i t0 h]; exact hTs _ (List.getElem_mem h)
      · simp only [List.getD, List.getElem?_eq_none h]; decide
  have hlt := fun k s => on_lt (l := l) (i := i) (bad := bad) (k := k) (s := s)
  have hge := fun (h : i + 1 ≤ l.length) => rd_ge l f 0 (i + 1) bad h
  have hnl := fun (h : (nowS l i bad).k ≠ 0) => now_lt h
  refine entW (args := [.pointer (some ⟨b, 0, none⟩)]) TT_ok [] [] [.o 900 0] Tryz.func75 rfl Tryz.ntmps75 rfl rfl hv hbl hno rfl (fun x => xl_m x _) ?_
  intro b2
  refine cM TT_ok 900 (fun w v h1 h2 h3 h4 h5 => c_on b ad cap l i bad 4 [40] (by omega) w v h3 h4 (Mono.slF _ _ h1 hl) h5) ?_
  refine cnd (fun h => ?_) (fun h => ?_)
  · have hlt := (hlt 4 [40] h (by decide)).1
    have ea : atomS (rdF l f 0) l i bad = ((rdF l f 0 (i + 1) bad).1, mustS l (rdF l f 0 (i + 1) bad).2 4 [41]) := if_pos h
    rw [ea, if_pos h]
    have g1 := hge hlt
    refine cV TT_ok 900 (fun w v h1 h2 h3 h4 h5 => ih 0 (i + 1) bad (by omega) hlt (by unfold needS at hf ⊢; omega) w v h3 h4 (Mono.slF _ _ h1 hl) h5) (fun x => xl_m x _) (fun x1 => ?_)
    generalize rdF l f 0 (i + 1) bad = r1 at g1 ⊢
    intro b3
    refine cM TT_ok 900 (fun w v h1 h2 h3 h4 h5 => c_mustS b ad cap l r1.2 4 [41] (by have := g1.2; omega) w v h3 h4 (Mono.slF _ _ h1 hl) h5) ?_
    exact ⟨x1, rfl, rfl, fun v _ hF => hF.2⟩
  · rw [if_neg (by rw [h]; decide)]
    have ea : atomS (rdF l f 0) l i bad = _ := if_neg (by rw [h]; decide)
    rw [ea]
    clear ea hlt
    refine cM TT_ok 900 (fun w v h1 h2 h3 h4 h5 => c_now b ad cap l i bad w v h3 h4 (Mono.slF _ _ h1 hl) h5) ?_
    generalize nowS l i bad = t at hns hnl ⊢
    intro b4
    intro b5
    refine cnd (fun h1 => ?_) (fun h1 => ?_)
    · rw [if_pos h1]
      have := (hnl (by rw [h1]; decide)).1
      refine wi ?_
      exact ⟨(none, 0), rfl, rfl, fun v _ _ => xl_nil v⟩
    rw [if_neg h1]
    refine cnd (fun h2 => ?_) (fun h2 => ?_)
    · rw [if_pos h2]
      have := (hnl (by rw [h2]; decide)).1
      refine wi ?_
      exact ⟨(none, 0), rfl, rfl, fun v _ _ => xl_nil v⟩
    rw [if_neg h2]
    refine cnd (fun h3 => ?_) (fun h3 => ?_)
    · rw [if_pos h3]
      have := (hnl (by rw [h3]; decide)).1
      refine cl (c_syWord2 t.s) ?_
      intro b6
      refine clg (fun _ => c_Name t.s hns) ?_
      refine cnd (fun h4 => ?_) (fun h4 => ?_)
      · rw [if_neg (by rw [h4.1]; decide), if_neg (by rw [h4.2]; decide)]
        exact ⟨(none, 0), rfl, rfl, fun v _ _ => xl_nil v⟩
      · refine cnd (fun h5 => ?_) (fun h5 => ?_)
        · have h6 : nameOk t.s = true := by
            rcases h4 with h4 | h4
            · rw [h5] at h4; cases h4
            · exact h4
          rw [if_neg (by rw [h5]; decide), if_pos h6]
          refine wi ?_
          exact ⟨(none, 0), rfl, rfl, fun v _ _ => xl_nil v⟩
        · rw [if_pos h5]
          refine wi ?_
          exact ⟨(none, 0), rfl, rfl, fun v _ _ => xl_nil v⟩
    · rw [if_neg h3]
      exact ⟨(none, 0), rfl, rfl, fun v _ _ => xl_nil v⟩
theorem need_pos (l : List Tok) {lev i : Nat} (h : lev ≤ 7) : 2 ≤ needS l lev i := by unfold needS; omega
theorem c_read (hT : TokN l) (hTs : ∀ t ∈ l, t.s.length ≤ 1000000) (hn : l.length ≤ 999999) : ∀ f, RdC b ad cap l f
  | 0 => fun lev i bad h7 _ hf => absurd hf (by have := need_pos l (i := i) h7; omega)
  | f + 1 => by
    intro lev i bad h7 hi hf w0 h0 hv hno hl hbl
    have ih := c_read hT hTs hn f
    have hge := fun lev i bad h => rd_ge l f lev i bad h
    have hnd := fun lev i bad => rd_nd hT f lev i bad
    have hR : rdF l (f + 1) lev i bad = _ := rdF.eq_2 l lev i bad f
    generalize rdF l (f + 1) lev i bad = R at hR ⊢
    refine entW (args := [.pointer (some ⟨b, 0, none⟩), .int .i64 (lev : Int)]) TT_ok [3000000, 4000018, 4000032, 37, 60, 1000015] [12] [.o 900 0, .v (.int .i64 (lev : Int))] Tryz.func53 rfl Tryz.ntmps53 rfl rfl hv hbl hno rfl (fun x => xl_m x _) ?_
    intro b4
    refine w_jumps TT_ok 0 (fun _ => [(5, .o 5 0)]) (fun x : Nat × Ex × (Option Addr × Nat) × Nat × Bool => [(5, .c x.1 28 (exC x.2.1.op x.2.1.v x.2.1.s (.slice x.2.2.1.1 x.2.1.l.length x.2.2.1.2))), (4, .c b4 28 (exC 0 v0 [] (.slice none 0 0))), (900, .c b 95 (rdC ad l.length cap ((x.2.2.2.1 : Nat) : Int) x.2.2.2.2))])
      (fun x h => XL h x.2.2.1.1 x.2.2.1.2 x.2.1.l) (fun x => lev < 6 ∧ x.2.2.2.1 ≤ l.length ∧ i ≤ x.2.2.2.1 ∧ Nd x.2.1 ∧ ∃ n, l.length - x.2.2.2.1 < n ∧ loopS (rdF l f (lev + 1)) l lev n x.2.1 x.2.2.2.1 x.2.2.2.2 = R) (fun x => l.length - x.2.2.2.1) (fun x => xl_m x.2.2.1 _) ?_ rfl
    refine ⟨fun x hI => ofV TT_ok ?_, fun hk => ofV TT_ok ?_⟩
    · obtain ⟨b5, e, x, i', bad'⟩ := x
      obtain ⟨hlev, hi', hii, hNd, n, hn1, hR'⟩ := hI
      simp only at hlev hi' hii hNd hn1 hR'
      refine cM TT_ok 900 (fun w v h1 h2 h3 h4 h5 => c_binary b ad cap l i' bad' lev (by omega) w v h3 h4 (Mono.slF _ _ h1 hl) h5) ?_
      obtain ⟨n, rfl⟩ : ∃ m, n = m + 1 := ⟨n - 1, by omega⟩
      rw [loopS] at hR'
      refine cnd (fun h => ?_) (fun h => ?_)
      · rw [if_pos h] at hR' ⊢
        rw [← hR']
        exact ⟨x, rfl, rfl, fun v _ hF => hF⟩
      · rw [if_neg h] at hR' ⊢
        obtain ⟨hlt, rfl⟩ := op_lt h
        have g1 := hge (lev + 1) (i' + 1) false hlt
        have d1 := hnd (lev + 1) (i' + 1) false
        refine regQ TT_ok [0, 1, 2, 3, 4] [5, 6, 7, 8] [900] true ?_
        refine wi ?_
        refine cV TT_ok 900 (fun w v h1 h2 h3 h4 h5 => ih (lev + 1) (i' + 1) false (by omega) hlt (by unfold needS at hf ⊢; omega) w v h3 h4 (Mono.slF _ _ h1 hl) h5) (fun x => xl_m x _) (fun x1 => ?_)
        generalize rdF l f (lev + 1) (i' + 1) false = r1 at g1 d1 hR' ⊢
        refine kq ?_
        intro b59
        refine kq ?_
        refine shutG TT_ok 59 rfl (row_sl (g := rowC [(e, x), (r1.1, x1)]) (l := List.range 2) (sz := 6) (n := 2) (cp := 2) rfl ?_) ?_ Mono.slF rfl (.inr ⟨b, _, _, 900, rfl, by decide, rfl⟩)
        · exact rowC_len _ _
        refine kq ?_
        have hx : ∀ v, (XL v x.1 x.2 e.l ∧ XL v x1.1 x1.2 r1.1.l) ∧ SlC 28 6 (flatR (rowC [(e, x), (r1.1, x1)])) v (.slice (some ⟨b59, 0, none⟩) 2 2) (List.range 2) → XL v (some ⟨b59, 0, none⟩) 2 [e, r1.1] := fun v hF => rowC_xl [(e, x), (r1.1, x1)] hF.2 (fun i p hp => by
          match i, hp with
          | 0, hp => cases hp; exact XL.rx hF.1.1 hNd
          | 1, hp => cases hp; exact XL.rx hF.1.2 d1
          | n + 2, hp => simp at hp)
        refine cnd (fun h2 => ?_) (fun h2 => ?_)
        · rw [if_pos ⟨by omega, h2.2⟩] at hR'
          exact ⟨(b5, .mk (opS l i' false lev) v0 [] [e, r1.1], (some ⟨b59, 0, none⟩, 2), r1.2.1, r1.2.2), ⟨⟨hlev, g1.2, by have := g1.1; show i ≤ r1.2.1; omega, nd_v0 (op_i64 _ _ _ _), n, by have := g1.1; show l.length - r1.2.1 < n; omega, hR'⟩, by have := g1.1; show l.length - r1.2.1 < l.length - i'; omega⟩, gs (fv := fun v hF => hx v hF)⟩
        · rw [if_neg (fun hh => by
            rcases h2 with h2 | h2
            · exact hh.1 (by omega)
            · rw [hh.2] at h2; cases h2)] at hR'
          rw [← hR']
          exact ⟨(some ⟨b59, 0, none⟩, 2), rfl, rfl, fun v _ hF => hx v hF⟩
    · refine cnd (fun hb => ?_) (fun hb => ?_)
      · subst hb
        rw [if_pos rfl] at hR
        rw [hR]
        exact ⟨(none, 0), rfl, rfl, fun v _ _ => xl_nil v⟩
      subst hb
      rw [if_neg (by decide)] at hR
      have r_lev0 : (lev : Int) = 0 → lev = 0 := fun h => by omega
      refine cnd (fun hl0 => ?_) (fun hl0 => ?_)
      · have hl0' := r_lev0 hl0
        subst hl0'
        rw [if_pos rfl] at hR
        refine cMI TT_ok 900 (fun w v h1 h2 h3 h4 h5 => c_on b ad cap l i false 1 ifT (by omega) w v h3 h4 (Mono.slF _ _ h1 hl) h5) ?_
        refine cnd (fun h1 => ?_) (fun h1 => ?_)
        · rw [if_pos h1.2] at hR ⊢
          have hlt := (on_lt h1.2 (by decide)).1
          rw [hR]
          refine cV TT_ok 900 (fun w v h1 h2 h3 h4 h5 => c_branch ih hT hn (i + 1) false hlt (by unfold needS at hf ⊢; omega) w v h3 h4 (Mono.slF _ _ h1 hl) h5) (fun x => xl_m x _) (fun x1 => ?_)
          exact ⟨x1, rfl, rfl, fun v _ hF => hF.2⟩
        · have h2 : onS l i false 1 ifT = false := h1.resolve_left (fun hh => hh rfl)
          rw [if_neg (by rw [h2]; decide)] at hR ⊢
          rw [hR]
          refine cndT rfl ?_
          refine cV TT_ok 900 (fun w v h1 h2 h3 h4 h5 => ih 1 i false (by omega) hi (by unfold needS at hf ⊢; omega) w v h3 h4 (Mono.slF _ _ h1 hl) h5) (fun x => xl_m x _) (fun x1 => ?_)
          exact ⟨x1, rfl, rfl, fun v _ hF => hF.2⟩
      · have hl0' : lev ≠ 0 := fun h => hl0 (by omega)
        rw [if_neg hl0'] at hR
        refine ⟨.bool false, ?_⟩
        refine cndF (by rw [Bool.and_false]) ?_
        refine cndF (decide_eq_false hl0) ?_
        refine cnd (fun h6 => ?_) (fun h6 => ?_)
        · have h6' : lev = 6 := by omega
          subst h6'
          refine cMI TT_ok 900 (fun w v h1 h2 h3 h4 h5 => c_on b ad cap l i false 4 [45] (by omega) w v h3 h4 (Mono.slF _ _ h1 hl) h5) ?_
          refine cnd (fun h1 => ?_) (fun h1 => ?_)
          · rw [if_pos ⟨rfl, h1.2⟩] at hR
            rw [if_pos h1.2]
            have hlt := (on_lt h1.2 (by decide)).1
            have d1 := hnd 6 (i + 1) false
            refine cV TT_ok 900 (fun w v h1 h2 h3 h4 h5 => ih 6 (i + 1) false (by omega) hlt (by unfold needS at hf ⊢; omega) w v h3 h4 (Mono.slF _ _ h1 hl) h5) (fun x => xl_m x _) (fun x1 => ?_)
            generalize rdF l f 6 (i + 1) false = r1 at d1 hR ⊢
            rw [hR]
            intro b36
            refine shutG TT_ok 36 rfl (row_sl (g := rowC [(r1.1, x1)]) (l := List.range 1) (sz := 6) (n := 1) (cp := 1) rfl ?_) ?_ Mono.slF rfl (.inr ⟨b, _, _, 900, rfl, by decide, rfl⟩)
            · exact rowC_len _ _
            exact ⟨(some ⟨b36, 0, none⟩, 1), rfl, rfl, fun v _ hF => rowC_xl [(r1.1, x1)] hF.2 (fun i p hp => by
              match i, hp with
              | 0, hp => cases hp; exact XL.rx hF.1.2 d1
              | n + 1, hp => simp at hp)⟩
          · have h2 : onS l i false 4 [45] = false := h1.resolve_left (fun hh => hh rfl)
            rw [if_neg (fun hh => by rw [h2] at hh; cases hh.2), if_pos (by omega)] at hR
            rw [if_neg (by rw [h2]; decide)]
            rw [hR]
            refine cndT rfl ?_
            refine cV TT_ok 900 (fun w v h1 h2 h3 h4 h5 => c_atom ih hT hTs hn i false hi (by unfold needS at hf ⊢; omega) w v h3 h4 (Mono.slF _ _ h1 hl) h5) (fun x => xl_m x _) (fun x1 => ?_)
            exact ⟨x1, rfl, rfl, fun v _ hF => hF.2⟩
        · have h6' : lev ≠ 6 := fun h => h6 (by omega)
          rw [if_neg (fun hh => h6' hh.1)] at hR
          refine ⟨.bool false, ?_⟩
          refine cndF (by rw [Bool.and_false]) ?_
          refine cnd (fun h7' => ?_) (fun h7' => ?_)
          · rw [if_pos (by omega)] at hR
            rw [hR]
            refine cV TT_ok 900 (fun w v h1 h2 h3 h4 h5 => c_atom ih hT hTs hn i false hi (by unfold needS at hf ⊢; omega) w v h3 h4 (Mono.slF _ _ h1 hl) h5) (fun x => xl_m x _) (fun x1 => ?_)
            exact ⟨x1, rfl, rfl, fun v _ hF => hF.2⟩
          · rw [if_neg (by omega)] at hR
            have g1 := hge (lev + 1) i false hi
            have d1 := hnd (lev + 1) i false
            refine w_lab TT_ok hk (fun x => xl_m x.2.2.1 _) ?_
            refine wi ?_
            refine cV TT_ok 900 (fun w v h1 h2 h3 h4 h5 => ih (lev + 1) i false (by omega) hi (by unfold needS at hf ⊢; omega) w v h3 h4 (Mono.slF _ _ h1 hl) h5) (fun x => xl_m x _) (fun x1 => ?_)
            generalize rdF l f (lev + 1) i false = r1 at g1 d1 hR ⊢
            intro b5
            exact ⟨(b5, r1.1, x1, r1.2.1, r1.2.2), ⟨by show lev < 6; omega, g1.2, g1.1, d1, l.length + 1, by show l.length - r1.2.1 < l.length + 1; omega, hR.symm⟩, gs (fv := fun v hF => hF.2)⟩
end rd

end Go.Proofs.YtpcgdhhndeanoaaGreatDoor
set_option maxRecDepth 100000
namespace Go.Proofs.YtpcgdhhndeanoaaGreatDoor
open Go Go.Dx Go.RowKit
theorem slc_lm {α : Type} {T sz n cp : Nat} {f : View → List Value → α → Prop} {h : View} {ad : Option Addr} {l : List α} (hs : SlC T sz f h (.slice ad n cp) l) : l.length ≤ 9223372036854775807 := by
  obtain ⟨_, _, _, h1, h2⟩ := hs.parts
  simp only [maxLen] at h2
  omega
theorem c_plain (s : List UInt8) (w0 : World) (h0 : View) (hv : VLe h0 (Full w0)) : Calls Tryz.prog 54 #[vs s] w0 (Ret w0 h0 fun u _ => u = .bool (plainS s)) := by
  refine ent (args := [vs s]) TT_ok [] [] Tryz.func54 rfl Tryz.ntmps54 rfl rfl hv ?_
  refine cnd (fun h0 => ?_) (fun h0 => ?_)
  · exact congrArg Value.bool (plain_long (by omega)).symm
  refine rgS TT_ok 900 (fun b => ?_)
  refine w_loopB TT_ok (fun _ : Nat => []) (fun k => [(900, .e (some b, IterC s k))]) 0 (fun k => k ≤ s.length ∧ ∀ j, j < k → plB (s.getD j 0) = true) (fun k => s.length - k) ?_
  refine And.intro ⟨⟨Nat.zero_le _, fun j hj => absurd hj (Nat.not_lt_zero j)⟩, gs⟩ ?_
  intro k ⟨hk, hn⟩
  refine nxS TT_ok 900 (fun h => ?_) (fun h => ?_)
  · refine cndT rfl ?_
    refine cnd (fun h1 => ?_) (fun h1 => ?_)
    · exact congrArg Value.bool (plain_not (k := k) h (dec_bad h h1)).symm
    · obtain ⟨e1, e2⟩ := dec_plain (s := s) (k := k) h h1.1 h1.2
      refine ⟨k + 1, ⟨⟨by omega, fun j hj => ?_⟩, by omega⟩, gs (bl := by rw [e2]; rfl)⟩
      rcases Nat.lt_or_ge j k with h2 | h2
      · exact hn j h2
      · rw [show j = k by omega]; exact e1
  · refine cndF rfl ?_
    exact congrArg Value.bool (plain_all (by omega) (fun j hj => hn j (by omega))).symm
theorem eqV : EqT Tryz.prog 25 valC := EqT.of [(0, .i .i64), (1, .i .i64), (2, .s)] (by kernel_rfl) (by kernel_rfl) (by kernel_rfl) (by kernel_rfl)
  (fun a b s hs => by
    simp only [List.mem_cons, List.mem_nil_iff, or_false] at hs
    rcases hs with rfl | rfl | rfl
    · exact ⟨_, _, rfl, rfl, ⟨_, rfl⟩, ⟨_, rfl⟩⟩
    · exact ⟨_, _, rfl, rfl, ⟨_, rfl⟩, ⟨_, rfl⟩⟩
    · exact ⟨_, _, rfl, rfl, ⟨_, rfl⟩, ⟨_, rfl⟩⟩)
  (fun a b => by
    obtain ⟨k, n, s⟩ := a
    obtain ⟨k', n', s'⟩ := b
    simp [valC, eqC, vs, Bool.and_assoc])
theorem c_VCheck (v : Val) (hvb : valB v) (w0 : World) (h0 : View) (hv : VLe h0 (Full w0)) : Calls Tryz.prog 34 #[.agg (valC v).toArray] w0 (Ret w0 h0 fun u _ => u = .int .i64 (if valOk v then 0 else 2)) := by
  refine ent (args := [.agg (valC v).toArray]) TT_ok [] [11] Tryz.func34 rfl Tryz.ntmps34 rfl rfl hv ?_
  intro b1
  refine w_cut TT_ok (fun _ : Unit => [(3, .v (.bool (valOk v)))]) (fun _ => True) ?_
  refine And.intro ?_ ?_
  · refine cnd (fun h => ?_) (fun h => ?_)
    · refine aq eqV v v0 ?_
      exact ⟨(), trivial, gs (by rw [show valOk v = decide (v = v0) by obtain ⟨vk, vn, vt⟩ := v; simp at h; simp [valOk, v0, h]]; rfl)⟩
    refine cnd (fun h2 => ?_) (fun h2 => ?_)
    · exact ⟨(), trivial, gs (by rw [show valOk v = decide (v.s = []) by simp [valOk, h2]]; rfl)⟩
    refine cnd (fun h3 => ?_) (fun h3 => ?_)
    · refine clg (fun _ => c_plain v.s) ?_
      exact ⟨(), trivial, gs (by rw [show valOk v = (decide (v.n = 0) && plainS v.s) by simp [valOk, h3]]; rfl)⟩
    refine cnd (fun h4 => ?_) (fun h4 => ?_)
    · refine ew _ (fun _ => rfl) ?_
      have e := andnot1 (h := hvb.2) (hr := rfl)
      have e4 : valOk v = (decide (v.s = []) && decide (IntKind.i64.wrap ((BitVec.ofInt IntKind.i64.bits v.n &&& ~~~ BitVec.ofInt IntKind.i64.bits 1).toNat : Int) = 0)) := by
        rw [show decide (IntKind.i64.wrap ((BitVec.ofInt IntKind.i64.bits v.n &&& ~~~ BitVec.ofInt IntKind.i64.bits 1).toNat : Int) = 0) = decide (v.n = 0 ∨ v.n = 1) from decide_eq_decide.2 e]
        simp [valOk, h4]
      exact ⟨(), trivial, gs (by rw [e4]; rfl)⟩
    · exact ⟨(), trivial, gs (by rw [show valOk v = false by simp [valOk, h, h2, h3, h4]]; rfl)⟩
  · intro _ _
    refine cnd (fun h => ?_) (fun h => ?_)
    · show Value.int .i64 2 = _
      rw [if_neg (by rw [h]; decide)]
    · show Value.int .i64 0 = _
      rw [if_pos h]
theorem c_RPlain (s : List UInt8) (hs : s.length ≤ 9223372036854775807) (w0 : World) (h0 : View) (hv : VLe h0 (Full w0)) : Calls Tryz.prog 46 #[vs s] w0 (Ret w0 h0 fun u _ => u = .bool (plainS s)) := by
  refine ent (args := [vs s]) TT_ok [] [] Tryz.func46 rfl Tryz.ntmps46 rfl rfl hv ?_
  refine w_loop TT_ok (fun k : Nat => [(3, .v (.int .i64 k))]) 0 (fun k => k ≤ s.length ∧ ∀ j, j < k → plB (s.getD j 0) = true) (fun k => s.length - k) ?_
  refine And.intro ⟨⟨Nat.zero_le _, fun j hj => absurd hj (Nat.not_lt_zero j)⟩, gs⟩ ?_
  intro k ⟨hk, hn⟩
  refine cnd (fun h => ?_) (fun h => ?_)
  · refine ix k ?_
    refine ixg k ?_
    refine cnd (fun h1 => ?_) (fun h1 => ?_)
    · exact congrArg Value.bool (plain_no (k := k) (by omega) (by omega)).symm
    · refine wi ?_
      refine ⟨k + 1, ⟨⟨by omega, fun j hj => ?_⟩, by omega⟩, gs⟩
      rcases Nat.lt_or_ge j k with h2 | h2
      · exact hn j h2
      · rw [show j = k by omega]; exact pl_yes (by omega) (by omega)
  · exact congrArg Value.bool (plain_len s (fun j hj => hn j (by omega)))
theorem c_RRight (v : Val) (hs : v.s.length ≤ 9223372036854775807) (w0 : World) (h0 : View) (hv : VLe h0 (Full w0)) : Calls Tryz.prog 26 #[.agg (valC v).toArray] w0 (Ret w0 h0 fun u _ => u = .bool (valOk v)) := by
  refine ent (args := [.agg (valC v).toArray]) TT_ok [] [] Tryz.func26 rfl Tryz.ntmps26 rfl rfl hv ?_
  intro b1
  refine cnd (fun h => ?_) (fun h => ?_)
  · exact congrArg Value.bool (by simp [valOk, h])
  refine cnd (fun h2 => ?_) (fun h2 => ?_)
  · exact congrArg Value.bool (by simp [valOk, h2])
  refine cnd (fun h3 => ?_) (fun h3 => ?_)
  · refine clg (fun _ => c_RPlain v.s hs) ?_
    exact congrArg Value.bool (by simp [valOk, h3])
  refine cnd (fun h4 => ?_) (fun h4 => ?_)
  · exact congrArg Value.bool (by simp [valOk, h4])
  · exact congrArg Value.bool (by simp [valOk, h, h2, h3, h4])
end Go.Proofs.YtpcgdhhndeanoaaGreatDoor
set_option maxRecDepth 100000
namespace Go.Proofs.YtpcgdhhndeanoaaGreatDoor
open Go Go.Dx Go.RowKit
/-- a part of an expression -/
theorem ixE {c : Cx} {F : FV} {n : Nat} {ad : Option Addr} {cap : Nat} {l : List Ex} {i : Int} {X : Nat → List Value → Prop} (H : XL c.h0 ad cap l) (j : Nat)
    (k : ∀ a2 c2, XL c.h0 a2 c2 (l.getD j ex0).l → i64 (l.getD j ex0).op → valB (l.getD j ex0).v → X j (exC (l.getD j ex0).op (l.getD j ex0).v (l.getD j ex0).s (.slice a2 (l.getD j ex0).l.length c2)))
    (h : i = (j : Int) ∧ j < l.length := by omega) (hn : n = l.length := by rfl) : ∃ (j : Nat) (cs : List Value), (i = (j : Int) ∧ j < n ∧ ElC c.h0 F ad (j * 6) cs) ∧ X j cs := by
  obtain ⟨g, off, a2, c2, ha, h1, h2, h3, hc⟩ := H.at2 h.2
  subst hn
  exact ⟨j, _, ⟨h.1, h.2, fun v hv _ => ⟨by rw [ha]; rfl, fun w hw => by rw [ha]; exact hc w (hv.trans hw)⟩⟩, k a2 c2 h1 h2 h3⟩
theorem c_IndexX (ad : Option Addr) (cap : Nat) (l : List Ex) (p : Ex → Bool) (w0 : World) (h0 : View) (hv : VLe h0 (Full w0)) (hx : XL h0 ad cap l)
    (hp : ∀ j, j < l.length → ∀ a2 c2, XL h0 a2 c2 (l.getD j ex0).l → i64 (l.getD j ex0).op → valB (l.getD j ex0).v → ∀ w, VLe h0 (Full w) → Calls Tryz.prog 37 #[.agg (exC (l.getD j ex0).op (l.getD j ex0).v (l.getD j ex0).s (.slice a2 (l.getD j ex0).l.length c2)).toArray] w (Ret w h0 fun u _ => u = .bool (p (l.getD j ex0)))) :
    Calls Tryz.prog 57 #[.slice ad l.length cap, .func (.func 37) #[] #[]] w0 (Ret w0 h0 fun u _ => u = .int .i64 (idxS p l)) := by
  have hlm := hx.lm
  refine ent (args := [.slice ad l.length cap, .func (.func 37) #[] #[]]) TT_ok [] [] Tryz.func57 rfl Tryz.ntmps57 rfl rfl hv ?_
  refine w_loop TT_ok (fun k : Nat => [(8, .v (.int .i64 k))]) 0 (fun k => k ≤ l.length ∧ ∀ j, j < k → p (l.getD j ex0) = false) (fun k => l.length - k) ?_
  refine And.intro ⟨⟨Nat.zero_le _, fun j hj => absurd hj (Nat.not_lt_zero j)⟩, gs⟩ ?_
  intro k ⟨hk, hn⟩
  refine cnd (fun h => ?_) (fun h => ?_)
  · refine ixE hx k (fun a2 c2 h1 h2 h3 => ?_)
    refine cb (fun w hw => hp k (by omega) a2 c2 h1 h2 h3 w hw) ?_
    refine cnd (fun h4 => ?_) (fun h4 => ?_)
    · exact congrArg (Value.int .i64) (idx_hit ex0 (by omega) hn h4).symm
    · refine wi ?_
      exact ⟨k + 1, ⟨⟨by omega, upto_snoc hn h4⟩, by omega⟩, gs⟩
  · exact congrArg (Value.int .i64) (idx_none ex0 (fun j hj => hn j (by omega))).symm
theorem c_ContainsX (ad : Option Addr) (cap : Nat) (l : List Ex) (p : Ex → Bool) (w0 : World) (h0 : View) (hv : VLe h0 (Full w0)) (hx : XL h0 ad cap l)
    (hp : ∀ j, j < l.length → ∀ a2 c2, XL h0 a2 c2 (l.getD j ex0).l → i64 (l.getD j ex0).op → valB (l.getD j ex0).v → ∀ w, VLe h0 (Full w) → Calls Tryz.prog 37 #[.agg (exC (l.getD j ex0).op (l.getD j ex0).v (l.getD j ex0).s (.slice a2 (l.getD j ex0).l.length c2)).toArray] w (Ret w h0 fun u _ => u = .bool (p (l.getD j ex0)))) :
    Calls Tryz.prog 36 #[.slice ad l.length cap, .func (.func 37) #[] #[]] w0 (Ret w0 h0 fun u _ => u = .bool (l.any p)) := by
  refine ent (args := [.slice ad l.length cap, .func (.func 37) #[] #[]]) TT_ok [] [] Tryz.func36 rfl Tryz.ntmps36 rfl rfl hv ?_
  refine cb (fun w hw => c_IndexX ad cap l p w h0 hw hx hp) ?_
  exact congrArg Value.bool (idx_any (p := p) (l := l))
theorem any_right (l : List Ex) : (!(l.any fun y => !rightS y)) = l.all rightS := any_all rightS l
set_option maxHeartbeats 1000000 in
theorem c_right : ∀ (k : Nat) (x : Ex) (ad : Option Addr) (cap : Nat), SizeOf.sizeOf x < k → ∀ (w0 : World) (h0 : View), VLe h0 (Full w0) → GX h0 ad cap x → Calls Tryz.prog 20 #[.agg (exC x.op x.v x.s (.slice ad x.l.length cap)).toArray] w0 (Ret w0 h0 fun u _ => u = .bool (rightS x)) := by
  intro k
  induction k with
  | zero => intro x ad cap h; omega
  | succ k ih =>
    intro x ad cap hk w0 h0 hv hx
    have hsm := hx.sm.parts
    have hp : ∀ j, j < x.l.length → ∀ a2 c2, XL h0 a2 c2 (x.l.getD j ex0).l → i64 (x.l.getD j ex0).op → valB (x.l.getD j ex0).v → ∀ w, VLe h0 (Full w) → Calls Tryz.prog 37 #[.agg (exC (x.l.getD j ex0).op (x.l.getD j ex0).v (x.l.getD j ex0).s (.slice a2 (x.l.getD j ex0).l.length c2)).toArray] w (Ret w h0 fun u _ => u = .bool (!rightS (x.l.getD j ex0))) := by
      intro j hj a2 c2 g1 g2 g3 w hw
      refine ent (args := [.agg (exC (x.l.getD j ex0).op (x.l.getD j ex0).v (x.l.getD j ex0).s (.slice a2 (x.l.getD j ex0).l.length c2)).toArray]) TT_ok [] [] Tryz.func37 rfl Tryz.ntmps37 rfl rfl hw ?_
      intro b
      refine cb (fun w hw => ih _ a2 c2 (by have := Ex.lt (getD_mem x.l j ex0 hj); omega) w h0 hw ⟨g1, g2, g3, hsm.2.2.2 _ (getD_mem x.l j ex0 hj)⟩) ?_
      exact rfl
    refine ent (args := [.agg (exC x.op x.v x.s (.slice ad x.l.length cap)).toArray]) TT_ok [] [] Tryz.func20 rfl Tryz.ntmps20 rfl rfl hv ?_
    intro b1
    refine And.intro (by kernel_rfl) ?_
    refine cl (c_count x.op) ?_
    refine cnd (fun h => ?_) (fun h => ?_)
    · exact congrArg Value.bool (by rw [right_eq, decide_eq_false h, Bool.false_and])
    refine cnd (fun h1 => ?_) (fun h1 => ?_)
    · refine clg (fun _ => c_VCheck x.v hx.v) ?_
      exact congrArg Value.bool (by rw [right_eq, decide_eq_true h, if_pos h1]; simp [Bool.and_assoc])
    refine cnd (fun h2 => ?_) (fun h2 => ?_)
    · refine aq eqV x.v v0 ?_
      refine clg (fun _ => c_Name x.s (by omega)) ?_
      exact congrArg Value.bool (by rw [right_eq, decide_eq_true h, if_neg h1, if_pos h2]; simp)
    · refine aq eqV x.v v0 ?_
      refine cbg (fun _ w hw => c_ContainsX ad cap x.l (fun y => !rightS y) w h0 hw hx.xl hp) ?_
      exact congrArg Value.bool (by rw [right_eq, decide_eq_true h, if_neg h1, if_neg h2, any_right]; simp)
theorem c_Check (x : Ex) (ad : Option Addr) (cap : Nat) (w0 : World) (h0 : View) (hv : VLe h0 (Full w0)) (hx : GX h0 ad cap x) : Calls Tryz.prog 8 #[.agg (exC x.op x.v x.s (.slice ad x.l.length cap)).toArray] w0 (Ret w0 h0 fun u _ => u = .int .i64 (if rightS x then 0 else 2)) := by
  refine ent (args := [.agg (exC x.op x.v x.s (.slice ad x.l.length cap)).toArray]) TT_ok [] [] Tryz.func8 rfl Tryz.ntmps8 rfl rfl hv ?_
  intro b1
  refine cb (fun w hw => c_right _ x ad cap (Nat.lt_succ_self _) w h0 hw hx) ?_
  refine cnd (fun h => ?_) (fun h => ?_)
  · exact congrArg (Value.int .i64) (by rw [if_neg (by rw [h]; decide)])
  · exact congrArg (Value.int .i64) (by rw [if_pos h])
set_option maxHeartbeats 1000000 in
theorem c_RRightX : ∀ (k : Nat) (x : Ex) (ad : Option Addr) (cap : Nat), SizeOf.sizeOf x < k → ∀ (w0 : World) (h0 : View), VLe h0 (Full w0) → GX h0 ad cap x → Calls Tryz.prog 9 #[.agg (exC x.op x.v x.s (.slice ad x.l.length cap)).toArray] w0 (Ret w0 h0 fun u _ => u = .bool (rightS x)) := by
  intro k
  induction k with
  | zero => intro x ad cap h; omega
  | succ k ih =>
    intro x ad cap hk w0 h0 hv hx
    have hsm := hx.sm.parts
    have hlm := hx.xl.lm
    refine ent (args := [.agg (exC x.op x.v x.s (.slice ad x.l.length cap)).toArray]) TT_ok [] [] Tryz.func9 rfl Tryz.ntmps9 rfl rfl hv ?_
    intro b1
    refine And.intro (by kernel_rfl) ?_
    refine cl (c_Rcount x.op) ?_
    refine cnd (fun h => ?_) (fun h => ?_)
    · exact congrArg Value.bool (by rw [right_eq, decide_eq_false h, Bool.false_and])
    refine cnd (fun h1 => ?_) (fun h1 => ?_)
    · refine clg (fun _ => c_RRight x.v (by omega)) ?_
      exact congrArg Value.bool (by rw [right_eq, decide_eq_true h, if_pos h1]; simp [Bool.and_assoc])
    refine cnd (fun h2 => ?_) (fun h2 => ?_)
    · refine aq eqV x.v v0 ?_
      refine clg (fun _ => c_RName x.s (by omega)) ?_
      exact congrArg Value.bool (by rw [right_eq, decide_eq_true h, if_neg h1, if_pos h2]; simp)
    · refine w_loop TT_ok (fun k : Nat => [(3, .v (.int .i64 k))]) 0 (fun k => k ≤ x.l.length ∧ ∀ j, j < k → rightS (x.l.getD j ex0) = true) (fun k => x.l.length - k) ?_
      refine And.intro ⟨⟨Nat.zero_le _, fun j hj => absurd hj (Nat.not_lt_zero j)⟩, gs⟩ ?_
      intro i ⟨hi, hn⟩
      refine cnd (fun h3 => ?_) (fun h3 => ?_)
      · refine ixE hx.xl i (fun a2 c2 g1 g2 g3 => ?_)
        refine cb (fun w hw => ih _ a2 c2 (by have := Ex.lt (getD_mem x.l i ex0 (by omega)); omega) w h0 hw ⟨g1, g2, g3, hsm.2.2.2 _ (getD_mem x.l i ex0 (by omega))⟩) ?_
        refine cnd (fun h4 => ?_) (fun h4 => ?_)
        · exact congrArg Value.bool (by rw [right_eq, all_not ex0 (k := i) (by omega) h4, if_neg h1, if_neg h2]; simp)
        · refine wi ?_
          exact ⟨i + 1, ⟨⟨by omega, upto_snoc hn h4⟩, by omega⟩, gs⟩
      · refine aq eqV x.v v0 ?_
        exact congrArg Value.bool (by rw [right_eq, decide_eq_true h, if_neg h1, if_neg h2, all_upto ex0 (p := rightS) (fun j hj => hn j (by omega))]; simp)

end Go.Proofs.YtpcgdhhndeanoaaGreatDoor
set_option maxRecDepth 100000
namespace Go.Proofs.YtpcgdhhndeanoaaGreatDoor
open Go Go.Dx Go.RowKit
set_option maxRecDepth 100000 in
theorem c_Read (ad : Option Addr) (cap : Nat) (l : List Tok) (hT : TokN l) (hTs : ∀ t ∈ l, t.s.length ≤ 1000000) (hn : l.length ≤ 999999) (i lev : Nat) (hi : i ≤ l.length) (hlev : lev ≤ 7) (w0 : World) (h0 : View) (hv : VLe h0 (Full w0)) (hl : SlC 70 4 (flatR tokC) h0 (.slice ad l.length cap) l) :
    Calls Tryz.prog 32 #[.slice ad l.length cap, .int .i64 (i : Int), .int .i64 (lev : Int)] w0 (Ret w0 h0 fun u hh => ∃ x : Option Addr × Nat, u = .tuple #[exV (readT l i lev).1 x, .int .i64 (((readT l i lev).2.1 : Nat) : Int), .int .i64 (readT l i lev).2.2] ∧ XL hh x.1 x.2 (readT l i lev).1.l) := by
  have g1 := rd_ge l (needS l lev i) lev i false hi
  unfold readT
  refine entA (args := [.slice ad l.length cap, .int .i64 (i : Int), .int .i64 (lev : Int)]) TT_ok [1000006, 1000007] [] Tryz.func32 rfl Tryz.ntmps32 rfl rfl hv (fun x => xl_m x _) ?_
  intro b6
  refine cndF (by simp; omega) ?_
  intro b31
  refine cV TT_ok 31 (fun w v h1 h2 h3 h4 h5 => c_read hT hTs hn (needS l lev i) lev i false hlev hi (Nat.le_refl _) w v h3 h4 (Mono.slF _ _ h1 hl) h5) (fun x => xl_m x _) (fun x1 => ?_)
  generalize rdF l (needS l lev i) lev i false = r at g1 ⊢
  intro b10
  refine cnd (fun h => ?_) (fun h => ?_)
  · rw [if_pos h]
    refine regQ TT_ok [0, 1, 2, 3, 4] [5, 6, 7] [6] false ?_
    refine kq ?_
    refine kq ?_
    refine kq ?_
    exact ⟨(none, 0), rfl, fun v _ _ => xl_nil v⟩
  · rw [if_neg (by rw [h]; decide)]
    refine regQ TT_ok [0, 1, 2, 3, 4] [5, 6, 7] [6] false ?_
    refine kq ?_
    refine kq ?_
    refine kq ?_
    exact ⟨x1, rfl, fun v _ hF => hF.2⟩
theorem mk_int (n m : Nat) : (if (n : Int) < m then (m : Int) else n) = ((max n m : Nat) : Int) := by
  rw [Nat.max_def]; split <;> split <;> omega
theorem c_Deep : ∀ (k : Nat) (x : Ex) (ad : Option Addr) (cap : Nat), SizeOf.sizeOf x < k → deepS x ≤ 1000000000 → ∀ (w0 : World) (h0 : View), VLe h0 (Full w0) → XL h0 ad cap x.l → Calls Tryz.prog 10 #[.agg (exC x.op x.v x.s (.slice ad x.l.length cap)).toArray] w0 (Ret w0 h0 fun u _ => u = .int .i64 (deepS x : Nat)) := by
  intro k
  induction k with
  | zero => intro x ad cap h; omega
  | succ k ih =>
    intro x ad cap hk hd w0 h0 hv hx
    have hlm := hx.lm
    refine ent (args := [.agg (exC x.op x.v x.s (.slice ad x.l.length cap)).toArray]) TT_ok [] [] Tryz.func10 rfl Tryz.ntmps10 rfl rfl hv ?_
    intro b1
    refine w_loop TT_ok (fun k : Nat => [(9, .v (.int .i64 k)), (3, .v (.int .i64 (deepL 0 (x.l.take k) : Nat)))]) 0 (fun k => k ≤ x.l.length) (fun k => x.l.length - k) ?_
    refine And.intro ⟨Nat.zero_le _, gs⟩ ?_
    intro k hkl
    refine cnd (fun h => ?_) (fun h => ?_)
    · have hin := getD_mem x.l k ex0 (by omega)
      have hsub := deep_sub hin
      refine ixE hx k (fun a2 c2 h1 h2 h3 => ?_)
      intro b5
      refine cb (fun w hw => ih (x.l.getD k ex0) a2 c2 (by have := Ex.lt hin; omega) (by omega) w h0 hw h1) ?_
      refine ew ((max (deepL 0 (x.l.take k)) (deepS (x.l.getD k ex0)) : Nat) : Int) (mk_int _ _) ?_
      refine wi ?_
      refine ⟨k + 1, ⟨by omega, by omega⟩, gs (sl := ?_)⟩
      rw [deepL_take x.l k (by omega)]
      rfl
    · have e : k = x.l.length := by omega
      subst e
      have hd2 := deep_eq x
      rw [List.take_length]
      refine wi ?_
      exact congrArg (Value.int .i64) (by rw [deep_eq]; omega)
theorem c_Parse (s : List UInt8) (hT : TokN (lexS s).1) (hTs : ∀ t ∈ (lexS s).1, t.s.length ≤ 1000000) (hn : (lexS s).1.length ≤ 999999) (hd : deepS (readT (lexS s).1 0 0).1 ≤ 1000000000) (hsl : s.length ≤ 9223372036854775807) (w0 : World) (h0 : View) (hv : VLe h0 (Full w0)) :
    Calls Tryz.prog 19 #[vs s] w0 (Ret w0 h0 fun u hh => ∃ x : Option Addr × Nat, u = .tuple #[exV (parseT s).1 x, .int .i64 (parseT s).2.1, .int .i64 (parseT s).2.2] ∧ XL hh x.1 x.2 (parseT s).1.l) := by
  unfold parseT
  refine entA (args := [vs s]) TT_ok [1000006] [] Tryz.func19 rfl Tryz.ntmps19 rfl rfl hv (fun x => xl_m x _) ?_
  intro b2
  refine cA TT_ok (fun w v h1 h2 h3 => c_Lex s w v h3) (fun _ => Mono.slF) (fun x => ?_)
  generalize lexS s = L at hT hTs hn hd ⊢
  obtain ⟨l, at_, e⟩ := L
  simp only at hT hTs hn hd ⊢
  refine cnd (fun h => ?_) (fun h => ?_)
  · rw [if_pos h]
    exact ⟨(none, 0), rfl, fun v _ _ => xl_nil v⟩
  rw [if_neg (fun hh => hh (by simpa using h))]
  refine cA TT_ok (fun w v h1 h2 h3 => c_Read x.1 x.2 l hT hTs hn 0 0 (Nat.zero_le _) (by omega) w v h3 h2.2) (fun x => xl_m x _) (fun x2 => ?_)
  generalize readT l 0 0 = r at hd ⊢
  obtain ⟨y, n, f⟩ := r
  simp only at hd ⊢
  intro b8
  refine cnd (fun h2 => ?_) (fun h2 => ?_)
  · rw [if_pos (by omega)]
    refine regQ TT_ok [0, 1, 2, 3, 4, 5] [6, 7, 8] [2] false ?_
    refine ixf (fun v hF => hF.1.2) n t0 ?_ (by omega)
    refine kq ?_
    refine kq ?_
    refine kq ?_
    exact ⟨(none, 0), rfl, fun v _ _ => xl_nil v⟩
  rw [if_neg (by omega)]
  refine cnd (fun h3 => ?_) (fun h3 => ?_)
  · rw [if_pos (by simpa using h3)]
    exact ⟨(none, 0), rfl, fun v _ _ => xl_nil v⟩
  rw [if_neg (by simpa using h3)]
  refine cf (fun w v h1 h2 h3 => c_Deep _ y x2.1 x2.2 (Nat.lt_succ_self _) hd w v h3 h2.2) ?_
  refine cnd (fun h4 => ?_) (fun h4 => ?_)
  · rw [if_pos (by omega)]
    exact ⟨(none, 0), rfl, fun v _ _ => xl_nil v⟩
  rw [if_neg (by omega)]
  exact ⟨x2, rfl, fun v _ hF => hF.2⟩

end Go.Proofs.YtpcgdhhndeanoaaGreatDoor
set_option maxRecDepth 100000
namespace Go.Proofs.YtpcgdhhndeanoaaGreatDoor
open Go Go.Dx Go.RowKit
/-- a builder of one's own: whether it was written, its buffer, its bytes, whether its text was taken -/
structure Bld where
  used : Bool
  a : Option Addr
  n : Nat
  cp : Nat
  bs : List UInt8
  fz : Bool
def bldC (b : Nat) (s : Bld) : List Value := [.pointer (if s.used then some ⟨b, 0, none⟩ else none), .slice s.a s.n s.cp]
def bldJ (T b : Nat) (s : Bld) : BL := [(900, .c b T (bldC b s)), (901, .e (bif s.fz then (s.a.map (·.block), fun _ => True) else bufE 5 1 (.slice s.a s.n s.cp) (s.bs.map v8)))]
theorem c_copyCheck {T : Nat} (hT : liesAt Tryz.prog Tryz.prog.depth T (2 / Tryz.prog.cellsOf T) 0 50 1 = true) (b : Nat) (s : Bld) (hfz : s.fz = false) (w0 : World) (h0 : View) (hv : VLe h0 (Full w0)) (hno : ∀ k ∈ ids (oes (bldJ T b s)), h0 k = none) (ho : OwnJ w0 (oes (bldJ T b s))) :
    Calls Tryz.prog 58 #[.pointer (some ⟨b, 0, none⟩)] w0 (RetJ (bldJ T b) s w0 fun u s' => u = .tuple #[] ∧ s' = { s with used := true }) := by
  obtain ⟨us, a, n, cp, bs, fz⟩ := s
  have hfz : fz = false := hfz
  subst hfz
  cases us with
  | false =>
    refine entJ (bldJ T b) _ (g := fun _ => .tuple #[]) (args := [.pointer (some ⟨b, 0, none⟩)]) TT_ok [6, 9, 10, 11] [] [.o 900 0] Tryz.func58 rfl Tryz.ntmps58 rfl rfl hv hno ho rfl ?_
    refine goPu TT_ok (.bool true) (fun w hS => pu_pnil (p := none) (e := 50) (by kernel_rfl) (ev_sl rfl rfl) rfl) ?_
    refine cndT rfl ?_
    refine goPu TT_ok (.pointer (some ⟨b, 0, none⟩)) (fun w hS => ?_) ?_
    · obtain ⟨j, hj, hjs⟩ := (SzIs.of (by kernel_rfl) : SzIs Tryz.prog 50 2)
      have hb := hS.wok.own 900 _ _ _ rfl
      exact pu_tounsafe (tt := 50) (e := T) (cells := 2) (by kernel_rfl) (by kernel_rfl) hj (by omega) (by simp [World.shape?, hb, bldC]) (by show 0 < 2; decide) (ev_sl (v := .pointer (some ⟨b, 0, none⟩)) rfl rfl)
    refine goPu TT_ok (.pointer (some ⟨b, 0, none⟩)) (fun w hS => pu_noesc Tryz.func79 (by kernel_rfl) (by kernel_rfl) (by kernel_rfl) (by kernel_rfl) (ev_sl rfl rfl)) ?_
    refine goPu TT_ok (.pointer (some ⟨b, 0, none⟩)) (fun w hS => ?_) ?_
    · obtain ⟨j, hj, hjs⟩ := (SzIs.of (by kernel_rfl) : SzIs Tryz.prog 50 2)
      have hb := hS.wok.own 900 _ _ _ rfl
      exact pu_fromunsafe (u := 50) (e := T) (cells := 2) (by kernel_rfl) (by kernel_rfl) hj (by simp [World.shape?, hb, bldC]) hT (ev_sl (v := .pointer (some ⟨b, 0, none⟩)) rfl rfl)
    exact ⟨_, rfl, rfl, rfl, rfl, rfl, trivial⟩
  | true =>
    refine entJ (bldJ T b) _ (g := fun _ => .tuple #[]) (args := [.pointer (some ⟨b, 0, none⟩)]) TT_ok [6, 19] [] [.o 900 0] Tryz.func58 rfl Tryz.ntmps58 rfl rfl hv hno ho rfl ?_
    refine goPu TT_ok (.bool false) (fun w hS => pu_pnil (p := some ⟨b, 0, none⟩) (e := 50) (by kernel_rfl) (ev_sl rfl rfl) rfl) ?_
    refine cndF rfl ?_
    refine goPu TT_ok (.bool false) (fun w hS => ?_) ?_
    · obtain ⟨j, hj, hjs⟩ := (SzIs.of (by kernel_rfl) : SzIs Tryz.prog 50 2)
      exact pu_psame (a := ⟨b, 0, none⟩) (e := 50) (by kernel_rfl) hj (ev_sl rfl rfl) (ev_sl (v := .pointer (some ⟨b, 0, none⟩)) rfl rfl)
    refine cndF rfl ?_
    exact ⟨_, rfl, rfl, rfl, rfl, rfl, trivial⟩
/-- what stands behind a writing -/
def BldW (s : Bld) (t : List UInt8) (s' : Bld) : Prop := s'.bs = s.bs ++ t ∧ s'.fz = false ∧ s'.n = s'.bs.length
theorem bufm (a : Option Addr) (n cp : Nat) (x y : List UInt8) : OB.e (bufE 5 1 (.slice a n cp) (x.map v8 ++ y.map v8)) = OB.e (bufE 5 1 (.slice a n cp) ((x ++ y).map v8)) := by rw [List.map_append]
theorem c_WriteString {T : Nat} (hT : liesAt Tryz.prog Tryz.prog.depth T (2 / Tryz.prog.cellsOf T) 0 50 1 = true) (b : Nat) (s : Bld) (t : List UInt8) (hfz : s.fz = false) (hn : s.n = s.bs.length) (hl : s.bs.length + t.length ≤ 1000000000000) (w0 : World) (h0 : View) (hv : VLe h0 (Full w0)) (hno : ∀ k ∈ ids (oes (bldJ T b s)), h0 k = none) (ho : OwnJ w0 (oes (bldJ T b s))) :
    Calls Tryz.prog 41 #[.pointer (some ⟨b, 0, none⟩), vs t] w0 (RetJ (bldJ T b) s w0 fun u s' => u = .tuple #[.int .i64 t.length, .nilIface] ∧ BldW s t s') := by
  obtain ⟨us, a, n, cp, bs, fz⟩ := s
  have hfz : fz = false := hfz
  subst hfz
  have hn : n = bs.length := hn
  have hl : bs.length + t.length ≤ 1000000000000 := hl
  refine entJ (bldJ T b) _ (g := fun _ => .tuple #[.int .i64 t.length, .nilIface]) (args := [.pointer (some ⟨b, 0, none⟩), vs t]) TT_ok [14] [] [.o 900 0, .v (vs t)] Tryz.func41 rfl Tryz.ntmps41 rfl rfl hv hno ho rfl ?_
  refine cJ TT_ok (bldJ T b) ⟨us, a, n, cp, bs, false⟩ (g := fun _ => .tuple #[]) (fun w v h1 h2 h3 h4 h5 => c_copyCheck hT b _ rfl w v h3 h4 h5) ?_
  rintro s' rfl
  refine apS TT_ok 901 (AppT.of (bytes := 1) (sz := 0) (by kernel_rfl) (by kernel_rfl) (by kernel_rfl)) rfl rfl rfl rfl (by rw [List.length_map]; show (bs.length + t.length) * 2 ≤ 140737488355328; omega) (fun a0 nn cp' hnn => ?_)
  rw [List.length_map] at hnn
  refine ⟨⟨true, a0, nn, cp', bs ++ t, false⟩, rfl, ⟨rfl, rfl, ?_⟩, rfl, rfl, ?_, trivial⟩
  · show nn = (bs ++ t).length
    rw [List.length_append]; exact hnn
  · exact congrArg some (bufm a0 nn cp' bs t)
theorem c_WriteByte {T : Nat} (hT : liesAt Tryz.prog Tryz.prog.depth T (2 / Tryz.prog.cellsOf T) 0 50 1 = true) (b : Nat) (s : Bld) (t : UInt8) (hfz : s.fz = false) (hn : s.n = s.bs.length) (hl : s.bs.length + 1 ≤ 1000000000000) (w0 : World) (h0 : View) (hv : VLe h0 (Full w0)) (hno : ∀ k ∈ ids (oes (bldJ T b s)), h0 k = none) (ho : OwnJ w0 (oes (bldJ T b s))) :
    Calls Tryz.prog 39 #[.pointer (some ⟨b, 0, none⟩), v8 t] w0 (RetJ (bldJ T b) s w0 fun u s' => u = .nilIface ∧ BldW s [t] s') := by
  obtain ⟨us, a, n, cp, bs, fz⟩ := s
  have hfz : fz = false := hfz
  subst hfz
  have hn : n = bs.length := hn
  have hl : bs.length + 1 ≤ 1000000000000 := hl
  refine entJ (bldJ T b) _ (g := fun _ => .nilIface) (args := [.pointer (some ⟨b, 0, none⟩), v8 t]) TT_ok [14] [] [.o 900 0, .v (v8 t)] Tryz.func39 rfl Tryz.ntmps39 rfl rfl hv hno ho rfl ?_
  refine cJ TT_ok (bldJ T b) ⟨us, a, n, cp, bs, false⟩ (g := fun _ => .tuple #[]) (fun w v h1 h2 h3 h4 h5 => c_copyCheck hT b _ rfl w v h3 h4 h5) ?_
  rintro s' rfl
  intro b13
  refine ap TT_ok 901 (AppT.of (bytes := 1) (sz := 0) (by kernel_rfl) (by kernel_rfl) (by kernel_rfl)) rfl rfl rfl rfl rfl rfl rfl (by rw [List.length_map]; show (bs.length + 1) * 2 ≤ 140737488355328; omega) (fun a0 nn cp' hnn => ?_)
  rw [List.length_map] at hnn
  refine ⟨⟨true, a0, nn, cp', bs ++ [t], false⟩, rfl, ⟨rfl, rfl, ?_⟩, rfl, rfl, ?_, trivial⟩
  · show nn = (bs ++ [t]).length
    rw [List.length_append]
    have hnn : nn * 1 = bs.length + 1 := hnn
    show nn = bs.length + 1
    omega
  · exact congrArg some (bufm a0 nn cp' bs [t])
theorem c_BLen {T : Nat} (hT : liesAt Tryz.prog Tryz.prog.depth T (2 / Tryz.prog.cellsOf T) 0 50 1 = true) (b : Nat) (s : Bld) (hfz : s.fz = false) (hn : s.n = s.bs.length) (w0 : World) (h0 : View) (hv : VLe h0 (Full w0)) (hno : ∀ k ∈ ids (oes (bldJ T b s)), h0 k = none) (ho : OwnJ w0 (oes (bldJ T b s))) :
    Calls Tryz.prog 22 #[.pointer (some ⟨b, 0, none⟩)] w0 (RetJ (bldJ T b) s w0 fun u s' => u = .int .i64 s.bs.length ∧ s' = s) := by
  obtain ⟨us, a, n, cp, bs, fz⟩ := s
  have hfz : fz = false := hfz
  subst hfz
  have hn : n = bs.length := hn
  subst hn
  refine entJ (bldJ T b) _ (g := fun _ => .int .i64 bs.length) (args := [.pointer (some ⟨b, 0, none⟩)]) TT_ok [] [] [.o 900 0] Tryz.func22 rfl Tryz.ntmps22 rfl rfl hv hno ho rfl ?_
  exact ⟨_, rfl, rfl, rfl, rfl, rfl, trivial⟩
theorem c_BString {T : Nat} (hT : liesAt Tryz.prog Tryz.prog.depth T (2 / Tryz.prog.cellsOf T) 0 50 1 = true) (b : Nat) (s : Bld) (hfz : s.fz = false) (hn : s.n = s.bs.length) (hne : s.bs ≠ []) (w0 : World) (h0 : View) (hv : VLe h0 (Full w0)) (hno : ∀ k ∈ ids (oes (bldJ T b s)), h0 k = none) (ho : OwnJ w0 (oes (bldJ T b s))) :
    Calls Tryz.prog 23 #[.pointer (some ⟨b, 0, none⟩)] w0 (RetJ (bldJ T b) s w0 fun u s' => u = vs s.bs ∧ s' = { s with fz := true }) := by
  obtain ⟨us, a, n, cp, bs, fz⟩ := s
  have hfz : fz = false := hfz
  subst hfz
  have hn : n = bs.length := hn
  subst hn
  have hne : bs ≠ [] := hne
  have hlen : 0 < bs.length := List.length_pos_iff.2 hne
  have hA : ∃ ad, a = some ad ∧ cp ≠ 0 := by
    have := ho.own (bufE 5 1 (.slice a bs.length cp) (bs.map v8)) (by simp [bldJ, oes, oeOf])
    rcases this with ⟨h1, _⟩ | ⟨g, off, n', cap, cur, fz, h1, _, _, _, hnc, _⟩
    · simp only [Value.slice.injEq] at h1; omega
    · simp only [Value.slice.injEq] at h1
      exact ⟨_, h1.1, by omega⟩
  obtain ⟨ad, rfl, hcp⟩ := hA
  refine entJ (bldJ T b) _ (g := fun _ => vs bs) (args := [.pointer (some ⟨b, 0, none⟩)]) TT_ok [7, 13, 1000001] [] [.o 900 0] Tryz.func23 rfl Tryz.ntmps23 rfl rfl hv hno ho rfl ?_
  refine regQ TT_ok [0, 1, 2, 3, 5, 6, 7, 8, 9] [4, 10, 11] [] true ?_
  refine goPu TT_ok (.pointer (some ad)) (fun w hS => pu_sliceData hcp (ev_sl rfl rfl)) ?_
  refine kq ?_
  refine usS TT_ok bs 901 rfl (by kernel_rfl) (by kernel_rfl) hne rfl rfl ?_
  refine kq ?_
  exact ⟨⟨us, some ad, bs.length, cp, bs, true⟩, rfl, rfl, rfl, rfl, rfl, trivial⟩

end Go.Proofs.YtpcgdhhndeanoaaGreatDoor
/-
  DERIVED: THE SHELF's CONTRACTS AT THIS DUMP, IN PLAIN WORDS (tools/lay-plain.mjs out of 'TryzShelf.lean', which tools/lay-shelf.mjs wrote): THE SAME DECLARATIONS UNDER THE SAME NAMES: 'import', 'namespace', 'open', 'def', 'theorem' AND NOTHING ELSE: no command of the shelf's: FOR A HAND-IN. Each laying: the table of numbers ('.._ren') and one theorem, a field a fact of the dump's own or the kernel's comparison; each contract: ONE APPLICATION.
-/
namespace Go.Proofs
open Go.Shelf
def Tryz.lays129_ren : Go.Shelf.Ren := ⟨fun | 129 => 99 | n => n, fun | 53 => 121 | 3 => 3 | 4 => 4 | 46 => 132 | 5 => 5 | 9 => 9 | n => n, fun | n => n⟩
theorem Tryz.lays129 : Go.Proofs.Lays.n129 Tryz.prog Tryz.lays129_ren := {
  mixed := by kernel_rfl
  f129 := Tryz.func99.trans (congrArg some (by kernel_rfl))
  t3 := Tryz.underlying3
  a3 := Tryz.isAgg3
  z3 := Tryz.sizeOf3
  v3 := Tryz.zeroValue3
  t4 := Tryz.underlying4
  a4 := Tryz.isAgg4
  z4 := Tryz.sizeOf4
  v4 := Tryz.zeroValue4
  t5 := Tryz.underlying5
  a5 := Tryz.isAgg5
  z5 := Tryz.sizeOf5
  v5 := Tryz.zeroValue5
  t9 := Tryz.underlying9
  a9 := Tryz.isAgg9
  z9 := Tryz.sizeOf9
  v9 := Tryz.zeroValue9
  t46 := Tryz.underlying132
  a46 := Tryz.isAgg132
  z46 := Tryz.sizeOf132
  v46 := Tryz.zeroValue132
  t53 := Tryz.underlying121
  a53 := Tryz.isAgg121
  z53 := Tryz.sizeOf121
  v53 := Tryz.zeroValue121 }
/-- bits.Len64: "Len64 returns the minimum number of bits required to represent x; the result is 0 for x == 0.": IT RETURNS 'Lib.bitLen x'; the world is as it was. ('h0', 'h1': x is a uint64.) (LAID: no walk: one application.) -/
theorem Tryz.bits_Len64 (x : Int) (w : World) (h0 : 0 ≤ x) (h1 : x ≤ 18446744073709551615) :
    Calls Tryz.prog 99 #[.int .u64 x] w fun e w' => e = .returned (.int .i64 (Lib.bitLen x.toNat)) ∧ w' = w := Any.bits_Len64 Tryz.lays129 x w h0 h1
def Tryz.lays317_ren : Go.Shelf.Ren := ⟨fun | 317 => 98 | n => n, fun | 3 => 3 | 46 => 132 | n => n, fun | n => n⟩
theorem Tryz.lays317 : Go.Proofs.Lays.n317 Tryz.prog Tryz.lays317_ren := {
  mixed := by kernel_rfl
  f317 := Tryz.func98.trans (congrArg some (by kernel_rfl))
  t3 := Tryz.underlying3
  a3 := Tryz.isAgg3
  z3 := Tryz.sizeOf3
  v3 := Tryz.zeroValue3
  t46 := Tryz.underlying132
  a46 := Tryz.isAgg132
  z46 := Tryz.sizeOf132
  v46 := Tryz.zeroValue132 }
open Go.Lib in
/-- internal/strconv.log10Pow2: "log10Pow2(x) returns ⌊log₁₀ 2**x⌋ = ⌊x * log₁₀ 2⌋.": '(x * 78913) >> 18', at an x up to 64 (a length in bits). The world is as it was. (LAID: no walk: one application.) -/
theorem Tryz.internal_strconv_log10Pow2 (x : Nat) (h : x ≤ 64) (w : World) :
    Calls Tryz.prog 98 #[.int .i64 x] w fun e w' => e = .returned (.int .i64 (Lib.l10 x)) ∧ w' = w := Any.internal_strconv_log10Pow2 Tryz.lays317 x h w
def Tryz.lays318_ren : Go.Shelf.Ren := ⟨fun | 318 => 100 | n => n, fun | 3 => 3 | 4 => 4 | n => n, fun | n => n⟩
theorem Tryz.lays318 : Go.Proofs.Lays.n318 Tryz.prog Tryz.lays318_ren := {
  mixed := by kernel_rfl
  f318 := Tryz.func100.trans (congrArg some (by kernel_rfl))
  t3 := Tryz.underlying3
  a3 := Tryz.isAgg3
  z3 := Tryz.sizeOf3
  v3 := Tryz.zeroValue3
  t4 := Tryz.underlying4
  a4 := Tryz.isAgg4
  z4 := Tryz.sizeOf4
  v4 := Tryz.zeroValue4 }
open Go.Lib in
/-- internal/strconv.bool2: "bool2 converts b to an integer: 1 for true, 0 for false." The world is as it was. (LAID: no walk: one application.) -/
theorem Tryz.internal_strconv_bool2_int (b : Bool) (w : World) :
    Calls Tryz.prog 100 #[.bool b] w fun e w' => e = .returned (.int .i64 (if b then 1 else 0)) ∧ w' = w := Any.internal_strconv_bool2_int Tryz.lays318 b w
def Tryz.lays283_ren : Go.Shelf.Ren := ⟨fun | 283 => 93 | n => n, fun | 3 => 3 | 9 => 9 | 4 => 4 | n => n, fun | n => n⟩
theorem Tryz.lays283 : Go.Proofs.Lays.n283 Tryz.prog Tryz.lays283_ren := {
  mixed := by kernel_rfl
  f283 := Tryz.func93.trans (congrArg some (by kernel_rfl))
  t3 := Tryz.underlying3
  a3 := Tryz.isAgg3
  z3 := Tryz.sizeOf3
  v3 := Tryz.zeroValue3
  t4 := Tryz.underlying4
  a4 := Tryz.isAgg4
  z4 := Tryz.sizeOf4
  v4 := Tryz.zeroValue4
  t9 := Tryz.underlying9
  a9 := Tryz.isAgg9
  z9 := Tryz.sizeOf9
  v9 := Tryz.zeroValue9 }
open Go.Lib in
/-- internal/strconv.small: "small returns the string for an i with 0 <= i < nSmalls.": i's decimal numeral. The world is as it was. (LAID: no walk: one application.) -/
theorem Tryz.internal_strconv_small (i : Nat) (h : i < 100) (w : World) :
    Calls Tryz.prog 93 #[.int .i64 i] w fun e w' => e = .returned (.string ⟨(Lib.decDigits i).toArray⟩) ∧ w' = w := Any.internal_strconv_small Tryz.lays283 i h w
def Tryz.laysM284_ren : Go.Shelf.Ren := ⟨fun | 284 => 94 | 129 => 99 | 317 => 98 | 318 => 100 | n => n, fun | 53 => 121 | 3 => 3 | 212 => 129 | 0 => 0 | 4 => 4 | 46 => 132 | 5 => 5 | 9 => 9 | n => n, fun | 17 => 0 | n => n⟩
theorem Tryz.laysM284 : Go.Proofs.LaysM.n284 Tryz.prog Tryz.laysM284_ren := {
  mixed := by kernel_rfl
  f129 := Tryz.func99.trans (congrArg some (by kernel_rfl))
  f284 := Tryz.func94.trans (congrArg some (by kernel_rfl))
  f317 := Tryz.func98.trans (congrArg some (by kernel_rfl))
  f318 := Tryz.func100.trans (congrArg some (by kernel_rfl))
  t0 := Tryz.underlying0
  a0 := Tryz.isAgg0
  z0 := Tryz.sizeOf0
  v0 := Tryz.zeroValue0
  t3 := Tryz.underlying3
  a3 := Tryz.isAgg3
  z3 := Tryz.sizeOf3
  v3 := Tryz.zeroValue3
  t4 := Tryz.underlying4
  a4 := Tryz.isAgg4
  z4 := Tryz.sizeOf4
  v4 := Tryz.zeroValue4
  t5 := Tryz.underlying5
  a5 := Tryz.isAgg5
  z5 := Tryz.sizeOf5
  v5 := Tryz.zeroValue5
  t9 := Tryz.underlying9
  a9 := Tryz.isAgg9
  z9 := Tryz.sizeOf9
  v9 := Tryz.zeroValue9
  t46 := Tryz.underlying132
  a46 := Tryz.isAgg132
  z46 := Tryz.sizeOf132
  v46 := Tryz.zeroValue132
  t53 := Tryz.underlying121
  a53 := Tryz.isAgg121
  z53 := Tryz.sizeOf121
  v53 := Tryz.zeroValue121
  t212 := Tryz.underlying129
  a212 := Tryz.isAgg129
  z212 := Tryz.sizeOf129
  v212 := Tryz.zeroValue129
  g17 := by kernel_rfl
  i0 := by kernel_rfl
  i3 := by kernel_rfl
  i4 := by kernel_rfl
  i5 := by kernel_rfl
  i9 := by kernel_rfl
  i46 := by kernel_rfl
  i53 := by kernel_rfl
  i212 := by kernel_rfl
  m17 := by kernel_rfl }
open Go.Lib in
/-- internal/strconv.numDigits, at a d that is not 0: THE NUMBER OF d's DECIMAL DIGITS. The world is as it was. (LAID: no walk: one application.) -/
theorem Tryz.internal_strconv_numDigits (u : Nat) (h1 : 1 ≤ u) (h2 : u < 18446744073709551616) (w : World) (htab : Lib.TabIs Tryz.prog w "internal/strconv.uint64pow10" .u64 Lib.pow10Tab) :
    Calls Tryz.prog 94 #[.int .u64 u] w fun e w' => e = .returned (.int .i64 (Lib.nDigits u)) ∧ w' = w := Any.internal_strconv_numDigits Tryz.laysM284 u h1 h2 w htab
def Tryz.lays285_ren : Go.Shelf.Ren := ⟨fun | 285 => 95 | n => n, fun | 37 => 48 | 53 => 121 | 3 => 3 | 4 => 4 | 51 => 126 | 9 => 9 | 5 => 5 | 0 => 0 | n => n, fun | n => n⟩
theorem Tryz.lays285 : Go.Proofs.Lays.n285 Tryz.prog Tryz.lays285_ren := {
  mixed := by kernel_rfl
  f285 := Tryz.func95.trans (congrArg some (by kernel_rfl))
  t0 := Tryz.underlying0
  a0 := Tryz.isAgg0
  z0 := Tryz.sizeOf0
  v0 := Tryz.zeroValue0
  t3 := Tryz.underlying3
  a3 := Tryz.isAgg3
  z3 := Tryz.sizeOf3
  v3 := Tryz.zeroValue3
  t4 := Tryz.underlying4
  a4 := Tryz.isAgg4
  z4 := Tryz.sizeOf4
  v4 := Tryz.zeroValue4
  t5 := Tryz.underlying5
  a5 := Tryz.isAgg5
  z5 := Tryz.sizeOf5
  v5 := Tryz.zeroValue5
  t9 := Tryz.underlying9
  a9 := Tryz.isAgg9
  z9 := Tryz.sizeOf9
  v9 := Tryz.zeroValue9
  t37 := Tryz.underlying48
  a37 := Tryz.isAgg48
  z37 := Tryz.sizeOf48
  v37 := Tryz.zeroValue48
  t51 := Tryz.underlying126
  a51 := Tryz.isAgg126
  z51 := Tryz.sizeOf126
  v51 := Tryz.zeroValue126
  t53 := Tryz.underlying121
  a53 := Tryz.isAgg121
  z53 := Tryz.sizeOf121
  v53 := Tryz.zeroValue121 }
open Go.RowKit Go.Sort Go.Lib in
/-- internal/strconv.formatBase10: "formatBase10 formats the decimal representation of u into a. The caller is responsible for ensuring that a is big enough to hold u. If a is too big, leading zeros will be filled in as needed.": THE ROW HOLDS u's DIGITS ('FmtInv .. 0 ..': every place t holds 'dg u (len - 1 - t)'); all else is as it was but for the count of draws. (LAID: no walk: one application.) -/
theorem Tryz.internal_strconv_formatBase10 (blk off cap : Nat) (u : Nat) (d : Array UInt8) (w : World) (hH : Holds (fun (b : UInt8) => Value.int .u8 (b.toNat : Int)) w blk off d) (hu : u < 10 ^ d.size) (hu64 : u < 18446744073709551616) (hsz : d.size < 4611686018427387904) :
    Calls Tryz.prog 95 #[.slice (some ⟨blk, off, none⟩) d.size cap, .int .u64 u] w fun e w' =>
      e = .returned (.tuple #[]) ∧ ∃ (n v' : Nat) (dk : Array UInt8), w' = (putRow (fun (b : UInt8) => Value.int .u8 (b.toNat : Int)) w blk off dk).drewN n ∧ FmtInv d.size u 0 v' dk := Any.internal_strconv_formatBase10 Tryz.lays285 blk off cap u d w hH hu hu64 hsz
def Tryz.laysM246_ren : Go.Shelf.Ren := ⟨fun | 246 => 90 | 283 => 93 | 284 => 94 | 285 => 95 | 286 => 96 | 129 => 99 | 317 => 98 | 318 => 100 | 319 => 101 | 320 => 102 | 337 => 103 | 338 => 104 | n => n, fun | 2 => 2 | 3 => 3 | 9 => 9 | 4 => 4 | 171 => 120 | 0 => 0 | 53 => 121 | 37 => 48 | 5 => 5 | 173 => 124 | 212 => 129 | 51 => 126 | 20 => 20 | 213 => 130 | 46 => 132 | 232 => 135 | 233 => 136 | n => n, fun | 17 => 0 | 18 => 1 | 19 => 2 | n => n⟩
theorem Tryz.laysM246 : Go.Proofs.LaysM.n246 Tryz.prog Tryz.laysM246_ren := {
  mixed := by kernel_rfl
  f129 := Tryz.func99.trans (congrArg some (by kernel_rfl))
  f246 := Tryz.func90.trans (congrArg some (by kernel_rfl))
  f283 := Tryz.func93.trans (congrArg some (by kernel_rfl))
  f284 := Tryz.func94.trans (congrArg some (by kernel_rfl))
  f285 := Tryz.func95.trans (congrArg some (by kernel_rfl))
  f286 := Tryz.func96.trans (congrArg some (by kernel_rfl))
  f317 := Tryz.func98.trans (congrArg some (by kernel_rfl))
  f318 := Tryz.func100.trans (congrArg some (by kernel_rfl))
  f319 := Tryz.func101.trans (congrArg some (by kernel_rfl))
  f320 := Tryz.func102.trans (congrArg some (by kernel_rfl))
  f337 := Tryz.func103.trans (congrArg some (by kernel_rfl))
  f338 := Tryz.func104.trans (congrArg some (by kernel_rfl))
  t0 := Tryz.underlying0
  a0 := Tryz.isAgg0
  z0 := Tryz.sizeOf0
  v0 := Tryz.zeroValue0
  t2 := Tryz.underlying2
  a2 := Tryz.isAgg2
  z2 := Tryz.sizeOf2
  v2 := Tryz.zeroValue2
  t3 := Tryz.underlying3
  a3 := Tryz.isAgg3
  z3 := Tryz.sizeOf3
  v3 := Tryz.zeroValue3
  t4 := Tryz.underlying4
  a4 := Tryz.isAgg4
  z4 := Tryz.sizeOf4
  v4 := Tryz.zeroValue4
  t5 := Tryz.underlying5
  a5 := Tryz.isAgg5
  z5 := Tryz.sizeOf5
  v5 := Tryz.zeroValue5
  t9 := Tryz.underlying9
  a9 := Tryz.isAgg9
  z9 := Tryz.sizeOf9
  v9 := Tryz.zeroValue9
  t20 := Tryz.underlying20
  a20 := Tryz.isAgg20
  z20 := Tryz.sizeOf20
  v20 := Tryz.zeroValue20
  t37 := Tryz.underlying48
  a37 := Tryz.isAgg48
  z37 := Tryz.sizeOf48
  v37 := Tryz.zeroValue48
  t46 := Tryz.underlying132
  a46 := Tryz.isAgg132
  z46 := Tryz.sizeOf132
  v46 := Tryz.zeroValue132
  t51 := Tryz.underlying126
  a51 := Tryz.isAgg126
  z51 := Tryz.sizeOf126
  v51 := Tryz.zeroValue126
  t53 := Tryz.underlying121
  a53 := Tryz.isAgg121
  z53 := Tryz.sizeOf121
  v53 := Tryz.zeroValue121
  t171 := Tryz.underlying120
  a171 := Tryz.isAgg120
  z171 := Tryz.sizeOf120
  v171 := Tryz.zeroValue120
  t173 := Tryz.underlying124
  a173 := Tryz.isAgg124
  z173 := Tryz.sizeOf124
  v173 := Tryz.zeroValue124
  t212 := Tryz.underlying129
  a212 := Tryz.isAgg129
  z212 := Tryz.sizeOf129
  v212 := Tryz.zeroValue129
  t213 := Tryz.underlying130
  a213 := Tryz.isAgg130
  z213 := Tryz.sizeOf130
  t232 := Tryz.underlying135
  a232 := Tryz.isAgg135
  z232 := Tryz.sizeOf135
  v232 := Tryz.zeroValue135
  t233 := Tryz.underlying136
  a233 := Tryz.isAgg136
  z233 := Tryz.sizeOf136
  v233 := Tryz.zeroValue136
  g17 := by kernel_rfl
  g18 := by kernel_rfl
  g19 := by kernel_rfl
  i0 := by kernel_rfl
  i2 := by kernel_rfl
  i3 := by kernel_rfl
  i4 := by kernel_rfl
  i5 := by kernel_rfl
  i9 := by kernel_rfl
  i20 := by kernel_rfl
  i37 := by kernel_rfl
  i46 := by kernel_rfl
  i51 := by kernel_rfl
  i53 := by kernel_rfl
  i171 := by kernel_rfl
  i173 := by kernel_rfl
  i212 := by kernel_rfl
  i232 := by kernel_rfl
  i233 := by kernel_rfl
  m17 := by kernel_rfl
  m18 := by kernel_rfl
  m19 := by kernel_rfl }
open Go.RowKit Go.Sort Go.Lib in
/-- internal/strconv.FormatInt: "FormatInt returns the string representation of i in the given base": AT BASE 10: i's decimal numeral, for every int64. The world behind the call: the world before it, new blocks behind the heap, draws. (LAID: no walk: one application.) -/
theorem Tryz.internal_strconv_FormatInt_10 (n : Int) (h0 : -9223372036854775808 ≤ n) (h1 : n ≤ 9223372036854775807) (w : World) (htab : Lib.TabIs Tryz.prog w "internal/strconv.uint64pow10" .u64 Lib.pow10Tab) :
    Calls Tryz.prog 90 #[.int .i64 n, .int .i64 10] w fun e w' => e = .returned (.string ⟨(Lib.itoa n).toArray⟩) ∧ ∃ k os, w' = grow (w.drewN k) os := Any.internal_strconv_FormatInt_10 Tryz.laysM246 n h0 h1 w htab
def Tryz.lays246_ren : Go.Shelf.Ren := ⟨fun | 246 => 90 | 283 => 93 | 284 => 94 | 285 => 95 | 286 => 96 | 129 => 99 | 317 => 98 | 318 => 100 | 319 => 101 | 320 => 102 | 337 => 103 | 338 => 104 | n => n, fun | 2 => 2 | 3 => 3 | 9 => 9 | 4 => 4 | 171 => 120 | 0 => 0 | 53 => 121 | 37 => 48 | 5 => 5 | 173 => 124 | 212 => 129 | 51 => 126 | 20 => 20 | 213 => 130 | 46 => 132 | 232 => 135 | 233 => 136 | n => n, fun | 17 => 0 | 18 => 1 | 19 => 2 | n => n⟩
theorem Tryz.lays246 : Go.Proofs.Lays.n246 Tryz.prog Tryz.lays246_ren := {
  mixed := by kernel_rfl
  f129 := Tryz.func99.trans (congrArg some (by kernel_rfl))
  f246 := Tryz.func90.trans (congrArg some (by kernel_rfl))
  f283 := Tryz.func93.trans (congrArg some (by kernel_rfl))
  f284 := Tryz.func94.trans (congrArg some (by kernel_rfl))
  f285 := Tryz.func95.trans (congrArg some (by kernel_rfl))
  f286 := Tryz.func96.trans (congrArg some (by kernel_rfl))
  f317 := Tryz.func98.trans (congrArg some (by kernel_rfl))
  f318 := Tryz.func100.trans (congrArg some (by kernel_rfl))
  f319 := Tryz.func101.trans (congrArg some (by kernel_rfl))
  f320 := Tryz.func102.trans (congrArg some (by kernel_rfl))
  f337 := Tryz.func103.trans (congrArg some (by kernel_rfl))
  f338 := Tryz.func104.trans (congrArg some (by kernel_rfl))
  t0 := Tryz.underlying0
  a0 := Tryz.isAgg0
  z0 := Tryz.sizeOf0
  v0 := Tryz.zeroValue0
  t2 := Tryz.underlying2
  a2 := Tryz.isAgg2
  z2 := Tryz.sizeOf2
  v2 := Tryz.zeroValue2
  t3 := Tryz.underlying3
  a3 := Tryz.isAgg3
  z3 := Tryz.sizeOf3
  v3 := Tryz.zeroValue3
  t4 := Tryz.underlying4
  a4 := Tryz.isAgg4
  z4 := Tryz.sizeOf4
  v4 := Tryz.zeroValue4
  t5 := Tryz.underlying5
  a5 := Tryz.isAgg5
  z5 := Tryz.sizeOf5
  v5 := Tryz.zeroValue5
  t9 := Tryz.underlying9
  a9 := Tryz.isAgg9
  z9 := Tryz.sizeOf9
  v9 := Tryz.zeroValue9
  t20 := Tryz.underlying20
  a20 := Tryz.isAgg20
  z20 := Tryz.sizeOf20
  v20 := Tryz.zeroValue20
  t37 := Tryz.underlying48
  a37 := Tryz.isAgg48
  z37 := Tryz.sizeOf48
  v37 := Tryz.zeroValue48
  t46 := Tryz.underlying132
  a46 := Tryz.isAgg132
  z46 := Tryz.sizeOf132
  v46 := Tryz.zeroValue132
  t51 := Tryz.underlying126
  a51 := Tryz.isAgg126
  z51 := Tryz.sizeOf126
  v51 := Tryz.zeroValue126
  t53 := Tryz.underlying121
  a53 := Tryz.isAgg121
  z53 := Tryz.sizeOf121
  v53 := Tryz.zeroValue121
  t171 := Tryz.underlying120
  a171 := Tryz.isAgg120
  z171 := Tryz.sizeOf120
  v171 := Tryz.zeroValue120
  t173 := Tryz.underlying124
  a173 := Tryz.isAgg124
  z173 := Tryz.sizeOf124
  v173 := Tryz.zeroValue124
  t212 := Tryz.underlying129
  a212 := Tryz.isAgg129
  z212 := Tryz.sizeOf129
  v212 := Tryz.zeroValue129
  t213 := Tryz.underlying130
  a213 := Tryz.isAgg130
  z213 := Tryz.sizeOf130
  t232 := Tryz.underlying135
  a232 := Tryz.isAgg135
  z232 := Tryz.sizeOf135
  v232 := Tryz.zeroValue135
  t233 := Tryz.underlying136
  a233 := Tryz.isAgg136
  z233 := Tryz.sizeOf136
  v233 := Tryz.zeroValue136
  g17 := by kernel_rfl
  g18 := by kernel_rfl
  g19 := by kernel_rfl }
open Go.RowKit Go.Sort Go.Lib in
/-- THE ROAD WITHOUT THE TABLE: 0 <= i < 100: two constants are read, nothing is laid: no premise on the world, and the world is as it was. (LAID: no walk: one application.) -/
theorem Tryz.internal_strconv_FormatInt_10_small (i : Nat) (hi : i < 100) (w : World) :
    Calls Tryz.prog 90 #[.int .i64 i, .int .i64 10] w fun e w' => e = .returned (.string ⟨(Lib.decDigits i).toArray⟩) ∧ w' = w := Any.internal_strconv_FormatInt_10_small Tryz.lays246 i hi w
def Tryz.laysM243_ren : Go.Shelf.Ren := ⟨fun | 243 => 80 | 246 => 90 | 283 => 93 | 284 => 94 | 285 => 95 | 286 => 96 | 129 => 99 | 317 => 98 | 318 => 100 | 319 => 101 | 320 => 102 | 337 => 103 | 338 => 104 | n => n, fun | 3 => 3 | 9 => 9 | 2 => 2 | 4 => 4 | 171 => 120 | 0 => 0 | 53 => 121 | 37 => 48 | 5 => 5 | 173 => 124 | 212 => 129 | 51 => 126 | 20 => 20 | 213 => 130 | 46 => 132 | 232 => 135 | 233 => 136 | n => n, fun | 17 => 0 | 18 => 1 | 19 => 2 | n => n⟩
theorem Tryz.laysM243 : Go.Proofs.LaysM.n243 Tryz.prog Tryz.laysM243_ren := {
  mixed := by kernel_rfl
  f129 := Tryz.func99.trans (congrArg some (by kernel_rfl))
  f243 := Tryz.func80.trans (congrArg some (by kernel_rfl))
  f246 := Tryz.func90.trans (congrArg some (by kernel_rfl))
  f283 := Tryz.func93.trans (congrArg some (by kernel_rfl))
  f284 := Tryz.func94.trans (congrArg some (by kernel_rfl))
  f285 := Tryz.func95.trans (congrArg some (by kernel_rfl))
  f286 := Tryz.func96.trans (congrArg some (by kernel_rfl))
  f317 := Tryz.func98.trans (congrArg some (by kernel_rfl))
  f318 := Tryz.func100.trans (congrArg some (by kernel_rfl))
  f319 := Tryz.func101.trans (congrArg some (by kernel_rfl))
  f320 := Tryz.func102.trans (congrArg some (by kernel_rfl))
  f337 := Tryz.func103.trans (congrArg some (by kernel_rfl))
  f338 := Tryz.func104.trans (congrArg some (by kernel_rfl))
  t0 := Tryz.underlying0
  a0 := Tryz.isAgg0
  z0 := Tryz.sizeOf0
  v0 := Tryz.zeroValue0
  t2 := Tryz.underlying2
  a2 := Tryz.isAgg2
  z2 := Tryz.sizeOf2
  v2 := Tryz.zeroValue2
  t3 := Tryz.underlying3
  a3 := Tryz.isAgg3
  z3 := Tryz.sizeOf3
  v3 := Tryz.zeroValue3
  t4 := Tryz.underlying4
  a4 := Tryz.isAgg4
  z4 := Tryz.sizeOf4
  v4 := Tryz.zeroValue4
  t5 := Tryz.underlying5
  a5 := Tryz.isAgg5
  z5 := Tryz.sizeOf5
  v5 := Tryz.zeroValue5
  t9 := Tryz.underlying9
  a9 := Tryz.isAgg9
  z9 := Tryz.sizeOf9
  v9 := Tryz.zeroValue9
  t20 := Tryz.underlying20
  a20 := Tryz.isAgg20
  z20 := Tryz.sizeOf20
  v20 := Tryz.zeroValue20
  t37 := Tryz.underlying48
  a37 := Tryz.isAgg48
  z37 := Tryz.sizeOf48
  v37 := Tryz.zeroValue48
  t46 := Tryz.underlying132
  a46 := Tryz.isAgg132
  z46 := Tryz.sizeOf132
  v46 := Tryz.zeroValue132
  t51 := Tryz.underlying126
  a51 := Tryz.isAgg126
  z51 := Tryz.sizeOf126
  v51 := Tryz.zeroValue126
  t53 := Tryz.underlying121
  a53 := Tryz.isAgg121
  z53 := Tryz.sizeOf121
  v53 := Tryz.zeroValue121
  t171 := Tryz.underlying120
  a171 := Tryz.isAgg120
  z171 := Tryz.sizeOf120
  v171 := Tryz.zeroValue120
  t173 := Tryz.underlying124
  a173 := Tryz.isAgg124
  z173 := Tryz.sizeOf124
  v173 := Tryz.zeroValue124
  t212 := Tryz.underlying129
  a212 := Tryz.isAgg129
  z212 := Tryz.sizeOf129
  v212 := Tryz.zeroValue129
  t213 := Tryz.underlying130
  a213 := Tryz.isAgg130
  z213 := Tryz.sizeOf130
  t232 := Tryz.underlying135
  a232 := Tryz.isAgg135
  z232 := Tryz.sizeOf135
  v232 := Tryz.zeroValue135
  t233 := Tryz.underlying136
  a233 := Tryz.isAgg136
  z233 := Tryz.sizeOf136
  v233 := Tryz.zeroValue136
  g17 := by kernel_rfl
  g18 := by kernel_rfl
  g19 := by kernel_rfl
  i0 := by kernel_rfl
  i2 := by kernel_rfl
  i3 := by kernel_rfl
  i4 := by kernel_rfl
  i5 := by kernel_rfl
  i9 := by kernel_rfl
  i20 := by kernel_rfl
  i37 := by kernel_rfl
  i46 := by kernel_rfl
  i51 := by kernel_rfl
  i53 := by kernel_rfl
  i171 := by kernel_rfl
  i173 := by kernel_rfl
  i212 := by kernel_rfl
  i232 := by kernel_rfl
  i233 := by kernel_rfl
  m17 := by kernel_rfl
  m18 := by kernel_rfl
  m19 := by kernel_rfl }
open Go.RowKit Go.Sort Go.Lib in
/-- internal/strconv.Itoa: "Itoa is equivalent to FormatInt(int64(i), 10).": i's decimal numeral, for every int. (LAID: no walk: one application.) -/
theorem Tryz.internal_strconv_Itoa (n : Int) (h0 : -9223372036854775808 ≤ n) (h1 : n ≤ 9223372036854775807) (w : World) (htab : Lib.TabIs Tryz.prog w "internal/strconv.uint64pow10" .u64 Lib.pow10Tab) :
    Calls Tryz.prog 80 #[.int .i64 n] w fun e w' => e = .returned (.string ⟨(Lib.itoa n).toArray⟩) ∧ ∃ k os, w' = grow (w.drewN k) os := Any.internal_strconv_Itoa Tryz.laysM243 n h0 h1 w htab
def Tryz.lays243_ren : Go.Shelf.Ren := ⟨fun | 243 => 80 | 246 => 90 | 283 => 93 | 284 => 94 | 285 => 95 | 286 => 96 | 129 => 99 | 317 => 98 | 318 => 100 | 319 => 101 | 320 => 102 | 337 => 103 | 338 => 104 | n => n, fun | 3 => 3 | 9 => 9 | 2 => 2 | 4 => 4 | 171 => 120 | 0 => 0 | 53 => 121 | 37 => 48 | 5 => 5 | 173 => 124 | 212 => 129 | 51 => 126 | 20 => 20 | 213 => 130 | 46 => 132 | 232 => 135 | 233 => 136 | n => n, fun | 17 => 0 | 18 => 1 | 19 => 2 | n => n⟩
theorem Tryz.lays243 : Go.Proofs.Lays.n243 Tryz.prog Tryz.lays243_ren := {
  mixed := by kernel_rfl
  f129 := Tryz.func99.trans (congrArg some (by kernel_rfl))
  f243 := Tryz.func80.trans (congrArg some (by kernel_rfl))
  f246 := Tryz.func90.trans (congrArg some (by kernel_rfl))
  f283 := Tryz.func93.trans (congrArg some (by kernel_rfl))
  f284 := Tryz.func94.trans (congrArg some (by kernel_rfl))
  f285 := Tryz.func95.trans (congrArg some (by kernel_rfl))
  f286 := Tryz.func96.trans (congrArg some (by kernel_rfl))
  f317 := Tryz.func98.trans (congrArg some (by kernel_rfl))
  f318 := Tryz.func100.trans (congrArg some (by kernel_rfl))
  f319 := Tryz.func101.trans (congrArg some (by kernel_rfl))
  f320 := Tryz.func102.trans (congrArg some (by kernel_rfl))
  f337 := Tryz.func103.trans (congrArg some (by kernel_rfl))
  f338 := Tryz.func104.trans (congrArg some (by kernel_rfl))
  t0 := Tryz.underlying0
  a0 := Tryz.isAgg0
  z0 := Tryz.sizeOf0
  v0 := Tryz.zeroValue0
  t2 := Tryz.underlying2
  a2 := Tryz.isAgg2
  z2 := Tryz.sizeOf2
  v2 := Tryz.zeroValue2
  t3 := Tryz.underlying3
  a3 := Tryz.isAgg3
  z3 := Tryz.sizeOf3
  v3 := Tryz.zeroValue3
  t4 := Tryz.underlying4
  a4 := Tryz.isAgg4
  z4 := Tryz.sizeOf4
  v4 := Tryz.zeroValue4
  t5 := Tryz.underlying5
  a5 := Tryz.isAgg5
  z5 := Tryz.sizeOf5
  v5 := Tryz.zeroValue5
  t9 := Tryz.underlying9
  a9 := Tryz.isAgg9
  z9 := Tryz.sizeOf9
  v9 := Tryz.zeroValue9
  t20 := Tryz.underlying20
  a20 := Tryz.isAgg20
  z20 := Tryz.sizeOf20
  v20 := Tryz.zeroValue20
  t37 := Tryz.underlying48
  a37 := Tryz.isAgg48
  z37 := Tryz.sizeOf48
  v37 := Tryz.zeroValue48
  t46 := Tryz.underlying132
  a46 := Tryz.isAgg132
  z46 := Tryz.sizeOf132
  v46 := Tryz.zeroValue132
  t51 := Tryz.underlying126
  a51 := Tryz.isAgg126
  z51 := Tryz.sizeOf126
  v51 := Tryz.zeroValue126
  t53 := Tryz.underlying121
  a53 := Tryz.isAgg121
  z53 := Tryz.sizeOf121
  v53 := Tryz.zeroValue121
  t171 := Tryz.underlying120
  a171 := Tryz.isAgg120
  z171 := Tryz.sizeOf120
  v171 := Tryz.zeroValue120
  t173 := Tryz.underlying124
  a173 := Tryz.isAgg124
  z173 := Tryz.sizeOf124
  v173 := Tryz.zeroValue124
  t212 := Tryz.underlying129
  a212 := Tryz.isAgg129
  z212 := Tryz.sizeOf129
  v212 := Tryz.zeroValue129
  t213 := Tryz.underlying130
  a213 := Tryz.isAgg130
  z213 := Tryz.sizeOf130
  t232 := Tryz.underlying135
  a232 := Tryz.isAgg135
  z232 := Tryz.sizeOf135
  v232 := Tryz.zeroValue135
  t233 := Tryz.underlying136
  a233 := Tryz.isAgg136
  z233 := Tryz.sizeOf136
  v233 := Tryz.zeroValue136
  g17 := by kernel_rfl
  g18 := by kernel_rfl
  g19 := by kernel_rfl }
open Go.RowKit Go.Sort Go.Lib in
/-- THE ROAD WITHOUT THE TABLE: 0 <= i < 100. (LAID: no walk: one application.) -/
theorem Tryz.internal_strconv_Itoa_small (i : Nat) (hi : i < 100) (w : World) :
    Calls Tryz.prog 80 #[.int .i64 i] w fun e w' => e = .returned (.string ⟨(Lib.decDigits i).toArray⟩) ∧ w' = w := Any.internal_strconv_Itoa_small Tryz.lays243 i hi w
def Tryz.laysM171_ren : Go.Shelf.Ren := ⟨fun | 171 => 59 | 243 => 80 | 246 => 90 | 283 => 93 | 284 => 94 | 285 => 95 | 286 => 96 | 129 => 99 | 317 => 98 | 318 => 100 | 319 => 101 | 320 => 102 | 337 => 103 | 338 => 104 | n => n, fun | 3 => 3 | 9 => 9 | 2 => 2 | 4 => 4 | 171 => 120 | 0 => 0 | 53 => 121 | 37 => 48 | 5 => 5 | 173 => 124 | 212 => 129 | 51 => 126 | 20 => 20 | 213 => 130 | 46 => 132 | 232 => 135 | 233 => 136 | n => n, fun | 17 => 0 | 18 => 1 | 19 => 2 | n => n⟩
theorem Tryz.laysM171 : Go.Proofs.LaysM.n171 Tryz.prog Tryz.laysM171_ren := {
  mixed := by kernel_rfl
  f129 := Tryz.func99.trans (congrArg some (by kernel_rfl))
  f171 := Tryz.func59.trans (congrArg some (by kernel_rfl))
  f243 := Tryz.func80.trans (congrArg some (by kernel_rfl))
  f246 := Tryz.func90.trans (congrArg some (by kernel_rfl))
  f283 := Tryz.func93.trans (congrArg some (by kernel_rfl))
  f284 := Tryz.func94.trans (congrArg some (by kernel_rfl))
  f285 := Tryz.func95.trans (congrArg some (by kernel_rfl))
  f286 := Tryz.func96.trans (congrArg some (by kernel_rfl))
  f317 := Tryz.func98.trans (congrArg some (by kernel_rfl))
  f318 := Tryz.func100.trans (congrArg some (by kernel_rfl))
  f319 := Tryz.func101.trans (congrArg some (by kernel_rfl))
  f320 := Tryz.func102.trans (congrArg some (by kernel_rfl))
  f337 := Tryz.func103.trans (congrArg some (by kernel_rfl))
  f338 := Tryz.func104.trans (congrArg some (by kernel_rfl))
  t0 := Tryz.underlying0
  a0 := Tryz.isAgg0
  z0 := Tryz.sizeOf0
  v0 := Tryz.zeroValue0
  t2 := Tryz.underlying2
  a2 := Tryz.isAgg2
  z2 := Tryz.sizeOf2
  v2 := Tryz.zeroValue2
  t3 := Tryz.underlying3
  a3 := Tryz.isAgg3
  z3 := Tryz.sizeOf3
  v3 := Tryz.zeroValue3
  t4 := Tryz.underlying4
  a4 := Tryz.isAgg4
  z4 := Tryz.sizeOf4
  v4 := Tryz.zeroValue4
  t5 := Tryz.underlying5
  a5 := Tryz.isAgg5
  z5 := Tryz.sizeOf5
  v5 := Tryz.zeroValue5
  t9 := Tryz.underlying9
  a9 := Tryz.isAgg9
  z9 := Tryz.sizeOf9
  v9 := Tryz.zeroValue9
  t20 := Tryz.underlying20
  a20 := Tryz.isAgg20
  z20 := Tryz.sizeOf20
  v20 := Tryz.zeroValue20
  t37 := Tryz.underlying48
  a37 := Tryz.isAgg48
  z37 := Tryz.sizeOf48
  v37 := Tryz.zeroValue48
  t46 := Tryz.underlying132
  a46 := Tryz.isAgg132
  z46 := Tryz.sizeOf132
  v46 := Tryz.zeroValue132
  t51 := Tryz.underlying126
  a51 := Tryz.isAgg126
  z51 := Tryz.sizeOf126
  v51 := Tryz.zeroValue126
  t53 := Tryz.underlying121
  a53 := Tryz.isAgg121
  z53 := Tryz.sizeOf121
  v53 := Tryz.zeroValue121
  t171 := Tryz.underlying120
  a171 := Tryz.isAgg120
  z171 := Tryz.sizeOf120
  v171 := Tryz.zeroValue120
  t173 := Tryz.underlying124
  a173 := Tryz.isAgg124
  z173 := Tryz.sizeOf124
  v173 := Tryz.zeroValue124
  t212 := Tryz.underlying129
  a212 := Tryz.isAgg129
  z212 := Tryz.sizeOf129
  v212 := Tryz.zeroValue129
  t213 := Tryz.underlying130
  a213 := Tryz.isAgg130
  z213 := Tryz.sizeOf130
  t232 := Tryz.underlying135
  a232 := Tryz.isAgg135
  z232 := Tryz.sizeOf135
  v232 := Tryz.zeroValue135
  t233 := Tryz.underlying136
  a233 := Tryz.isAgg136
  z233 := Tryz.sizeOf136
  v233 := Tryz.zeroValue136
  g17 := by kernel_rfl
  g18 := by kernel_rfl
  g19 := by kernel_rfl
  i0 := by kernel_rfl
  i2 := by kernel_rfl
  i3 := by kernel_rfl
  i4 := by kernel_rfl
  i5 := by kernel_rfl
  i9 := by kernel_rfl
  i20 := by kernel_rfl
  i37 := by kernel_rfl
  i46 := by kernel_rfl
  i51 := by kernel_rfl
  i53 := by kernel_rfl
  i171 := by kernel_rfl
  i173 := by kernel_rfl
  i212 := by kernel_rfl
  i232 := by kernel_rfl
  i233 := by kernel_rfl
  m17 := by kernel_rfl
  m18 := by kernel_rfl
  m19 := by kernel_rfl }
open Go.RowKit Go.Sort Go.Lib in
/-- strconv.Itoa: "Itoa is equivalent to FormatInt(int64(i), 10).": i's DECIMAL NUMERAL ('Lib.itoa': a '-' where i is negative, then the digits), FOR EVERY int. The world behind the call: the world before it, new blocks behind the heap (the library's 'var a [24]byte'), draws. (LAID: no walk: one application.) -/
theorem Tryz.strconv_Itoa (n : Int) (h0 : -9223372036854775808 ≤ n) (h1 : n ≤ 9223372036854775807) (w : World) (htab : Lib.TabIs Tryz.prog w "internal/strconv.uint64pow10" .u64 Lib.pow10Tab) :
    Calls Tryz.prog 59 #[.int .i64 n] w fun e w' => e = .returned (.string ⟨(Lib.itoa n).toArray⟩) ∧ ∃ k os, w' = grow (w.drewN k) os := Any.strconv_Itoa Tryz.laysM171 n h0 h1 w htab
def Tryz.lays171_ren : Go.Shelf.Ren := ⟨fun | 171 => 59 | 243 => 80 | 246 => 90 | 283 => 93 | 284 => 94 | 285 => 95 | 286 => 96 | 129 => 99 | 317 => 98 | 318 => 100 | 319 => 101 | 320 => 102 | 337 => 103 | 338 => 104 | n => n, fun | 3 => 3 | 9 => 9 | 2 => 2 | 4 => 4 | 171 => 120 | 0 => 0 | 53 => 121 | 37 => 48 | 5 => 5 | 173 => 124 | 212 => 129 | 51 => 126 | 20 => 20 | 213 => 130 | 46 => 132 | 232 => 135 | 233 => 136 | n => n, fun | 17 => 0 | 18 => 1 | 19 => 2 | n => n⟩
theorem Tryz.lays171 : Go.Proofs.Lays.n171 Tryz.prog Tryz.lays171_ren := {
  mixed := by kernel_rfl
  f129 := Tryz.func99.trans (congrArg some (by kernel_rfl))
  f171 := Tryz.func59.trans (congrArg some (by kernel_rfl))
  f243 := Tryz.func80.trans (congrArg some (by kernel_rfl))
  f246 := Tryz.func90.trans (congrArg some (by kernel_rfl))
  f283 := Tryz.func93.trans (congrArg some (by kernel_rfl))
  f284 := Tryz.func94.trans (congrArg some (by kernel_rfl))
  f285 := Tryz.func95.trans (congrArg some (by kernel_rfl))
  f286 := Tryz.func96.trans (congrArg some (by kernel_rfl))
  f317 := Tryz.func98.trans (congrArg some (by kernel_rfl))
  f318 := Tryz.func100.trans (congrArg some (by kernel_rfl))
  f319 := Tryz.func101.trans (congrArg some (by kernel_rfl))
  f320 := Tryz.func102.trans (congrArg some (by kernel_rfl))
  f337 := Tryz.func103.trans (congrArg some (by kernel_rfl))
  f338 := Tryz.func104.trans (congrArg some (by kernel_rfl))
  t0 := Tryz.underlying0
  a0 := Tryz.isAgg0
  z0 := Tryz.sizeOf0
  v0 := Tryz.zeroValue0
  t2 := Tryz.underlying2
  a2 := Tryz.isAgg2
  z2 := Tryz.sizeOf2
  v2 := Tryz.zeroValue2
  t3 := Tryz.underlying3
  a3 := Tryz.isAgg3
  z3 := Tryz.sizeOf3
  v3 := Tryz.zeroValue3
  t4 := Tryz.underlying4
  a4 := Tryz.isAgg4
  z4 := Tryz.sizeOf4
  v4 := Tryz.zeroValue4
  t5 := Tryz.underlying5
  a5 := Tryz.isAgg5
  z5 := Tryz.sizeOf5
  v5 := Tryz.zeroValue5
  t9 := Tryz.underlying9
  a9 := Tryz.isAgg9
  z9 := Tryz.sizeOf9
  v9 := Tryz.zeroValue9
  t20 := Tryz.underlying20
  a20 := Tryz.isAgg20
  z20 := Tryz.sizeOf20
  v20 := Tryz.zeroValue20
  t37 := Tryz.underlying48
  a37 := Tryz.isAgg48
  z37 := Tryz.sizeOf48
  v37 := Tryz.zeroValue48
  t46 := Tryz.underlying132
  a46 := Tryz.isAgg132
  z46 := Tryz.sizeOf132
  v46 := Tryz.zeroValue132
  t51 := Tryz.underlying126
  a51 := Tryz.isAgg126
  z51 := Tryz.sizeOf126
  v51 := Tryz.zeroValue126
  t53 := Tryz.underlying121
  a53 := Tryz.isAgg121
  z53 := Tryz.sizeOf121
  v53 := Tryz.zeroValue121
  t171 := Tryz.underlying120
  a171 := Tryz.isAgg120
  z171 := Tryz.sizeOf120
  v171 := Tryz.zeroValue120
  t173 := Tryz.underlying124
  a173 := Tryz.isAgg124
  z173 := Tryz.sizeOf124
  v173 := Tryz.zeroValue124
  t212 := Tryz.underlying129
  a212 := Tryz.isAgg129
  z212 := Tryz.sizeOf129
  v212 := Tryz.zeroValue129
  t213 := Tryz.underlying130
  a213 := Tryz.isAgg130
  z213 := Tryz.sizeOf130
  t232 := Tryz.underlying135
  a232 := Tryz.isAgg135
  z232 := Tryz.sizeOf135
  v232 := Tryz.zeroValue135
  t233 := Tryz.underlying136
  a233 := Tryz.isAgg136
  z233 := Tryz.sizeOf136
  v233 := Tryz.zeroValue136
  g17 := by kernel_rfl
  g18 := by kernel_rfl
  g19 := by kernel_rfl }
open Go.RowKit Go.Sort Go.Lib in
/-- THE ROAD WITHOUT THE TABLE: 0 <= i < 100: NO PREMISE ON THE WORLD, AND THE WORLD IS AS IT WAS: a row that keeps its argument in that range need list no table ('laid = []'). (LAID: no walk: one application.) -/
theorem Tryz.strconv_Itoa_small (i : Nat) (hi : i < 100) (w : World) :
    Calls Tryz.prog 59 #[.int .i64 i] w fun e w' => e = .returned (.string ⟨(Lib.decDigits i).toArray⟩) ∧ w' = w := Any.strconv_Itoa_small Tryz.lays171 i hi w
end Go.Proofs
set_option maxRecDepth 100000
namespace Go.Proofs.YtpcgdhhndeanoaaGreatDoor
open Go Go.Dx Go.RowKit
/-- a builder under a name of one's own -/
def bldK (k T b : Nat) (s : Bld) : BL := [(k, .c b T (bldC b s)), (901, .e (bif s.fz then (s.a.map (·.block), fun _ => True) else bufE 5 1 (.slice s.a s.n s.cp) (s.bs.map v8)))]
/-- the buffer alone -/
def bufJ (s : Bld) : BL := [(901, .e (bufE 5 1 (.slice s.a s.n s.cp) (s.bs.map v8)))]
theorem c_AppendRune (s : Bld) (t : UInt8) (ht : t.toNat < 128) (hl : s.bs.length + 1 ≤ 1000000000000) (w0 : World) (h0 : View) (hv : VLe h0 (Full w0)) (hno : ∀ k ∈ ids (oes (bufJ s)), h0 k = none) (ho : OwnJ w0 (oes (bufJ s))) :
    Calls Tryz.prog 91 #[.slice s.a s.n s.cp, .int .i32 t.toNat] w0 (RetJ bufJ s w0 fun u s' => u = .slice s'.a s'.n s'.cp ∧ s'.bs = s.bs ++ [t] ∧ s'.fz = s.fz ∧ s'.used = s.used ∧ s'.n = s'.bs.length) := by
  obtain ⟨us, a, n, cp, bs, fz⟩ := s
  have hl : bs.length + 1 ≤ 1000000000000 := hl
  refine entJ bufJ _ (g := fun s' => .slice s'.a s'.n s'.cp) (args := [.slice a n cp, .int .i32 t.toNat]) TT_ok [] [] [.v (.slice a n cp), .v (.int .i32 t.toNat)] Tryz.func91 rfl Tryz.ntmps91 rfl rfl hv hno ho rfl ?_
  refine ew (t.toNat : Int) (wrap_u32 (by omega) (by omega)) ?_
  refine cndT (decide_eq_true (show (t.toNat : Int) ≤ 127 by omega)) ?_
  refine ew (t.toNat : Int) (wrap_u8 (by omega) (by omega)) ?_
  intro b13
  refine ap TT_ok 901 (AppT.of (bytes := 1) (sz := 0) (by kernel_rfl) (by kernel_rfl) (by kernel_rfl)) rfl rfl rfl rfl rfl rfl rfl (by rw [List.length_map]; show (bs.length + 1) * 2 ≤ 140737488355328; omega) (fun a0 nn cp' hnn => ?_)
  rw [List.length_map] at hnn
  refine ⟨⟨us, a0, nn, cp', bs ++ [t], fz⟩, rfl, ⟨rfl, rfl, rfl, ?_⟩, rfl, ?_, trivial⟩
  · show nn = (bs ++ [t]).length
    rw [List.length_append]
    have hnn : nn * 1 = bs.length + 1 := hnn
    show nn = bs.length + 1
    omega
  · exact congrArg some (bufm a0 nn cp' bs [t])
theorem c_WriteRune {T : Nat} (hT : liesAt Tryz.prog Tryz.prog.depth T (2 / Tryz.prog.cellsOf T) 0 50 1 = true) (b : Nat) (s : Bld) (t : UInt8) (ht : t.toNat < 128) (hfz : s.fz = false) (hn : s.n = s.bs.length) (hl : s.bs.length + 1 ≤ 1000000000000) (w0 : World) (h0 : View) (hv : VLe h0 (Full w0)) (hno : ∀ k ∈ ids (oes (bldJ T b s)), h0 k = none) (ho : OwnJ w0 (oes (bldJ T b s))) :
    Calls Tryz.prog 81 #[.pointer (some ⟨b, 0, none⟩), .int .i32 t.toNat] w0 (RetJ (bldJ T b) s w0 fun u s' => u = .tuple #[.int .i64 1, .nilIface] ∧ BldW s [t] s') := by
  obtain ⟨us, a, n, cp, bs, fz⟩ := s
  have hfz : fz = false := hfz
  subst hfz
  have hn : n = bs.length := hn
  have hl : bs.length + 1 ≤ 1000000000000 := hl
  refine entJ (bldJ T b) _ (g := fun _ => .tuple #[.int .i64 1, .nilIface]) (args := [.pointer (some ⟨b, 0, none⟩), .int .i32 t.toNat]) TT_ok [] [] [.o 900 0, .v (.int .i32 t.toNat)] Tryz.func81 rfl Tryz.ntmps81 rfl rfl hv hno ho rfl ?_
  refine cJ TT_ok (bldJ T b) ⟨us, a, n, cp, bs, false⟩ (g := fun _ => .tuple #[]) (fun w v h1 h2 h3 h4 h5 => c_copyCheck hT b _ rfl w v h3 h4 h5) ?_
  rintro s' rfl
  refine cJ TT_ok bufJ ⟨true, a, n, cp, bs, false⟩ (g := fun s' => .slice s'.a s'.n s'.cp) (fun w v h1 h2 h3 h4 h5 => c_AppendRune _ t ht hl w v h3 h4 h5) ?_ (hl := ⟨rfl, trivial⟩)
  rintro ⟨us', a', n', cp', bs', fz'⟩ ⟨e1, e2, e3, e4⟩
  have q1 : bs' = bs ++ [t] := e1
  have q2 : fz' = false := e2
  have q4 : n' = bs'.length := e4
  clear e1 e2 e3 e4
  subst q1; subst q2
  have hn1 : (n' : Int) - n = 1 := by rw [q4, hn, List.length_append]; simp; omega
  refine wi ?_ (by show _ ≤ (n' : Int) - (n : Int) ∧ (n' : Int) - (n : Int) ≤ _; omega)
  exact ⟨⟨true, a', n', cp', bs ++ [t], false⟩, congrArg (fun z => Value.tuple #[.int .i64 z, .nilIface]) hn1, ⟨rfl, rfl, q4⟩, rfl, rfl, rfl, trivial⟩
theorem u8i {b : UInt8} {m : Nat} (hm : m < 256) : ((b.toNat : Int) = (m : Int)) ↔ b = UInt8.ofNat m :=
  ⟨fun h => UInt8.toNat_inj.1 (by rw [byte_lo hm]; omega), fun h => by rw [h, byte_lo hm]⟩
theorem bld_lies : liesAt Tryz.prog Tryz.prog.depth 50 (2 / Tryz.prog.cellsOf 50) 0 50 1 = true := by kernel_rfl
theorem plain_128 {s : List UInt8} (hp : plainS s = true) : ∀ b ∈ s, b.toNat < 128 := by
  intro b hb
  simp only [plainS, Bool.and_eq_true, List.all_eq_true, decide_eq_true_eq] at hp
  have := (hp.2 b hb).2
  omega
theorem c_quote (s : List UInt8) (hp : plainS s = true) (w0 : World) (h0 : View) (hv : VLe h0 (Full w0)) : Calls Tryz.prog 60 #[vs s] w0 (Ret w0 h0 fun u _ => u = vs (quS s)) := by
  have h4 := plain_40 hp
  have hfl : ∀ k : Nat, ((s.take k).flatMap qB).length ≤ 80 := fun k => Nat.le_trans (flat_len _) (by rw [List.length_take]; omega)
  refine ent (args := [vs s]) TT_ok [6] [10] Tryz.func60 rfl Tryz.ntmps60 rfl rfl hv ?_
  intro b
  refine ⟨rfl, nilW 901 5 1 (goW TT_ok ?_)⟩
  refine cJ TT_ok (bldK 3 50 b) ⟨false, none, 0, 0, [], false⟩ (g := fun _ => .nilIface) (fun w v h1 h2 h3 h4 h5 => c_WriteByte bld_lies b _ 34 rfl rfl (by decide) w v h3 h4 h5) ?_
  rintro x0 ⟨e1, e2, e3⟩
  refine rgS TT_ok 902 (fun ib => ?_)
  refine w_loopB TT_ok (fun _ : Nat × Bld => []) (fun z => bldK 3 50 b z.2 ++ [(902, .e (some ib, IterC s z.1))]) (0, x0) (fun z => z.1 ≤ s.length ∧ z.2.bs = 34 :: (s.take z.1).flatMap qB ∧ z.2.fz = false ∧ z.2.n = z.2.bs.length) (fun z => s.length - z.1) ?_
  refine And.intro ⟨⟨Nat.zero_le _, e1, e2, e3⟩, gsJ ⟨rfl, rfl, rfl, trivial⟩⟩ ?_
  rintro ⟨k, x⟩ ⟨hk, e1, e2, e3⟩
  have e1 : x.bs = 34 :: (s.take k).flatMap qB := e1
  have e2 : x.fz = false := e2
  have e3 : x.n = x.bs.length := e3
  have hk : k ≤ s.length := hk
  have hxl : x.bs.length ≤ 81 := by rw [e1, List.length_cons]; have := hfl k; omega
  refine nxS TT_ok 902 (fun h => ?_) (fun h => ?_)
  · have hb := plain_128 hp _ (getD_mem s k 0 h)
    have ed := decode_lo h hb
    have hsn := flat_snoc s k h
    have q34 : ((s.getD k 0).toNat : Int) = 34 ↔ s.getD k 0 = 34 := u8i (m := 34) (by decide)
    have q92 : ((s.getD k 0).toNat : Int) = 92 ↔ s.getD k 0 = 92 := u8i (m := 92) (by decide)
    rw [ed]
    refine cndT rfl ?_
    have esc : ∀ y : Bld, (s.getD k 0 = 34 ∨ s.getD k 0 = 92) → BldW x [92] y → y.bs ++ [s.getD k 0] = 34 :: (s.take (k + 1)).flatMap qB ∧ y.fz = false ∧ y.n = y.bs.length := fun y hq ⟨f1, f2, f3⟩ =>
      ⟨by rw [f1, e1, hsn, qB, if_pos hq]; simp, f2, f3⟩
    refine w_cutB TT_ok (fun _ : Bld => []) (fun y => bldK 3 50 b y ++ [(902, .e (some ib, IterC s (k + 1)))]) (fun y => y.bs ++ [s.getD k 0] = 34 :: (s.take (k + 1)).flatMap qB ∧ y.fz = false ∧ y.n = y.bs.length) ?_
    refine And.intro ?_ ?_
    · refine cnd (fun h1 => ?_) (fun h1 => ?_)
      · refine cJ TT_ok (bldK 3 50 b) x (g := fun _ => .nilIface) (fun w v h1 h2 h3 h4 h5 => c_WriteByte bld_lies b _ 92 e2 e3 (by omega) w v h3 h4 h5) ?_
        intro y hy
        exact ⟨y, esc y (.inl (q34.1 h1)) hy, gsJ ⟨rfl, rfl, rfl, trivial⟩⟩
      · refine cnd (fun h2 => ?_) (fun h2 => ?_)
        · refine cJ TT_ok (bldK 3 50 b) x (g := fun _ => .nilIface) (fun w v h1 h2 h3 h4 h5 => c_WriteByte bld_lies b _ 92 e2 e3 (by omega) w v h3 h4 h5) ?_
          intro y hy
          exact ⟨y, esc y (.inr (q92.1 h2)) hy, gsJ ⟨rfl, rfl, rfl, trivial⟩⟩
        · exact ⟨x, ⟨by rw [e1, hsn, qB, if_neg (fun hq => hq.elim (fun q => h1 (q34.2 q)) fun q => h2 (q92.2 q))]; simp, e2, e3⟩, gsJ ⟨rfl, rfl, rfl, trivial⟩⟩
    · rintro y ⟨f1, f2, f3⟩
      have hl : y.bs.length + 1 ≤ 1000000000000 := by
        have := congrArg List.length f1
        have := hfl (k + 1)
        simp only [List.length_append, List.length_cons, List.length_nil] at *; omega
      refine cJ TT_ok (bldK 3 50 b) y (g := fun _ => .tuple #[.int .i64 1, .nilIface]) (fun w v h1 h2 h3 h4 h5 => c_WriteRune bld_lies b _ (s.getD k 0) hb f2 f3 hl w v h3 h4 h5) ?_
      rintro z ⟨g1, g2, g3⟩
      exact ⟨(k + 1, z), ⟨⟨by show k + 1 ≤ _; omega, by rw [g1, f1], g2, g3⟩, by show s.length - (k + 1) < s.length - k; omega⟩, gsJ ⟨rfl, rfl, rfl, trivial⟩⟩
  · refine cndF rfl ?_
    refine cJ TT_ok (bldK 3 50 b) x (g := fun _ => .nilIface) (fun w v h1 h2 h3 h4 h5 => c_WriteByte bld_lies b _ 34 e2 e3 (by omega) w v h3 h4 h5) ?_
    rintro y ⟨f1, f2, f3⟩
    have ey : y.bs = quS s := by
      rw [f1, e1, List.take_of_length_le (by omega), quS_eq]
    refine cJ TT_ok (bldK 3 50 b) y (g := fun _ => vs (quS s)) (fun w v h1 h2 h3 h4 h5 => by rw [← ey]; exact c_BString bld_lies b _ f2 f3 (by rw [ey]; exact List.cons_ne_nil _ _) w v h3 h4 h5) ?_
    intro z _
    exact rfl
/-- the table of powers of ten, as it was laid -/
noncomputable def powG : Nat := (Tryz.prog.globalNamed "internal/strconv.uint64pow10").getD 0
def PowV (h : View) : Prop := ∃ (T : TypeId) (fz : Nat × Nat), h powG = some (.cells (Lib.pow10Tab.map fun z => Value.int .u64 z).toArray T fz)
theorem pow_tab {h : View} {w : World} (hp : PowV h) (hv : VLe h (Full w)) : Lib.TabIs Tryz.prog w "internal/strconv.uint64pow10" .u64 Lib.pow10Tab := by
  obtain ⟨T, fz, hg⟩ := hp
  have hw : w.heap[powG]? = _ := hv _ _ hg
  have hn : Tryz.prog.globalNamed "internal/strconv.uint64pow10" = some powG := by kernel_rfl
  unfold Lib.TabIs World.var?
  rw [hn, Option.bind_some, hw]
theorem c_Itoa (n : Int) (hn : I64 n) (w0 : World) (h0 : View) (hv : VLe h0 (Full w0)) (hp : PowV h0) : Calls Tryz.prog 59 #[.int .i64 n] w0 (Ret w0 h0 fun u _ => u = vs (Lib.itoa n)) := by
  refine calls_below ((Tryz.strconv_Itoa n hn.1 hn.2 w0 (pow_tab hp hv)).mono ?_)
  rintro e w' ⟨rfl, k, os, rfl⟩
  exact ⟨rfl, Lib.below_grow _ _ (Nat.le_refl _) k os⟩
theorem c_FB (b : Bool) (w0 : World) (h0 : View) (hv : VLe h0 (Full w0)) : Calls Tryz.prog 82 #[.bool b] w0 (Ret w0 h0 fun u _ => u = vs (boolS b)) := by
  refine ent (args := [.bool b]) TT_ok [] [] Tryz.func82 rfl Tryz.ntmps82 rfl rfl hv ?_
  refine cnd (fun h => ?_) (fun h => ?_)
  · rw [h]; exact rfl
  · rw [h]; exact rfl
theorem c_FormatBool (b : Bool) (w0 : World) (h0 : View) (hv : VLe h0 (Full w0)) : Calls Tryz.prog 61 #[.bool b] w0 (Ret w0 h0 fun u _ => u = vs (boolS b)) := by
  refine ent (args := [.bool b]) TT_ok [] [] Tryz.func61 rfl Tryz.ntmps61 rfl rfl hv ?_
  refine cl (c_FB b) ?_
  exact rfl
theorem itoa_len' {n : Int} (h : I64 n) : (Lib.itoa n).length ≤ 21 := Lib.itoa_length_le n h.1 h.2
theorem c_VText (v : Val) (hvb : valB v) (w0 : World) (h0 : View) (hv : VLe h0 (Full w0)) (hp : PowV h0) : Calls Tryz.prog 40 #[.agg (valC v).toArray] w0 (Ret w0 h0 fun u _ => u = tsV (txR v)) := by
  refine ent (args := [.agg (valC v).toArray]) TT_ok [] [] Tryz.func40 rfl Tryz.ntmps40 rfl rfl hv ?_
  intro b
  refine cl (c_VCheck v hvb) ?_
  refine cnd (fun h => ?_) (fun h => ?_)
  · have h2 : valOk v = false := by
      cases h3 : valOk v
      · rfl
      · rw [h3] at h; exact absurd rfl h
    have e : txR v = ([], 2) := by rw [txR, h2]; rfl
    rw [e, h2]; exact rfl
  · have hok : valOk v = true := by
      cases h3 : valOk v
      · rw [h3] at h; exact absurd h (by decide)
      · rfl
    rw [show txR v = (txS v, 0) by rw [txR, if_pos hok]]
    refine cnd (fun h1 => ?_) (fun h1 => ?_)
    · refine cb (fun w hw => c_Itoa v.n hvb.2 w h0 hw hp) ?_
      rw [txS, if_pos h1]; exact rfl
    · refine cnd (fun h2 => ?_) (fun h2 => ?_)
      · have hpl : plainS v.s = true := by
          rcases valOk_cases hok with ⟨q, _⟩ | ⟨q, _⟩ | ⟨_, _, q⟩ | ⟨q, _⟩ <;> first | exact q | omega
        refine cl (c_quote v.s hpl) ?_
        rw [txS, if_neg h1, if_pos h2]; exact rfl
      · refine cnd (fun h3 => ?_) (fun h3 => ?_)
        · refine cl (c_FormatBool (decide (v.n = 1))) ?_
          rw [txS, if_neg h1, if_neg h2, if_pos h3]; exact rfl
        · rw [txS, if_neg h1, if_neg h2, if_neg h3]; exact rfl

end Go.Proofs.YtpcgdhhndeanoaaGreatDoor
set_option maxRecDepth 100000
namespace Go.Proofs.YtpcgdhhndeanoaaGreatDoor
open Go Go.Dx Go.RowKit
theorem c_level (x : Ex) (ad : Option Addr) (cap : Nat) (w0 : World) (h0 : View) (hv : VLe h0 (Full w0)) : Calls Tryz.prog 38 #[.agg (exC x.op x.v x.s (.slice ad x.l.length cap)).toArray] w0 (Ret w0 h0 fun u _ => u = .int .i64 (levS x.op)) := by
  refine ent (args := [.agg (exC x.op x.v x.s (.slice ad x.l.length cap)).toArray]) TT_ok [] [] Tryz.func38 rfl Tryz.ntmps38 rfl rfl hv ?_
  intro b1
  refine cnd (fun h => ?_) (fun h => ?_)
  · exact congrArg (Value.int .i64) (by rw [levS, if_pos h])
  refine cnd (fun h2 => ?_) (fun h2 => ?_)
  · exact congrArg (Value.int .i64) (by rw [levS, if_neg h, if_pos h2])
  refine cnd (fun h3 => ?_) (fun h3 => ?_)
  · refine cndT (decide_eq_true h3) ?_
    exact congrArg (Value.int .i64) (by rw [levS, if_neg h, if_neg h2, if_pos (.inl h3)])
  refine cnd (fun h4 => ?_) (fun h4 => ?_)
  · exact congrArg (Value.int .i64) (by rw [levS, if_neg h, if_neg h2, if_pos (.inr h4)])
  refine cl (c_find x.op) ?_
  show Value.int .i64 (findS x.op).2.2 = _
  rw [levS, if_neg h, if_neg h2, if_neg (fun q => q.elim h3 h4)]
theorem wr_lies : liesAt Tryz.prog Tryz.prog.depth 52 (2 / Tryz.prog.cellsOf 52) 0 50 1 = true := by kernel_rfl
theorem bw_nil {s s' : Bld} {t u : List UInt8} (h : BldW s t s') (e : t = u) : BldW s u s' := e ▸ h
theorem bw_cat {s s1 s2 : Bld} {t u : List UInt8} (h : BldW s t s1) (h2 : BldW s1 u s2) : BldW s (t ++ u) s2 := ⟨by rw [h2.1, h.1, List.append_assoc], h2.2.1, h2.2.2⟩
theorem bw_len {s s1 : Bld} {t : List UInt8} (h : BldW s t s1) : s1.bs.length = s.bs.length + t.length := by rw [h.1, List.length_append]
theorem ar_if : ArrB Tryz.prog 79 [(0, 1), (1, 1), (2, 1)] [vs [], vs [], vs []] := ArrB.of (m := 3) (e := 9) (sz := 1) (by kernel_rfl) (by kernel_rfl) (by kernel_rfl) (by decide)
theorem pow_m {h h' : View} (hle : VLe h h') (hp : PowV h) : PowV h' := by
  obtain ⟨T, fz, hg⟩ := hp
  exact ⟨T, fz, hle _ _ hg⟩
noncomputable def mzS (x : Ex) (m : Int) : Nat := 2 * SizeOf.sizeOf x + if levS x.op < m then 1 else 0
set_option maxHeartbeats 2000000 in
theorem c_put : ∀ (k : Nat) (x : Ex) (ad : Option Addr) (cap : Nat) (m : Int), mzS x m < k → -1000 ≤ m ∧ m ≤ 1000 → rightS x = true → ∀ (b : Nat) (s : Bld), s.fz = false → s.n = s.bs.length → s.bs.length + (putS x m).length ≤ 1000000000000 →
    ∀ (w0 : World) (h0 : View), VLe h0 (Full w0) → (∀ k ∈ ids (oes (bldJ 52 b s)), h0 k = none) → OwnJ w0 (oes (bldJ 52 b s)) → GX h0 ad cap x → PowV h0 →
    Calls Tryz.prog 21 #[.pointer (some ⟨b, 0, none⟩), .agg (exC x.op x.v x.s (.slice ad x.l.length cap)).toArray, .int .i64 m] w0 (RetJ (bldJ 52 b) s w0 fun u s' => u = .tuple #[] ∧ BldW s (putS x m) s') := by
  intro k
  induction k with
  | zero => intro x ad cap m h; omega
  | succ k ih =>
  intro x ad cap m hk hm hr b s hfz hn hl w0 h0 hv hno ho hx hp
  have hsm := hx.sm.parts
  have hlm := hx.xl.lm
  have hre := hr
  rw [right_eq] at hre
  simp only [Bool.and_eq_true, decide_eq_true_eq] at hre
  refine entJ (bldJ 52 b) _ (g := fun _ => .tuple #[]) (args := [.pointer (some ⟨b, 0, none⟩), .agg (exC x.op x.v x.s (.slice ad x.l.length cap)).toArray, .int .i64 m]) TT_ok [97, 101, 1000017, 1000011, 1000012] [10] [.o 900 0, .v (.agg (exC x.op x.v x.s (.slice ad x.l.length cap)).toArray), .v (.int .i64 m)] Tryz.func21 rfl Tryz.ntmps21 rfl rfl hv hno ho rfl ?_
  intro b4
  refine cl (c_level x ad cap) ?_
  refine cnd (fun h => ?_) (fun h => ?_)
  · have e0 := bodyX_0 x
    have e1 : putS x m = [40] ++ putS x 0 ++ [41] := by rw [put_eq, if_pos h, e0]; rfl
    rw [e1] at hl
    simp only [List.length_append, List.length_cons, List.length_nil] at hl
    refine cJ TT_ok (bldJ 52 b) s (g := fun _ => .nilIface) (fun w v h1 h2 h3 h4 h5 => c_WriteByte wr_lies b _ 40 hfz hn (by omega) w v h3 h4 h5) ?_
    intro s1 g1
    have n1 := bw_len g1
    simp only [List.length_cons, List.length_nil] at n1
    refine cJ TT_ok (bldJ 52 b) s1 (g := fun _ => .tuple #[]) (fun w v h1 h2 h3 h4 h5 => ih x ad cap 0 (by have := lev_lo x.op; unfold mzS at hk ⊢; rw [if_pos h] at hk; rw [if_neg (by omega)]; omega) (by omega) hr b s1 g1.2.1 g1.2.2 (by omega) w v h3 h4 h5 (hx.mono h1) (pow_m h1 hp)) ?_
    intro s2 g2
    have n2 := bw_len g2
    refine cJ TT_ok (bldJ 52 b) s2 (g := fun _ => .nilIface) (fun w v h1 h2 h3 h4 h5 => c_WriteByte wr_lies b _ 41 g2.2.1 g2.2.2 (by omega) w v h3 h4 h5) ?_
    intro s3 g3
    exact ⟨s3, rfl, by rw [e1]; exact bw_cat (bw_cat g1 g2) g3, rfl, rfl, rfl, trivial⟩
  have eb := put_lv h
  rw [eb] at hl ⊢
  have ebb : bodyX x = bodyS x.op x.v x.s (putL x.l (msS x.op)) := rfl
  have kz : ∀ (j : Nat) (m' : Int), j < x.l.length → mzS (x.l.getD j ex0) m' < k := fun j m' hj => by
    have := Ex.lt (getD_mem x.l j ex0 hj)
    unfold mzS at hk ⊢
    rw [if_neg h] at hk
    split <;> omega
  have kr : ¬ x.op = 1 → ¬ x.op = 2 → ∀ j, j < x.l.length → rightS (x.l.getD j ex0) = true := fun n1 n2 j hj => by
    have := hre.2
    rw [if_neg n1, if_neg n2] at this
    simp only [Bool.and_eq_true, List.all_eq_true] at this
    exact this.2 _ (getD_mem x.l j ex0 hj)
  have kx : ∀ j, j < x.l.length → ∀ v a2 c2, VLe h0 v → XL h0 a2 c2 (x.l.getD j ex0).l → i64 (x.l.getD j ex0).op → valB (x.l.getD j ex0).v → GX v a2 c2 (x.l.getD j ex0) := fun j hj v a2 c2 h1 g1 g2 g3 => (⟨g1, g2, g3, hsm.2.2.2 _ (getD_mem x.l j ex0 hj)⟩ : GX h0 a2 c2 (x.l.getD j ex0)).mono h1
  refine cnd (fun h1 => ?_) (fun h1 => ?_)
  · rw [bodyS, if_pos h1] at ebb
    rw [ebb] at hl ⊢
    refine cb (fun w hw => c_VText x.v hx.v w h0 hw hp) ?_
    refine cJ TT_ok (bldJ 52 b) s (g := fun _ => .tuple #[.int .i64 (txR x.v).1.length, .nilIface]) (fun w v h1 h2 h3 h4 h5 => c_WriteString wr_lies b _ _ hfz hn hl w v h3 h4 h5) ?_
    intro s1 g1
    exact ⟨s1, rfl, g1, rfl, rfl, rfl, trivial⟩
  refine cnd (fun h2 => ?_) (fun h2 => ?_)
  · rw [bodyS, if_neg h1, if_pos h2] at ebb
    rw [ebb] at hl ⊢
    refine regQ TT_ok [0, 1, 2, 3, 4] [5] [900, 901] true ?_
    refine cJ TT_ok (bldJ 52 b) s (g := fun _ => .tuple #[.int .i64 x.s.length, .nilIface]) (fun w v h1 h2 h3 h4 h5 => c_WriteString wr_lies b _ _ hfz hn hl w v h3 h4 h5) ?_
    intro s1 g1
    exact ⟨s1, rfl, g1, rfl, rfl, rfl, trivial⟩
  refine cnd (fun h3 => ?_) (fun h3 => ?_)
  · have hc : x.l.length = 1 := by have := hre.1; rw [h3] at this; simp [cntS] at this; omega
    rw [bodyS, if_neg h1, if_neg h2, if_pos h3, putL_get _ _ 0 (by omega) (by rw [msS, if_pos h3]; decide), show (msS x.op).getD 0 0 = 6 by rw [msS, if_pos h3]; rfl] at ebb
    rw [ebb] at hl ⊢
    simp only [List.length_cons] at hl
    refine cJ TT_ok (bldJ 52 b) s (g := fun _ => .nilIface) (fun w v h1 h2 h3 h4 h5 => c_WriteByte wr_lies b _ 45 hfz hn (by omega) w v h3 h4 h5) ?_
    intro s1 g1
    have n1 := bw_len g1
    simp only [List.length_cons, List.length_nil] at n1
    refine ixE hx.xl 0 (fun a2 c2 q1 q2 q3 => ?_)
    refine cJ TT_ok (bldJ 52 b) s1 (g := fun _ => .tuple #[]) (fun w v h6 _ h8 h9 h10 => ih _ a2 c2 6 (kz 0 6 (by omega)) (by omega) (kr h1 h2 0 (by omega)) b s1 g1.2.1 g1.2.2 (by omega) w v h8 h9 h10 (kx 0 (by omega) v a2 c2 h6 q1 q2 q3) (pow_m h6 hp)) ?_
    intro s2 g2
    exact ⟨s2, rfl, bw_cat g1 g2, rfl, rfl, rfl, trivial⟩
  refine cnd (fun h4 => ?_) (fun h4 => ?_)
  · have hc : x.l.length = 3 := by have := hre.1; rw [h4] at this; simp [cntS] at this; omega
    have em : msS x.op = [0, 0, 0] := by rw [msS, if_neg h3, if_pos h4]
    have c0 : (putL x.l (msS x.op)).getD 0 [] = putS (x.l.getD 0 ex0) 0 := by rw [putL_get _ _ 0 (by omega) (by rw [em]; decide), em]; rfl
    have c1 : (putL x.l (msS x.op)).getD 1 [] = putS (x.l.getD 1 ex0) 0 := by rw [putL_get _ _ 1 (by omega) (by rw [em]; decide), em]; rfl
    have c2 : (putL x.l (msS x.op)).getD 2 [] = putS (x.l.getD 2 ex0) 0 := by rw [putL_get _ _ 2 (by omega) (by rw [em]; decide), em]; rfl
    rw [bodyS, if_neg h1, if_neg h2, if_neg h3, if_pos h4, c0, c1, c2] at ebb
    have eb2 : bodyX x = (ifW ++ putS (x.l.getD 0 ex0) 0) ++ (thenW ++ putS (x.l.getD 1 ex0) 0) ++ (elseW ++ putS (x.l.getD 2 ex0) 0) := by rw [ebb]; simp only [List.append_assoc]
    rw [eb2] at hl ⊢
    simp only [List.length_append] at hl
    let pt : Nat → List UInt8 := fun k => match k with
      | 0 => []
      | 1 => ifW ++ putS (x.l.getD 0 ex0) 0
      | 2 => (ifW ++ putS (x.l.getD 0 ex0) 0) ++ (thenW ++ putS (x.l.getD 1 ex0) 0)
      | _ => (ifW ++ putS (x.l.getD 0 ex0) 0) ++ (thenW ++ putS (x.l.getD 1 ex0) 0) ++ (elseW ++ putS (x.l.getD 2 ex0) 0)
    refine goPu TT_ok (.agg (List.toArray [vs ifW, vs thenW, vs elseW])) (fun w hS => pu_build_ar (vsl := [vs ifW, vs thenW, vs elseW]) ar_if rfl rfl) ?_
    refine w_loopB TT_ok (fun z : Nat × Bld => [(98, .v (.int .i64 z.1))]) (fun z => bldJ 52 b z.2 ++ [(4, .c b4 28 (exC x.op x.v x.s (.slice ad x.l.length cap)))]) (0, s) (fun z => z.1 ≤ 3 ∧ BldW s (pt z.1) z.2) (fun z => 3 - z.1) ?_
    refine And.intro ⟨⟨Nat.zero_le _, by show s.bs = s.bs ++ []; rw [List.append_nil], hfz, hn⟩, gsJ ⟨rfl, rfl, rfl, trivial⟩⟩ ?_
    rintro ⟨j, y⟩ ⟨hj, hy⟩
    have hj : j ≤ 3 := hj
    have hj4 : j = 0 ∨ j = 1 ∨ j = 2 ∨ j = 3 := by omega
    rcases hj4 with rfl | rfl | rfl | rfl
    · have hy : BldW s [] y := hy
      have n1 := bw_len hy
      simp only [List.length_nil, List.length_append] at n1
      refine cndT rfl ?_
      refine goPu TT_ok (vs ifW) (fun w hS => pu_index_ar (e := 9) (nn := 3) (i := 0) (cs := [vs ifW, vs thenW, vs elseW]) ⟨by kernel_rfl, SzIs.of (by kernel_rfl)⟩ (OneT.of (by kernel_rfl)) rfl rfl (by decide) (by decide) rfl) ?_
      refine cJ TT_ok (bldJ 52 b) y (g := fun _ => .tuple #[.int .i64 ifW.length, .nilIface]) (fun w v h1 h2 h3 h4 h5 => c_WriteString wr_lies b _ ifW hy.2.1 hy.2.2 (by omega) w v h3 h4 h5) ?_
      intro s1 g1
      have n2 := bw_len g1
      refine ixE hx.xl 0 (fun a2 c2 q1 q2 q3 => ?_)
      refine cJ TT_ok (bldJ 52 b) s1 (g := fun _ => .tuple #[]) (fun w v h6 _ h8 h9 h10 => ih _ a2 c2 0 (kz 0 0 (by omega)) (by omega) (kr h1 h2 0 (by omega)) b s1 g1.2.1 g1.2.2 (by omega) w v h8 h9 h10 (kx 0 (by omega) v a2 c2 h6 q1 q2 q3) (pow_m h6 hp)) ?_
      intro s2 g2
      refine wi ?_ (by show _ ≤ ((0 : Nat) : Int) + 1 ∧ ((0 : Nat) : Int) + 1 ≤ _; decide)
      exact ⟨(1, s2), ⟨⟨(by show (1 : Nat) ≤ 3; decide), bw_nil (bw_cat (bw_cat hy g1) g2) (by simp only [List.append_assoc, List.nil_append]; rfl)⟩, (by show 3 - 1 < 3 - 0; decide)⟩, gsJ ⟨rfl, rfl, rfl, trivial⟩⟩
    · have hy : BldW s (ifW ++ putS (x.l.getD 0 ex0) 0) y := hy
      have n1 := bw_len hy
      simp only [List.length_nil, List.length_append] at n1
      refine cndT rfl ?_
      refine goPu TT_ok (vs thenW) (fun w hS => pu_index_ar (e := 9) (nn := 3) (i := 1) (cs := [vs ifW, vs thenW, vs elseW]) ⟨by kernel_rfl, SzIs.of (by kernel_rfl)⟩ (OneT.of (by kernel_rfl)) rfl rfl (by decide) (by decide) rfl) ?_
      refine cJ TT_ok (bldJ 52 b) y (g := fun _ => .tuple #[.int .i64 thenW.length, .nilIface]) (fun w v h1 h2 h3 h4 h5 => c_WriteString wr_lies b _ thenW hy.2.1 hy.2.2 (by omega) w v h3 h4 h5) ?_
      intro s1 g1
      have n2 := bw_len g1
      refine ixE hx.xl 1 (fun a2 c2 q1 q2 q3 => ?_)
      refine cJ TT_ok (bldJ 52 b) s1 (g := fun _ => .tuple #[]) (fun w v h6 _ h8 h9 h10 => ih _ a2 c2 0 (kz 1 0 (by omega)) (by omega) (kr h1 h2 1 (by omega)) b s1 g1.2.1 g1.2.2 (by omega) w v h8 h9 h10 (kx 1 (by omega) v a2 c2 h6 q1 q2 q3) (pow_m h6 hp)) ?_
      intro s2 g2
      refine wi ?_ (by show _ ≤ ((1 : Nat) : Int) + 1 ∧ ((1 : Nat) : Int) + 1 ≤ _; decide)
      exact ⟨(2, s2), ⟨⟨(by show (2 : Nat) ≤ 3; decide), bw_nil (bw_cat (bw_cat hy g1) g2) (by simp only [List.append_assoc]; show _ = _ ++ _; simp only [List.append_assoc])⟩, (by show 3 - 2 < 3 - 1; decide)⟩, gsJ ⟨rfl, rfl, rfl, trivial⟩⟩
    · have hy : BldW s ((ifW ++ putS (x.l.getD 0 ex0) 0) ++ (thenW ++ putS (x.l.getD 1 ex0) 0)) y := hy
      have n1 := bw_len hy
      simp only [List.length_nil, List.length_append] at n1
      refine cndT rfl ?_
      refine goPu TT_ok (vs elseW) (fun w hS => pu_index_ar (e := 9) (nn := 3) (i := 2) (cs := [vs ifW, vs thenW, vs elseW]) ⟨by kernel_rfl, SzIs.of (by kernel_rfl)⟩ (OneT.of (by kernel_rfl)) rfl rfl (by decide) (by decide) rfl) ?_
      refine cJ TT_ok (bldJ 52 b) y (g := fun _ => .tuple #[.int .i64 elseW.length, .nilIface]) (fun w v h1 h2 h3 h4 h5 => c_WriteString wr_lies b _ elseW hy.2.1 hy.2.2 (by omega) w v h3 h4 h5) ?_
      intro s1 g1
      have n2 := bw_len g1
      refine ixE hx.xl 2 (fun a2 c2 q1 q2 q3 => ?_)
      refine cJ TT_ok (bldJ 52 b) s1 (g := fun _ => .tuple #[]) (fun w v h6 _ h8 h9 h10 => ih _ a2 c2 0 (kz 2 0 (by omega)) (by omega) (kr h1 h2 2 (by omega)) b s1 g1.2.1 g1.2.2 (by omega) w v h8 h9 h10 (kx 2 (by omega) v a2 c2 h6 q1 q2 q3) (pow_m h6 hp)) ?_
      intro s2 g2
      refine wi ?_ (by show _ ≤ ((2 : Nat) : Int) + 1 ∧ ((2 : Nat) : Int) + 1 ≤ _; decide)
      exact ⟨(3, s2), ⟨⟨(by show (3 : Nat) ≤ 3; decide), bw_nil (bw_cat (bw_cat hy g1) g2) (by simp only [List.append_assoc]; show _ = _ ++ _; simp only [List.append_assoc])⟩, (by show 3 - 3 < 3 - 2; decide)⟩, gsJ ⟨rfl, rfl, rfl, trivial⟩⟩
    · refine cndF rfl ?_
      exact ⟨y, rfl, hy, rfl, rfl, rfl, trivial⟩
  · have hop : 4 ≤ x.op ∧ x.op ≤ 15 := by
      have := hre.1
      unfold cntS at this
      rw [if_neg (by omega), if_neg h3, if_neg h4] at this
      split at this
      · assumption
      · omega
    have hc : x.l.length = 2 := by have := hre.1; rw [cntS, if_neg (by omega), if_neg h3, if_neg h4, if_pos hop] at this; omega
    have em : msS x.op = [if (findS x.op).2.2 = 3 then 4 else (findS x.op).2.2, (findS x.op).2.2 + 1] := by rw [msS, if_neg h3, if_neg h4]
    have c0 : (putL x.l (msS x.op)).getD 0 [] = putS (x.l.getD 0 ex0) (if (findS x.op).2.2 = 3 then 4 else (findS x.op).2.2) := by rw [putL_get _ _ 0 (by omega) (by rw [em]; simp), em]; rfl
    have c1 : (putL x.l (msS x.op)).getD 1 [] = putS (x.l.getD 1 ex0) ((findS x.op).2.2 + 1) := by rw [putL_get _ _ 1 (by omega) (by rw [em]; simp), em]; rfl
    rw [bodyS, if_neg h1, if_neg h2, if_neg h3, if_neg h4, c0, c1] at ebb
    rw [ebb] at hl ⊢
    have flo := find_lo x.op
    simp only [List.length_append] at hl
    refine cl (c_find x.op) ?_
    generalize hfd : findS x.op = fd at *
    obtain ⟨fo, fs, fl⟩ := fd
    simp only at hl flo ⊢
    intro b10
    refine w_cut TT_ok (fun _ : Unit => [(11, .v (.int .i64 (if fl = 3 then 4 else fl)))]) (fun _ => True) ?_
    refine And.intro ?_ ?_
    · refine cnd (fun h5 => ?_) (fun h5 => ?_)
      · refine wi ?_
        exact ⟨(), trivial, gs (by rw [if_pos h5, h5]; rfl)⟩
      · exact ⟨(), trivial, gs (by rw [if_neg h5]; rfl)⟩
    intro _ _
    refine ixE hx.xl 0 (fun a2 c2 q1 q2 q3 => ?_)
    refine cJ TT_ok (bldJ 52 b) s (g := fun _ => .tuple #[]) (fun w v h6 _ h8 h9 h10 => ih _ a2 c2 (if fl = 3 then 4 else fl) (kz 0 _ (by omega)) (by split <;> omega) (kr h1 h2 0 (by omega)) b s hfz hn (by omega) w v h8 h9 h10 (kx 0 (by omega) v a2 c2 h6 q1 q2 q3) (pow_m h6 hp)) ?_
    intro s1 g1
    have n1 := bw_len g1
    refine regQ TT_ok [0, 1, 2, 3, 4, 5, 6] [7] [900, 901] true ?_
    refine ct ?_ (by simp only [List.length_cons, List.length_nil]; omega)
    refine ct ?_ (by simp only [List.length_append, List.length_cons, List.length_nil]; omega)
    simp only [List.length_cons, List.length_nil] at hl
    refine cJ TT_ok (bldJ 52 b) s1 (g := fun _ => .tuple #[.int .i64 (32 :: fs ++ [32]).length, .nilIface]) (fun w v h1 h2 h3 h4 h5 => c_WriteString wr_lies b _ (32 :: fs ++ [32]) g1.2.1 g1.2.2 (by simp only [List.length_append, List.length_cons, List.length_nil]; omega) w v h3 h4 h5) ?_
    intro s2 g2
    have n2 := bw_len g2
    simp only [List.length_append, List.length_cons, List.length_nil] at n2
    refine regQ TT_ok [0, 1, 2, 3, 4, 5, 6, 7] [8] [900, 901] true ?_
    refine ixE hx.xl 1 (fun a3 c3 q4 q5 q6 => ?_)
    refine wi ?_ (by show _ ≤ fl + 1 ∧ fl + 1 ≤ _; omega)
    refine cJ TT_ok (bldJ 52 b) s2 (g := fun _ => .tuple #[]) (fun w v h6 _ h8 h9 h10 => ih _ a3 c3 (fl + 1) (kz 1 _ (by omega)) (by omega) (kr h1 h2 1 (by omega)) b s2 g2.2.1 g2.2.2 (by omega) w v h8 h9 h10 (kx 1 (by omega) v a3 c3 h6 q4 q5 q6) (pow_m h6 hp)) ?_
    intro s3 g3
    exact ⟨s3, rfl, bw_cat (bw_cat g1 g2) g3, rfl, rfl, rfl, trivial⟩

end Go.Proofs.YtpcgdhhndeanoaaGreatDoor
set_option maxRecDepth 100000
namespace Go.Proofs.YtpcgdhhndeanoaaGreatDoor
open Go Go.Dx Go.RowKit
set_option maxHeartbeats 1000000 in
theorem c_Text (x : Ex) (ad : Option Addr) (cap : Nat) (hd : deepS x ≤ 1000000000) (w0 : World) (h0 : View) (hv : VLe h0 (Full w0)) (hx : GX h0 ad cap x) (hp : PowV h0) :
    Calls Tryz.prog 6 #[.agg (exC x.op x.v x.s (.slice ad x.l.length cap)).toArray] w0 (Ret w0 h0 fun u _ => u = tsV (textT x)) := by
  refine ent (args := [.agg (exC x.op x.v x.s (.slice ad x.l.length cap)).toArray]) TT_ok [15] [] Tryz.func6 rfl Tryz.ntmps6 rfl rfl hv ?_
  intro b1
  refine cb (fun w hw => c_right _ x ad cap (Nat.lt_succ_self _) w h0 hw hx) ?_
  refine cnd (fun h => ?_) (fun h => ?_)
  · have h : rightS x = false := by simpa using h
    rw [textT, if_pos h]; exact rfl
  have hr : rightS x = true := by simpa using h
  refine cb (fun w hw => c_Deep _ x ad cap (Nat.lt_succ_self _) hd w h0 hw hx.xl) ?_
  refine cnd (fun h2 => ?_) (fun h2 => ?_)
  · rw [textT, if_neg (by rw [hr]; decide), if_pos (by omega)]; exact rfl
  have hln := put_len (XL.rx hx.xl ⟨hx.op, hx.v⟩) hr 0
  have h12 : 4 ^ deepS x ≤ 4 ^ 12 := Nat.pow_le_pow_right (by decide) (by omega)
  have h12 : 4 ^ deepS x ≤ 16777216 := h12
  rw [textT, if_neg (by rw [hr]; decide), if_neg (by omega)]
  intro b14
  refine ⟨rfl, nilW 901 5 1 (goW TT_ok ?_)⟩
  refine cJ TT_ok (bldK 14 52 b14) ⟨false, none, 0, 0, [], false⟩ (g := fun _ => .tuple #[]) (fun w v h1 h2 h3 h4 h5 => c_put _ x ad cap 0 (Nat.lt_succ_self _) (by omega) hr b14 ⟨false, none, 0, 0, [], false⟩ rfl rfl (by show 0 + _ ≤ _; omega) w v h3 h4 h5 (hx.mono h1) (pow_m h1 hp)) ?_
  intro s1 g1
  have e1 : s1.bs = putS x 0 := g1.1
  refine cJ TT_ok (bldK 14 52 b14) s1 (g := fun _ => .int .i64 s1.bs.length) (Ψ := fun s' => s' = s1) (fun w v h1 h2 h3 h4 h5 => c_BLen wr_lies b14 _ g1.2.1 g1.2.2 w v h3 h4 h5) ?_
  rintro s2 rfl
  refine cnd (fun h3 => ?_) (fun h3 => ?_)
  · rw [if_pos (by rw [← e1]; omega)]; exact rfl
  rw [if_neg (by rw [← e1]; omega)]
  have hne : s2.bs ≠ [] := by rw [e1, bodyX_0]; exact body_pos hx.v hr
  refine cJ TT_ok (bldK 14 52 b14) s2 (g := fun _ => vs s2.bs) (Ψ := fun s' => s' = { s2 with fz := true }) (fun w v h1 h2 h3 h4 h5 => c_BString wr_lies b14 _ g1.2.1 g1.2.2 hne w v h3 h4 h5) ?_
  intro s3 _
  rw [← e1]
  exact rfl
theorem c_EqualF (l : List Ex) (ad ad2 : Option Addr) (cap cap2 : Nat) (w0 : World) (h0 : View) (hv : VLe h0 (Full w0)) (hx : XL h0 ad cap l) (hy : XL h0 ad2 cap2 l)
    (hp : ∀ j, j < l.length → ∀ a2 c2 a3 c3, XL h0 a2 c2 (l.getD j ex0).l → XL h0 a3 c3 (l.getD j ex0).l → ∀ w, VLe h0 (Full w) → Calls Tryz.prog 15 #[.agg (exC (l.getD j ex0).op (l.getD j ex0).v (l.getD j ex0).s (.slice a2 (l.getD j ex0).l.length c2)).toArray, .agg (exC (l.getD j ex0).op (l.getD j ex0).v (l.getD j ex0).s (.slice a3 (l.getD j ex0).l.length c3)).toArray] w (Ret w h0 fun u _ => u = .bool true)) :
    Calls Tryz.prog 30 #[.slice ad l.length cap, .slice ad2 l.length cap2, .func (.func 15) #[] #[]] w0 (Ret w0 h0 fun u _ => u = .bool true) := by
  have hlm := hx.lm
  refine ent (args := [.slice ad l.length cap, .slice ad2 l.length cap2, .func (.func 15) #[] #[]]) TT_ok [] [] Tryz.func30 rfl Tryz.ntmps30 rfl rfl hv ?_
  refine cndF (by simp) ?_
  refine w_loop TT_ok (fun k : Nat => [(17, .v (.int .i64 k))]) 0 (fun k => k ≤ l.length) (fun k => l.length - k) ?_
  refine And.intro ⟨Nat.zero_le _, gs⟩ ?_
  intro k hk
  refine cnd (fun h => ?_) (fun h => ?_)
  · refine ixE hx k (fun a2 c2 h1 _ _ => ?_)
    intro b8
    refine ixE hy k (fun a3 c3 h2 _ _ => ?_)
    intro b9
    refine cb (fun w hw => hp k (by omega) a2 c2 a3 c3 h1 h2 w hw) ?_
    refine cndF rfl ?_
    refine wi ?_
    exact ⟨k + 1, ⟨by omega, by omega⟩, gs⟩
  · exact rfl
set_option maxHeartbeats 1000000 in
/-- Same: two pictures of one expression -/
theorem c_Same : ∀ (k : Nat) (x : Ex) (ad ad2 : Option Addr) (cap cap2 : Nat), SizeOf.sizeOf x < k → ∀ (w0 : World) (h0 : View), VLe h0 (Full w0) → XL h0 ad cap x.l → XL h0 ad2 cap2 x.l → Calls Tryz.prog 15 #[.agg (exC x.op x.v x.s (.slice ad x.l.length cap)).toArray, .agg (exC x.op x.v x.s (.slice ad2 x.l.length cap2)).toArray] w0 (Ret w0 h0 fun u _ => u = .bool true) := by
  intro k
  induction k with
  | zero => intro x _ _ _ _ h; omega
  | succ k ih =>
    intro x ad ad2 cap cap2 hk w0 h0 hv hx hy
    have hlm := hx.lm
    refine ent (args := [.agg (exC x.op x.v x.s (.slice ad x.l.length cap)).toArray, .agg (exC x.op x.v x.s (.slice ad2 x.l.length cap2)).toArray]) TT_ok [] [] Tryz.func15 rfl Tryz.ntmps15 rfl rfl hv ?_
    intro b2 b3
    refine aqg eqV x.v x.v ?_
    refine cbg (fun _ w hw => c_EqualF x.l ad ad2 cap cap2 w h0 hw hx hy (fun j hj a2 c2 a3 c3 g1 g2 w hw => ih _ a2 a3 c2 c3 (by have := Ex.lt (getD_mem x.l j ex0 hj); omega) w h0 hw g1 g2)) ?_
    exact congrArg Value.bool (by simp)
set_option maxHeartbeats 1000000 in
theorem c_RSame : ∀ (k : Nat) (x : Ex) (ad ad2 : Option Addr) (cap cap2 : Nat), SizeOf.sizeOf x < k → ∀ (w0 : World) (h0 : View), VLe h0 (Full w0) → XL h0 ad cap x.l → XL h0 ad2 cap2 x.l → Calls Tryz.prog 16 #[.agg (exC x.op x.v x.s (.slice ad x.l.length cap)).toArray, .agg (exC x.op x.v x.s (.slice ad2 x.l.length cap2)).toArray] w0 (Ret w0 h0 fun u _ => u = .bool true) := by
  intro k
  induction k with
  | zero => intro x _ _ _ _ h; omega
  | succ k ih =>
    intro x ad ad2 cap cap2 hk w0 h0 hv hx hy
    have hlm := hx.lm
    refine ent (args := [.agg (exC x.op x.v x.s (.slice ad x.l.length cap)).toArray, .agg (exC x.op x.v x.s (.slice ad2 x.l.length cap2)).toArray]) TT_ok [] [] Tryz.func16 rfl Tryz.ntmps16 rfl rfl hv ?_
    intro b2 b3
    refine aqg eqV x.v x.v ?_
    refine cndF (by simp) ?_
    refine w_loop TT_ok (fun k : Nat => [(5, .v (.int .i64 k))]) 0 (fun k => k ≤ x.l.length) (fun k => x.l.length - k) ?_
    refine And.intro ⟨Nat.zero_le _, gs⟩ ?_
    intro j hj
    refine cnd (fun h => ?_) (fun h => ?_)
    · refine And.intro (by kernel_rfl) ?_
      refine ixE hx j (fun a2 c2 g1 _ _ => ?_)
      refine ixE hy j (fun a3 c3 g2 _ _ => ?_)
      refine cb (fun w hw => ih _ a2 a3 c2 c3 (by have := Ex.lt (getD_mem x.l j ex0 (by omega)); omega) w h0 hw g1 g2) ?_
      refine cndF rfl ?_
      refine wi ?_
      exact ⟨j + 1, ⟨by omega, by omega⟩, gs⟩
    · exact rfl
theorem c_RDeep : ∀ (k : Nat) (x : Ex) (ad : Option Addr) (cap : Nat), SizeOf.sizeOf x < k → deepS x ≤ 1000000000 → ∀ (w0 : World) (h0 : View), VLe h0 (Full w0) → XL h0 ad cap x.l → Calls Tryz.prog 11 #[.agg (exC x.op x.v x.s (.slice ad x.l.length cap)).toArray] w0 (Ret w0 h0 fun u _ => u = .int .i64 (deepS x : Nat)) := by
  intro k
  induction k with
  | zero => intro x ad cap h; omega
  | succ k ih =>
    intro x ad cap hk hd w0 h0 hv hx
    have hlm := hx.lm
    refine ent (args := [.agg (exC x.op x.v x.s (.slice ad x.l.length cap)).toArray]) TT_ok [] [] Tryz.func11 rfl Tryz.ntmps11 rfl rfl hv ?_
    intro b1
    refine w_loop TT_ok (fun k : Nat => [(4, .v (.int .i64 k)), (3, .v (.int .i64 (deepL 0 (x.l.take k) : Nat)))]) 0 (fun k => k ≤ x.l.length) (fun k => x.l.length - k) ?_
    refine And.intro ⟨Nat.zero_le _, gs⟩ ?_
    intro k hkl
    refine cnd (fun h => ?_) (fun h => ?_)
    · have hin := getD_mem x.l k ex0 (by omega)
      have hsub := deep_sub hin
      refine ixE hx k (fun a2 c2 h1 h2 h3 => ?_)
      refine cb (fun w hw => ih (x.l.getD k ex0) a2 c2 (by have := Ex.lt hin; omega) (by omega) w h0 hw h1) ?_
      refine cnd (fun h4 => ?_) (fun h4 => ?_)
      · refine wi ?_
        refine ⟨k + 1, ⟨by omega, by omega⟩, gs (sl := ?_)⟩
        rw [deepL_take x.l k (by omega), Nat.max_eq_right (by omega)]
        rfl
      · refine wi ?_
        refine ⟨k + 1, ⟨by omega, by omega⟩, gs (sl := ?_)⟩
        rw [deepL_take x.l k (by omega), Nat.max_eq_left (by omega)]
        rfl
    · have e : k = x.l.length := by omega
      subst e
      have hd2 := deep_eq x
      rw [List.take_length]
      refine wi ?_
      exact congrArg (Value.int .i64) (by rw [deep_eq]; omega)

end Go.Proofs.YtpcgdhhndeanoaaGreatDoor
set_option maxRecDepth 100000
namespace Go.Proofs.YtpcgdhhndeanoaaGreatDoor
open Go Go.Dx Go.RowKit
theorem c_ParseE {s : List UInt8} {x : Ex} {at' e : Int} (he : parseT s = (x, at', e)) (hsl : s.length ≤ 9223372036854775807) (w0 : World) (h0 : View) (hv : VLe h0 (Full w0)) :
    Calls Tryz.prog 19 #[vs s] w0 (Ret w0 h0 fun u hh => ∃ a : Option Addr × Nat, u = .tuple #[exV x a, .int .i64 at', .int .i64 e] ∧ XL hh a.1 a.2 x.l) := by
  obtain ⟨f1, f2, f3, f4⟩ := lex_facts s
  have := c_Parse s f1 f2 f3 f4 hsl w0 h0 hv
  rw [he] at this; exact this
theorem ex_right : rightS exX = true := by kernel_rfl
theorem ex_deep : deepS exX = 4 := by kernel_rfl
theorem gx_right {h : View} {ad : Option Addr} {cap : Nat} {x : Ex} (hx : XL h ad cap x.l) (hr : rightS x = true) (h1 : Nd x) : GX h ad cap x := ⟨hx, h1.1, h1.2, smx_right hr⟩
theorem c_lives (w0 : World) (h0 : View) (hv : VLe h0 (Full w0)) (hp : PowV h0) : Calls Tryz.prog 5 #[] w0 (Ret w0 h0 fun u _ => u = .bool true) := by
  refine ent (args := []) TT_ok [] [] Tryz.func5 rfl Tryz.ntmps5 rfl rfl hv ?_
  refine cA TT_ok (fun w v h1 h2 h3 => c_ParseE parse_1 (by decide) w v h3) (fun a => xl_m a _) (fun a => ?_)
  intro b1
  refine cf (fun w v h1 h2 h3 => c_Text exX a.1 a.2 (by rw [ex_deep]; decide) w v h3 (gx_right h2.2 ex_right (nd_v0 (i64_s (by decide)))) (pow_m h1 hp)) ?_
  rw [text_1]
  refine cA TT_ok (fun w v h1 h2 h3 => c_ParseE parse_2 (by decide) w v h3) (fun a => xl_m a _) (fun a2 => ?_)
  intro b6
  exact rfl

end Go.Proofs.YtpcgdhhndeanoaaGreatDoor
set_option maxRecDepth 100000
namespace Go.Proofs.YtpcgdhhndeanoaaGreatDoor
open Go Go.Dx Go.RowKit
set_option maxRecDepth 100000 in
theorem c_small : ∀ (d : Nat), d ≤ 1000 → ∀ (x : Ex) (ad : Option Addr) (cap : Nat) (w0 : World) (h0 : View), VLe h0 (Full w0) → XL h0 ad cap x.l → Calls Tryz.prog 17 #[.agg (exC x.op x.v x.s (.slice ad x.l.length cap)).toArray, .int .i64 (d : Nat)] w0 (Ret w0 h0 fun u _ => u = .bool (smallX d x)) := by
  intro d
  induction d with
  | zero =>
    intro hd x ad cap w0 h0 hv hx
    refine ent (args := [.agg (exC x.op x.v x.s (.slice ad x.l.length cap)).toArray, .int .i64 ((0 : Nat) : Int)]) TT_ok [] [] Tryz.func17 rfl Tryz.ntmps17 rfl rfl hv ?_
    intro b2
    refine cnd (fun h => ?_) (fun h => by exfalso; omega)
    exact rfl
  | succ d ih =>
    intro hd x ad cap w0 h0 hv hx
    have hlm := hx.lm
    refine ent (args := [.agg (exC x.op x.v x.s (.slice ad x.l.length cap)).toArray, .int .i64 ((d + 1 : Nat) : Int)]) TT_ok [] [] Tryz.func17 rfl Tryz.ntmps17 rfl rfl hv ?_
    intro b2
    refine cnd (fun h => ?_) (fun h => ?_)
    · exact congrArg Value.bool (small_no (d + 1) x (by omega)).symm
    · refine w_loop TT_ok (fun k : Nat => [(5, .v (.int .i64 k))]) 0 (fun k => k ≤ x.l.length ∧ ∀ j, j < k → smallX d (x.l.getD j ex0) = true) (fun k => x.l.length - k) ?_
      refine And.intro ⟨⟨Nat.zero_le _, fun j hj => absurd hj (Nat.not_lt_zero j)⟩, gs⟩ ?_
      intro k ⟨hk, hn⟩
      refine cnd (fun h1 => ?_) (fun h1 => ?_)
      · refine ixE hx k (fun a2 c2 g1 g2 g3 => ?_)
        refine ew ((d : Nat) : Int) (show IntKind.i64.wrap (((d + 1 : Nat) : Int) - 1) = ((d : Nat) : Int) by rw [show ((d + 1 : Nat) : Int) - 1 = ((d : Nat) : Int) by omega]; exact wrap_i64 (by omega) (by omega)) ?_
        refine cb (fun w hw => ih (by omega) _ a2 c2 w h0 hw g1) ?_
        refine cnd (fun h4 => ?_) (fun h4 => ?_)
        · exact congrArg Value.bool (by rw [small_eq (by omega)]; simp only [Nat.add_sub_cancel]; rw [all_not ex0 (k := k) (by omega) h4]; simp)
        · refine wi ?_
          exact ⟨k + 1, ⟨⟨by omega, upto_snoc hn h4⟩, by omega⟩, gs⟩
      · exact congrArg Value.bool (by rw [small_eq (by omega)]; simp only [Nat.add_sub_cancel]; rw [all_upto ex0 (p := smallX d) (fun j hj => hn j (by omega))]; simp; omega)
theorem c_Size : ∀ (k : Nat) (x : Ex) (ad : Option Addr) (cap : Nat), SizeOf.sizeOf x < k → ∀ (w0 : World) (h0 : View), VLe h0 (Full w0) → XL h0 ad cap x.l → Calls Tryz.prog 18 #[.agg (exC x.op x.v x.s (.slice ad x.l.length cap)).toArray] w0 (Ret w0 h0 fun u _ => u = .int .i64 (szF x)) := by
  intro k
  induction k with
  | zero => intro x ad cap h; omega
  | succ k ih =>
    intro x ad cap hk w0 h0 hv hx
    have hlm := hx.lm
    refine ent (args := [.agg (exC x.op x.v x.s (.slice ad x.l.length cap)).toArray]) TT_ok [] [] Tryz.func18 rfl Tryz.ntmps18 rfl rfl hv ?_
    intro b2
    refine w_loop TT_ok (fun k : Nat => [(4, .v (.int .i64 k)), (3, .v (.int .i64 (szL 1 (x.l.take k))))]) 0 (fun k => k ≤ x.l.length) (fun k => x.l.length - k) ?_
    refine And.intro ⟨Nat.zero_le _, gs⟩ ?_
    intro i hi
    refine cnd (fun h1 => ?_) (fun h1 => ?_)
    · refine ixE hx i (fun a2 c2 g1 g2 g3 => ?_)
      refine cb (fun w hw => ih _ a2 c2 (by have := Ex.lt (getD_mem x.l i ex0 (by omega)); omega) w h0 hw g1) ?_
      refine ew _ rfl ?_
      refine wi ?_
      exact ⟨i + 1, ⟨by omega, by omega⟩, gs (by rw [show szL 1 (x.l.take (i + 1)) = IntKind.i64.wrap (szL 1 (x.l.take i) + szF (x.l.getD i ex0)) by rw [take_snocD x.l i ex0 (by omega), szL_snoc]]; rfl)⟩
    · exact congrArg (Value.int .i64) (by rw [sz_eq, List.take_of_length_le (by omega)])
theorem c_XSmall (x : Ex) (ad : Option Addr) (cap : Nat) (w0 : World) (h0 : View) (hv : VLe h0 (Full w0)) (hx : XL h0 ad cap x.l) : Calls Tryz.prog 4 #[.agg (exC x.op x.v x.s (.slice ad x.l.length cap)).toArray] w0 (Ret w0 h0 fun u _ => u = .bool (XSm x)) := by
  refine ent (args := [.agg (exC x.op x.v x.s (.slice ad x.l.length cap)).toArray]) TT_ok [] [] Tryz.func4 rfl Tryz.ntmps4 rfl rfl hv ?_
  intro b1
  refine cb (fun w hw => c_small 30 (by decide) x ad cap w h0 hw hx) ?_
  refine cbg (fun _ w hw => c_Size _ x ad cap (Nat.lt_succ_self _) w h0 hw hx) ?_
  exact rfl
def fewR (l : List Val) : Bool := decide (l.length ≤ 12) && l.all fun v => decide (v.s.length ≤ 300)
end Go.Proofs.YtpcgdhhndeanoaaGreatDoor
set_option maxRecDepth 100000
namespace Go.Proofs.YtpcgdhhndeanoaaGreatDoor
open Go Go.Dx Go.RowKit
theorem deep_of {x : Ex} (h : XSm x = true) : deepS x ≤ 30 := deep_small 30 x (Bool.and_eq_true_iff.1 h).1
theorem text_bad {x : Ex} (h : (textT x).2 ≠ 0) : (textT x).1 = [] ∧ ((textT x).2 = 2 ∨ (textT x).2 = 12 ∨ (textT x).2 = 5) := by
  unfold textT at h ⊢
  split
  · exact ⟨rfl, .inl rfl⟩
  split
  · exact ⟨rfl, .inr (.inl rfl)⟩
  split
  · exact ⟨rfl, .inr (.inr rfl)⟩
  · rename_i h1 h2 h3; rw [if_neg h1, if_neg h2, if_neg h3] at h; exact absurd rfl h
theorem text_good {x : Ex} (h : (textT x).2 = 0) : rightS x = true ∧ deepS x ≤ 12 ∧ (putS x 0).length ≤ 200 ∧ textT x = (putS x 0, 0) := by
  unfold textT at h ⊢
  split at h
  · exact absurd h (by decide)
  split at h
  · exact absurd h (by decide)
  split at h
  · exact absurd h (by decide)
  · rename_i h1 h2 h3
    rw [if_neg h1, if_neg h2, if_neg h3]
    exact ⟨by simpa using h1, by omega, by omega, rfl⟩
theorem parse_nd (s : List UInt8) : Nd (parseT s).1 := by
  obtain ⟨f1, _⟩ := lex_facts s
  have h := rd_nd f1 (needS (lexS s).1 0 0) 0 0 false
  unfold parseT
  split
  · exact nd0
  split
  · exact nd0
  split
  · exact nd0
  split
  · exact nd0
  · show Nd (readT (lexS s).1 0 0).1
    unfold readT
    split
    · exact nd0
    · exact h
end Go.Proofs.YtpcgdhhndeanoaaGreatDoor
set_option maxRecDepth 100000
namespace Go.Proofs.YtpcgdhhndeanoaaGreatDoor
open Go Go.Dx Go.RowKit
def levD (op : Int) : Int := if op = 15 then 1 else if op = 14 then 2 else if 8 ≤ op ∧ op ≤ 13 then 3 else if op = 4 ∨ op = 5 then 4 else if op = 6 ∨ op = 7 then 5 else if op = 3 then 6 else if op = 1 ∨ op = 2 then 7 else 0
theorem c_Level (op : Int) (w0 : World) (h0 : View) (hv : VLe h0 (Full w0)) : Calls Tryz.prog 43 #[.int .i64 op] w0 (Ret w0 h0 fun u _ => u = .int .i64 (levD op)) := by
  refine ent (args := [.int .i64 op]) TT_ok [] [] Tryz.func43 rfl Tryz.ntmps43 rfl rfl hv ?_
  have hc : (op < 1 ∨ 15 < op) ∨ op = 1 ∨ op = 2 ∨ op = 3 ∨ op = 4 ∨ op = 5 ∨ op = 6 ∨ op = 7 ∨ op = 8 ∨ op = 9 ∨ op = 10 ∨ op = 11 ∨ op = 12 ∨ op = 13 ∨ op = 14 ∨ op = 15 := by omega
  rcases hc with hc | hc
  · have e : levD op = 0 := by
      unfold levD
      rw [if_neg (by omega), if_neg (by omega), if_neg (by omega), if_neg (by omega), if_neg (by omega), if_neg (by omega), if_neg (by omega)]
    rw [e]
    repeat refine cndF (decide_eq_false (by omega)) ?_
    exact rfl
  · rcases hc with rfl | rfl | rfl | rfl | rfl | rfl | rfl | rfl | rfl | rfl | rfl | rfl | rfl | rfl | rfl
    all_goals
      repeat (first | refine cndF (by decide) ?_ | refine cndT (by decide) ?_)
      exact rfl

end Go.Proofs.YtpcgdhhndeanoaaGreatDoor
set_option maxRecDepth 100000
namespace Go.Proofs.YtpcgdhhndeanoaaGreatDoor
open Go Go.Dx Go.RowKit
theorem u8_digit {m : Nat} (h : m < 10) : IntKind.u8.wrap (48 + (m : Int)) = ((UInt8.ofNat (48 + m)).toNat : Int) := by
  rw [digit_val h, wrap_u8 (by omega) (by omega)]; omega
theorem c_Digits : ∀ (k : Nat) (n : Int), n.natAbs ≤ k → I64 n → ∀ (w0 : World) (h0 : View) (_ : VLe h0 (Full w0)), Calls Tryz.prog 63 #[.int .i64 n] w0 (Ret w0 h0 fun u _ => u = vs (Lib.itoa n)) := by
  intro k
  induction k using Nat.strongRecOn with
  | _ k ih =>
  intro n hk hn w0 h0 hv
  have hn1 := hn.1
  have hn2 := hn.2
  refine ent (args := [.int .i64 n]) TT_ok [] [8] Tryz.func63 rfl Tryz.ntmps63 rfl rfl hv ?_
  refine cnd (fun h => ?_) (fun h => ?_)
  · refine cnd (fun h1 => ?_) (fun h1 => ?_)
    · refine wi ?_
      refine ew _ (show IntKind.u8.wrap (48 - n) = ((UInt8.ofNat (48 + n.natAbs)).toNat : Int) by rw [show 48 - n = 48 + (n.natAbs : Int) by omega]; exact u8_digit (by omega)) ?_
      intro b
      refine ew [UInt8.ofNat (48 + n.natAbs)] rfl ?_
      refine ct ?_
      show vs _ = _
      rw [itoa_neg' h1, dec_lo (by omega)]; rfl
    · refine wi ?_
      refine ew _ (show IntKind.u8.wrap (48 + n) = ((UInt8.ofNat (48 + n.natAbs)).toNat : Int) by rw [show 48 + n = 48 + (n.natAbs : Int) by omega]; exact u8_digit (by omega)) ?_
      intro b
      refine ew [UInt8.ofNat (48 + n.natAbs)] rfl ?_
      show vs _ = _
      rw [itoa_pos h1, dec_lo (by omega)]
  · have ht : (n.tdiv 10).natAbs = n.natAbs / 10 := by rw [Int.natAbs_tdiv]; rfl
    have hm : (n.tmod 10).natAbs = n.natAbs % 10 := by rw [Int.natAbs_tmod]; rfl
    have hi := itoa_hi (n := n) (by omega)
    refine rm (by decide) ?_
    refine w_cut TT_ok (fun _ : Unit => [(3, .v (.int .i64 ((n.natAbs % 10 : Nat) : Int)))]) (fun _ => True) ?_
    refine And.intro ?_ ?_
    · refine cnd (fun h1 => ?_) (fun h1 => ?_)
      · refine wi ?_
        exact ⟨(), trivial, gs (by rw [show 0 - n.tmod 10 = ((n.natAbs % 10 : Nat) : Int) by omega]; rfl)⟩
      · exact ⟨(), trivial, gs (by rw [show n.tmod 10 = ((n.natAbs % 10 : Nat) : Int) by omega]; rfl)⟩
    · intro _ _
      refine And.intro (by kernel_rfl) ?_
      refine qu (by decide) ?_
      refine cl (ih (n.natAbs / 10) (by omega) (n.tdiv 10) (by omega) ⟨by omega, by omega⟩) ?_
      refine wi ?_
      refine ew _ (u8_digit (Nat.mod_lt _ (by decide))) ?_
      refine ew [UInt8.ofNat (48 + n.natAbs % 10)] rfl ?_
      refine ct ?_ (by have := itoa_len' (n := n.tdiv 10) ⟨by omega, by omega⟩; simp; omega)
      exact congrArg vs hi.symm

theorem c_RQuote (s : List UInt8) (hs : s.length ≤ 1000000) (w0 : World) (h0 : View) (hv : VLe h0 (Full w0)) : Calls Tryz.prog 64 #[vs s] w0 (Ret w0 h0 fun u _ => u = vs (quS s)) := by
  refine ent (args := [vs s]) TT_ok [] [7] Tryz.func64 rfl Tryz.ntmps64 rfl rfl hv ?_
  have hfl : ∀ k : Nat, ((s.take k).flatMap qB).length ≤ 2 * s.length := fun k => Nat.le_trans (flat_len _) (by rw [List.length_take]; omega)
  refine w_loop TT_ok (fun k : Nat => [(4, .v (.int .i64 k)), (3, .v (vs (34 :: (s.take k).flatMap qB)))]) 0 (fun k => k ≤ s.length) (fun k => s.length - k) ?_
  refine And.intro ⟨Nat.zero_le _, gs⟩ ?_
  intro k hk
  have hf := hfl k
  refine cnd (fun h => ?_) (fun h => ?_)
  · refine w_cut TT_ok (fun _ : Unit => [(3, .v (vs (34 :: (s.take k).flatMap qB ++ if s.getD k 0 = 34 ∨ s.getD k 0 = 92 then [92] else [])))]) (fun _ => True) ?_
    refine And.intro ?_ ?_
    · refine ix k ?_
      refine ixg k ?_
      have e1 : ((s.getD k 0).toNat : Int) = 34 ↔ s.getD k 0 = 34 := u8i (m := 34) (by decide)
      have e2 : ((s.getD k 0).toNat : Int) = 92 ↔ s.getD k 0 = 92 := u8i (m := 92) (by decide)
      refine cnd (fun h1 => ?_) (fun h1 => ?_)
      · refine ct ?_ (by simp only [List.length_cons, List.length_nil]; omega)
        exact ⟨(), trivial, gs (by rw [if_pos (by rwa [e1, e2] at h1)]; rfl)⟩
      · exact ⟨(), trivial, gs (by rw [if_neg (by rw [e1, e2] at h1; simpa using h1), List.append_nil]; rfl)⟩
    · intro _ _
      refine wi ?_
      refine sl2 k (k + 1) ?_
      have h2 : (s.drop k).take (k + 1 - k) = [s.getD k 0] := by
        rw [show k + 1 - k = 1 by omega, drop_getD s k (by omega)]; rfl
      have h3 : (34 :: (s.take k).flatMap qB ++ if s.getD k 0 = 34 ∨ s.getD k 0 = 92 then [92] else []) ++ (s.drop k).take (k + 1 - k) = 34 :: (s.take (k + 1)).flatMap qB := by
        rw [h2, flat_snoc s k (by omega), List.cons_append, List.cons_append, List.append_assoc]
        congr 2
        unfold qB; split <;> rfl
      refine ct ?_ (by rw [← List.length_append, h3, List.length_cons]; have := hfl (k + 1); omega)
      refine wi ?_
      exact ⟨k + 1, ⟨by omega, by omega⟩, gs (by rw [h3]; rfl)⟩
  · have e : s.take k = s := List.take_of_length_le (by omega)
    refine ct ?_ (by simp only [List.length_cons, List.length_nil]; omega)
    show vs _ = _
    rw [e]; exact rfl
theorem c_RVText (v : Val) (hvb : valB v) (hok : valOk v = true) (w0 : World) (h0 : View) (hv : VLe h0 (Full w0)) : Calls Tryz.prog 44 #[.agg (valC v).toArray] w0 (Ret w0 h0 fun u _ => u = vs (txS v)) := by
  refine ent (args := [.agg (valC v).toArray]) TT_ok [] [] Tryz.func44 rfl Tryz.ntmps44 rfl rfl hv ?_
  intro b
  refine cnd (fun h1 => ?_) (fun h1 => ?_)
  · refine cl (c_Digits _ v.n (Nat.le_refl _) hvb.2) ?_
    rw [txS, if_pos h1]; exact rfl
  · refine cnd (fun h2 => ?_) (fun h2 => ?_)
    · refine cl (c_RQuote v.s (by have := valOk_40 hok; omega)) ?_
      rw [txS, if_neg h1, if_pos h2]; exact rfl
    · refine cnd (fun h3 => ?_) (fun h3 => ?_)
      · refine cnd (fun h4 => ?_) (fun h4 => ?_)
        · rw [txS, if_neg h1, if_neg h2, if_pos h3, decide_eq_true h4]; exact rfl
        · rw [txS, if_neg h1, if_neg h2, if_pos h3, decide_eq_false h4]; exact rfl
      · rw [txS, if_neg h1, if_neg h2, if_neg h3]; exact rfl
theorem lev_D {x : Ex} (hr : rightS x = true) : levD x.op = levS x.op := by
  have key : ∀ k, k < 12 → levD ((k + 4 : Nat) : Int) = levS ((k + 4 : Nat) : Int) := by decide +kernel
  rcases right_parts hr with ⟨h, _⟩ | ⟨h, _⟩ | ⟨h, _⟩ | ⟨h, _⟩ | ⟨h, _⟩
  · rw [h]; decide
  · rw [h]; decide
  · rw [h]; decide
  · rw [h]; decide
  · have := key (x.op.toNat - 4) (by omega)
    rw [show ((x.op.toNat - 4 + 4 : Nat) : Int) = x.op by omega] at this
    exact this
theorem lev_b2 {op : Int} (h : 4 ≤ op ∧ op ≤ 15) : levS op = (findS op).2.2 := by
  rw [levS, if_neg (by omega), if_neg (by omega), if_neg (by omega)]
theorem c_SignR (op : Int) (w0 : World) (h0 : View) (hv : VLe h0 (Full w0)) : Calls Tryz.prog 45 #[.int .i64 op] w0 (Ret w0 h0 fun u _ => u = vs (findS op).2.1) := c_sign op w0 h0 hv
set_option maxHeartbeats 2000000 in
theorem c_write : ∀ (k : Nat) (x : Ex) (ad : Option Addr) (cap : Nat) (m : Int), mzS x m < k → -1000 ≤ m ∧ m ≤ 1000 → rightS x = true → (putS x m).length ≤ 1000000000000 → ∀ (w0 : World) (h0 : View), VLe h0 (Full w0) → GX h0 ad cap x →
    Calls Tryz.prog 24 #[.agg (exC x.op x.v x.s (.slice ad x.l.length cap)).toArray, .int .i64 m] w0 (Ret w0 h0 fun u _ => u = vs (putS x m)) := by
  intro k
  induction k with
  | zero => intro x ad cap m h; omega
  | succ k ih =>
  intro x ad cap m hk hm hr hl w0 h0 hv hx
  have hsm := hx.sm.parts
  have hlm := hx.xl.lm
  have hlv := lev_D hr
  have hlo := lev_lo x.op
  refine ent (args := [.agg (exC x.op x.v x.s (.slice ad x.l.length cap)).toArray, .int .i64 m]) TT_ok [] [15] Tryz.func24 rfl Tryz.ntmps24 rfl rfl hv ?_
  intro b2
  refine cl (c_Level x.op) ?_
  rw [hlv]
  refine cnd (fun h => ?_) (fun h => ?_)
  · have e1 : putS x m = [40] ++ putS x 0 ++ [41] := by rw [put_eq, if_pos h, bodyX_0 x]; rfl
    rw [e1] at hl ⊢
    simp only [List.length_append, List.length_cons, List.length_nil] at hl
    refine cb (fun w hw => ih x ad cap 0 (by unfold mzS at hk ⊢; rw [if_pos h] at hk; rw [if_neg (by omega)]; omega) (by omega) hr (by omega) w h0 hw hx) ?_
    refine ct ?_ (by simp only [List.length_cons, List.length_nil]; omega)
    refine ct ?_ (by simp only [List.length_append, List.length_cons, List.length_nil]; omega)
    exact rfl
  have eb := put_lv h
  rw [eb] at hl ⊢
  have kz : ∀ (y : Ex) (m' : Int), y ∈ x.l → mzS y m' < k := fun y m' hy => by
    have := Ex.lt hy
    unfold mzS at hk ⊢
    rw [if_neg h] at hk
    split <;> omega
  have kx : ∀ j, j < x.l.length → ∀ a2 c2, XL h0 a2 c2 (x.l.getD j ex0).l → i64 (x.l.getD j ex0).op → valB (x.l.getD j ex0).v → GX h0 a2 c2 (x.l.getD j ex0) := fun j hj a2 c2 g1 g2 g3 => (⟨g1, g2, g3, hsm.2.2.2 _ (getD_mem x.l j ex0 hj)⟩ : GX h0 a2 c2 (x.l.getD j ex0))
  rcases right_parts hr with ⟨h1, hxl, hs, hok, hn⟩ | ⟨h1, hxl, hxv, hn⟩ | ⟨h1, hxv, hs, a, hxl, ha⟩ | ⟨h1, hxv, hs, a, b, c, hxl, ha, hb, hc⟩ | ⟨h1, hxv, hs, a, b, hxl, ha, hb⟩
  · rw [body_1 h1] at hl ⊢
    refine cndT (decide_eq_true h1) ?_
    refine cl (c_RVText x.v hx.v hok) ?_
    show vs (txS x.v) = _
    rw [show txR x.v = (txS x.v, 0) by rw [txR, if_pos hok]]
  · rw [body_2 h1] at hl ⊢
    refine cndF (decide_eq_false (by omega)) ?_
    refine cndT (decide_eq_true h1) ?_
    exact rfl
  · rw [body_3 h1 hxl] at hl ⊢
    simp only [List.length_cons] at hl
    have hg0 : x.l.getD 0 ex0 = a := by rw [hxl]; rfl
    refine cndF (decide_eq_false (by omega)) ?_
    refine cndF (decide_eq_false (by omega)) ?_
    refine cndT (decide_eq_true h1) ?_
    refine ixE hx.xl 0 (fun a2 c2 q1 q2 q3 => ?_) (by rw [hxl]; exact ⟨rfl, by simp⟩)
    have hkx := kx 0 (by rw [hxl]; simp) a2 c2 q1 q2 q3
    rw [hg0] at hkx ⊢
    refine cb (fun w hw => ih a a2 c2 6 (kz a 6 (by rw [hxl]; simp)) (by omega) ha (by omega) w h0 hw hkx) ?_
    refine ct ?_ (by simp only [List.length_cons, List.length_nil]; omega)
    exact rfl
  · rw [body_16 h1 hxl] at hl ⊢
    simp only [List.length_append, ifW, thenW, elseW, List.length_cons, List.length_nil] at hl
    have hg0 : x.l.getD 0 ex0 = a := by rw [hxl]; rfl
    have hg1 : x.l.getD 1 ex0 = b := by rw [hxl]; rfl
    have hg2 : x.l.getD 2 ex0 = c := by rw [hxl]; rfl
    refine cndF (decide_eq_false (by omega)) ?_
    refine cndF (decide_eq_false (by omega)) ?_
    refine cndF (decide_eq_false (by omega)) ?_
    refine cndT (decide_eq_true h1) ?_
    refine And.intro (by kernel_rfl) ?_
    refine ixE hx.xl 0 (fun a02 c02 q01 q02 q03 => ?_) (by rw [hxl]; exact ⟨rfl, by simp⟩)
    have hk0 := kx 0 (by rw [hxl]; simp) a02 c02 q01 q02 q03
    rw [hg0] at hk0 ⊢
    refine cb (fun w hw => ih a a02 c02 0 (kz a _ (by rw [hxl]; simp)) (by omega) ha (by omega) w h0 hw hk0) ?_
    refine ct ?_ (by simp only [List.length_append, List.length_cons, List.length_nil]; omega)
    refine ct ?_ (by simp only [List.length_append, List.length_cons, List.length_nil]; omega)
    refine ixE hx.xl 1 (fun a12 c12 q11 q12 q13 => ?_) (by rw [hxl]; exact ⟨rfl, by simp⟩)
    have hk1 := kx 1 (by rw [hxl]; simp) a12 c12 q11 q12 q13
    rw [hg1] at hk1 ⊢
    refine cb (fun w hw => ih b a12 c12 0 (kz b _ (by rw [hxl]; simp)) (by omega) hb (by omega) w h0 hw hk1) ?_
    refine ct ?_ (by simp only [List.length_append, List.length_cons, List.length_nil]; omega)
    refine ct ?_ (by simp only [List.length_append, List.length_cons, List.length_nil]; omega)
    refine ixE hx.xl 2 (fun a22 c22 q21 q22 q23 => ?_) (by rw [hxl]; exact ⟨rfl, by simp⟩)
    have hk2 := kx 2 (by rw [hxl]; simp) a22 c22 q21 q22 q23
    rw [hg2] at hk2 ⊢
    refine cb (fun w hw => ih c a22 c22 0 (kz c _ (by rw [hxl]; simp)) (by omega) hc (by omega) w h0 hw hk2) ?_
    refine ct ?_ (by simp only [List.length_append, List.length_cons, List.length_nil]; omega)
    exact rfl
  · rw [body_b h1 hxl] at hl ⊢
    have flo := find_lo x.op
    have hlb := lev_b2 h1
    rw [hlb] at h
    simp only [List.length_append, List.length_cons, List.length_nil] at hl
    have hg0 : x.l.getD 0 ex0 = a := by rw [hxl]; rfl
    have hg1 : x.l.getD 1 ex0 = b := by rw [hxl]; rfl
    refine cndF (decide_eq_false (by omega)) ?_
    refine cndF (decide_eq_false (by omega)) ?_
    refine cndF (decide_eq_false (by omega)) ?_
    refine cndF (decide_eq_false (by omega)) ?_
    rw [hlb]
    refine w_cut TT_ok (fun _ : Unit => [(6, .v (.int .i64 (if (findS x.op).2.2 = 3 then 4 else (findS x.op).2.2)))]) (fun _ => True) ?_
    refine And.intro ?_ ?_
    · refine cnd (fun h5 => ?_) (fun h5 => ?_)
      · exact ⟨(), trivial, gs (by rw [if_pos h5]; rfl)⟩
      · exact ⟨(), trivial, gs (by rw [if_neg h5]; rfl)⟩
    intro _ _
    refine And.intro (by kernel_rfl) ?_
    refine ixE hx.xl 0 (fun a02 c02 q01 q02 q03 => ?_) (by rw [hxl]; exact ⟨rfl, by simp⟩)
    have hk0 := kx 0 (by rw [hxl]; simp) a02 c02 q01 q02 q03
    rw [hg0] at hk0 ⊢
    refine cb (fun w hw => ih a a02 c02 (if (findS x.op).2.2 = 3 then 4 else (findS x.op).2.2) (kz a _ (by rw [hxl]; simp)) (by split <;> omega) ha (by omega) w h0 hw hk0) ?_
    refine ct ?_ (by simp only [List.length_append, List.length_cons, List.length_nil]; omega)
    refine cl (c_sign x.op) ?_
    refine ct ?_ (by simp only [List.length_append, List.length_cons, List.length_nil]; omega)
    refine ct ?_ (by simp only [List.length_append, List.length_cons, List.length_nil]; omega)
    refine ixE hx.xl 1 (fun a12 c12 q11 q12 q13 => ?_) (by rw [hxl]; exact ⟨rfl, by simp⟩)
    refine wi ?_ (by show _ ≤ (findS x.op).2.2 + 1 ∧ (findS x.op).2.2 + 1 ≤ _; omega)
    have hk1 := kx 1 (by rw [hxl]; simp) a12 c12 q11 q12 q13
    rw [hg1] at hk1 ⊢
    refine cb (fun w hw => ih b a12 c12 ((findS x.op).2.2 + 1) (kz b _ (by rw [hxl]; simp)) (by omega) hb (by omega) w h0 hw hk1) ?_
    refine ct ?_ (by simp only [List.length_append, List.length_cons, List.length_nil]; omega)
    refine congrArg vs ?_
    simp only [List.append_assoc, List.cons_append, List.nil_append]

end Go.Proofs.YtpcgdhhndeanoaaGreatDoor
set_option maxRecDepth 100000
namespace Go.Proofs.YtpcgdhhndeanoaaGreatDoor
open Go Go.Dx Go.RowKit
theorem contains_idxT (l : List (List UInt8)) (v : List UInt8) : decide (idxS (fun x => decide (v = x)) l ≥ 0) = l.contains v := by
  have := idx_any (p := fun x => decide (v = x)) (l := l)
  rw [show decide (idxS (fun x => decide (v = x)) l ≥ 0) = decide (0 ≤ idxS (fun x => decide (v = x)) l) from rfl, this, List.contains_eq_any_beq]
  congr 1
  funext x
  by_cases h : v = x <;> simp [h]
theorem c_IndexT (ad : Option Addr) (cap : Nat) (l : List (List UInt8)) (v : List UInt8) (w0 : World) (h0 : View) (hv : VLe h0 (Full w0)) (hb : SlC 9 1 (flatR fun s => [vs s]) h0 (.slice ad l.length cap) l) : Calls Tryz.prog 51 #[.slice ad l.length cap, vs v] w0 (Ret w0 h0 fun u _ => u = .int .i64 (idxS (fun x => decide (v = x)) l)) := by
  have hlm := slc_lm hb
  refine ent (args := [.slice ad l.length cap, vs v]) TT_ok [] [] Tryz.func51 rfl Tryz.ntmps51 rfl rfl hv ?_
  refine w_loop TT_ok (fun k : Nat => [(8, .v (.int .i64 k))]) 0 (fun k => k ≤ l.length ∧ ∀ j, j < k → decide (v = l.getD j []) = false) (fun k => l.length - k) ?_
  refine And.intro ⟨⟨Nat.zero_le _, fun j hj => absurd hj (Nat.not_lt_zero j)⟩, gs⟩ ?_
  intro k ⟨hk, hn⟩
  refine cnd (fun h => ?_) (fun h => ?_)
  · refine ixs hb k [] ?_
    refine cnd (fun h1 => ?_) (fun h1 => ?_)
    · exact congrArg (Value.int .i64) (idx_hit [] (by omega) hn (decide_eq_true h1)).symm
    · refine wi ?_
      exact ⟨k + 1, ⟨⟨by omega, upto_snoc hn (decide_eq_false h1)⟩, by omega⟩, gs⟩
  · exact congrArg (Value.int .i64) (idx_none [] (fun j hj => hn j (by omega))).symm
theorem c_ContainsT (ad : Option Addr) (cap : Nat) (l : List (List UInt8)) (v : List UInt8) (w0 : World) (h0 : View) (hv : VLe h0 (Full w0)) (hb : SlC 9 1 (flatR fun s => [vs s]) h0 (.slice ad l.length cap) l) : Calls Tryz.prog 29 #[.slice ad l.length cap, vs v] w0 (Ret w0 h0 fun u _ => u = .bool (l.contains v)) := by
  refine ent (args := [.slice ad l.length cap, vs v]) TT_ok [] [] Tryz.func29 rfl Tryz.ntmps29 rfl rfl hv ?_
  refine cb (fun w hw => c_IndexT ad cap l v w h0 hw hb) ?_
  exact congrArg Value.bool (contains_idxT l v)
/-- texts that are gathered in a cell -/
structure NmG where
  a : Option Addr
  n : Nat
  cp : Nat
  l : List (List UInt8)
def nmR (bc : Nat) (s : NmG) (k : Nat := 900) : BL := [(k, .c bc 40 [.slice s.a s.n s.cp]), (901, .e (bufE 9 1 (.slice s.a s.n s.cp) (s.l.map fun s => [vs s]).flatten))]
def nmJ (bc l : Nat) (rec : Loop) (s : NmG) : BL := nmR bc s ++ [(902, .e (some l, LoopC rec))]
/-- names: each name is handed to yield -/
theorem c_names (bc l : Nat) (rec : Loop) (h00 : View) (hy : ∀ (x : List UInt8) (s : NmG), s.n = s.l.length → s.l.length + 1 ≤ 2000000 → ∀ w v, VLe h00 v → VLe v (Full w) → (∀ b ∈ ids (oes (nmJ bc l rec s)), v b = none) → OwnJ w (oes (nmJ bc l rec s)) →
    YC Tryz.prog (nmJ bc l rec) s l [vs x] w fun u s' => u = .bool true ∧ (s'.l = addS s.l x ∧ s'.n = s'.l.length)) :
    ∀ (k : Nat) (x : Ex) (ad : Option Addr) (cap : Nat), SizeOf.sizeOf x < k → ∀ (s : NmG), s.n = s.l.length → s.l.length + (nmS x).length ≤ 2000000 → ∀ (w0 : World) (h0 : View), VLe h00 h0 → VLe h0 (Full w0) → (∀ b ∈ ids (oes (nmJ bc l rec s)), h0 b = none) → OwnJ w0 (oes (nmJ bc l rec s)) → XL h0 ad cap x.l →
    Calls Tryz.prog 50 #[.agg (exC x.op x.v x.s (.slice ad x.l.length cap)).toArray, .func (.yield l) #[] #[]] w0 (RetJ (nmJ bc l rec) s w0 fun u s' => u = .bool true ∧ (s'.l = (nmS x).foldl addS s.l ∧ s'.n = s'.l.length)) := by
  intro k
  induction k with
  | zero => intro x _ _ h; omega
  | succ k ih =>
  intro x ad cap hk s hn hlen w0 h0 hle hv hno ho hx
  have hlm := hx.lm
  have hne := nm_eq x
  refine entJR (nmJ bc l rec) s (g := fun _ => .bool true) (args := [.agg (exC x.op x.v x.s (.slice ad x.l.length cap)).toArray, .func (.yield l) #[] #[]]) TT_ok [4000014] [3] [.v (.agg (exC x.op x.v x.s (.slice ad x.l.length cap)).toArray), .v (.func (.yield l) #[] #[])] Tryz.func50 rfl Tryz.ntmps50 rfl rfl hv hno ho rfl ?_
  intro b2
  refine w_cutB TT_ok (fun _ : NmG => []) (fun y => nmJ bc l rec y ++ [(2, .c b2 28 (exC x.op x.v x.s (.slice ad x.l.length cap)))]) (fun y => y.l = (if x.op = 2 then [x.s] else []).foldl addS s.l ∧ y.n = y.l.length) ?_
  refine And.intro ?_ ?_
  · refine cnd (fun h => ?_) (fun h => ?_)
    · have h : x.op = 2 := by simpa using h
      rw [if_pos h] at hne
      have hl1 : s.l.length + 1 ≤ 2000000 := by rw [hne] at hlen; simp only [List.length_append, List.length_cons, List.length_nil] at hlen; omega
      refine yJ TT_ok (nmJ bc l rec) s (g := fun _ => .bool true) (fun w v h1 h2 h3 h4 h5 => hy x.s s hn hl1 w v (hle.trans h1) h3 h4 h5) ?_ (hl := ⟨rfl, rfl, rfl, trivial⟩)
      rintro y ⟨g1, g2⟩
      refine cndF (by rw [decide_eq_true h]; rfl) ?_
      exact ⟨y, ⟨by rw [if_pos h]; exact g1, g2⟩, gsJ ⟨rfl, rfl, rfl, rfl, trivial⟩⟩
    · have h : ¬ x.op = 2 := by simpa using h
      refine ⟨.bool false, ?_⟩
      refine cndF (by rw [decide_eq_false h]; rfl) ?_
      exact ⟨s, ⟨by rw [if_neg h]; rfl, hn⟩, gsJ ⟨rfl, rfl, rfl, rfl, trivial⟩⟩
  · rintro s1 ⟨e1, n1⟩
    have hl1 : s1.l.length + (nmL x.l).length ≤ 2000000 := by
      have := adds_len (if x.op = 2 then [x.s] else []) s.l
      rw [hne, List.length_append] at hlen
      rw [e1]; omega
    refine w_loopB TT_ok (fun z : Nat × NmG => [(20, .v (.int .i64 z.1))]) (fun z => nmJ bc l rec z.2 ++ [(2, .c b2 28 (exC x.op x.v x.s (.slice ad x.l.length cap)))]) (0, s1) (fun z => z.1 ≤ x.l.length ∧ z.2.l = (nmL (x.l.take z.1)).foldl addS s1.l ∧ z.2.n = z.2.l.length) (fun z => x.l.length - z.1) ?_
    refine And.intro ⟨⟨Nat.zero_le _, rfl, n1⟩, gsJ ⟨rfl, rfl, rfl, rfl, trivial⟩⟩ ?_
    rintro ⟨j, y⟩ ⟨hj, hy1, hy2⟩
    have hj : j ≤ x.l.length := hj
    have hy1 : y.l = (nmL (x.l.take j)).foldl addS s1.l := hy1
    refine cnd (fun h => ?_) (fun h => ?_)
    · have hj2 : j < x.l.length := by have : (j : Int) < x.l.length := h; omega
      have hin := getD_mem x.l j ex0 hj2
      refine ixE hx j (fun a2 c2 g1 g2 g3 => ?_)
      intro b6
      have hroom : y.l.length + (nmS (x.l.getD j ex0)).length ≤ 2000000 := by
        have h1 := nmL_take x.l j hj2
        have h2 := nmL_drop x.l (j + 1)
        rw [h1, List.length_append] at h2
        have h3 := adds_len (nmL (x.l.take j)) s1.l
        rw [hy1]; omega
      refine cJ TT_ok (nmJ bc l rec) y (g := fun _ => .bool true) (fun w v h1 _ h3 h4 h5 => ih (x.l.getD j ex0) a2 c2 (by have := Ex.lt hin; omega) y hy2 hroom w v (hle.trans h1) h3 h4 h5 (g1.mono h1)) ?_ (hl := ⟨rfl, rfl, rfl, trivial⟩)
      rintro z ⟨z1, z2⟩
      refine cndF rfl ?_
      refine wi ?_
      exact ⟨(j + 1, z), ⟨⟨by show j + 1 ≤ _; omega, by rw [nmL_take x.l j hj2, List.foldl_append, ← hy1]; exact z1, z2⟩, by show x.l.length - (j + 1) < x.l.length - j; omega⟩, gsJ ⟨rfl, rfl, rfl, rfl, trivial⟩⟩
    · have hj2 : j = x.l.length := by have : ¬ (j : Int) < x.l.length := h; omega
      refine ⟨y, rfl, ⟨?_, hy2⟩, rfl, rfl, rfl, rfl, trivial⟩
      rw [hy1, hj2, List.take_length, e1, ← List.foldl_append, ← hne]
theorem fl1 (l : List (List UInt8)) : (l.map fun t => [vs t]).flatten.length = l.length := by
  induction l <;> simp_all
/-- the iterator -/
theorem c_each1 (bc l : Nat) (rec : Loop) (h00 : View) (hy : ∀ (x : List UInt8) (s : NmG), s.n = s.l.length → s.l.length + 1 ≤ 2000000 → ∀ w v, VLe h00 v → VLe v (Full w) → (∀ b ∈ ids (oes (nmJ bc l rec s)), v b = none) → OwnJ w (oes (nmJ bc l rec s)) →
      YC Tryz.prog (nmJ bc l rec) s l [vs x] w fun u s' => u = .bool true ∧ (s'.l = addS s.l x ∧ s'.n = s'.l.length))
    (x : Ex) (ad : Option Addr) (cap b : Nat) (s : NmG) (hn : s.n = s.l.length) (hlen : s.l.length + (nmS x).length ≤ 2000000) (w0 : World) (h0 : View) (hle : VLe h00 h0) (hv : VLe h0 (Full w0)) (hno : ∀ b ∈ ids (oes (nmJ bc l rec s)), h0 b = none) (ho : OwnJ w0 (oes (nmJ bc l rec s))) (hx : XL h0 ad cap x.l)
    (hb : h0 b = some (.cells (exC x.op x.v x.s (.slice ad x.l.length cap)).toArray 28 (0, 0))) :
    Calls Tryz.prog 49 #[.func (.yield l) #[] #[], .pointer (some ⟨b, 0, none⟩)] w0 (RetJ (nmJ bc l rec) s w0 fun u s' => u = .tuple #[] ∧ (s'.l = (nmS x).foldl addS s.l ∧ s'.n = s'.l.length)) := by
  refine entJR (nmJ bc l rec) s (g := fun _ => .tuple #[]) (args := [.func (.yield l) #[] #[], .pointer (some ⟨b, 0, none⟩)]) TT_ok [] [] [.v (.func (.yield l) #[] #[]), .v (.pointer (some ⟨b, 0, none⟩))] Tryz.func49 rfl Tryz.ntmps49 rfl rfl hv hno ho rfl ?_
  refine ⟨exC x.op x.v x.s (.slice ad x.l.length cap), ⟨rfl, fun v w g1 _ g3 j u hj => by rw [add_mk, cell_row (g3 _ _ (g1 _ _ hb)), Nat.zero_add]; exact hj⟩, ?_⟩
  refine cJ TT_ok (nmJ bc l rec) s (g := fun _ => .bool true) (fun w v h1 _ h3 h4 h5 => c_names bc l rec h00 hy _ x ad cap (Nat.lt_succ_self _) s hn hlen w v (hle.trans h1) h3 h4 h5 (hx.mono h1)) ?_ (hl := ⟨rfl, rfl, rfl, trivial⟩)
  rintro y ⟨g1, g2⟩
  exact ⟨y, rfl, ⟨g1, g2⟩, rfl, rfl, rfl, rfl, trivial⟩
theorem c_each (x : Ex) (ad : Option Addr) (cap : Nat) (w0 : World) (h0 : View) (hv : VLe h0 (Full w0)) : Calls Tryz.prog 28 #[.agg (exC x.op x.v x.s (.slice ad x.l.length cap)).toArray] w0 (Ret w0 h0 fun u hh => ∃ b : Nat, u = .func (.func 49) #[] #[.pointer (some ⟨b, 0, none⟩)] ∧ hh b = some (.cells (exC x.op x.v x.s (.slice ad x.l.length cap)).toArray 28 (0, 0))) := by
  refine entA (args := [.agg (exC x.op x.v x.s (.slice ad x.l.length cap)).toArray]) TT_ok [3] [] Tryz.func28 rfl Tryz.ntmps28 rfl rfl hv (fun _ _ _ hle hx => hle _ _ hx) ?_
  intro b1
  refine shutG TT_ok (Φ := fun h => h b1 = some (.cells (exC x.op x.v x.s (.slice ad x.l.length cap)).toArray 28 (0, 0))) 1 rfl (fun hh _ _ hb => hb) ?_ (fun _ _ hle hx => hle _ _ hx)
  exact ⟨b1, rfl, fun v _ hF => hF.2⟩
theorem c_Names (x : Ex) (ad : Option Addr) (cap : Nat) (hlen : (nmS x).length ≤ 2000000) (w0 : World) (h0 : View) (hv : VLe h0 (Full w0)) (hx : XL h0 ad cap x.l) : Calls Tryz.prog 13 #[.agg (exC x.op x.v x.s (.slice ad x.l.length cap)).toArray] w0 (Ret w0 h0 fun u hh => ∃ a : Option Addr × Nat, u = .slice a.1 (namesS x).length a.2 ∧ SlC 9 1 (flatR fun t => [vs t]) hh (.slice a.1 (namesS x).length a.2) (namesS x)) := by
  refine entDM (E := fun B F us => ∃ a : Option Addr × Nat, tupV us = .slice a.1 (namesS x).length a.2 ∧ ∀ v, F v → SlC 9 1 (flatR fun t => [vs t]) v (.slice a.1 (namesS x).length a.2) (namesS x)) (args := [.agg (exC x.op x.v x.s (.slice ad x.l.length cap)).toArray]) TT_ok [] [] 2 Tryz.func13 rfl Tryz.ntmps13 rfl rfl hv ?_ ?_
  · rintro B F us w ⟨a, h1, h2⟩ hS
    rw [h1]
    exact hS.st.ret (fun _ _ hle ⟨b, e, hs⟩ => ⟨b, e, hs.monoF hle⟩) fun hh hF => ⟨a, rfl, h2 hh hF⟩
  intro b1 b3
  intro a w hD hS
  refine c_seq (c_seq (hand (c := ⟨Tryz.prog, TT, .wp, 17, w0, h0, [], fun _ => False, [], []⟩) TT_ok hD hS ?_ (fun _ _ _ h _ _ => h.elim)))
  refine cA TT_ok (fun w v h1 h2 h3 => c_each x ad cap w v h3) (fun _ _ _ hle hx => hle _ _ hx) (fun be => ?_)
  intro a w hD hS
  refine n_then (c_block ?_)
  have hS := nil_sx (T := 9) (sz := 1) (k := 901) hS
  have hD := nil_dn 901 (bufE 9 1 (.slice none 0 0) []) hD
  have e6 : a.eval (.tmp 6) = .func (.func 49) #[] #[.pointer (some ⟨be, 0, none⟩)] := hD.fr.kv (t := 6) rfl
  have e3 : a.tmps.getD 3 undef = .pointer (some ⟨b3, 0, none⟩) := hD.fr.kv (t := 3) rfl
  have hsz := hD.fr.sz
  have hdf := hD.fr.df
  refine rangeJ TT_ok (fun s => nmR b3 s 3) ⟨none, 0, 0, []⟩ 902 903 (Ψ := fun s' => s'.l = namesS x ∧ s'.n = s'.l.length) (lb := [.pointer (some ⟨be, 0, none⟩)]) hD hS e6 (TT_ok.call rfl) ⟨rfl, rfl, trivial⟩ rfl (fun _ _ => rfl) (fun _ => rfl) (fun _ => rfl) ?_ ?_
  · intro rec l hr1 hr2 hr3 hr4 hr5 hr6 w1 v g1 g2 g3 g4 g5
    refine (c_each1 b3 l rec v ?_ x ad cap be ⟨none, 0, 0, []⟩ rfl (by simpa using hlen) w1 v (fun _ _ h => h) g3 g4 g5 (hx.mono g1) g2.2).mono ?_
    · intro y s hn hl w2 v2 q1 q3 q4 q5
      have hl2 : w2.heap[l]? = some (.loop rec) := q5.own (some l, LoopC rec) (by unfold nmJ; rw [oes_app]; exact List.mem_append_right _ (List.mem_singleton.2 rfl))
      refine ⟨_, _, _, _, run_yield1 hl2 hr4, ?_⟩
      obtain ⟨t7, tx⟩ := set_tmp (v := vs y) hsz (show 7 < 17 by decide)
      refine roundJ TT_ok (nmR b3) 902 (Ψ := fun s' => s'.l = addS s.l y ∧ s'.n = s'.l.length) hr1 hr2 s [] [] [(7, .v (vs y)), (3, .o 900 0)] (n := 17) q3 q4 q5 (by rw [Array.size_setIfInBounds, hr3]; exact hsz) ?_ ?_
      · intro t u hu
        rw [hr3]
        by_cases h7 : t = 7
        · subst h7
          rw [t7]; exact Option.some.inj hu
        · rw [tx t h7]
          by_cases h3 : t = 3
          · subst h3
            rw [e3]; exact Option.some.inj hu
          · have hn : lkA [(7, SV.v (vs y)), (3, SV.o 900 0)] t = none := by rw [lkA_ne (Ne.symm h7), lkA_ne (Ne.symm h3)]; rfl
            rw [kv_none hn] at hu; cases hu
      · generalize LoopC { rec with state := .busy } = LC
        rw [hr5]
        refine ⟨rfl, ?_⟩
        show vcC _ rec.body _ _ _ _ _ _
        rw [hr6]
        refine co (x := .bool (s.l.contains y)) ?_ ?_
        · intro w hS
          have h1 := own_sl (T := 9) (sz := 1) (g := fun t => [vs t]) (k := 901) (a0 := s.a) (nn := s.n) (cp := s.cp) (l := s.l) rfl hn (by intros; rfl) hS
          rw [hn] at h1 ⊢
          exact c_ContainsT s.a s.cp s.l y w (Full w) (VLe.refl _) h1
        refine cnd (fun h => ?_) (fun h => ?_)
        · have h : s.l.contains y = false := by simpa using h
          intro b14
          refine ap TT_ok 901 (AppT.of (bytes := 16) (sz := 0) (by kernel_rfl) (by kernel_rfl) (by kernel_rfl)) rfl rfl rfl rfl rfl rfl rfl (by rw [fl1]; show (s.l.length + 1) * 17 ≤ 140737488355328; omega) (fun a0 nn cp' hnn => ?_)
          rw [fl1] at hnn
          have hnn : nn * 1 = s.l.length + 1 := hnn
          refine ⟨⟨a0, nn, cp', s.l ++ [y]⟩, ⟨by rw [addS, if_neg (by rw [h]; decide)], by show nn = (s.l ++ [y]).length; rw [List.length_append]; show nn = s.l.length + 1; omega⟩, rfl, rfl, ?_, rfl, trivial⟩
          exact congrArg some (by rw [show ((s.l ++ [y]).map fun t => [vs t]).flatten = (s.l.map fun t => [vs t]).flatten ++ [vs y] by simp]; rfl)
        · have h : s.l.contains y = true := by simpa using h
          exact ⟨s, ⟨by rw [addS, if_pos h], hn⟩, rfl, rfl, rfl, rfl, trivial⟩
    · rintro e w2 ⟨u, s', rfl, ⟨_, h1, h2⟩, h3⟩
      exact ⟨u, s', rfl, ⟨h1, h2⟩, h3⟩
  · rintro s' D w2 ⟨hl, hn⟩ hD2 hS2
    show codeM Md.wp Tryz.prog _ _ _ _
    rw [hdf]
    generalize hds : [(⟨.collected D, #[]⟩ : Deferred)] = ds
    refine c_seq (regM TT_ok rfl (K := fun L B F => ∀ a w, Dn _ L [] B a → Sx _ B F w → _) hD2 hS2 (fun o ho => ?_) ?_ (fun _ _ _ a w hk hD hS => hk a w hD hS) (fun _ _ _ h _ _ => h.elim))
    · simp only [List.mem_cons, List.not_mem_nil, or_false] at ho
      rcases ho with rfl | rfl
      all_goals exact nodef_quiet rfl
    intro a3 w3 hD3 hS3
    refine n_then (c_ret ?_)
    show LeavesInM Fence.wide 1 Tryz.prog _ a3.tmps _ ds .returning w3
    rw [← hds]
    refine retM TT_ok (rs := [.tmp 2]) (E := fun B F us => (∃ s' : NmG, tupV us = .slice s'.a s'.n s'.cp ∧ s'.l = namesS x ∧ s'.n = s'.l.length ∧ lkA B 901 = some (.e (bufE 9 1 (.slice s'.a s'.n s'.cp) (s'.l.map fun t => [vs t]).flatten))) ∧ delE B 901 fun _ => True) 903 rfl rfl ?_ hD3 hS3 ?_
    · exact ⟨⟨s', rfl, hl, hn, rfl⟩, trivial⟩
    · rintro B F us w ⟨⟨s2, h1, h2, h3, h4⟩, h5⟩ hS
      obtain ⟨B', _, _, hs⟩ := seal_sx (c := ⟨Tryz.prog, TT, .wp, 17, w0, h0, [], fun _ => False, [], []⟩) (g := fun t => [vs t]) rfl h4 h3 (by intros; rfl) h5
      have hS' := hs w hS
      rw [h1]
      refine hS'.st.ret (fun _ _ hle ⟨b, e, hs⟩ => ⟨b, e, hs.monoF hle⟩) fun hh hF => ⟨(s2.a, s2.cp), ?_, ?_⟩
      · rw [h3, h2]
      · have := hF.2
        rw [h3, h2] at this
        exact this

end Go.Proofs.YtpcgdhhndeanoaaGreatDoor
set_option maxRecDepth 100000
namespace Go.Proofs.YtpcgdhhndeanoaaGreatDoor
open Go Go.Dx Go.RowKit
theorem c_RText (x : Ex) (ad : Option Addr) (cap : Nat) (hd : deepS x ≤ 1000000000) (w0 : World) (h0 : View) (hv : VLe h0 (Full w0)) (hx : GX h0 ad cap x) :
    Calls Tryz.prog 7 #[.agg (exC x.op x.v x.s (.slice ad x.l.length cap)).toArray] w0 (Ret w0 h0 fun u _ => u = tsV (textT x)) := by
  refine ent (args := [.agg (exC x.op x.v x.s (.slice ad x.l.length cap)).toArray]) TT_ok [] [] Tryz.func7 rfl Tryz.ntmps7 rfl rfl hv ?_
  intro b1
  refine cb (fun w hw => c_RRightX _ x ad cap (Nat.lt_succ_self _) w h0 hw hx) ?_
  refine cnd (fun h => ?_) (fun h => ?_)
  · have h : rightS x = false := by simpa using h
    rw [textT, if_pos h]; exact rfl
  have hr : rightS x = true := by simpa using h
  refine cb (fun w hw => c_RDeep _ x ad cap (Nat.lt_succ_self _) hd w h0 hw hx.xl) ?_
  refine cnd (fun h2 => ?_) (fun h2 => ?_)
  · rw [textT, if_neg (by rw [hr]; decide), if_pos (by omega)]; exact rfl
  have hln := put_len (XL.rx hx.xl ⟨hx.op, hx.v⟩) hr 0
  have h12 : 4 ^ deepS x ≤ 4 ^ 12 := Nat.pow_le_pow_right (by decide) (by omega)
  have h12 : 4 ^ deepS x ≤ 16777216 := h12
  rw [textT, if_neg (by rw [hr]; decide), if_neg (by omega)]
  refine cb (fun w hw => c_write _ x ad cap 0 (Nat.lt_succ_self _) (by decide) hr (by omega) w h0 hw hx) ?_
  refine cnd (fun h3 => ?_) (fun h3 => ?_)
  · rw [if_pos (by omega)]; exact rfl
  · rw [if_neg (by omega)]; exact rfl
theorem c_EqualF2 (l m : List Ex) (ad ad2 : Option Addr) (cap cap2 : Nat) (w0 : World) (h0 : View) (hv : VLe h0 (Full w0)) (hx : XL h0 ad cap l) (hy : XL h0 ad2 cap2 m)
    (hp : ∀ j, j < l.length → ∀ a2 c2 a3 c3, XL h0 a2 c2 (l.getD j ex0).l → XL h0 a3 c3 (m.getD j ex0).l → ∀ w, VLe h0 (Full w) → Calls Tryz.prog 15 #[.agg (exC (l.getD j ex0).op (l.getD j ex0).v (l.getD j ex0).s (.slice a2 (l.getD j ex0).l.length c2)).toArray, .agg (exC (m.getD j ex0).op (m.getD j ex0).v (m.getD j ex0).s (.slice a3 (m.getD j ex0).l.length c3)).toArray] w (Ret w h0 fun u _ => u = .bool (sameX (l.getD j ex0) (m.getD j ex0)))) :
    Calls Tryz.prog 30 #[.slice ad l.length cap, .slice ad2 m.length cap2, .func (.func 15) #[] #[]] w0 (Ret w0 h0 fun u _ => u = .bool (sameXL l m)) := by
  have hlm := hx.lm
  refine ent (args := [.slice ad l.length cap, .slice ad2 m.length cap2, .func (.func 15) #[] #[]]) TT_ok [] [] Tryz.func30 rfl Tryz.ntmps30 rfl rfl hv ?_
  refine cnd (fun h => ?_) (fun h => ?_)
  · exact congrArg Value.bool (sameL_len (by omega)).symm
  have hle : l.length = m.length := by omega
  refine w_loop TT_ok (fun k : Nat => [(17, .v (.int .i64 k))]) 0 (fun k => k ≤ l.length ∧ ∀ j, j < k → sameX (l.getD j ex0) (m.getD j ex0) = true) (fun k => l.length - k) ?_
  refine And.intro ⟨⟨Nat.zero_le _, fun j hj => absurd hj (Nat.not_lt_zero j)⟩, gs⟩ ?_
  intro k ⟨hk, hn⟩
  refine cnd (fun h => ?_) (fun h => ?_)
  · refine ixE hx k (fun a2 c2 h1 _ _ => ?_)
    intro b8
    refine ixE hy k (fun a3 c3 h2 _ _ => ?_)
    intro b9
    refine cb (fun w hw => hp k (by omega) a2 c2 a3 c3 h1 h2 w hw) ?_
    refine cnd (fun h3 => ?_) (fun h3 => ?_)
    · exact congrArg Value.bool (sameL_no (k := k) (by omega) (by simpa using h3)).symm
    refine wi ?_
    exact ⟨k + 1, ⟨⟨by omega, fun j hj => by
      by_cases hjk : j = k
      · subst hjk; simpa using h3
      · exact hn j (by omega)⟩, by omega⟩, gs⟩
  · exact congrArg Value.bool (sameL_all hle (fun j hj => hn j (by omega))).symm
set_option maxHeartbeats 1000000 in
/-- Same: of two expressions -/
theorem c_Same2 : ∀ (k : Nat) (x y : Ex) (ad ad2 : Option Addr) (cap cap2 : Nat), SizeOf.sizeOf x < k → ∀ (w0 : World) (h0 : View), VLe h0 (Full w0) → XL h0 ad cap x.l → XL h0 ad2 cap2 y.l → Calls Tryz.prog 15 #[.agg (exC x.op x.v x.s (.slice ad x.l.length cap)).toArray, .agg (exC y.op y.v y.s (.slice ad2 y.l.length cap2)).toArray] w0 (Ret w0 h0 fun u _ => u = .bool (sameX x y)) := by
  intro k
  induction k with
  | zero => intro x _ _ _ _ _ h; omega
  | succ k ih =>
    intro x y ad ad2 cap cap2 hk w0 h0 hv hx hy
    have hlm := hx.lm
    refine ent (args := [.agg (exC x.op x.v x.s (.slice ad x.l.length cap)).toArray, .agg (exC y.op y.v y.s (.slice ad2 y.l.length cap2)).toArray]) TT_ok [] [] Tryz.func15 rfl Tryz.ntmps15 rfl rfl hv ?_
    intro b2 b3
    refine aqg eqV x.v y.v ?_
    refine cbg (fun _ w hw => c_EqualF2 x.l y.l ad ad2 cap cap2 w h0 hw hx hy (fun j hj a2 c2 a3 c3 g1 g2 w hw => ih _ _ a2 a3 c2 c3 (by have := Ex.lt (getD_mem x.l j ex0 hj); omega) w h0 hw g1 g2)) ?_
    exact congrArg Value.bool (by rw [same_eq])
set_option maxHeartbeats 1000000 in
theorem c_RSame2 : ∀ (k : Nat) (x y : Ex) (ad ad2 : Option Addr) (cap cap2 : Nat), SizeOf.sizeOf x < k → ∀ (w0 : World) (h0 : View), VLe h0 (Full w0) → XL h0 ad cap x.l → XL h0 ad2 cap2 y.l → Calls Tryz.prog 16 #[.agg (exC x.op x.v x.s (.slice ad x.l.length cap)).toArray, .agg (exC y.op y.v y.s (.slice ad2 y.l.length cap2)).toArray] w0 (Ret w0 h0 fun u _ => u = .bool (sameX x y)) := by
  intro k
  induction k with
  | zero => intro x _ _ _ _ _ h; omega
  | succ k ih =>
    intro x y ad ad2 cap cap2 hk w0 h0 hv hx hy
    have hlm := hx.lm
    refine ent (args := [.agg (exC x.op x.v x.s (.slice ad x.l.length cap)).toArray, .agg (exC y.op y.v y.s (.slice ad2 y.l.length cap2)).toArray]) TT_ok [] [] Tryz.func16 rfl Tryz.ntmps16 rfl rfl hv ?_
    intro b2 b3
    refine aqg eqV x.v y.v ?_
    refine cnd (fun h => ?_) (fun h => ?_)
    · refine congrArg Value.bool ?_
      rw [same_eq]
      have hs : ¬ (x.op = y.op ∧ x.v = y.v ∧ x.s = y.s ∧ x.l.length = y.l.length) := by
        rintro ⟨h1, h2, h3, h4⟩
        rw [h1, h2, h3, h4] at h
        simp at h
      by_cases h1 : x.op = y.op
      · by_cases h2 : x.v = y.v
        · by_cases h3 : x.s = y.s
          · rw [sameL_len (fun h4 => hs ⟨h1, h2, h3, h4⟩), Bool.and_false]
          · rw [decide_eq_false h3]; simp
        · rw [decide_eq_false h2]; simp
      · rw [decide_eq_false h1]; simp
    obtain ⟨h1, h2, h3, h4⟩ : x.op = y.op ∧ x.v = y.v ∧ x.s = y.s ∧ x.l.length = y.l.length := by
      exact ⟨h.1.1.1, h.1.1.2, h.1.2, by have := h.2; omega⟩
    have hsx : sameX x y = sameXL x.l y.l := by
      rw [same_eq, decide_eq_true h1, decide_eq_true h2, decide_eq_true h3]; simp
    refine w_loop TT_ok (fun k : Nat => [(5, .v (.int .i64 k))]) 0 (fun k => k ≤ x.l.length ∧ ∀ j, j < k → sameX (x.l.getD j ex0) (y.l.getD j ex0) = true) (fun k => x.l.length - k) ?_
    refine And.intro ⟨⟨Nat.zero_le _, fun j hj => absurd hj (Nat.not_lt_zero j)⟩, gs⟩ ?_
    intro j ⟨hj, hn⟩
    refine cnd (fun h => ?_) (fun h => ?_)
    · refine And.intro (by kernel_rfl) ?_
      refine ixE hx j (fun a2 c2 g1 _ _ => ?_)
      refine ixE hy j (fun a3 c3 g2 _ _ => ?_)
      refine cb (fun w hw => ih _ _ a2 a3 c2 c3 (by have := Ex.lt (getD_mem x.l j ex0 (by omega)); omega) w h0 hw g1 g2) ?_
      refine cnd (fun h5 => ?_) (fun h5 => ?_)
      · exact congrArg Value.bool (by rw [hsx]; exact (sameL_no (k := j) (by omega) (by simpa using h5)).symm)
      refine wi ?_
      exact ⟨j + 1, ⟨⟨by omega, fun i hi => by
        by_cases hij : i = j
        · subst hij; simpa using h5
        · exact hn i (by omega)⟩, by omega⟩, gs⟩
    · exact congrArg Value.bool (by rw [hsx]; exact (sameL_all h4 (fun i hi => hn i (by omega))).symm)
theorem contains_take (l : List (List UInt8)) (t : List UInt8) (j : Nat) (h : j < l.length) : (l.take (j + 1)).contains t = ((l.take j).contains t || decide (l.getD j [] = t)) := by
  rw [take_snocD l j [] h]
  simp only [List.contains_eq_any_beq, List.any_append, List.any_cons, List.any_nil, Bool.or_false]
  congr 1
  by_cases e : l.getD j [] = t
  · rw [e]; simp
  · rw [decide_eq_false e]; simpa using fun h => e h.symm
theorem fl1' (l : List (List UInt8)) : (l.map fun t => [vs t]).flatten = l.map vs := by
  induction l <;> simp_all
set_option maxHeartbeats 2000000 in
theorem c_RNames : ∀ (k : Nat) (x : Ex) (ad : Option Addr) (cap : Nat), SizeOf.sizeOf x < k → (nmS x).length ≤ 2000000 → ∀ (w0 : World) (h0 : View), VLe h0 (Full w0) → XL h0 ad cap x.l →
    Calls Tryz.prog 14 #[.agg (exC x.op x.v x.s (.slice ad x.l.length cap)).toArray] w0 (Ret w0 h0 fun u hh => ∃ a : Option Addr × Nat, u = .slice a.1 (namesS x).length a.2 ∧ SlC 9 1 (flatR fun t => [vs t]) hh (.slice a.1 (namesS x).length a.2) (namesS x)) := by
  intro k
  induction k with
  | zero => intro x _ _ h; omega
  | succ k ih =>
  intro x ad cap hk hlen w0 h0 hv hx
  have hlm := hx.lm
  have hne := names_eq x
  refine entA (args := [.agg (exC x.op x.v x.s (.slice ad x.l.length cap)).toArray]) TT_ok [44, 45, 60, 1000015] [4] Tryz.func14 rfl Tryz.ntmps14 rfl rfl hv (fun _ => Mono.slF) ?_
  intro b1
  refine nilC 900 9 1 ?_
  refine w_cutB TT_ok (fun s : NmG => [(3, .v (.slice s.a s.n s.cp))]) (fun s => [(900, .e (bufE 9 1 (.slice s.a s.n s.cp) (s.l.map fun t => [vs t]).flatten)), (1, .c b1 28 (exC x.op x.v x.s (.slice ad x.l.length cap)))]) (fun s => s.l = (if x.op = 2 then [x.s] else []) ∧ s.n = s.l.length) ?_
  refine And.intro ?_ ?_
  · refine cnd (fun h => ?_) (fun h => ?_)
    · intro b15
      refine ap TT_ok 900 (AppT.of (bytes := 16) (sz := 0) (by kernel_rfl) (by kernel_rfl) (by kernel_rfl)) rfl rfl rfl rfl rfl rfl rfl (by show 1 * 17 ≤ 140737488355328; omega) (fun a0 nn cp' hnn => ?_)
      have hnn : nn * 1 = 1 := hnn
      exact ⟨⟨a0, nn, cp', [x.s]⟩, ⟨by rw [if_pos h], by show nn = 1; omega⟩, gs⟩
    · exact ⟨⟨none, 0, 0, []⟩, ⟨by rw [if_neg h], rfl⟩, gs⟩
  rintro ⟨a1, n1, c1, l1⟩ ⟨e1, hn1⟩
  dsimp only at e1 hn1 ⊢
  have hl1 : l1.length ≤ 1 := by rw [e1]; split <;> simp
  refine w_loopB TT_ok (fun z : NmG × Nat => [(4, .v (.int .i64 z.2)), (3, .v (.slice z.1.a z.1.n z.1.cp))]) (fun z => [(900, .e (bufE 9 1 (.slice z.1.a z.1.n z.1.cp) (z.1.l.map fun t => [vs t]).flatten)), (1, .c b1 28 (exC x.op x.v x.s (.slice ad x.l.length cap)))]) (⟨a1, n1, c1, l1⟩, 0) (fun z => z.2 ≤ x.l.length ∧ z.1.n = z.1.l.length ∧ z.1.l = (nmL (x.l.take z.2)).foldl addS l1) (fun z => x.l.length - z.2) ?_
  refine And.intro ⟨⟨Nat.zero_le _, hn1, rfl⟩, gs⟩ ?_
  rintro ⟨⟨a2, n2, c2, l2⟩, i⟩ ⟨hi, hn2, e2⟩
  dsimp only at hi hn2 e2 ⊢
  have hl2 : l2.length ≤ 2000001 := by
    have h1 := adds_len (nmL (x.l.take i)) l1
    have h2 := nmL_drop x.l i
    have h3 := congrArg List.length (nm_eq x)
    rw [List.length_append] at h3
    rw [e2]; omega
  refine cnd (fun h => ?_) (fun h => ?_)
  · have hil : i < x.l.length := by omega
    have hin := getD_mem x.l i ex0 hil
    refine ixE hx i (fun a3 c3 g1 _ _ => ?_)
    have hkid := nm_kid hin
    refine cA TT_ok (fun w v h1 h2 h3 => ih (x.l.getD i ex0) a3 c3 (by have := Ex.lt hin; omega) (by omega) w v h3 (g1.mono h1)) (fun _ => Mono.slF) (fun nm => ?_)
    have hMl := names_len (x.l.getD i ex0)
    have hacc := names_kids l2 (x.l.getD i ex0)
    generalize namesS (x.l.getD i ex0) = M at hMl hacc ⊢
    refine w_loopB TT_ok (fun z : NmG × Nat => [(6, .v (.int .i64 z.2)), (3, .v (.slice z.1.a z.1.n z.1.cp))]) (fun z => [(27, .k none (adB ad) (adO ad + i * 6) (exC (x.l.getD i ex0).op (x.l.getD i ex0).v (x.l.getD i ex0).s (.slice a3 (x.l.getD i ex0).l.length c3))), (900, .e (bufE 9 1 (.slice z.1.a z.1.n z.1.cp) (z.1.l.map fun t => [vs t]).flatten)), (1, .c b1 28 (exC x.op x.v x.s (.slice ad x.l.length cap)))]) (⟨a2, n2, c2, l2⟩, 0) (fun z => z.2 ≤ M.length ∧ z.1.n = z.1.l.length ∧ z.1.l = (M.take z.2).foldl addS l2) (fun z => M.length - z.2) ?_
    refine And.intro ⟨⟨Nat.zero_le _, hn2, rfl⟩, gs⟩ ?_
    rintro ⟨⟨a4, n4, c4, l4⟩, j⟩ ⟨hj, hn4, e4⟩
    dsimp only at hj hn4 e4 ⊢
    have hl4 : l4.length ≤ 6000000 := by
      have h1 := adds_len (M.take j) l2
      rw [List.length_take] at h1
      rw [e4]; omega
    refine cnd (fun h2 => ?_) (fun h2 => ?_)
    · have hjl : j < M.length := by omega
      refine w_loop TT_ok (fun z : Nat => [(8, .v (.int .i64 z)), (7, .v (.bool ((l4.take z).contains (M.getD j []))))]) 0 (fun z => z ≤ l4.length) (fun z => l4.length - z) ?_
      refine And.intro ⟨Nat.zero_le _, gs⟩ ?_
      intro q hq
      refine cnd (fun h3 => ?_) (fun h3 => ?_)
      · have hql : q < l4.length := by omega
        refine regQ TT_ok [0, 1, 4, 5, 6, 7] [2, 3, 8] [] false ?_
        refine ixf (fun v hF => hF.2) j [] ?_
        refine ixB TT_ok 900 (T := 9) (e := 9) rfl ⟨by kernel_rfl, SzIs.of (by kernel_rfl)⟩ rfl rfl (m := q) rfl (by omega) (fun bb oo hab => ?_)
        cases hab
        refine kq ?_
        refine ldB TT_ok 900 (T := 9) rfl (OneT.of (by kernel_rfl)) rfl (v := vs (l4.getD q [])) (by rw [fl1', List.getElem?_map, getD_lt l4 q [] hql, List.getElem?_eq_getElem hql]; rfl) ?_
        refine kq ?_
        refine kq ?_
        have hct := contains_take l4 (M.getD j []) q hql
        refine cnd (fun h4 => ?_) (fun h4 => ?_)
        · refine wi ?_
          exact ⟨q + 1, ⟨by omega, by omega⟩, gs (by rw [hct, decide_eq_true h4, Bool.or_true]; rfl)⟩
        · refine wi ?_
          exact ⟨q + 1, ⟨by omega, by omega⟩, gs (by rw [hct, decide_eq_false h4, Bool.or_false]; rfl)⟩
      · rw [List.take_of_length_le (show l4.length ≤ q by omega)]
        have hst : (M.take (j + 1)).foldl addS l2 = addS l4 (M.getD j []) := by
          rw [take_snocD M j [] hjl, List.foldl_append, ← e4]; rfl
        refine cnd (fun h4 => ?_) (fun h4 => ?_)
        · have h4 : l4.contains (M.getD j []) = false := by simpa using h4
          refine ixf (fun v hF => hF.2) j [] ?_
          intro b58
          refine ap TT_ok 900 (AppT.of (bytes := 16) (sz := 0) (by kernel_rfl) (by kernel_rfl) (by kernel_rfl)) rfl rfl rfl rfl rfl rfl rfl (by rw [fl1]; show (l4.length + 1) * 17 ≤ 140737488355328; omega) (fun a0 nn cp' hnn => ?_)
          rw [fl1] at hnn
          have hnn : nn * 1 = l4.length + 1 := hnn
          refine wi ?_
          refine ⟨(⟨a0, nn, cp', l4 ++ [M.getD j []]⟩, j + 1), ⟨⟨hjl, by show nn = (l4 ++ [_]).length; rw [List.length_append]; show nn = l4.length + 1; omega, by rw [hst, addS, if_neg (by rw [h4]; decide)]⟩, by show M.length - (j + 1) < M.length - j; omega⟩, gs rfl ?_⟩
          show [_, (900, OB.e (bufE 9 1 (.slice a0 nn cp') _)), _] = [_, (900, OB.e (bufE 9 1 (.slice a0 nn cp') _)), _]
          rw [List.map_append, List.flatten_append]; rfl
        · have h4 : l4.contains (M.getD j []) = true := by simpa using h4
          refine wi ?_
          exact ⟨(⟨a4, n4, c4, l4⟩, j + 1), ⟨⟨hjl, hn4, by rw [hst, addS, if_pos h4]⟩, by show M.length - (j + 1) < M.length - j; omega⟩, gs⟩
    · have hje : j = M.length := by omega
      rw [hje, List.take_length, hacc] at e4
      refine wi ?_
      exact ⟨(⟨a4, n4, c4, l4⟩, i + 1), ⟨⟨hil, hn4, by rw [nmL_take x.l i hil, List.foldl_append, ← e2]; exact e4⟩, by show x.l.length - (i + 1) < x.l.length - i; omega⟩, gs (fv := fun v hF => hF.1)⟩
  · have hie : i = x.l.length := by omega
    rw [hie, List.take_length, e1, ← hne] at e2
    subst e2
    subst hn2
    refine And.intro rfl ?_
    refine sealW (g := fun t => [vs t]) (l := namesS x) 900 rfl rfl ?_
    refine goW TT_ok ?_
    exact ⟨(a2, c2), rfl, fun v _ hF => hF.2⟩
theorem c_SameTexts (ad ad2 : Option Addr) (cap cap2 : Nat) (l : List (List UInt8)) (w0 : World) (h0 : View) (hv : VLe h0 (Full w0)) (hb : SlC 9 1 (flatR fun s => [vs s]) h0 (.slice ad l.length cap) l) (hb2 : SlC 9 1 (flatR fun s => [vs s]) h0 (.slice ad2 l.length cap2) l) :
    Calls Tryz.prog 12 #[.slice ad l.length cap, .slice ad2 l.length cap2] w0 (Ret w0 h0 fun u _ => u = .bool true) := by
  have hlm := slc_lm hb
  refine ent (args := [.slice ad l.length cap, .slice ad2 l.length cap2]) TT_ok [] [] Tryz.func12 rfl Tryz.ntmps12 rfl rfl hv ?_
  refine cndF (by simp) ?_
  refine w_loop TT_ok (fun k : Nat => [(5, .v (.int .i64 k))]) 0 (fun k => k ≤ l.length) (fun k => l.length - k) ?_
  refine And.intro ⟨Nat.zero_le _, gs⟩ ?_
  intro k hk
  refine cnd (fun h => ?_) (fun h => ?_)
  · refine And.intro (by kernel_rfl) ?_
    refine ixs hb k [] ?_
    refine ixs hb2 k [] ?_
    refine cndF (by simp) ?_
    refine wi ?_
    exact ⟨k + 1, ⟨by omega, by omega⟩, gs⟩
  · exact rfl

end Go.Proofs.YtpcgdhhndeanoaaGreatDoor
set_option maxRecDepth 100000
namespace Go.Proofs.YtpcgdhhndeanoaaGreatDoor
open Go Go.Dx Go.RowKit
mutual
theorem same_refl : ∀ x : Ex, sameX x x = true
  | .mk o v s l => by
    rw [sameX, show (Ex.mk o v s l).l = l from rfl, sameL_refl l]
    simp [Ex.op, Ex.v, Ex.s]
theorem sameL_refl : ∀ l : List Ex, sameXL l l = true
  | [] => by rw [sameXL]
  | x :: l => by rw [sameXL, same_refl x, sameL_refl l]; rfl
end
set_option maxHeartbeats 2000000 in
theorem c_SyntaxTexts (x y : Ex) (ad ad2 : Option Addr) (cap cap2 : Nat) (w0 : World) (h0 : View) (hv : VLe h0 (Full w0)) (hx : XL h0 ad cap x.l) (hop : i64 x.op) (hvb : valB x.v) (hy : XL h0 ad2 cap2 y.l) (hcnt : (nmS x).length ≤ 2000000) (hp : PowV h0) : Calls Tryz.prog 3 #[.agg (exC x.op x.v x.s (.slice ad x.l.length cap)).toArray, .agg (exC y.op y.v y.s (.slice ad2 y.l.length cap2)).toArray] w0 (Ret w0 h0 fun u _ => u = .bool true) := by
  refine ent (args := [.agg (exC x.op x.v x.s (.slice ad x.l.length cap)).toArray, .agg (exC y.op y.v y.s (.slice ad2 y.l.length cap2)).toArray]) TT_ok [1000007, 2000061, 2000063, 2000064, 2000069, 2000072, 2000078, 2000081] [] Tryz.func3 rfl Tryz.ntmps3 rfl rfl hv ?_
  intro b2 b3
  refine cb (fun w hw => c_XSmall x ad cap w h0 hw hx) ?_
  refine cbg (fun _ w hw => c_XSmall y ad2 cap2 w h0 hw hy) ?_
  refine cnd (fun h => ?_) (fun h => ?_)
  · refine cb (fun w hw => c_lives w h0 hw hp) ?_
    exact rfl
  have hsm : XSm x = true := h.1
  have hgx : GX h0 ad cap x := ⟨hx, hop, hvb, sm_of hsm⟩
  have hdp := deep_of hsm
  have hdp : deepS x ≤ 1000000000 := by omega
  refine cb (fun w hw => c_Text x ad cap hdp w h0 hw hgx hp) ?_
  refine cb (fun w hw => c_RText x ad cap hdp w h0 hw hgx) ?_
  refine And.intro (by kernel_rfl) ?_
  refine cbg (fun _ w hw => c_Check x ad cap w h0 hw hgx) ?_
  refine cbg (fun _ w hw => c_RRightX _ x ad cap (Nat.lt_succ_self _) w h0 hw hgx) ?_
  refine cbg (fun _ w hw => c_Check x ad cap w h0 hw hgx) ?_
  refine cbg (fun _ w hw => c_Check x ad cap w h0 hw hgx) ?_
  refine cndF (by cases rightS x <;> simp) ?_
  refine regPh TT_ok [([0, 2], [1, 3]), ([4, 5, 6, 8], [7, 9, 10, 11]), ([12, 13, 14, 16, 17], [15, 18]), ([19], [20]), ([21, 22, 23], [24, 25]), ([26], [27, 28]), ([29], [])] [] ?_
  refine kq ?_
  refine cb (fun w hw => c_Deep _ x ad cap (Nat.lt_succ_self _) hdp w h0 hw hx) ?_
  refine kq ?_
  refine cb (fun w hw => c_RDeep _ x ad cap (Nat.lt_succ_self _) hdp w h0 hw hx) ?_
  refine kq ?_
  refine cndT (by simp [bq]) ?_
  refine cndT (by simp [bq]) ?_
  refine kq ?_
  refine ⟨by simp [bq], ?_⟩
  refine cA TT_ok (fun w v h1 h2 h3 => c_Names x ad cap hcnt w v h3 (hx.mono h1)) (fun _ => Mono.slF) (fun nm => ?_)
  refine kq ?_
  refine ⟨by simp [bq], ?_⟩
  refine cA TT_ok (fun w v h1 h2 h3 => c_RNames _ x ad cap (Nat.lt_succ_self _) hcnt w v h3 (hx.mono h1)) (fun _ => Mono.slF) (fun nm2 => ?_)
  refine kq ?_
  refine ⟨by simp [bq], ?_⟩
  refine cf (fun w v h1 h2 h3 => c_SameTexts nm.1 nm2.1 nm.2 nm2.2 (namesS x) w v h3 h2.1.2 h2.2) ?_
  refine kq ?_
  refine kq ?_
  refine cndT (by simp [bq]) ?_
  refine cndT (by simp [bq]) ?_
  refine cndT (by simp [bq]) ?_
  refine cndT (by simp [bq]) ?_
  refine kq ?_
  refine ⟨by simp [bq], ?_⟩
  refine cb (fun w hw => c_Same2 _ x y ad ad2 cap cap2 (Nat.lt_succ_self _) w h0 hw hx hy) ?_
  refine kq ?_
  refine ⟨by simp [bq], ?_⟩
  refine cb (fun w hw => c_RSame2 _ x y ad ad2 cap cap2 (Nat.lt_succ_self _) w h0 hw hx hy) ?_
  refine kq ?_
  refine cndT (by simp [bq]) ?_
  refine kq ?_
  refine kq ?_
  refine cndT (by simp [bq]) ?_
  refine cndT (by simp [bq]) ?_
  refine kq ?_
  refine ⟨by simp [bq], ?_⟩
  refine cb (fun w hw => c_Same2 _ x x ad ad cap cap (Nat.lt_succ_self _) w h0 hw hx hx) ?_
  refine kq ?_
  refine kq ?_
  refine kq ?_
  refine ⟨by simp [bq, same_refl], ?_⟩
  refine cb (fun w hw => c_lives w h0 hw hp) ?_
  refine kq ?_
  refine kq ?_
  refine kq ?_
  refine congrArg Value.bool ?_
  simp [same_refl]

end Go.Proofs.YtpcgdhhndeanoaaGreatDoor
namespace Go.Proofs.YtpcgdhhndeanoaaGreatDoor
open Go Go.Dx Go.RowKit
theorem pow_of_laid {W : World} (h : laidMetH Tryz.prog laidL W) : PowV (Full W) := by
  have h1 := laidMetH.filter (fun x => x.1 == "internal/strconv.uint64pow10") h
  have e : laidL.filter (fun x => x.1 == "internal/strconv.uint64pow10") = [("internal/strconv.uint64pow10", Lib.tabData .u64 Lib.pow10Tab)] := by kernel_rfl
  rw [e] at h1
  have h2 := (laidMetH_iff.1 h1).1
  have e2 : ([("internal/strconv.uint64pow10", (Lib.tabData .u64 Lib.pow10Tab : DataW Unit))].filter fun x => x.2.handleName?.isNone) = [("internal/strconv.uint64pow10", Lib.tabData .u64 Lib.pow10Tab)] := by kernel_rfl
  rw [e2] at h2
  have hn : Tryz.prog.globalNamed "internal/strconv.uint64pow10" = some powG := by kernel_rfl
  have ht := Lib.tabIs_of_head (P := Tryz.prog) (t := 129) (e := 121) (n := 20) hn (by kernel_rfl) (by kernel_rfl) (by kernel_rfl) (by kernel_rfl) (by kernel_rfl) h2
  unfold Lib.TabIs World.var? at ht
  rw [hn, Option.bind_some] at ht
  split at ht
  · rename_i cs T fz hg
    have : cs = (Lib.pow10Tab.map fun z => Value.int .u64 z).toArray := Option.some.inj ht
    subst this
    exact ⟨T, fz, hg⟩
  · cases ht
end Go.Proofs.YtpcgdhhndeanoaaGreatDoor
