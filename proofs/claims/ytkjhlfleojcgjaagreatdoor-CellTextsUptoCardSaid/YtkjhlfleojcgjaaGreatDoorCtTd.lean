/- Laws of walks, and what functions of the program compute: part 4. Each with the conditions that it names. -/
import Derived.Test.YtkjhlfleojcgjaaGreatDoorRows
import Derived.Test.YtkjhlfleojcgjaaGreatDoorProg
import Derived.Shelf.Strings.Builder1
import Derived.Shelf.Strings.Builder2
import Derived.Shelf.Strings.OnBuilder
import Derived.Shelf.Small.Strs
import Derived.Shelf.Small.Wraps
import Derived.Shelf.Strconv.Itoa0
import Derived.Shelf.Strconv.Itoa1
import Derived.Shelf.LaysM
import Derived.Shelf.Strconv.Itoa2
import Derived.Shelf.Strconv.Itoa3
import Derived.Shelf.Strings.Prefix
import Derived.Shelf.Bits.Mul64
import Derived.Lib.AppendIntMem
import Derived.Lib.LaidTab
import Derived.Lib.ItoaLen
import Derived.Sort.Grow
import Derived.Test.YtkjhlfleojcgjaaGreatDoorCtTc
set_option linter.unusedSimpArgs false
set_option linter.unusedVariables false
namespace Go.Proofs.YtkjhlfleojcgjaaGreatDoor
open Go Go.Dx Go.RowKit Go.ChangeShapes Go.WideShapes Go.ChangeAt
section
variable {H : Type} {enc : TypeId × Value → H} {W : World}
end
def laidL : List (String × DataW Unit) := [("math/bits.deBruijn32tab", Rows.laid_math_bits_deBruijn32tab), ("math/bits.deBruijn64tab", Rows.laid_math_bits_deBruijn64tab), ("internal/strconv.uint64pow10", Rows.laid_internal_strconv_uint64pow10)]
theorem door_met (os : Os) (args : Array Value) : laidMetH Tryz.prog laidL ((World.doorLaid Tryz.prog 400 os).forCall (fun _ _ => 0) ⟨#[], args, []⟩).memory :=
  laidMetH_of_parts3 (fuel := 8) (laidMet_of_run' 8 (by kernel_rfl) (by kernel_rfl)) (by kernel_rfl) (by kernel_rfl)
end Go.Proofs.YtkjhlfleojcgjaaGreatDoor
namespace Go.Proofs.YtkjhlfleojcgjaaGreatDoor
open Go Go.Dx Go.RowKit Go.ChangeShapes Go.WideShapes Go.ChangeAt
section
variable {H : Type} {enc : TypeId × Value → H} {W : World}
theorem open_valC {fuel : Nat} {cs : List Value} {x : DataW H × List MemPlace} (h : DataW.trod enc Tryz.prog W 0 (fun _ => true) true fuel 35 cs = some x) : ∃ v : Val, cs = valC v ∧ valB v ∧ v.s.length ≤ 9223372036854775807 := by
  obtain ⟨hl, n0, y0, _, h0⟩ := trod_at (FldIs.of (P := Tryz.prog) (t := 35) (i := 0) (off := 0) (ty := 33) (sz := 1) (by kernel_rfl)) h
  obtain ⟨_, n1, y1, _, h1⟩ := trod_at (FldIs.of (P := Tryz.prog) (t := 35) (i := 1) (off := 1) (ty := 3) (sz := 1) (by kernel_rfl)) h
  obtain ⟨_, n2, y2, _, h2⟩ := trod_at (FldIs.of (P := Tryz.prog) (t := 35) (i := 2) (off := 2) (ty := 9) (sz := 1) (by kernel_rfl)) h
  have hl' : cs.length = 3 := hl.trans (by kernel_rfl)
  match cs, hl' with
  | [a, b, c], _ =>
    obtain ⟨k, e0, b0⟩ := trod_i (by kernel_rfl) h0
    obtain ⟨m, e1, b1⟩ := trod_i (by kernel_rfl) h1
    obtain ⟨s, e2, l2⟩ := trod_s (by kernel_rfl) h2
    simp at e0 e1 e2
    subst e0 e1 e2
    exact ⟨⟨k, m, s⟩, rfl, ⟨b0, b1⟩, l2⟩
end
end Go.Proofs.YtkjhlfleojcgjaaGreatDoor
set_option maxRecDepth 100000
namespace Go.Proofs.YtkjhlfleojcgjaaGreatDoor
open Go Go.Dx Go.RowKit Go.ChangeShapes Go.WideShapes Go.ChangeAt
mutual
def bkX : Ex → Nat
  | .mk _ v s l => 1 + s.length + v.s.length + bkXL l
def bkXL : List Ex → Nat
  | [] => 0
  | x :: l => bkX x + bkXL l
end
theorem bkXL_sum : ∀ l : List Ex, bkXL l = (l.map bkX).sum
  | [] => rfl
  | x :: l => by rw [bkXL, bkXL_sum l]; rfl
mutual
theorem nm_bk : ∀ x : Ex, (nmS x).length ≤ bkX x
  | .mk o v s l => by
    have := nmL_bk l
    rw [nmS, bkX, List.length_append]
    split <;> simp <;> omega
theorem nmL_bk : ∀ l : List Ex, (nmL l).length ≤ bkXL l
  | [] => by simp [nmL, bkXL]
  | x :: l => by
    have := nm_bk x
    have := nmL_bk l
    rw [nmL, bkXL, List.length_append]; omega
end
theorem sum_le_range {f g : Nat → Nat} : ∀ n, (∀ i, i < n → f i ≤ g i) → ((List.range n).map f).sum ≤ ((List.range n).map g).sum
  | 0, _ => Nat.le_refl _
  | n + 1, h => by
    have := sum_le_range n fun i hi => h i (by omega)
    have := h n (by omega)
    simp only [List.range_succ, List.map_append, List.sum_append, List.map_cons, List.map_nil, List.sum_cons, List.sum_nil]
    omega
section
variable {H : Type} {enc : TypeId × Value → H} {W : World}
mutual
theorem bk_le {H : Type} : ∀ d : DataW H, bkD d ≤ Rows.uptoBulk d
  | .lit l => by cases l <;> simp [bkD, Rows.uptoBulk]
  | .nil => by simp [bkD, Rows.uptoBulk]
  | .ptr d => by simp [bkD, Rows.uptoBulk]
  | .slice e s => by have := bkL_le e; simp only [bkD, Rows.uptoBulk]; omega
  | .agg p => by have := bkL_le p; simp only [bkD, Rows.uptoBulk]; omega
  | .iface _ _ => by simp [bkD, Rows.uptoBulk]
  | .map _ => by simp [bkD, Rows.uptoBulk]
  | .held _ => by simp [bkD, Rows.uptoBulk]
theorem bkL_le {H : Type} : ∀ l : List (DataW H), bkL l ≤ Rows.uptoBulkAll l
  | [] => by simp [bkL, Rows.uptoBulkAll]
  | d :: r => by have := bk_le d; have := bkL_le r; simp only [bkL, Rows.uptoBulkAll]; omega
end
theorem bulk_of {H : Type} {l : List (DataW H)} (hk : Rows.uptoSmall H l = true) : bkL l ≤ 1048576 :=
  Nat.le_trans (bkL_le l) (of_decide_eq_true hk)
theorem open_valB {fuel : Nat} {cs : List Value} {x : DataW H × List MemPlace} (h : DataW.trod enc Tryz.prog W 0 (fun _ => true) true fuel 35 cs = some x) : ∃ v : Val, cs = valC v ∧ valB v ∧ v.s.length ≤ 9223372036854775807 ∧ v.s.length < bkD x.1 := by
  obtain ⟨v, e, h1, h2⟩ := open_valC h
  refine ⟨v, e, h1, h2, ?_⟩
  obtain ⟨hl, n2, y2, _, h3, h4⟩ := trod_bk (FldIs.of (P := Tryz.prog) (t := 35) (i := 2) (off := 2) (ty := 9) (sz := 1) (by kernel_rfl)) h
  obtain ⟨s, e2, l2, _⟩ := trod_sB (by kernel_rfl) h3
  subst e
  have e2 : vs v.s = vs s := by simpa [valC] using e2
  have e3 : v.s = s := by
    have := e2
    simp only [vs, Value.string.injEq, ByteArray.mk.injEq] at this
    simpa using this
  rw [e3]
  obtain ⟨fs, f, hu, _⟩ := (FldIs.of (P := Tryz.prog) (t := 35) (i := 2) (off := 2) (ty := 9) (sz := 1) (by kernel_rfl))
  have hs := trod_sum hu h
  have hfs : fs.size = 3 := by
    have hb : (match Tryz.prog.underlying 35 with | some (.struct fs) => fs.size | _ => 0) = 3 := by kernel_rfl
    rw [hu] at hb; exact hb
  rw [hfs] at hs
  simp only [List.range_succ, List.range_zero, List.map_append, List.map_cons, List.map_nil, List.sum_append, List.sum_cons, List.sum_nil, List.nil_append] at hs
  omega
theorem open_exB : ∀ (fuel : Nat) (cs : List Value) (x : DataW H × List MemPlace), DataW.trod enc Tryz.prog W 0 (fun _ => true) true fuel 50 cs = some x → ∃ y : Ex, RX (Full W) cs y ∧ bkX y ≤ bkD x.1 := by
  intro fuel
  induction fuel using Nat.strongRecOn with
  | _ fuel ih =>
    intro cs x h
    obtain ⟨hl, n0, y0, _, h0, _⟩ := trod_bk (FldIs.of (P := Tryz.prog) (t := 50) (i := 0) (off := 0) (ty := 47) (sz := 1) (by kernel_rfl)) h
    obtain ⟨_, n1, y1, _, h1, k1⟩ := trod_bk (FldIs.of (P := Tryz.prog) (t := 50) (i := 1) (off := 1) (ty := 35) (sz := 3) (by kernel_rfl)) h
    obtain ⟨_, n2, y2, _, h2, k2⟩ := trod_bk (FldIs.of (P := Tryz.prog) (t := 50) (i := 2) (off := 4) (ty := 9) (sz := 1) (by kernel_rfl)) h
    obtain ⟨_, n3, y3, hn3, h3, k3⟩ := trod_bk (FldIs.of (P := Tryz.prog) (t := 50) (i := 3) (off := 5) (ty := 48) (sz := 1) (by kernel_rfl)) h
    have hsum : bkD x.1 = bkAt 0 x.1 + bkAt 1 x.1 + bkAt 2 x.1 + bkAt 3 x.1 + 1 := by
      obtain ⟨fs, f, hu, _⟩ := (FldIs.of (P := Tryz.prog) (t := 50) (i := 0) (off := 0) (ty := 47) (sz := 1) (by kernel_rfl))
      have hs := trod_sum hu h
      have hfs : fs.size = 4 := by
        have hb : (match Tryz.prog.underlying 50 with | some (.struct fs) => fs.size | _ => 0) = 4 := by kernel_rfl
        rw [hu] at hb; exact hb
      rw [hfs] at hs
      simp only [List.range_succ, List.range_zero, List.map_append, List.map_cons, List.map_nil, List.sum_append, List.sum_cons, List.sum_nil, List.nil_append] at hs
      omega
    have hl' : cs.length = 6 := hl.trans (by kernel_rfl)
    match cs, hl' with
    | [a, b, c, d, e, f], _ =>
      obtain ⟨op, e0, b0⟩ := trod_i (by kernel_rfl) h0
      obtain ⟨v, e1, b1, _, j1⟩ := open_valB h1
      obtain ⟨s, e2, j2, _⟩ := trod_sB (by kernel_rfl) h2
      obtain ⟨ad, cap, n, cc, gb, e3, hs, hk, j3⟩ := open_slB (sz := 6) (t := 48) (e := 50) (by kernel_rfl) (by kernel_rfl) (by decide) (show DataW.trod enc Tryz.prog W 0 (fun _ => true) true n3 48 [f] = some y3 from h3)
      have kids : ∀ i, i < n → ∃ y : Ex, RX (Full W) (cc i) y ∧ bkX y ≤ gb i := fun i hi => by
        obtain ⟨m, z, hm, hz, hb⟩ := hk i hi
        obtain ⟨y, hy, hyb⟩ := ih m (Nat.lt_trans hm hn3) (cc i) z hz
        exact ⟨y, hy, by rw [← hb]; exact hyb⟩
      have : Inhabited Ex := ⟨ex0⟩
      obtain ⟨g, hg⟩ := Go.Deep.choose_lt kids
      simp [valC] at e0 e1 e2
      obtain ⟨rfl, rfl, rfl⟩ := e1
      subst e0 e2 e3
      have hlen : ((List.range n).map g).length = n := by simp
      have := RX.mk (h := Full W) op v s ((List.range n).map g) ad cap cc ⟨b0, b1⟩ (by rw [hlen]; exact hs) (fun i y hi => by
        have hin : i < n := by have := (List.getElem?_eq_some_iff.1 hi).1; simpa using this
        have : y = g i := by simp [hin] at hi; exact hi.symm
        subst this; exact (hg i hin).1)
      rw [hlen] at this
      refine ⟨_, this, ?_⟩
      have hle := sum_le_range (f := fun i => bkX (g i)) (g := gb) n fun i hi => (hg i hi).2
      rw [bkX, bkXL_sum, List.map_map, hsum, k1, k2, k3, j3]
      have hle : (List.map (bkX ∘ g) (List.range n)).sum ≤ ((List.range n).map gb).sum := hle
      omega
end
end Go.Proofs.YtkjhlfleojcgjaaGreatDoor
set_option maxRecDepth 100000
namespace Go.Proofs.YtkjhlfleojcgjaaGreatDoor
open Go Go.Dx Go.RowKit
def TT : Tab := ⟨[(2, ⟨.int .i64, 1, false, [.int .i64 0]⟩),
  (3, ⟨.int .i64, 1, false, [.int .i64 0]⟩),
  (4, ⟨.bool, 1, false, [.bool false]⟩),
  (5, ⟨.int .u8, 1, false, [.int .u8 0]⟩),
  (9, ⟨.str, 1, false, [vs []]⟩),
  (20, ⟨.ot, 1, false, [.nilIface]⟩),
  (21, ⟨.int .i32, 1, false, [.int .i32 0]⟩),
  (23, ⟨.sl 52 15, 1, false, [.slice none 0 0]⟩),
  (25, ⟨.st [(0, 1, false), (1, 1, false), (2, 1, false)], 3, true, [.bool false, .bool false, .slice none 0 0]⟩),
  (26, ⟨.int .i64, 1, false, [.int .i64 0]⟩),
  (32, ⟨.ot, 1, false, [.nilFunc]⟩),
  (33, ⟨.int .i64, 1, false, [.int .i64 0]⟩),
  (35, ⟨.st [(0, 1, false), (1, 1, false), (2, 1, false)], 3, true, [.int .i64 0, .int .i64 0, vs []]⟩),
  (36, ⟨.sl 70 3, 1, false, [.slice none 0 0]⟩),
  (37, ⟨.sl 35 3, 1, false, [.slice none 0 0]⟩),
  (38, ⟨.st [(0, 1, false), (1, 1, false), (2, 1, false)], 3, true, [.bool false, .bool false, .slice none 0 0]⟩),
  (39, ⟨.sl 70 3, 1, false, [.slice none 0 0]⟩),
  (40, ⟨.sl 35 3, 1, false, [.slice none 0 0]⟩),
  (46, ⟨.int .i64, 1, false, [.int .i64 0]⟩),
  (47, ⟨.int .i64, 1, false, [.int .i64 0]⟩),
  (48, ⟨.sl 50 6, 1, false, [.slice none 0 0]⟩),
  (50, ⟨.st [(0, 1, false), (1, 3, true), (4, 1, false), (5, 1, false)], 6, true, [.int .i64 0, .int .i64 0, .int .i64 0, vs [], vs [], .slice none 0 0]⟩),
  (52, ⟨.st [(0, 1, false), (1, 6, true), (7, 6, true), (13, 1, false), (14, 1, false)], 15, true, [.int .i64 0, .int .i64 0, .int .i64 0, .int .i64 0, vs [], vs [], .slice none 0 0, .int .i64 0, .int .i64 0, .int .i64 0, vs [], vs [], .slice none 0 0, .bool false, .bool false]⟩),
  (62, ⟨.sl 9 1, 1, false, [.slice none 0 0]⟩),
  (70, ⟨.st [(0, 1, false), (1, 1, false), (2, 1, false)], 3, true, [vs [], .int .i64 0, .slice none 0 0]⟩),
  (72, ⟨.sl 84 4, 1, false, [.slice none 0 0]⟩),
  (75, ⟨.ot, 1, false, [.pointer none]⟩),
  (77, ⟨.st [(0, 1, false), (1, 1, false)], 2, true, [.slice none 0 0, .int .i64 0]⟩),
  (79, ⟨.st [(0, 2, true), (2, 1, false)], 3, true, [.slice none 0 0, .int .i64 0, .bool false]⟩),
  (82, ⟨.int .i64, 1, false, [.int .i64 0]⟩),
  (84, ⟨.st [(0, 1, false), (1, 1, false), (2, 1, false), (3, 1, false)], 4, true, [.int .i64 0, vs [], .int .i64 0, .int .i64 0]⟩),
  (87, ⟨.ot, 1, false, [.pointer none]⟩),
  (89, ⟨.st [(0, 1, false), (1, 1, false), (2, 1, false)], 3, true, [.slice none 0 0, .int .i64 0, .bool false]⟩),
  (92, ⟨.ot, 1, false, [.nilFunc]⟩),
  (93, ⟨.st [(0, 1, false), (1, 3, true), (4, 1, false), (5, 1, false)], 6, true, [.int .i64 0, .int .i64 0, .int .i64 0, vs [], vs [], .slice none 0 0]⟩),
  (103, ⟨.ot, 1, false, [.nilFunc]⟩),
  (108, ⟨.st [(0, 1, false), (1, 1, false)], 2, true, [.bool false, .bool false]⟩),
  (110, ⟨.ot, 1, false, [.nilFunc]⟩),
  (113, ⟨.ar 2 50 6, 12, true, [.int .i64 0, .int .i64 0, .int .i64 0, vs [], vs [], .slice none 0 0, .int .i64 0, .int .i64 0, .int .i64 0, vs [], vs [], .slice none 0 0]⟩),
  (122, ⟨.st [(0, 4, true), (4, 1, false)], 5, true, [.int .i64 0, vs [], .int .i64 0, .int .i64 0, .int .i64 0]⟩),
  (136, ⟨.ot, 1, false, [.nilFunc]⟩),
  (137, ⟨.ot, 1, false, [.pointer none]⟩),
  (139, ⟨.st [(0, 1, false), (1, 1, false), (2, 1, false)], 3, true, [.slice none 0 0, .slice none 0 0, .int .i64 0]⟩),
  (144, ⟨.ot, 1, false, [.pointer none]⟩),
  (145, ⟨.sl 5 1, 1, false, [.slice none 0 0]⟩),
  (147, ⟨.st [(0, 1, false), (1, 1, false)], 2, true, [.pointer none, .slice none 0 0]⟩),
  (160, ⟨.ot, 1, false, [.nilFunc]⟩),
  (165, ⟨.st [(0, 1, false), (1, 1, false)], 2, true, [.slice none 0 0, .slice none 0 0]⟩),
  (173, ⟨.ot, 1, false, [.pointer none]⟩),
  (175, ⟨.sl 33 1, 1, false, [.slice none 0 0]⟩),
  (185, ⟨.ot, 1, false, [.pointer none]⟩),
  (187, ⟨.st [(0, 1, false), (1, 1, false), (2, 1, false)], 3, true, [.slice none 0 0, .int .i64 0, .bool false]⟩),
  (202, ⟨.ot, 1, false, [.pointer none]⟩),
  (204, ⟨.st [(0, 2, true)], 2, true, [.pointer none, .slice none 0 0]⟩),
  (207, ⟨.ot, 1, false, [.pointer none]⟩),
  (213, ⟨.ot, 1, false, [.nilFunc]⟩),
  (217, ⟨.ot, 1, false, [.pointer none]⟩),
  (219, ⟨.st [(0, 1, false), (1, 1, false), (2, 1, false)], 3, true, [.slice none 0 0, .int .i64 0, .bool false]⟩),
  (226, ⟨.sl 3 1, 1, false, [.slice none 0 0]⟩),
  (232, ⟨.ar 3 9 1, 3, true, [vs [], vs [], vs []]⟩),
  (234, ⟨.st [(0, 1, false), (1, 1, false), (2, 1, false)], 3, true, [.int .i64 0, vs [], .int .i64 0]⟩),
  (241, ⟨.sl 234 3, 1, false, [.slice none 0 0]⟩),
  (246, ⟨.int .u64, 1, false, [.int .u64 0]⟩),
  (251, ⟨.int .u32, 1, false, [.int .u32 0]⟩),
  (254, ⟨.int .u64, 1, false, [.int .u64 0]⟩),
  (259, ⟨.ar 24 5 1, 24, true, [.int .u8 0, .int .u8 0, .int .u8 0, .int .u8 0, .int .u8 0, .int .u8 0, .int .u8 0, .int .u8 0, .int .u8 0, .int .u8 0, .int .u8 0, .int .u8 0, .int .u8 0, .int .u8 0, .int .u8 0, .int .u8 0, .int .u8 0, .int .u8 0, .int .u8 0, .int .u8 0, .int .u8 0, .int .u8 0, .int .u8 0, .int .u8 0]⟩),
  (266, ⟨.ar 20 254 1, 20, true, [.int .u64 0, .int .u64 0, .int .u64 0, .int .u64 0, .int .u64 0, .int .u64 0, .int .u64 0, .int .u64 0, .int .u64 0, .int .u64 0, .int .u64 0, .int .u64 0, .int .u64 0, .int .u64 0, .int .u64 0, .int .u64 0, .int .u64 0, .int .u64 0, .int .u64 0, .int .u64 0]⟩),
  (270, ⟨.ar 32 5 1, 32, true, [.int .u8 0, .int .u8 0, .int .u8 0, .int .u8 0, .int .u8 0, .int .u8 0, .int .u8 0, .int .u8 0, .int .u8 0, .int .u8 0, .int .u8 0, .int .u8 0, .int .u8 0, .int .u8 0, .int .u8 0, .int .u8 0, .int .u8 0, .int .u8 0, .int .u8 0, .int .u8 0, .int .u8 0, .int .u8 0, .int .u8 0, .int .u8 0, .int .u8 0, .int .u8 0, .int .u8 0, .int .u8 0, .int .u8 0, .int .u8 0, .int .u8 0, .int .u8 0]⟩)], [10, 11, 12, 13, 14, 15, 16, 17, 18, 19, 20, 21, 22, 23, 24, 25, 26, 27, 28, 29, 30, 31, 32, 33, 34, 35, 36, 37, 38, 39, 40, 41, 42, 43, 44, 45, 46, 47, 48, 49, 50, 51, 52, 53, 54, 55, 56, 57, 58, 59, 60, 61, 62, 63, 64, 65, 66, 67, 68, 69, 70, 71, 72, 73, 74, 75, 76, 77, 78, 79, 80, 81, 82, 83, 84, 85, 86, 87, 88, 89, 90, 91, 92, 93, 94, 95, 96, 97, 98, 99, 100, 101, 102, 103, 104, 105, 106, 107, 108, 109, 110, 111, 112, 113, 114, 115, 116, 117, 118, 119, 120, 121, 122, 123, 124, 125, 126, 127, 128, 129, 130, 131, 132, 133, 134, 135, 136, 137, 138, 139, 140, 141, 142, 143, 144, 145, 146, 147, 148, 149, 150, 151, 152, 153, 154, 155, 156, 157, 158, 159, 160, 161, 162, 163, 164, 165, 166, 167, 168, 171, 172, 173, 174, 175, 176, 177, 178, 179, 180, 181, 182, 183, 184, 185, 186, 187, 188, 189, 190, 191, 192, 193, 194, 195, 196, 197, 198, 199, 200, 201, 202, 203, 204, 205, 206, 207, 208, 209, 210, 211, 212, 213, 215, 216, 217, 218, 219, 220, 221, 222, 223, 224, 225, 226, 227, 228, 229, 230, 231, 232, 233, 234, 235, 236, 237, 238, 239, 240, 241, 242]⟩
theorem TT_ok : Tab.Ok Tryz.prog TT := ⟨by kernel_rfl, by kernel_rfl, by kernel_rfl⟩
theorem pow_fol : Tryz.prog.follows .mixedOrders = true := by kernel_rfl
end Go.Proofs.YtkjhlfleojcgjaaGreatDoor
set_option maxRecDepth 100000
namespace Go.Proofs.YtkjhlfleojcgjaaGreatDoor
open Go Go.Dx Go.RowKit
theorem c_letter (b : UInt8) (w0 : World) (h0 : View) (hv : VLe h0 (Full w0)) : Calls Tryz.prog 100 #[v8 b] w0 (Ret w0 h0 fun u _ => u = .bool (isLet b)) := by
  refine ent (args := [v8 b]) TT_ok [] [] Tryz.func100 rfl Tryz.ntmps100 rfl rfl hv ?_
  refine ew (low b) rfl ?_
  refine ew (low b) (fun _ => rfl) ?_
  exact rfl
theorem c_digit (b : UInt8) (w0 : World) (h0 : View) (hv : VLe h0 (Full w0)) : Calls Tryz.prog 102 #[v8 b] w0 (Ret w0 h0 fun u _ => u = .bool (isDig b)) := by
  refine ent (args := [v8 b]) TT_ok [] [] Tryz.func102 rfl Tryz.ntmps102 rfl rfl hv ?_
  exact rfl
set_option maxRecDepth 100000 in
theorem c_Rletter' (b : UInt8) (w0 : World) (h0 : View) (hv : VLe h0 (Full w0)) : Calls Tryz.prog 107 #[v8 b] w0 (Ret w0 h0 fun u _ => u = .bool (decide (97 ≤ (b.toNat : Int)) && decide ((b.toNat : Int) ≤ 122) || decide (65 ≤ (b.toNat : Int)) && decide ((b.toNat : Int) ≤ 90) || decide ((b.toNat : Int) = 95))) := by
  refine ent (args := [v8 b]) TT_ok [] [] Tryz.func107 rfl Tryz.ntmps107 rfl rfl hv ?_
  exact rfl
theorem c_Rletter (b : UInt8) (w0 : World) (h0 : View) (hv : VLe h0 (Full w0)) : Calls Tryz.prog 107 #[v8 b] w0 (Ret w0 h0 fun u _ => u = .bool (isLet b)) := by
  have := c_Rletter' b w0 h0 hv
  rw [← isLet_ref] at this
  exact this
theorem c_Rdigit (b : UInt8) (w0 : World) (h0 : View) (hv : VLe h0 (Full w0)) : Calls Tryz.prog 109 #[v8 b] w0 (Ret w0 h0 fun u _ => u = .bool (isDig b)) := by
  refine ent (args := [v8 b]) TT_ok [] [] Tryz.func109 rfl Tryz.ntmps109 rfl rfl hv ?_
  exact rfl
theorem c_word1 (b : UInt8) (w0 : World) (h0 : View) (hv : VLe h0 (Full w0)) : Calls Tryz.prog 183 #[v8 b] w0 (Ret w0 h0 fun u _ => u = .bool (isWord b)) := by
  refine ent (args := [v8 b]) TT_ok [] [] Tryz.func183 rfl Tryz.ntmps183 rfl rfl hv ?_
  refine cl (c_letter b) ?_
  refine clg (fun _ => c_digit b) ?_
  exact rfl
theorem all_snocW {p : UInt8 → Bool} {s : List UInt8} {k : Nat} (hk : k < s.length) (ha : (s.take k).all p = true) (h : p (s.getD k 0) = true) : (s.take (k + 1)).all p = true := by
  rw [take_snocD s k 0 hk, List.all_append, ha]; simp only [List.all_cons, h, List.all_nil, Bool.and_self]
theorem c_runW (s : List UInt8) (hs : s.length ≤ 1000000) (w0 : World) (h0 : View) (hv : VLe h0 (Full w0)) : Calls Tryz.prog 140 #[vs s, .func (.func 183) #[] #[]] w0 (Ret w0 h0 fun u _ => u = .int .i64 ((s.takeWhile isWord).length : Nat)) := by
  refine ent (args := [vs s, .func (.func 183) #[] #[]]) TT_ok [] [] Tryz.func140 rfl Tryz.ntmps140 rfl rfl hv ?_
  refine w_loop TT_ok (fun k : Nat => [(8, .v (.int .i64 k))]) 0 (fun k => k ≤ s.length ∧ (s.take k).all isWord = true) (fun k => s.length - k) ?_
  refine And.intro ⟨⟨Nat.zero_le _, by simp⟩, gs⟩ ?_
  intro k ⟨hk, ha⟩
  refine cnd (fun h => ?_) (fun h => ?_)
  · refine ix k ?_
    refine cl (c_word1 (s.getD k 0)) ?_
    refine cnd (fun h1 => ?_) (fun h1 => ?_)
    · show Value.int .i64 (k : Int) = _
      rw [tw_len isWord s k ha hk (.inr h1)]
    · refine wi ?_
      exact ⟨k + 1, ⟨⟨by omega, all_snocW (by omega) ha h1⟩, by omega⟩, gs⟩
  · show Value.int .i64 (s.length : Int) = _
    rw [tw_len isWord s k ha hk (.inl (by omega))]
    rw [show k = s.length by omega]
theorem c_word (s : List UInt8) (hs : s.length ≤ 1000000) (w0 : World) (h0 : View) (hv : VLe h0 (Full w0)) : Calls Tryz.prog 139 #[vs s] w0 (Ret w0 h0 fun u _ => u = .int .i64 (wordN s : Nat)) := by
  refine ent (args := [vs s]) TT_ok [] [] Tryz.func139 rfl Tryz.ntmps139 rfl rfl hv ?_
  refine ixg 0 ?_ (fun h => ⟨rfl, by rcases s with _ | ⟨b, s⟩ <;> simp_all⟩)
  refine clg (fun _ => c_letter (s.getD 0 0)) ?_
  refine cnd (fun h => ?_) (fun h => ?_)
  · show Value.int .i64 0 = _
    rw [wordN_zero s h]; rfl
  · refine cl (c_runW s hs) ?_
    show Value.int .i64 _ = _
    rw [wordN_pos s h.1 h.2]
theorem c_reserved (s : List UInt8) (w0 : World) (h0 : View) (hv : VLe h0 (Full w0)) : Calls Tryz.prog 204 #[vs s] w0 (Ret w0 h0 fun u _ => u = .bool (resS s)) := by
  refine ent (args := [vs s]) TT_ok [] [11] Tryz.func204 rfl Tryz.ntmps204 rfl rfl hv ?_
  refine w_cut TT_ok (fun _ : Unit => [(4, .v (.bool (resS s)))]) (fun _ => True) ?_
  refine And.intro ?_ ?_
  · repeat (refine cnd (fun h => ⟨(), trivial, gs (by subst h; rfl)⟩) (fun h => ?_))
    exact ⟨(), trivial, gs (by rw [show resS s = decide (s = [110, 117, 108, 108]) by simp_all [resS, resvL]]; rfl)⟩
  · intro _ _
    refine cnd (fun h => ?_) (fun h => ?_)
    · exact congrArg Value.bool h.symm
    · exact congrArg Value.bool h.symm
theorem c_Name (s : List UInt8) (hs : s.length ≤ 1000000) (w0 : World) (h0 : View) (hv : VLe h0 (Full w0)) : Calls Tryz.prog 174 #[vs s] w0 (Ret w0 h0 fun u _ => u = .bool (nameOk s)) := by
  refine ent (args := [vs s]) TT_ok [] [] Tryz.func174 rfl Tryz.ntmps174 rfl rfl hv ?_
  refine clg (fun _ => c_word s hs) ?_
  refine clg (fun _ => c_reserved s) ?_
  show Value.bool _ = _
  simp only [nameOk, Bool.and_assoc]
theorem c_Rword (s : List UInt8) (hs : s.length ≤ 1000000) (w0 : World) (h0 : View) (hv : VLe h0 (Full w0)) : Calls Tryz.prog 146 #[vs s] w0 (Ret w0 h0 fun u _ => u = .int .i64 (wordN s : Nat)) := by
  refine ent (args := [vs s]) TT_ok [] [] Tryz.func146 rfl Tryz.ntmps146 rfl rfl hv ?_
  refine w_loop TT_ok (fun k : Nat => [(3, .v (.int .i64 k))]) 0 (fun k => k ≤ s.length ∧ (s.take k).all isWord = true ∧ (k = 0 ∨ isLet (s.getD 0 0) = true)) (fun k => s.length - k) ?_
  refine And.intro ⟨⟨Nat.zero_le _, by simp, .inl rfl⟩, gs⟩ ?_
  intro k ⟨hk, ha, h0⟩
  refine ixg k ?_
  refine clg (fun _ => c_Rletter (s.getD k 0)) ?_
  refine ixg k ?_
  refine clg (fun _ => c_Rdigit (s.getD k 0)) ?_
  refine cnd (fun h => ?_) (fun h => ?_)
  · refine wi ?_
    refine ⟨k + 1, ⟨⟨by omega, all_snocW (by omega) ha ?_, ?_⟩, by omega⟩, gs⟩
    · rcases h.2 with h1 | h1
      · rw [isWord, h1, Bool.true_or]
      · rw [isWord, h1.2, Bool.or_true]
    · rcases h0 with rfl | h0
      · rcases h.2 with h1 | h1
        · exact .inr h1
        · exfalso; omega
      · exact .inr h0
  · show Value.int .i64 (k : Int) = _
    rw [word_end s k hk ha h0 (by
      rcases h with h1 | h1
      · exact .inl (by omega)
      · exact .inr ⟨h1.1, by rcases h1.2 with h2 | h2; exact .inl (by omega); exact .inr h2⟩)]
theorem c_RReserved (s : List UInt8) (w0 : World) (h0 : View) (hv : VLe h0 (Full w0)) : Calls Tryz.prog 162 #[vs s] w0 (Ret w0 h0 fun u _ => u = .bool (resS s)) := by
  refine ent (args := [vs s]) TT_ok [] [] Tryz.func162 rfl Tryz.ntmps162 rfl rfl hv ?_
  intro b
  refine shutC 5 (row_sl (g := fun s => [vs s]) (l := resvL) (sz := 1) (n := 9) (cp := 9) rfl) ?_ Mono.slF
  refine w_loop TT_ok (fun k : Nat => [(4, .v (.int .i64 k))]) 0 (fun k => k ≤ 9 ∧ ∀ j, j < k → ¬ resvL.getD j [] = s) (fun k => 9 - k) ?_
  refine And.intro ⟨⟨Nat.zero_le _, fun j hj => absurd hj (Nat.not_lt_zero j)⟩, gs⟩ ?_
  intro k ⟨hk, hn⟩
  have hlen : resvL.length = 9 := rfl
  refine cnd (fun h => ?_) (fun h => ?_)
  · refine ixf (l := resvL) (fun v hF => hF.2) k [] ?_ (by omega)
    refine cnd (fun h1 => ?_) (fun h1 => ?_)
    · show Value.bool true = _
      rw [show resS s = true by rw [resS, ← h1]; exact List.contains_iff_mem.2 (getD_mem resvL k [] (by omega))]
    · refine wi ?_
      refine ⟨k + 1, ⟨⟨by omega, fun j hj => ?_⟩, by omega⟩, gs⟩
      rcases Nat.lt_or_ge j k with h2 | h2
      · exact hn j h2
      · rw [show j = k by omega]; exact h1
  · show Value.bool false = _
    rw [show resS s = false by
      rw [resS, Bool.eq_false_iff]
      intro hc
      obtain ⟨j, hj⟩ := List.mem_iff_getElem?.1 (List.contains_iff_mem.1 hc)
      have hj9 : j < 9 := by have := (List.getElem?_eq_some_iff.1 hj).1; omega
      exact hn j (by omega) (by simp [List.getD, hj])]
set_option maxRecDepth 100000 in
theorem c_RName (s : List UInt8) (hs : s.length ≤ 1000000) (w0 : World) (h0 : View) (hv : VLe h0 (Full w0)) : Calls Tryz.prog 119 #[vs s] w0 (Ret w0 h0 fun u _ => u = .bool (nameOk s)) := by
  refine ent (args := [vs s]) TT_ok [] [] Tryz.func119 rfl Tryz.ntmps119 rfl rfl hv ?_
  refine clg (fun _ => c_Rword s hs) ?_
  refine clg (fun _ => c_RReserved s) ?_
  show Value.bool _ = _
  simp only [nameOk, Bool.and_assoc]
end Go.Proofs.YtkjhlfleojcgjaaGreatDoor
set_option maxRecDepth 100000
namespace Go.Proofs.YtkjhlfleojcgjaaGreatDoor
open Go Go.Dx Go.RowKit
theorem c_runD (s : List UInt8) (hs : s.length ≤ 1000000) (w0 : World) (h0 : View) (hv : VLe h0 (Full w0)) : Calls Tryz.prog 140 #[vs s, .func (.func 102) #[] #[]] w0 (Ret w0 h0 fun u _ => u = .int .i64 (digN s : Nat)) := by
  refine ent (args := [vs s, .func (.func 102) #[] #[]]) TT_ok [] [] Tryz.func140 rfl Tryz.ntmps140 rfl rfl hv ?_
  refine w_loop TT_ok (fun k : Nat => [(8, .v (.int .i64 k))]) 0 (fun k => k ≤ s.length ∧ (s.take k).all isDig = true) (fun k => s.length - k) ?_
  refine And.intro ⟨⟨Nat.zero_le _, by simp⟩, gs⟩ ?_
  intro k ⟨hk, ha⟩
  refine cnd (fun h => ?_) (fun h => ?_)
  · refine ix k ?_
    refine cl (c_digit (s.getD k 0)) ?_
    refine cnd (fun h1 => ?_) (fun h1 => ?_)
    · show Value.int .i64 (k : Int) = _
      rw [digN, tw_len isDig s k ha hk (.inr h1)]
    · refine wi ?_
      exact ⟨k + 1, ⟨⟨by omega, all_snocW (by omega) ha h1⟩, by omega⟩, gs⟩
  · show Value.int .i64 (s.length : Int) = _
    rw [digN, tw_len isDig s k ha hk (.inl (by omega))]
    rw [show k = s.length by omega]
theorem c_Lname (s : List UInt8) (hs : s.length ≤ 1000000) (w0 : World) (h0 : View) (hv : VLe h0 (Full w0)) : Calls Tryz.prog 101 #[vs s] w0 (Ret w0 h0 fun u _ => u = resA (nameS s)) := by
  refine ent (args := [vs s]) TT_ok [] [] Tryz.func101 rfl Tryz.ntmps101 rfl rfl hv ?_
  intro b2
  refine cl (c_word s hs) ?_
  refine cnd (fun h => ?_) (fun h => ?_)
  · rw [nameS, if_pos (by omega)]; exact rfl
  · have := wordN_le s
    refine ixl (wordN s) ?_
    rw [nameS, if_neg (by omega)]; exact rfl
theorem numF_lt (s : List UInt8) : ∀ (k v : Nat), k ≤ s.length → numF (s.take k) = some v → v ≤ 9223372036854775807
  | 0, v, _, h => by simp [numF] at h; omega
  | k + 1, v, hk, h => by
    rw [numF_snoc s k (by omega), numStep] at h
    cases ho : numF (s.take k) with
    | none => rw [ho] at h; cases h
    | some u =>
      rw [ho, Option.bind_some] at h
      split at h
      · cases h
      · rename_i hn
        cases h
        have := (s.getD k 0).toNat_lt
        omega
set_option maxHeartbeats 1000000 in
theorem c_number (s : List UInt8) (hs : s.length ≤ 1000000) (w0 : World) (h0 : View) (hv : VLe h0 (Full w0)) : Calls Tryz.prog 103 #[vs s] w0 (Ret w0 h0 fun u _ => u = resA (numS s)) := by
  refine ent (args := [vs s]) TT_ok [] [] Tryz.func103 rfl Tryz.ntmps103 rfl rfl hv ?_
  intro b2
  refine cl (c_runD s hs) ?_
  have hdl := digN_le s
  refine ixg 0 ?_ (fun h => ⟨rfl, by omega⟩)
  refine cnd (fun h => ?_) (fun h => ?_)
  · rw [numS, if_pos ⟨by omega, h.2⟩]; exact rfl
  · have hne : ¬ (1 < digN s ∧ ((s.getD 0 0).toNat : Int) = 48) := fun g => by rcases h with h | h; omega; exact h g.2
    refine w_loop TT_ok (fun z : Nat × Nat => [(5, .v (.int .i64 z.2)), (19, .v (.int .i64 z.1))]) (0, 0) (fun z => z.1 ≤ digN s ∧ numF (s.take z.1) = some z.2) (fun z => digN s - z.1) ?_
    refine And.intro ⟨⟨Nat.zero_le _, rfl⟩, gs⟩ ?_
    rintro ⟨k, v⟩ ⟨hk, hn⟩
    dsimp only at hk hn ⊢
    refine cnd (fun h2 => ?_) (fun h2 => ?_)
    · have hkd : k < digN s := by omega
      obtain ⟨hd1, hd2⟩ := dig_at s k hkd
      have hv1 := numF_lt s k v (by omega) hn
      refine ix k ?_
      have hov := @numS_over s k v (by omega) hn
      have hst := @numS_step s k v (by omega) hn
      generalize hd : (s.getD k 0).toNat - 48 = d at hov hst
      refine ew (d : Int) (show IntKind.u8.wrap (((s.getD k 0).toNat : Int) - 48) = _ by rw [wrap_u8 (by omega) (by omega)]; omega) ?_
      refine ew (d : Int) (wrap_i64 (by omega) (by omega)) ?_
      refine wi ?_
      refine qu (by decide) ?_ (by rw [Int.tdiv_eq_ediv_of_nonneg (by omega)]; omega)
      refine cnd (fun h3 => ?_) (fun h3 => ?_)
      · rw [Int.tdiv_eq_ediv_of_nonneg (by omega)] at h3
        rw [numS, if_neg hne, numF_none s (k + 1) (digN s) (by omega) (hov (by omega))]; exact rfl
      · rw [Int.tdiv_eq_ediv_of_nonneg (by omega)] at h3
        refine ew ((v * 10 : Nat) : Int) (show IntKind.i64.wrap ((v : Int) * 10) = _ by rw [wrap_i64 (by omega) (by omega)]; omega) ?_
        refine ew ((10 * v + d : Nat) : Int) (show IntKind.i64.wrap (((v * 10 : Nat) : Int) + d) = _ by rw [wrap_i64 (by omega) (by omega)]; omega) ?_
        refine wi ?_
        exact ⟨(k + 1, 10 * v + d), ⟨⟨by show k + 1 ≤ digN s; omega, hst (by omega)⟩, by show digN s - (k + 1) < digN s - k; omega⟩, gs⟩
    · have hkk : k = digN s := by omega
      subst hkk
      rw [numS, if_neg hne, hn]; exact rfl
theorem c_HasPrefixL (s m : List UInt8) (w0 : World) (h0 : View) (hv : VLe h0 (Full w0)) : Calls Tryz.prog 184 #[vs s, vs m] w0 (Ret w0 h0 fun u _ => u = .bool (pre s m)) := by
  refine ent (args := [vs s, vs m]) TT_ok [] [] Tryz.func184 rfl Tryz.ntmps184 rfl rfl hv ?_
  refine ⟨m.length, fun h => ⟨rfl, by simpa [bq] using h⟩, ?_⟩
  show Value.bool _ = _
  rw [pre]
  congr 2
  exact decide_eq_decide.2 Int.ofNat_le
theorem c_HasPrefix (s m : List UInt8) (w0 : World) (h0 : View) (hv : VLe h0 (Full w0)) : Calls Tryz.prog 144 #[vs s, vs m] w0 (Ret w0 h0 fun u _ => u = .bool (pre s m)) := by
  refine ent (args := [vs s, vs m]) TT_ok [] [] Tryz.func144 rfl Tryz.ntmps144 rfl rfl hv ?_
  refine cl (c_HasPrefixL s m) ?_
  exact rfl
theorem c_marks (w0 : World) (h0 : View) (hv : VLe h0 (Full w0)) : Calls Tryz.prog 141 #[] w0 (Ret w0 h0 fun u h => ∃ b : Nat, u = .slice (some ⟨b, 0, none⟩) 16 16 ∧ SlC 9 1 (flatR fun s => [vs s]) h (.slice (some ⟨b, 0, none⟩) 16 16) marksL) := by
  refine entA (args := []) TT_ok [0] [] Tryz.func141 rfl Tryz.ntmps141 rfl rfl hv (fun _ => Mono.slF) ?_
  refine ⟨rfl, goW TT_ok ?_⟩
  intro b1
  refine shutG TT_ok (Φ := fun h => SlC 9 1 (flatR fun s => [vs s]) h (.slice (some ⟨b1, 0, none⟩) 16 16) marksL) 1 rfl (row_sl (g := fun s => [vs s]) (l := marksL) (sz := 1) (n := 16) (cp := 16) rfl) ?_ Mono.slF
  exact ⟨b1, rfl, fun v _ hF => hF.2⟩
theorem c_mark1 (m s : List UInt8) (b : Nat) (w0 : World) (h0 : View) (hv : VLe h0 (Full w0)) (hb : h0 b = some (.cells [vs s].toArray 9 (0, 0))) : Calls Tryz.prog 143 #[vs m, .pointer (some ⟨b, 0, none⟩)] w0 (Ret w0 h0 fun u _ => u = .bool (pre s m)) := by
  refine ent (args := [vs m, .pointer (some ⟨b, 0, none⟩)]) TT_ok [] [] Tryz.func143 rfl Tryz.ntmps143 rfl rfl hv ?_
  refine ⟨vs s, fun v w g1 g2 g3 => by rw [cell_row (cs := [vs s]) (g3 _ _ (g1 _ _ hb))]; rfl, ?_⟩
  refine cl (c_HasPrefix s m) ?_
  exact rfl
theorem c_IndexMark (s : List UInt8) (b : Nat) (ad : Option Addr) (cap : Nat) (w0 : World) (h0 : View) (hv : VLe h0 (Full w0)) (hb : h0 b = some (.cells [vs s].toArray 9 (0, 0))) (hl : SlC 9 1 (flatR fun s => [vs s]) h0 (.slice ad 16 cap) marksL) :
    Calls Tryz.prog 142 #[.slice ad 16 cap, .func (.func 143) #[] #[.pointer (some ⟨b, 0, none⟩)]] w0 (Ret w0 h0 fun u _ => u = .int .i64 (ixF (pre s) marksL)) := by
  refine ent (args := [.slice ad 16 cap, .func (.func 143) #[] #[.pointer (some ⟨b, 0, none⟩)]]) TT_ok [] [] Tryz.func142 rfl Tryz.ntmps142 rfl rfl hv ?_
  have hml : marksL.length = 16 := rfl
  refine w_loop TT_ok (fun k : Nat => [(8, .v (.int .i64 k))]) 0 (fun k => k ≤ 16 ∧ (marksL.take k).any (pre s) = false) (fun k => 16 - k) ?_
  refine And.intro ⟨⟨Nat.zero_le _, rfl⟩, gs⟩ ?_
  intro k ⟨hk, ha⟩
  refine cnd (fun h => ?_) (fun h => ?_)
  · refine ixs hl k [] ?_ (by omega)
    refine cb (fun w hw => c_mark1 (marksL.getD k []) s b w h0 hw hb) ?_
    refine cnd (fun h1 => ?_) (fun h1 => ?_)
    · show Value.int .i64 (k : Int) = _
      rw [ixF_at (pre s) marksL k (by omega) ha h1]
    · refine wi ?_
      exact ⟨k + 1, ⟨⟨by omega, any_snoc (pre s) marksL k (by omega) ha h1⟩, by omega⟩, gs⟩
  · have : k = 16 := by omega
    subst this
    rw [ixF_none (pre s) marksL (by rw [← hml, List.take_length] at ha; exact ha)]
    exact rfl
theorem c_mark (s : List UInt8) (w0 : World) (h0 : View) (hv : VLe h0 (Full w0)) : Calls Tryz.prog 105 #[vs s] w0 (Ret w0 h0 fun u _ => u = resA (markG s marksL)) := by
  refine ent (args := [vs s]) TT_ok [8] [] Tryz.func105 rfl Tryz.ntmps105 rfl rfl hv ?_
  intro b1 b2
  refine cA TT_ok (fun w v h1 h2 h3 => c_marks w v h3) (fun _ => Mono.slF) (fun b6 => ?_)
  refine shutG TT_ok (Φ := fun h => h b1 = some (.cells [vs s].toArray 9 (0, 0))) 1 rfl (fun hh _ _ hb => hb) ?_ (fun _ _ hle hx => hle _ _ hx)
  refine cf (fun w v h1 h2 h3 => c_IndexMark s b1 (some ⟨b6, 0, none⟩) 16 w v h3 h2.2 h2.1.2) ?_
  refine cnd (fun h => ?_) (fun h => ?_)
  · rw [mark_none s h]; exact rfl
  · obtain ⟨i, hi, e1, e2⟩ := mark_found s h
    have hml : marksL.length = 16 := rfl
    refine And.intro (by kernel_rfl) ?_
    refine ixf (l := marksL) (fun v hF => hF.1.2) i [] ?_ ⟨e1, by omega⟩
    refine ixf (l := marksL) (fun v hF => hF.1.2) i [] ?_ ⟨e1, by omega⟩
    rw [e2]; exact rfl
set_option maxRecDepth 100000 in
set_option maxHeartbeats 1000000 in
theorem c_text (s : List UInt8) (hs0 : 0 < s.length) (hs : s.length ≤ 1000000) (w0 : World) (h0 : View) (hv : VLe h0 (Full w0)) : Calls Tryz.prog 104 #[vs s] w0 (Ret w0 h0 fun u _ => u = resA (textS s)) := by
  refine ent (args := [vs s]) TT_ok [29] [16] Tryz.func104 rfl Tryz.ntmps104 rfl rfl hv ?_
  intro b2
  refine nilC 900 5 1 ?_
  refine w_loopB TT_ok (fun z : Option Addr × Nat × Nat × Nat × List UInt8 => [(4, .v (.slice z.1 z.2.1 z.2.2.1)), (5, .v (.int .i64 z.2.2.2.1))]) (fun z => [(900, .e (bufE 5 1 (.slice z.1 z.2.1 z.2.2.1) (z.2.2.2.2.map v8))), (2, .c b2 122 (resC (.err 0)))]) (none, 0, 0, 1, [])
    (fun z => z.2.2.2.1 ≤ s.length ∧ z.2.1 = z.2.2.2.2.length ∧ z.2.2.2.2.length ≤ z.2.2.2.1 ∧ textG s z.2.2.2.1 z.2.2.2.2 = textS s) (fun z => s.length - z.2.2.2.1) ?_
  refine And.intro ⟨⟨by show 1 ≤ s.length; omega, rfl, Nat.zero_le _, rfl⟩, gs⟩ ?_
  rintro ⟨a0, n, cp, i, b⟩ ⟨hi, hn, hb, ht⟩
  dsimp only at hi hn hb ht ⊢
  refine cnd (fun h => ?_) (fun h => ?_)
  · have hil : i < s.length := by omega
    refine ix i ?_
    refine w_cut TT_ok (fun j : Nat => [(5, .v (.int .i64 j))]) (fun j => j < s.length ∧ i ≤ j ∧ textG s (j + 1) (b ++ [s.getD j 0]) = textS s) ?_
    refine And.intro ?_ ?_
    · refine cnd (fun h1 => ?_) (fun h1 => ?_)
      · rw [← ht, tx_big hil h1.1 (by omega)]; exact rfl
      refine cnd (fun h2 => ?_) (fun h2 => ?_)
      · refine cvB TT_ok b 900 rfl ?_
        refine wi ?_
        rw [← ht, tx_end hil h2 (fun hh => by rcases h1 with h1 | h1; exact h1 h2; omega)]; exact rfl
      refine cnd (fun h3 => ?_) (fun h3 => ?_)
      · refine wi ?_
        refine ixg (i + 1) ?_
        refine ixg (i + 1) ?_
        refine cnd (fun h4 => ?_) (fun h4 => ?_)
        · rw [← ht, tx_bad hil h2 h3 (by simp only [bt]; omega)]; exact rfl
        · refine ⟨i + 1, ⟨by omega, by omega, ?_⟩, gs⟩
          rw [← ht, tx_esc hil h2 h3 (by simp only [bt]; omega)]
      · refine cnd (fun h4 => ?_) (fun h4 => ?_)
        · rw [← ht, tx_ctl hil h2 h3 (by simp only [bt]; omega)]; exact rfl
        · refine ⟨i, ⟨by omega, Nat.le_refl _, ?_⟩, gs⟩
          rw [← ht, tx_ch hil h2 h3 (by simp only [bt]; omega)]
    · intro j ⟨hj, hij, hj2⟩
      refine ix j ?_
      intro b68
      refine ap TT_ok 900 (AppT.of (bytes := 1) (sz := 0) (by kernel_rfl) (by kernel_rfl) (by kernel_rfl)) rfl rfl rfl rfl rfl rfl rfl (by rw [List.length_map]; show (_ + 1) * 2 ≤ _; omega) (fun a1 n1 c1 e1 => ?_)
      refine wi ?_
      have hn1 : n1 = b.length + 1 := by
        rw [List.length_map] at e1
        have e1 : n1 * 1 = b.length + 1 := e1
        omega
      refine ⟨(a1, n1, c1, j + 1, b ++ [s.getD j 0]), ⟨⟨by show j + 1 ≤ s.length; omega, by show n1 = (b ++ [s.getD j 0]).length; rw [List.length_append]; exact hn1, by show (b ++ [s.getD j 0]).length ≤ j + 1; rw [List.length_append]; show b.length + 1 ≤ j + 1; omega, hj2⟩, by show s.length - (j + 1) < s.length - i; omega⟩, gs rfl ?_⟩
      show [(900, OB.e (bufE 5 1 (.slice a1 n1 c1) _)), _] = [(900, OB.e (bufE 5 1 (.slice a1 n1 c1) _)), _]
      rw [List.map_append]; rfl
  · rw [← ht, tx_over (by omega)]; exact rfl
theorem c_next (s : List UInt8) (hs0 : 0 < s.length) (hs : s.length ≤ 1000000) (w0 : World) (h0 : View) (hv : VLe h0 (Full w0)) : Calls Tryz.prog 67 #[vs s] w0 (Ret w0 h0 fun u _ => u = resA (oneS s)) := by
  refine ent (args := [vs s]) TT_ok [] [] Tryz.func67 rfl Tryz.ntmps67 rfl rfl hv ?_
  intro b2
  refine ix 0 ?_
  refine cl (c_letter (s.getD 0 0)) ?_
  refine cnd (fun h => ?_) (fun h => ?_)
  · refine cl (c_Lname s hs) ?_
    rw [one_let h]; exact rfl
  refine cl (c_digit (s.getD 0 0)) ?_
  refine cnd (fun h2 => ?_) (fun h2 => ?_)
  · refine cl (c_number s hs) ?_
    rw [one_dig h h2]; exact rfl
  refine cnd (fun h3 => ?_) (fun h3 => ?_)
  · refine cl (c_text s hs0 hs) ?_
    rw [one_txt h h2 h3]; exact rfl
  · refine cl (c_mark s) ?_
    rw [one_mark h h2 h3]; exact rfl
theorem flatT (l : List Tok) : (l.map tokC).flatten.length = 4 * l.length := flatC_len l
set_option maxRecDepth 100000 in
set_option maxHeartbeats 1000000 in
theorem c_Lex (s : List UInt8) (w0 : World) (h0 : View) (hv : VLe h0 (Full w0)) : Calls Tryz.prog 32 #[vs s] w0 (Ret w0 h0 fun u h => ∃ x : Option Addr × Nat, u = .tuple #[.slice x.1 (lexS s).1.length x.2, .int .i64 (lexS s).2.1, .int .i64 (lexS s).2.2] ∧ SlC 84 4 (flatR tokC) h (.slice x.1 (lexS s).1.length x.2) (lexS s).1) := by
  refine entA (args := [vs s]) TT_ok [51] [] Tryz.func32 rfl Tryz.ntmps32 rfl rfl hv (fun _ => Mono.slF) ?_
  refine cnd (fun h => ?_) (fun h => ?_)
  · rw [lexS, if_pos (by omega)]
    exact ⟨(none, 0), rfl, fun v _ _ => SlC.nil (by simp [maxLen])⟩
  have hlx : lexS s = lexG s 0 [] := by rw [lexS, if_neg (by omega)]
  refine nilC 900 84 4 ?_
  refine w_loopB TT_ok (fun z : Option Addr × Nat × Nat × Nat × List Tok => [(5, .v (.slice z.1 z.2.1 z.2.2.1)), (6, .v (.int .i64 z.2.2.2.1))]) (fun z => [(900, .e (bufE 84 4 (.slice z.1 z.2.1 z.2.2.1) (z.2.2.2.2.map tokC).flatten))]) (none, 0, 0, 0, [])
    (fun z => z.2.2.2.1 ≤ s.length ∧ z.2.1 = z.2.2.2.2.length ∧ z.2.2.2.2.length ≤ z.2.2.2.1 ∧ lexG s z.2.2.2.1 z.2.2.2.2 = lexS s) (fun z => s.length - z.2.2.2.1) ?_
  refine And.intro ⟨⟨Nat.zero_le _, rfl, Nat.zero_le _, hlx.symm⟩, gs⟩ ?_
  rintro ⟨a0, n, cp, i, out⟩ ⟨hi, hn, hb, ht⟩
  dsimp only at hi hn hb ht ⊢
  refine w_loop TT_ok (fun j : Nat => [(6, .v (.int .i64 j))]) i (fun j => i ≤ j ∧ j ≤ s.length ∧ lexG s j out = lexS s) (fun j => s.length - j) ?_
  refine And.intro ⟨⟨Nat.le_refl _, hi, ht⟩, gs⟩ ?_
  intro j ⟨hij, hj, hjt⟩
  refine ixg j ?_
  refine cnd (fun h1 => ?_) (fun h1 => ?_)
  · refine wi ?_
    refine ⟨j + 1, ⟨⟨by omega, by omega, ?_⟩, by omega⟩, gs⟩
    rw [← hjt, lex_sp (by omega) h1.2]
  refine cnd (fun h2 => ?_) (fun h2 => ?_)
  · have e : lexS s = (out, 0, 0) := by rw [← hjt, lex_end (by omega)]
    subst hn
    refine And.intro rfl ?_
    refine sealW (g := tokC) (l := out) 900 rfl rfl ?_
    refine goW TT_ok ?_
    rw [e]
    exact ⟨(a0, cp), rfl, fun v _ hF => hF.2⟩
  · have hjl : j < s.length := by omega
    have hne : ¬ bt s j = 32 := fun g => by rcases h1 with h1 | h1; omega; exact h1 g
    have hdl : (s.drop j).length = s.length - j := List.length_drop
    refine ixl j ?_
    rcases one_ok (s.drop j) (by omega) with ⟨e, he, h0e⟩ | ⟨t, m, he, hm, hml⟩
    · refine cl (x := resA (.err e)) (fun w h hv => by have := c_next (s.drop j) (by omega) (by omega) w h hv; rw [he] at this; exact this) ?_
      intro b7
      refine cndT (show (!decide (resE (.err e) = 0)) = true by rw [show resE (.err e) = e from rfl, decide_eq_false h0e]; rfl) ?_
      have e2 : lexS s = ([], (j : Int), e) := by rw [← hjt, lex_err hjl hne he]
      rw [e2]
      exact ⟨(none, 0), rfl, fun v _ _ => SlC.nil (by simp [maxLen])⟩
    · refine cl (x := resA (.ok t m)) (fun w h hv => by have := c_next (s.drop j) (by omega) (by omega) w h hv; rw [he] at this; exact this) ?_
      intro b7
      refine cndF rfl ?_
      intro b45
      refine ap TT_ok 900 (AppT.of (bytes := 40) (sz := 3) (by kernel_rfl) (by kernel_rfl) (by kernel_rfl)) rfl rfl rfl rfl rfl rfl rfl (by rw [flatT]; show (_ + 4) * 41 ≤ _; omega) (fun a1 n1 c1 e1 => ?_)
      refine ew ((j + m : Nat) : Int) (show IntKind.i64.wrap ((j : Int) + m) = _ by rw [wrap_i64 (by omega) (by omega)]; omega) ?_
      have hn1 : n1 = out.length + 1 := by
        rw [flatT] at e1
        have e1 : n1 * 4 = 4 * out.length + 4 := e1
        omega
      refine ⟨(a1, n1, c1, j + m, out ++ [{ t with p := (j : Int) }]), ⟨⟨by show j + m ≤ s.length; omega, by show n1 = (out ++ [{ t with p := (j : Int) }]).length; rw [List.length_append]; exact hn1, by show (out ++ [{ t with p := (j : Int) }]).length ≤ j + m; rw [List.length_append]; show out.length + 1 ≤ j + m; omega, by rw [← hjt, lex_ok hjl hne he hm]⟩, by show s.length - (j + m) < s.length - i; omega⟩, gs rfl ?_⟩
      show [(900, OB.e (bufE 84 4 (.slice a1 n1 c1) _))] = [(900, OB.e (bufE 84 4 (.slice a1 n1 c1) _))]
      rw [List.map_append, List.flatten_append]; rfl
end Go.Proofs.YtkjhlfleojcgjaaGreatDoor
set_option maxRecDepth 100000
namespace Go.Proofs.YtkjhlfleojcgjaaGreatDoor
open Go Go.Dx Go.RowKit
def rdC (ad : Option Addr) (n cap : Nat) (at_ : Int) (bad : Bool) : List Value := [.slice ad n cap, .int .i64 at_, .bool bad]
theorem c_now (b : Nat) (ad : Option Addr) (cap : Nat) (l : List Tok) (i : Nat) (bad : Bool) (w0 : World) (h0 : View) (hv : VLe h0 (Full w0)) (hno : h0 b = none) (hl : SlC 84 4 (flatR tokC) h0 (.slice ad l.length cap) l)
    (hbl : w0.heap[b]? = some (.cells (rdC ad l.length cap i bad).toArray 219 (0, 0))) :
    Calls Tryz.prog 219 #[.pointer (some ⟨b, 0, none⟩)] w0 (RetM [b] w0 fun u w' => u = .agg (tokC (nowS l i bad)).toArray ∧ w'.heap[b]? = some (.cells (rdC ad l.length cap i bad).toArray 219 (0, 0))) := by
  refine entM (args := [.pointer (some ⟨b, 0, none⟩)]) TT_ok [] [] [.o 900 0] Tryz.func219 rfl Tryz.ntmps219 rfl rfl hv hbl hno rfl ?_
  intro b2
  refine And.intro (by kernel_rfl) ?_
  refine cnd (fun h => ?_) (fun h => ?_)
  · refine ⟨?_, rfl⟩
    have e : nowS l i bad = t0 := by
      rcases h with h | h
      · rw [nowS, if_pos h]
      · rw [nowS]; split
        · rfl
        · have hge : l.length ≤ i := by omega
          simp [List.getD, List.getElem?_eq_none hge]
    rw [e]; exact rfl
  · refine And.intro (by kernel_rfl) ?_
    refine ixs hl i t0 ?_ (by omega)
    refine ⟨?_, rfl⟩
    rw [nowS, if_neg (by rw [h.1]; decide)]
    exact rfl
theorem c_on (b : Nat) (ad : Option Addr) (cap : Nat) (l : List Tok) (i : Nat) (bad : Bool) (k : Int) (s : List UInt8) (hi : i ≤ 1000000) (w0 : World) (h0 : View) (hv : VLe h0 (Full w0)) (hno : h0 b = none) (hl : SlC 84 4 (flatR tokC) h0 (.slice ad l.length cap) l)
    (hbl : w0.heap[b]? = some (.cells (rdC ad l.length cap i bad).toArray 219 (0, 0))) :
    Calls Tryz.prog 207 #[.pointer (some ⟨b, 0, none⟩), .int .i64 k, vs s] w0 (RetM [b] w0 fun u w' => u = .bool (onS l i bad k s) ∧ w'.heap[b]? = some (.cells (rdC ad l.length cap ((if onS l i bad k s = true then i + 1 else i : Nat) : Int) bad).toArray 219 (0, 0))) := by
  refine entM (args := [.pointer (some ⟨b, 0, none⟩), .int .i64 k, vs s]) TT_ok [] [] [.o 900 0, .v (.int .i64 k), .v (vs s)] Tryz.func207 rfl Tryz.ntmps207 rfl rfl hv hbl hno rfl ?_
  refine cM TT_ok 900 (fun w v h1 h2 h3 h4 h5 => c_now b ad cap l i bad w v h3 h4 (Mono.slF _ _ h1 hl) h5) ?_
  intro b7
  refine cnd (fun h => ?_) (fun h => ?_)
  · have e : onS l i bad k s = false := by rw [onS]; rcases h with h | h <;> simp [h]
    rw [e]; exact ⟨rfl, rfl⟩
  · have e : onS l i bad k s = true := by rw [onS, h.1, h.2]; simp
    rw [e]
    refine wi ?_
    exact ⟨rfl, rfl⟩
theorem c_must (b : Nat) (ad : Option Addr) (cap : Nat) (l : List Tok) (i : Nat) (bad : Bool) (k : Int) (s : List UInt8) (hi : i ≤ 1000000) (w0 : World) (h0 : View) (hv : VLe h0 (Full w0)) (hno : h0 b = none) (hl : SlC 84 4 (flatR tokC) h0 (.slice ad l.length cap) l)
    (hbl : w0.heap[b]? = some (.cells (rdC ad l.length cap i bad).toArray 219 (0, 0))) :
    Calls Tryz.prog 220 #[.pointer (some ⟨b, 0, none⟩), .int .i64 k, vs s] w0 (RetM [b] w0 fun u w' => u = .tuple #[] ∧ w'.heap[b]? = some (.cells (rdC ad l.length cap ((if onS l i bad k s = true then i + 1 else i : Nat) : Int) (bad || !onS l i bad k s)).toArray 219 (0, 0))) := by
  refine entM (args := [.pointer (some ⟨b, 0, none⟩), .int .i64 k, vs s]) TT_ok [] [] [.o 900 0, .v (.int .i64 k), .v (vs s)] Tryz.func220 rfl Tryz.ntmps220 rfl rfl hv hbl hno rfl ?_
  refine cM TT_ok 900 (fun w v h1 h2 h3 h4 h5 => c_on b ad cap l i bad k s hi w v h3 h4 (Mono.slF _ _ h1 hl) h5) ?_
  refine cnd (fun h => ?_) (fun h => ?_)
  · rw [h, Bool.not_false, Bool.or_true]; exact ⟨rfl, rfl⟩
  · rw [h, Bool.not_true, Bool.or_false]; exact ⟨rfl, rfl⟩
theorem c_syWord (s : List UInt8) (w0 : World) (h0 : View) (hv : VLe h0 (Full w0)) : Calls Tryz.prog 221 #[vs s] w0 (Ret w0 h0 fun u _ => u = if s = [110, 117, 108, 108] then .tuple #[.agg (valC v0).toArray, .bool true] else if s = [102, 97, 108, 115, 101] then .tuple #[.agg (valC ⟨3, 0, []⟩).toArray, .bool true] else if s = [116, 114, 117, 101] then .tuple #[.agg (valC ⟨3, 1, []⟩).toArray, .bool true] else .tuple #[.agg (valC v0).toArray, .bool false]) := by
  refine ent (args := [vs s]) TT_ok [] [] Tryz.func221 rfl Tryz.ntmps221 rfl rfl hv ?_
  intro b2
  refine cnd (fun h => ?_) (fun h => ?_)
  · rw [if_pos h]; exact rfl
  rw [if_neg h]
  refine cnd (fun h2 => ?_) (fun h2 => ?_)
  · rw [if_pos h2]; exact rfl
  rw [if_neg h2]
  refine cnd (fun h3 => ?_) (fun h3 => ?_)
  · rw [if_pos h3]; exact rfl
  rw [if_neg h3]; exact rfl
end Go.Proofs.YtkjhlfleojcgjaaGreatDoor
set_option maxRecDepth 100000
namespace Go.Proofs.YtkjhlfleojcgjaaGreatDoor
open Go Go.Dx Go.RowKit
theorem c_binaries (w0 : World) (h0 : View) (hv : VLe h0 (Full w0)) : Calls Tryz.prog 218 #[] w0 (Ret w0 h0 fun u h => ∃ b : Nat, u = .slice (some ⟨b, 0, none⟩) 12 12 ∧ SlC 234 3 (flatR binC) h (.slice (some ⟨b, 0, none⟩) 12 12) binL) := by
  refine entA (args := []) TT_ok [0] [] Tryz.func218 rfl Tryz.ntmps218 rfl rfl hv (fun _ => Mono.slF) ?_
  refine ⟨rfl, goW TT_ok ?_⟩
  intro b
  refine shutG TT_ok 13 rfl (row_sl (g := binC) (l := binL) (sz := 3) (n := 12) (cp := 12) rfl) ?_ Mono.slF
  exact ⟨b, rfl, fun v _ hF => hF.2⟩
theorem c_find (op : Int) (w0 : World) (h0 : View) (hv : VLe h0 (Full w0)) : Calls Tryz.prog 201 #[.int .i64 op] w0 (Ret w0 h0 fun u _ => u = .agg (binC (findS op)).toArray) := by
  refine ent (args := [.int .i64 op]) TT_ok [] [] Tryz.func201 rfl Tryz.ntmps201 rfl rfl hv ?_
  intro b2
  refine cA TT_ok (fun w v h1 h2 h3 => c_binaries w v h3) (fun _ => Mono.slF) (fun mb => ?_)
  refine w_loop TT_ok (fun k : Nat => [(7, .v (.int .i64 k))]) 0 (fun k => k ≤ 12 ∧ ∀ j, j < k → ¬ (binL.getD j (0, [], 0)).1 = op) (fun k => 12 - k) ?_
  refine And.intro ⟨⟨Nat.zero_le _, fun j hj => absurd hj (Nat.not_lt_zero j)⟩, gs⟩ ?_
  intro k ⟨hk, hn⟩
  have hlen : binL.length = 12 := rfl
  refine cnd (fun h => ?_) (fun h => ?_)
  · refine ixf (fun v hF => hF.2) k (0, [], 0) ?_ (by omega)
    intro b4
    refine cnd (fun h1 => ?_) (fun h1 => ?_)
    · show _ = Value.agg (binC (findS op)).toArray
      rw [find_hit op k (by omega) hn h1]; rfl
    · refine wi ?_
      exact ⟨k + 1, ⟨⟨by omega, upto_snoc hn h1⟩, by omega⟩, gs⟩
  · show _ = Value.agg (binC (findS op)).toArray
    rw [find_none op (fun j hj => hn j (by omega))]; rfl
theorem c_count (op : Int) (w0 : World) (h0 : View) (hv : VLe h0 (Full w0)) : Calls Tryz.prog 173 #[.int .i64 op] w0 (Ret w0 h0 fun u _ => u = .int .i64 (cntS op)) := by
  refine ent (args := [.int .i64 op]) TT_ok [] [] Tryz.func173 rfl Tryz.ntmps173 rfl rfl hv ?_
  refine cnd (fun h => ?_) (fun h => ?_)
  · exact congrArg (Value.int .i64) (by rw [cntS, if_pos h])
  refine cnd (fun h2 => ?_) (fun h2 => ?_)
  · exact congrArg (Value.int .i64) (by rw [cntS, if_neg (by omega), if_pos h2])
  refine cnd (fun h3 => ?_) (fun h3 => ?_)
  · exact congrArg (Value.int .i64) (by rw [cntS, if_neg (by omega), if_neg h2, if_pos h3])
  refine cl (c_find op) ?_
  refine cnd (fun h4 => ?_) (fun h4 => ?_)
  · have := (find_lev op).1 h4
    exact congrArg (Value.int .i64) (by rw [cntS, if_neg (by omega), if_neg h2, if_neg h3, if_pos this])
  · have : ¬ (4 ≤ op ∧ op ≤ 15) := fun hh => h4 ((find_lev op).2 hh)
    exact congrArg (Value.int .i64) (by rw [cntS, if_neg (by omega), if_neg h2, if_neg h3, if_neg this])
theorem c_sign (op : Int) (w0 : World) (h0 : View) (hv : VLe h0 (Full w0)) : Calls Tryz.prog 161 #[.int .i64 op] w0 (Ret w0 h0 fun u _ => u = vs (findS op).2.1) := by
  refine ent (args := [.int .i64 op]) TT_ok [] [] Tryz.func161 rfl Tryz.ntmps161 rfl rfl hv ?_
  iterate 12 (refine cnd (fun h => by subst h; exact rfl) (fun h => ?_))
  show vs [] = vs (findS op).2.1
  rw [find_none op (fun j hj => bin_other op (by omega) j hj)]
theorem c_Rcount (op : Int) (w0 : World) (h0 : View) (hv : VLe h0 (Full w0)) : Calls Tryz.prog 118 #[.int .i64 op] w0 (Ret w0 h0 fun u _ => u = .int .i64 (cntS op)) := by
  refine ent (args := [.int .i64 op]) TT_ok [] [] Tryz.func118 rfl Tryz.ntmps118 rfl rfl hv ?_
  refine cnd (fun h => ?_) (fun h => ?_)
  · exact congrArg (Value.int .i64) (by rw [cntS, if_pos h])
  refine cnd (fun h2 => ?_) (fun h2 => ?_)
  · exact congrArg (Value.int .i64) (by rw [cntS, if_neg (by omega), if_pos h2])
  refine cnd (fun h3 => ?_) (fun h3 => ?_)
  · exact congrArg (Value.int .i64) (by rw [cntS, if_neg (by omega), if_neg h2, if_pos h3])
  refine cl (c_sign op) ?_
  refine cnd (fun h4 => ?_) (fun h4 => ?_)
  · have : 4 ≤ op ∧ op ≤ 15 := Decidable.byContradiction fun hh => h4 ((find_sgn op).2 hh)
    exact congrArg (Value.int .i64) (by rw [cntS, if_neg (by omega), if_neg h2, if_neg h3, if_pos this])
  · have : ¬ (4 ≤ op ∧ op ≤ 15) := (find_sgn op).1 h4
    exact congrArg (Value.int .i64) (by rw [cntS, if_neg (by omega), if_neg h2, if_neg h3, if_neg this])
end Go.Proofs.YtkjhlfleojcgjaaGreatDoor
set_option maxRecDepth 100000
namespace Go.Proofs.YtkjhlfleojcgjaaGreatDoor
open Go Go.Dx Go.RowKit
theorem c_binary (b : Nat) (ad : Option Addr) (cap : Nat) (l : List Tok) (i : Nat) (bad : Bool) (lev : Int) (hi : i ≤ 1000000) (w0 : World) (h0 : View) (hv : VLe h0 (Full w0)) (hno : h0 b = none) (hl : SlC 84 4 (flatR tokC) h0 (.slice ad l.length cap) l)
    (hbl : w0.heap[b]? = some (.cells (rdC ad l.length cap i bad).toArray 219 (0, 0))) :
    Calls Tryz.prog 210 #[.pointer (some ⟨b, 0, none⟩), .int .i64 lev] w0 (RetM [b] w0 fun u w' => u = .int .i64 (opS l i bad lev) ∧ w'.heap[b]? = some (.cells (rdC ad l.length cap ((if opS l i bad lev = 0 then i else i + 1 : Nat) : Int) bad).toArray 219 (0, 0))) := by
  refine entM (args := [.pointer (some ⟨b, 0, none⟩), .int .i64 lev]) TT_ok [4000026] [] [.o 900 0, .v (.int .i64 lev)] Tryz.func210 rfl Tryz.ntmps210 rfl rfl hv hbl hno rfl ?_
  refine cA TT_ok (fun w v h1 h2 h3 => c_binaries w v h3) (fun _ => Mono.slF) (fun b8 => ?_)
  refine w_loop TT_ok (fun k : Nat => [(10, .v (.int .i64 k))]) 0 (fun k => k ≤ 12 ∧ ∀ j, j < k → hitB l i bad lev (binL.getD j (0, [], 0)) = false) (fun k => 12 - k) ?_
  refine And.intro ⟨⟨Nat.zero_le _, fun j hj => absurd hj (Nat.not_lt_zero j)⟩, gs⟩ ?_
  intro k ⟨hk, hn⟩
  have hlen : binL.length = 12 := rfl
  refine cnd (fun h => ?_) (fun h => ?_)
  · refine ixf (fun v hF => hF.2) k (0, [], 0) ?_ (by omega)
    have hhit := op_hit l i bad lev k (by omega) hn
    have hpos := op_pos k (by omega)
    have hmiss : hitB l i bad lev (binL.getD k (0, [], 0)) = false → ∀ j, j < k + 1 → hitB l i bad lev (binL.getD j (0, [], 0)) = false := fun hh j hj => by
      by_cases hjk : j = k
      · rw [hjk]; exact hh
      · exact hn j (by omega)
    generalize hbb : binL.getD k (0, [], 0) = bb at hhit hpos hmiss ⊢
    obtain ⟨op, sg, lv⟩ := bb
    have hkd : ∀ kd, kindB (op, sg, lv) = kd → hitB l i bad lev (op, sg, lv) = (decide (lv = lev) && onS l i bad kd sg) := fun kd e => by rw [← e]; rfl
    have fin1 : ∀ kd, kindB (op, sg, lv) = kd → lv = lev → onS l i bad kd sg = true → opS l i bad lev = op := fun kd e h1 h2 => hhit (by rw [hkd kd e, h2, decide_eq_true h1]; rfl)
    intro b6
    refine cnd (fun h3 => ?_) (fun h3 => ?_)
    · have e1 : kindB (op, sg, lv) = 1 := if_pos h3
      refine cnd (fun h4 => ?_) (fun h4 => ?_)
      · refine cMI TT_ok 900 (fun w v h1 h2 h3 h4 h5 => c_on b ad cap l i bad 1 sg hi w v h3 h4 (Mono.slF _ _ h1 hl) h5) ?_
        refine cnd (fun h5 => ?_) (fun h5 => ?_)
        · have e2 := fin1 1 e1 h4 h5.2
          refine ⟨?_, ?_⟩
          · rw [e2]; rfl
          · rw [if_pos h5.2, if_neg (by rw [e2]; exact hpos)]; rfl
        · have h6 : onS l i bad 1 sg = false := h5.resolve_left (fun hh => hh h4)
          rw [if_neg (by rw [h6]; decide)]
          refine wi ?_
          exact ⟨k + 1, ⟨⟨by omega, hmiss (by rw [hkd 1 e1, h6, Bool.and_false])⟩, by omega⟩, gs⟩
      · refine ⟨.bool false, ?_⟩
        refine cndF (by rw [Bool.and_false]) ?_
        refine wi ?_
        exact ⟨k + 1, ⟨⟨by omega, hmiss (by rw [hkd 1 e1, decide_eq_false h4, Bool.false_and])⟩, by omega⟩, gs⟩
    · have e1 : kindB (op, sg, lv) = 4 := if_neg h3
      refine cnd (fun h4 => ?_) (fun h4 => ?_)
      · refine cMI TT_ok 900 (fun w v h1 h2 h3 h4 h5 => c_on b ad cap l i bad 4 sg hi w v h3 h4 (Mono.slF _ _ h1 hl) h5) ?_
        refine cnd (fun h5 => ?_) (fun h5 => ?_)
        · have e2 := fin1 4 e1 h4 h5.2
          refine ⟨?_, ?_⟩
          · rw [e2]; rfl
          · rw [if_pos h5.2, if_neg (by rw [e2]; exact hpos)]; rfl
        · have h6 : onS l i bad 4 sg = false := h5.resolve_left (fun hh => hh h4)
          rw [if_neg (by rw [h6]; decide)]
          refine wi ?_
          exact ⟨k + 1, ⟨⟨by omega, hmiss (by rw [hkd 4 e1, h6, Bool.and_false])⟩, by omega⟩, gs⟩
      · refine ⟨.bool false, ?_⟩
        refine cndF (by rw [Bool.and_false]) ?_
        refine wi ?_
        exact ⟨k + 1, ⟨⟨by omega, hmiss (by rw [hkd 4 e1, decide_eq_false h4, Bool.false_and])⟩, by omega⟩, gs⟩
  · have e : opS l i bad lev = 0 := op_none l i bad lev fun j hj => hn j (by omega)
    refine ⟨?_, ?_⟩
    · rw [e]; rfl
    · rw [if_pos e]; rfl
end Go.Proofs.YtkjhlfleojcgjaaGreatDoor
set_option maxRecDepth 100000
namespace Go.Proofs.YtkjhlfleojcgjaaGreatDoor
open Go Go.Dx Go.RowKit
def exV (e : Ex) (x : Option Addr × Nat) : Value := .agg (exC e.op e.v e.s (.slice x.1 e.l.length x.2)).toArray
theorem c_syWord2 (s : List UInt8) (w0 : World) (h0 : View) (hv : VLe h0 (Full w0)) : Calls Tryz.prog 221 #[vs s] w0 (Ret w0 h0 fun u _ => u = .tuple #[.agg (valC ((wordV s).getD v0)).toArray, .bool (wordV s).isSome]) := by
  refine (c_syWord s w0 h0 hv).mono (Ret.mono fun u _ hu => ?_)
  rw [hu]
  unfold wordV
  by_cases h1 : s = [110, 117, 108, 108]
  · rw [if_pos h1, if_pos h1]; rfl
  rw [if_neg h1, if_neg h1]
  by_cases h2 : s = [102, 97, 108, 115, 101]
  · rw [if_pos h2, if_pos h2]; rfl
  rw [if_neg h2, if_neg h2]
  by_cases h3 : s = [116, 114, 117, 101]
  · rw [if_pos h3, if_pos h3]; rfl
  · rw [if_neg h3, if_neg h3]; rfl
def RdP (b : Nat) (ad : Option Addr) (n cap : Nat) (r : RdR) (u : Value) (w' : World) (hh : View) : Prop := ∃ x : Option Addr × Nat, u = exV r.1 x ∧ w'.heap[b]? = some (.cells (rdC ad n cap ((r.2.1 : Nat) : Int) r.2.2).toArray 219 (0, 0)) ∧ XL hh x.1 x.2 r.1.l
theorem xl_m (x : Option Addr × Nat) (l : List Ex) : Mono fun h => XL h x.1 x.2 l := fun _ _ hle hx => XL.mono hle hx
def rowC (es : List (Ex × Option Addr × Nat)) (i : Nat) : List Value := exC (es.getD i (ex0, none, 0)).1.op (es.getD i (ex0, none, 0)).1.v (es.getD i (ex0, none, 0)).1.s (.slice (es.getD i (ex0, none, 0)).2.1 (es.getD i (ex0, none, 0)).1.l.length (es.getD i (ex0, none, 0)).2.2)
theorem rowC_len (es : List (Ex × Option Addr × Nat)) (l : List Nat) : ∀ x ∈ l, (rowC es x).length = 6 := fun _ _ => rfl
theorem rowC_xl (es : List (Ex × Option Addr × Nat)) {h : View} {ad : Option Addr} {cap : Nat} (hs : SlC 50 6 (flatR (rowC es)) h (.slice ad es.length cap) (List.range es.length)) (hc : ∀ (i : Nat) (p : Ex × Option Addr × Nat), es[i]? = some p → RX h (exC p.1.op p.1.v p.1.s (.slice p.2.1 p.1.l.length p.2.2)) p.1) : XL h ad cap (es.map (·.1)) := by
  refine ⟨rowC es, by simpa using hs, fun i y hi => ?_⟩
  rw [List.getElem?_map] at hi
  cases he : es[i]? with
  | none => rw [he] at hi; cases hi
  | some p =>
    rw [he] at hi
    cases hi
    have e : es.getD i (ex0, none, 0) = p := by simp [List.getD, he]
    have := hc i p he
    unfold rowC
    rw [e]; exact this
theorem c_mustS (b : Nat) (ad : Option Addr) (cap : Nat) (l : List Tok) (p : Nat × Bool) (k : Int) (s : List UInt8) (hi : p.1 ≤ 1000000) (w0 : World) (h0 : View) (hv : VLe h0 (Full w0)) (hno : h0 b = none) (hl : SlC 84 4 (flatR tokC) h0 (.slice ad l.length cap) l)
    (hbl : w0.heap[b]? = some (.cells (rdC ad l.length cap ((p.1 : Nat) : Int) p.2).toArray 219 (0, 0))) :
    Calls Tryz.prog 220 #[.pointer (some ⟨b, 0, none⟩), .int .i64 k, vs s] w0 (RetM [b] w0 fun u w' => u = .tuple #[] ∧ w'.heap[b]? = some (.cells (rdC ad l.length cap (((mustS l p k s).1 : Nat) : Int) (mustS l p k s).2).toArray 219 (0, 0))) :=
  c_must b ad cap l p.1 p.2 k s hi w0 h0 hv hno hl hbl
section rd
variable (b : Nat) (ad : Option Addr) (cap : Nat) (l : List Tok)
def RdC (f : Nat) : Prop := ∀ (lev i : Nat) (bad : Bool), lev ≤ 7 → i ≤ l.length → needS l lev i ≤ f → ∀ (w0 : World) (h0 : View), VLe h0 (Full w0) → h0 b = none → SlC 84 4 (flatR tokC) h0 (.slice ad l.length cap) l →
    w0.heap[b]? = some (.cells (rdC ad l.length cap (i : Int) bad).toArray 219 (0, 0)) → Calls Tryz.prog 185 #[.pointer (some ⟨b, 0, none⟩), .int .i64 (lev : Int)] w0 (RetV [b] w0 h0 fun u w' hh => RdP b ad l.length cap (rdF l f lev i bad) u w' hh)
variable {b ad cap l}
theorem c_branch {f : Nat} (ih : RdC b ad cap l f) (hT : TokN l) (hn : l.length ≤ 999999) (i : Nat) (bad : Bool) (hi : i ≤ l.length) (hf : needS l 0 i ≤ f) (w0 : World) (h0 : View) (hv : VLe h0 (Full w0)) (hno : h0 b = none) (hl : SlC 84 4 (flatR tokC) h0 (.slice ad l.length cap) l)
    (hbl : w0.heap[b]? = some (.cells (rdC ad l.length cap (i : Int) bad).toArray 219 (0, 0))) :
    Calls Tryz.prog 208 #[.pointer (some ⟨b, 0, none⟩)] w0 (RetV [b] w0 h0 fun u w' hh => RdP b ad l.length cap (branchS (rdF l f 0) l i bad) u w' hh) := by
  have g1 := rd_ge l f 0 i bad hi
  have d1 := rd_nd hT f 0 i bad
  unfold branchS
  refine entW (args := [.pointer (some ⟨b, 0, none⟩)]) TT_ok [1000005, 18] [] [.o 900 0] Tryz.func208 rfl Tryz.ntmps208 rfl rfl hv hbl hno rfl (fun x => xl_m x _) ?_
  intro b2
  refine cV TT_ok 900 (fun w v h1 h2 h3 h4 h5 => ih 0 i bad (by omega) hi hf w v h3 h4 (Mono.slF _ _ h1 hl) h5) (fun x => xl_m x _) (fun x1 => ?_)
  have m1 := must_ge (l := l) (p := (rdF l f 0 i bad).2) (k := 1) (s := thenT) (by decide) g1.2
  generalize rdF l f 0 i bad = r1 at g1 d1 m1 ⊢
  intro b3
  refine cM TT_ok 900 (fun w v h1 h2 h3 h4 h5 => c_mustS b ad cap l r1.2 1 thenT (by have := g1.2; omega) w v h3 h4 (Mono.slF _ _ h1 hl) h5) ?_
  generalize mustS l r1.2 1 thenT = p1 at m1 ⊢
  have g2 := rd_ge l f 0 p1.1 p1.2 m1.2
  have d2 := rd_nd hT f 0 p1.1 p1.2
  have f2 : needS l 0 p1.1 ≤ f := by have := g1.1; have := m1.1; unfold needS at hf ⊢; omega
  refine cV TT_ok 900 (fun w v h1 h2 h3 h4 h5 => ih 0 p1.1 p1.2 (by omega) m1.2 f2 w v h3 h4 (Mono.slF _ _ h1 hl) h5) (fun x => xl_m x _) (fun x2 => ?_)
  have m2 := must_ge (l := l) (p := (rdF l f 0 p1.1 p1.2).2) (k := 1) (s := elseT) (by decide) g2.2
  generalize rdF l f 0 p1.1 p1.2 = r2 at g2 d2 m2 ⊢
  intro b4
  refine cM TT_ok 900 (fun w v h1 h2 h3 h4 h5 => c_mustS b ad cap l r2.2 1 elseT (by have := g2.2; omega) w v h3 h4 (Mono.slF _ _ h1 hl) h5) ?_
  generalize mustS l r2.2 1 elseT = p2 at m2 ⊢
  have g3 := rd_ge l f 0 p2.1 p2.2 m2.2
  have d3 := rd_nd hT f 0 p2.1 p2.2
  have f3 : needS l 0 p2.1 ≤ f := by have := g2.1; have := m2.1; unfold needS at f2 ⊢; omega
  refine regQ TT_ok [0, 1, 2] [3, 4, 5, 6] [900] true ?_
  refine cV TT_ok 900 (fun w v h1 h2 h3 h4 h5 => ih 0 p2.1 p2.2 (by omega) m2.2 f3 w v h3 h4 (Mono.slF _ _ h1 hl) h5) (fun x => xl_m x _) (fun x3 => ?_)
  generalize rdF l f 0 p2.1 p2.2 = r3 at g3 d3 ⊢
  refine kq ?_
  intro b17
  refine kq ?_
  refine shutG TT_ok 17 rfl (row_sl (g := rowC [(r1.1, x1), (r2.1, x2), (r3.1, x3)]) (l := List.range 3) (sz := 6) (n := 3) (cp := 3) rfl ?_) ?_ Mono.slF rfl (.inr ⟨b, _, _, 900, rfl, by decide, rfl⟩)
  · exact rowC_len _ _
  refine kq ?_
  exact ⟨(some ⟨b17, 0, none⟩, 3), rfl, rfl, fun v _ hF => rowC_xl [(r1.1, x1), (r2.1, x2), (r3.1, x3)] hF.2 (fun i p hp => by
    match i, hp with
    | 0, hp => cases hp; exact XL.rx hF.1.1.1.2 d1
    | 1, hp => cases hp; exact XL.rx hF.1.1.2 d2
    | 2, hp => cases hp; exact XL.rx hF.1.2 d3
    | n + 3, hp => simp at hp)⟩
theorem c_atom {f : Nat} (ih : RdC b ad cap l f) (hT : TokN l) (hTs : ∀ t ∈ l, t.s.length ≤ 1000000) (hn : l.length ≤ 999999) (i : Nat) (bad : Bool) (hi : i ≤ l.length) (hf : needS l 7 i ≤ f + 1) (w0 : World) (h0 : View) (hv : VLe h0 (Full w0)) (hno : h0 b = none) (hl : SlC 84 4 (flatR tokC) h0 (.slice ad l.length cap) l)
    (hbl : w0.heap[b]? = some (.cells (rdC ad l.length cap (i : Int) bad).toArray 219 (0, 0))) :
    Calls Tryz.prog 209 #[.pointer (some ⟨b, 0, none⟩)] w0 (RetV [b] w0 h0 fun u w' hh => RdP b ad l.length cap (atomS (rdF l f 0) l i bad) u w' hh) := by
  have hns : (nowS l i bad).s.length ≤ 1000000 := by
    unfold nowS
    split
    · decide
    · rcases Nat.lt_or_ge i l.length with h | h
      · rw [getD_lt l i t0 h]; exact hTs _ (List.getElem_mem h)
      · simp only [List.getD, List.getElem?_eq_none h]; decide
  have hlt := fun k s => on_lt (l := l) (i := i) (bad := bad) (k := k) (s := s)
  have hge := fun (h : i + 1 ≤ l.length) => rd_ge l f 0 (i + 1) bad h
  have hnl := fun (h : (nowS l i bad).k ≠ 0) => now_lt h
  refine entW (args := [.pointer (some ⟨b, 0, none⟩)]) TT_ok [] [] [.o 900 0] Tryz.func209 rfl Tryz.ntmps209 rfl rfl hv hbl hno rfl (fun x => xl_m x _) ?_
  intro b2
  refine cM TT_ok 900 (fun w v h1 h2 h3 h4 h5 => c_on b ad cap l i bad 4 [40] (by omega) w v h3 h4 (Mono.slF _ _ h1 hl) h5) ?_
  refine cnd (fun h => ?_) (fun h => ?_)
  · have hlt := (hlt 4 [40] h (by decide)).1
    have ea : atomS (rdF l f 0) l i bad = ((rdF l f 0 (i + 1) bad).1, mustS l (rdF l f 0 (i + 1) bad).2 4 [41]) := if_pos h
    rw [ea, if_pos h]
    have g1 := hge hlt
    refine cV TT_ok 900 (fun w v h1 h2 h3 h4 h5 => ih 0 (i + 1) bad (by omega) hlt (by unfold needS at hf ⊢; omega) w v h3 h4 (Mono.slF _ _ h1 hl) h5) (fun x => xl_m x _) (fun x1 => ?_)
    generalize rdF l f 0 (i + 1) bad = r1 at g1 ⊢
    intro b3
    refine cM TT_ok 900 (fun w v h1 h2 h3 h4 h5 => c_mustS b ad cap l r1.2 4 [41] (by have := g1.2; omega) w v h3 h4 (Mono.slF _ _ h1 hl) h5) ?_
    exact ⟨x1, rfl, rfl, fun v _ hF => hF.2⟩
  · rw [if_neg (by rw [h]; decide)]
    have ea : atomS (rdF l f 0) l i bad = _ := if_neg (by rw [h]; decide)
    rw [ea]
    clear ea hlt
    refine cM TT_ok 900 (fun w v h1 h2 h3 h4 h5 => c_now b ad cap l i bad w v h3 h4 (Mono.slF _ _ h1 hl) h5) ?_
    generalize nowS l i bad = t at hns hnl ⊢
    intro b4
    intro b5
    refine cnd (fun h1 => ?_) (fun h1 => ?_)
    · rw [if_pos h1]
      have := (hnl (by rw [h1]; decide)).1
      refine wi ?_
      exact ⟨(none, 0), rfl, rfl, fun v _ _ => xl_nil v⟩
    rw [if_neg h1]
    refine cnd (fun h2 => ?_) (fun h2 => ?_)
    · rw [if_pos h2]
      have := (hnl (by rw [h2]; decide)).1
      refine wi ?_
      exact ⟨(none, 0), rfl, rfl, fun v _ _ => xl_nil v⟩
    rw [if_neg h2]
    refine cnd (fun h3 => ?_) (fun h3 => ?_)
    · rw [if_pos h3]
      have := (hnl (by rw [h3]; decide)).1
      refine cl (c_syWord2 t.s) ?_
      intro b6
      refine clg (fun _ => c_Name t.s hns) ?_
      refine cnd (fun h4 => ?_) (fun h4 => ?_)
      · rw [if_neg (by rw [h4.1]; decide), if_neg (by rw [h4.2]; decide)]
        exact ⟨(none, 0), rfl, rfl, fun v _ _ => xl_nil v⟩
      · refine cnd (fun h5 => ?_) (fun h5 => ?_)
        · have h6 : nameOk t.s = true := by
            rcases h4 with h4 | h4
            · rw [h5] at h4; cases h4
            · exact h4
          rw [if_neg (by rw [h5]; decide), if_pos h6]
          refine wi ?_
          exact ⟨(none, 0), rfl, rfl, fun v _ _ => xl_nil v⟩
        · rw [if_pos h5]
          refine wi ?_
          exact ⟨(none, 0), rfl, rfl, fun v _ _ => xl_nil v⟩
    · rw [if_neg h3]
      exact ⟨(none, 0), rfl, rfl, fun v _ _ => xl_nil v⟩
theorem need_pos (l : List Tok) {lev i : Nat} (h : lev ≤ 7) : 2 ≤ needS l lev i := by unfold needS; omega
theorem c_read (hT : TokN l) (hTs : ∀ t ∈ l, t.s.length ≤ 1000000) (hn : l.length ≤ 999999) : ∀ f, RdC b ad cap l f
  | 0 => fun lev i bad h7 _ hf => absurd hf (by have := need_pos l (i := i) h7; omega)
  | f + 1 => by
    intro lev i bad h7 hi hf w0 h0 hv hno hl hbl
    have ih := c_read hT hTs hn f
    have hge := fun lev i bad h => rd_ge l f lev i bad h
    have hnd := fun lev i bad => rd_nd hT f lev i bad
    have hR : rdF l (f + 1) lev i bad = _ := rdF.eq_2 l lev i bad f
    generalize rdF l (f + 1) lev i bad = R at hR ⊢
    refine entW (args := [.pointer (some ⟨b, 0, none⟩), .int .i64 (lev : Int)]) TT_ok [3000000, 4000018, 4000032, 37, 60, 1000015] [12] [.o 900 0, .v (.int .i64 (lev : Int))] Tryz.func185 rfl Tryz.ntmps185 rfl rfl hv hbl hno rfl (fun x => xl_m x _) ?_
    intro b4
    refine w_jumps TT_ok 0 (fun _ => [(5, .o 5 0)]) (fun x : Nat × Ex × (Option Addr × Nat) × Nat × Bool => [(5, .c x.1 50 (exC x.2.1.op x.2.1.v x.2.1.s (.slice x.2.2.1.1 x.2.1.l.length x.2.2.1.2))), (4, .c b4 50 (exC 0 v0 [] (.slice none 0 0))), (900, .c b 219 (rdC ad l.length cap ((x.2.2.2.1 : Nat) : Int) x.2.2.2.2))])
      (fun x h => XL h x.2.2.1.1 x.2.2.1.2 x.2.1.l) (fun x => lev < 6 ∧ x.2.2.2.1 ≤ l.length ∧ i ≤ x.2.2.2.1 ∧ Nd x.2.1 ∧ ∃ n, l.length - x.2.2.2.1 < n ∧ loopS (rdF l f (lev + 1)) l lev n x.2.1 x.2.2.2.1 x.2.2.2.2 = R) (fun x => l.length - x.2.2.2.1) (fun x => xl_m x.2.2.1 _) ?_ rfl
    refine ⟨fun x hI => ofV TT_ok ?_, fun hk => ofV TT_ok ?_⟩
    · obtain ⟨b5, e, x, i', bad'⟩ := x
      obtain ⟨hlev, hi', hii, hNd, n, hn1, hR'⟩ := hI
      simp only at hlev hi' hii hNd hn1 hR'
      refine cM TT_ok 900 (fun w v h1 h2 h3 h4 h5 => c_binary b ad cap l i' bad' lev (by omega) w v h3 h4 (Mono.slF _ _ h1 hl) h5) ?_
      obtain ⟨n, rfl⟩ : ∃ m, n = m + 1 := ⟨n - 1, by omega⟩
      rw [loopS] at hR'
      refine cnd (fun h => ?_) (fun h => ?_)
      · rw [if_pos h] at hR' ⊢
        rw [← hR']
        exact ⟨x, rfl, rfl, fun v _ hF => hF⟩
      · rw [if_neg h] at hR' ⊢
        obtain ⟨hlt, rfl⟩ := op_lt h
        have g1 := hge (lev + 1) (i' + 1) false hlt
        have d1 := hnd (lev + 1) (i' + 1) false
        refine regQ TT_ok [0, 1, 2, 3, 4] [5, 6, 7, 8] [900] true ?_
        refine wi ?_
        refine cV TT_ok 900 (fun w v h1 h2 h3 h4 h5 => ih (lev + 1) (i' + 1) false (by omega) hlt (by unfold needS at hf ⊢; omega) w v h3 h4 (Mono.slF _ _ h1 hl) h5) (fun x => xl_m x _) (fun x1 => ?_)
        generalize rdF l f (lev + 1) (i' + 1) false = r1 at g1 d1 hR' ⊢
        refine kq ?_
        intro b59
        refine kq ?_
        refine shutG TT_ok 59 rfl (row_sl (g := rowC [(e, x), (r1.1, x1)]) (l := List.range 2) (sz := 6) (n := 2) (cp := 2) rfl ?_) ?_ Mono.slF rfl (.inr ⟨b, _, _, 900, rfl, by decide, rfl⟩)
        · exact rowC_len _ _
        refine kq ?_
        have hx : ∀ v, (XL v x.1 x.2 e.l ∧ XL v x1.1 x1.2 r1.1.l) ∧ SlC 50 6 (flatR (rowC [(e, x), (r1.1, x1)])) v (.slice (some ⟨b59, 0, none⟩) 2 2) (List.range 2) → XL v (some ⟨b59, 0, none⟩) 2 [e, r1.1] := fun v hF => rowC_xl [(e, x), (r1.1, x1)] hF.2 (fun i p hp => by
          match i, hp with
          | 0, hp => cases hp; exact XL.rx hF.1.1 hNd
          | 1, hp => cases hp; exact XL.rx hF.1.2 d1
          | n + 2, hp => simp at hp)
        refine cnd (fun h2 => ?_) (fun h2 => ?_)
        · rw [if_pos ⟨by omega, h2.2⟩] at hR'
          exact ⟨(b5, .mk (opS l i' false lev) v0 [] [e, r1.1], (some ⟨b59, 0, none⟩, 2), r1.2.1, r1.2.2), ⟨⟨hlev, g1.2, by have := g1.1; show i ≤ r1.2.1; omega, nd_v0 (op_i64 _ _ _ _), n, by have := g1.1; show l.length - r1.2.1 < n; omega, hR'⟩, by have := g1.1; show l.length - r1.2.1 < l.length - i'; omega⟩, gs (fv := fun v hF => hx v hF)⟩
        · rw [if_neg (fun hh => by
            rcases h2 with h2 | h2
            · exact hh.1 (by omega)
            · rw [hh.2] at h2; cases h2)] at hR'
          rw [← hR']
          exact ⟨(some ⟨b59, 0, none⟩, 2), rfl, rfl, fun v _ hF => hx v hF⟩
    · refine cnd (fun hb => ?_) (fun hb => ?_)
      · subst hb
        rw [if_pos rfl] at hR
        rw [hR]
        exact ⟨(none, 0), rfl, rfl, fun v _ _ => xl_nil v⟩
      subst hb
      rw [if_neg (by decide)] at hR
      have r_lev0 : (lev : Int) = 0 → lev = 0 := fun h => by omega
      refine cnd (fun hl0 => ?_) (fun hl0 => ?_)
      · have hl0' := r_lev0 hl0
        subst hl0'
        rw [if_pos rfl] at hR
        refine cMI TT_ok 900 (fun w v h1 h2 h3 h4 h5 => c_on b ad cap l i false 1 ifT (by omega) w v h3 h4 (Mono.slF _ _ h1 hl) h5) ?_
        refine cnd (fun h1 => ?_) (fun h1 => ?_)
        · rw [if_pos h1.2] at hR ⊢
          have hlt := (on_lt h1.2 (by decide)).1
          rw [hR]
          refine cV TT_ok 900 (fun w v h1 h2 h3 h4 h5 => c_branch ih hT hn (i + 1) false hlt (by unfold needS at hf ⊢; omega) w v h3 h4 (Mono.slF _ _ h1 hl) h5) (fun x => xl_m x _) (fun x1 => ?_)
          exact ⟨x1, rfl, rfl, fun v _ hF => hF.2⟩
        · have h2 : onS l i false 1 ifT = false := h1.resolve_left (fun hh => hh rfl)
          rw [if_neg (by rw [h2]; decide)] at hR ⊢
          rw [hR]
          refine cndT rfl ?_
          refine cV TT_ok 900 (fun w v h1 h2 h3 h4 h5 => ih 1 i false (by omega) hi (by unfold needS at hf ⊢; omega) w v h3 h4 (Mono.slF _ _ h1 hl) h5) (fun x => xl_m x _) (fun x1 => ?_)
          exact ⟨x1, rfl, rfl, fun v _ hF => hF.2⟩
      · have hl0' : lev ≠ 0 := fun h => hl0 (by omega)
        rw [if_neg hl0'] at hR
        refine ⟨.bool false, ?_⟩
        refine cndF (by rw [Bool.and_false]) ?_
        refine cndF (decide_eq_false hl0) ?_
        refine cnd (fun h6 => ?_) (fun h6 => ?_)
        · have h6' : lev = 6 := by omega
          subst h6'
          refine cMI TT_ok 900 (fun w v h1 h2 h3 h4 h5 => c_on b ad cap l i false 4 [45] (by omega) w v h3 h4 (Mono.slF _ _ h1 hl) h5) ?_
          refine cnd (fun h1 => ?_) (fun h1 => ?_)
          · rw [if_pos ⟨rfl, h1.2⟩] at hR
            rw [if_pos h1.2]
            have hlt := (on_lt h1.2 (by decide)).1
            have d1 := hnd 6 (i + 1) false
            refine cV TT_ok 900 (fun w v h1 h2 h3 h4 h5 => ih 6 (i + 1) false (by omega) hlt (by unfold needS at hf ⊢; omega) w v h3 h4 (Mono.slF _ _ h1 hl) h5) (fun x => xl_m x _) (fun x1 => ?_)
            generalize rdF l f 6 (i + 1) false = r1 at d1 hR ⊢
            rw [hR]
            intro b36
            refine shutG TT_ok 36 rfl (row_sl (g := rowC [(r1.1, x1)]) (l := List.range 1) (sz := 6) (n := 1) (cp := 1) rfl ?_) ?_ Mono.slF rfl (.inr ⟨b, _, _, 900, rfl, by decide, rfl⟩)
            · exact rowC_len _ _
            exact ⟨(some ⟨b36, 0, none⟩, 1), rfl, rfl, fun v _ hF => rowC_xl [(r1.1, x1)] hF.2 (fun i p hp => by
              match i, hp with
              | 0, hp => cases hp; exact XL.rx hF.1.2 d1
              | n + 1, hp => simp at hp)⟩
          · have h2 : onS l i false 4 [45] = false := h1.resolve_left (fun hh => hh rfl)
            rw [if_neg (fun hh => by rw [h2] at hh; cases hh.2), if_pos (by omega)] at hR
            rw [if_neg (by rw [h2]; decide)]
            rw [hR]
            refine cndT rfl ?_
            refine cV TT_ok 900 (fun w v h1 h2 h3 h4 h5 => c_atom ih hT hTs hn i false hi (by unfold needS at hf ⊢; omega) w v h3 h4 (Mono.slF _ _ h1 hl) h5) (fun x => xl_m x _) (fun x1 => ?_)
            exact ⟨x1, rfl, rfl, fun v _ hF => hF.2⟩
        · have h6' : lev ≠ 6 := fun h => h6 (by omega)
          rw [if_neg (fun hh => h6' hh.1)] at hR
          refine ⟨.bool false, ?_⟩
          refine cndF (by rw [Bool.and_false]) ?_
          refine cnd (fun h7' => ?_) (fun h7' => ?_)
          · rw [if_pos (by omega)] at hR
            rw [hR]
            refine cV TT_ok 900 (fun w v h1 h2 h3 h4 h5 => c_atom ih hT hTs hn i false hi (by unfold needS at hf ⊢; omega) w v h3 h4 (Mono.slF _ _ h1 hl) h5) (fun x => xl_m x _) (fun x1 => ?_)
            exact ⟨x1, rfl, rfl, fun v _ hF => hF.2⟩
          · rw [if_neg (by omega)] at hR
            have g1 := hge (lev + 1) i false hi
            have d1 := hnd (lev + 1) i false
            refine w_lab TT_ok hk (fun x => xl_m x.2.2.1 _) ?_
            refine wi ?_
            refine cV TT_ok 900 (fun w v h1 h2 h3 h4 h5 => ih (lev + 1) i false (by omega) hi (by unfold needS at hf ⊢; omega) w v h3 h4 (Mono.slF _ _ h1 hl) h5) (fun x => xl_m x _) (fun x1 => ?_)
            generalize rdF l f (lev + 1) i false = r1 at g1 d1 hR ⊢
            intro b5
            exact ⟨(b5, r1.1, x1, r1.2.1, r1.2.2), ⟨by show lev < 6; omega, g1.2, g1.1, d1, l.length + 1, by show l.length - r1.2.1 < l.length + 1; omega, hR.symm⟩, gs (fv := fun v hF => hF.2)⟩
end rd
end Go.Proofs.YtkjhlfleojcgjaaGreatDoor
set_option maxRecDepth 100000
namespace Go.Proofs.YtkjhlfleojcgjaaGreatDoor
open Go Go.Dx Go.RowKit
theorem slc_lm {α : Type} {T sz n cp : Nat} {f : View → List Value → α → Prop} {h : View} {ad : Option Addr} {l : List α} (hs : SlC T sz f h (.slice ad n cp) l) : l.length ≤ 9223372036854775807 := by
  obtain ⟨_, _, _, h1, h2⟩ := hs.parts
  simp only [maxLen] at h2
  omega
theorem c_plain (s : List UInt8) (w0 : World) (h0 : View) (hv : VLe h0 (Full w0)) : Calls Tryz.prog 66 #[vs s] w0 (Ret w0 h0 fun u _ => u = .bool (plainS s)) := by
  refine ent (args := [vs s]) TT_ok [] [] Tryz.func66 rfl Tryz.ntmps66 rfl rfl hv ?_
  refine cnd (fun h0 => ?_) (fun h0 => ?_)
  · exact congrArg Value.bool (plain_long (by omega)).symm
  refine rgS TT_ok 900 (fun b => ?_)
  refine w_loopB TT_ok (fun _ : Nat => []) (fun k => [(900, .e (some b, IterC s k))]) 0 (fun k => k ≤ s.length ∧ ∀ j, j < k → plB (s.getD j 0) = true) (fun k => s.length - k) ?_
  refine And.intro ⟨⟨Nat.zero_le _, fun j hj => absurd hj (Nat.not_lt_zero j)⟩, gs⟩ ?_
  intro k ⟨hk, hn⟩
  refine nxS TT_ok 900 (fun h => ?_) (fun h => ?_)
  · refine cndT rfl ?_
    refine cnd (fun h1 => ?_) (fun h1 => ?_)
    · exact congrArg Value.bool (plain_not (k := k) h (dec_bad h h1)).symm
    · obtain ⟨e1, e2⟩ := dec_plain (s := s) (k := k) h h1.1 h1.2
      refine ⟨k + 1, ⟨⟨by omega, fun j hj => ?_⟩, by omega⟩, gs (bl := by rw [e2]; rfl)⟩
      rcases Nat.lt_or_ge j k with h2 | h2
      · exact hn j h2
      · rw [show j = k by omega]; exact e1
  · refine cndF rfl ?_
    exact congrArg Value.bool (plain_all (by omega) (fun j hj => hn j (by omega))).symm
theorem eqV : EqT Tryz.prog 35 valC := EqT.of [(0, .i .i64), (1, .i .i64), (2, .s)] (by kernel_rfl) (by kernel_rfl) (by kernel_rfl) (by kernel_rfl)
  (fun a b s hs => by
    simp only [List.mem_cons, List.mem_nil_iff, or_false] at hs
    rcases hs with rfl | rfl | rfl
    · exact ⟨_, _, rfl, rfl, ⟨_, rfl⟩, ⟨_, rfl⟩⟩
    · exact ⟨_, _, rfl, rfl, ⟨_, rfl⟩, ⟨_, rfl⟩⟩
    · exact ⟨_, _, rfl, rfl, ⟨_, rfl⟩, ⟨_, rfl⟩⟩)
  (fun a b => by
    obtain ⟨k, n, s⟩ := a
    obtain ⟨k', n', s'⟩ := b
    simp [valC, eqC, vs, Bool.and_assoc])
theorem c_VCheck (v : Val) (hvb : valB v) (w0 : World) (h0 : View) (hv : VLe h0 (Full w0)) : Calls Tryz.prog 29 #[.agg (valC v).toArray] w0 (Ret w0 h0 fun u _ => u = .int .i64 (if valOk v then 0 else 2)) := by
  refine ent (args := [.agg (valC v).toArray]) TT_ok [] [11] Tryz.func29 rfl Tryz.ntmps29 rfl rfl hv ?_
  intro b1
  refine w_cut TT_ok (fun _ : Unit => [(3, .v (.bool (valOk v)))]) (fun _ => True) ?_
  refine And.intro ?_ ?_
  · refine cnd (fun h => ?_) (fun h => ?_)
    · refine aq eqV v v0 ?_
      exact ⟨(), trivial, gs (by rw [show valOk v = decide (v = v0) by obtain ⟨vk, vn, vt⟩ := v; simp at h; simp [valOk, v0, h]]; rfl)⟩
    refine cnd (fun h2 => ?_) (fun h2 => ?_)
    · exact ⟨(), trivial, gs (by rw [show valOk v = decide (v.s = []) by simp [valOk, h2]]; rfl)⟩
    refine cnd (fun h3 => ?_) (fun h3 => ?_)
    · refine clg (fun _ => c_plain v.s) ?_
      exact ⟨(), trivial, gs (by rw [show valOk v = (decide (v.n = 0) && plainS v.s) by simp [valOk, h3]]; rfl)⟩
    refine cnd (fun h4 => ?_) (fun h4 => ?_)
    · refine ew _ (fun _ => rfl) ?_
      have e := andnot1 (h := hvb.2) (hr := rfl)
      have e4 : valOk v = (decide (v.s = []) && decide (IntKind.i64.wrap ((BitVec.ofInt IntKind.i64.bits v.n &&& ~~~ BitVec.ofInt IntKind.i64.bits 1).toNat : Int) = 0)) := by
        rw [show decide (IntKind.i64.wrap ((BitVec.ofInt IntKind.i64.bits v.n &&& ~~~ BitVec.ofInt IntKind.i64.bits 1).toNat : Int) = 0) = decide (v.n = 0 ∨ v.n = 1) from decide_eq_decide.2 e]
        simp [valOk, h4]
      exact ⟨(), trivial, gs (by rw [e4]; rfl)⟩
    · exact ⟨(), trivial, gs (by rw [show valOk v = false by simp [valOk, h, h2, h3, h4]]; rfl)⟩
  · intro _ _
    refine cnd (fun h => ?_) (fun h => ?_)
    · show Value.int .i64 2 = _
      rw [if_neg (by rw [h]; decide)]
    · show Value.int .i64 0 = _
      rw [if_pos h]
theorem c_RPlain (s : List UInt8) (hs : s.length ≤ 9223372036854775807) (w0 : World) (h0 : View) (hv : VLe h0 (Full w0)) : Calls Tryz.prog 79 #[vs s] w0 (Ret w0 h0 fun u _ => u = .bool (plainS s)) := by
  refine ent (args := [vs s]) TT_ok [] [] Tryz.func79 rfl Tryz.ntmps79 rfl rfl hv ?_
  refine w_loop TT_ok (fun k : Nat => [(3, .v (.int .i64 k))]) 0 (fun k => k ≤ s.length ∧ ∀ j, j < k → plB (s.getD j 0) = true) (fun k => s.length - k) ?_
  refine And.intro ⟨⟨Nat.zero_le _, fun j hj => absurd hj (Nat.not_lt_zero j)⟩, gs⟩ ?_
  intro k ⟨hk, hn⟩
  refine cnd (fun h => ?_) (fun h => ?_)
  · refine ix k ?_
    refine ixg k ?_
    refine cnd (fun h1 => ?_) (fun h1 => ?_)
    · exact congrArg Value.bool (plain_no (k := k) (by omega) (by omega)).symm
    · refine wi ?_
      refine ⟨k + 1, ⟨⟨by omega, fun j hj => ?_⟩, by omega⟩, gs⟩
      rcases Nat.lt_or_ge j k with h2 | h2
      · exact hn j h2
      · rw [show j = k by omega]; exact pl_yes (by omega) (by omega)
  · exact congrArg Value.bool (plain_len s (fun j hj => hn j (by omega)))
theorem c_RRight (v : Val) (hs : v.s.length ≤ 9223372036854775807) (w0 : World) (h0 : View) (hv : VLe h0 (Full w0)) : Calls Tryz.prog 43 #[.agg (valC v).toArray] w0 (Ret w0 h0 fun u _ => u = .bool (valOk v)) := by
  refine ent (args := [.agg (valC v).toArray]) TT_ok [] [] Tryz.func43 rfl Tryz.ntmps43 rfl rfl hv ?_
  intro b1
  refine cnd (fun h => ?_) (fun h => ?_)
  · exact congrArg Value.bool (by simp [valOk, h])
  refine cnd (fun h2 => ?_) (fun h2 => ?_)
  · exact congrArg Value.bool (by simp [valOk, h2])
  refine cnd (fun h3 => ?_) (fun h3 => ?_)
  · refine clg (fun _ => c_RPlain v.s hs) ?_
    exact congrArg Value.bool (by simp [valOk, h3])
  refine cnd (fun h4 => ?_) (fun h4 => ?_)
  · exact congrArg Value.bool (by simp [valOk, h4])
  · exact congrArg Value.bool (by simp [valOk, h, h2, h3, h4])
end Go.Proofs.YtkjhlfleojcgjaaGreatDoor
set_option maxRecDepth 100000
namespace Go.Proofs.YtkjhlfleojcgjaaGreatDoor
open Go Go.Dx Go.RowKit
theorem ixE {c : Cx} {F : FV} {n : Nat} {ad : Option Addr} {cap : Nat} {l : List Ex} {i : Int} {X : Nat → List Value → Prop} (H : XL c.h0 ad cap l) (j : Nat)
    (k : ∀ a2 c2, XL c.h0 a2 c2 (l.getD j ex0).l → i64 (l.getD j ex0).op → valB (l.getD j ex0).v → X j (exC (l.getD j ex0).op (l.getD j ex0).v (l.getD j ex0).s (.slice a2 (l.getD j ex0).l.length c2)))
    (h : i = (j : Int) ∧ j < l.length := by omega) (hn : n = l.length := by rfl) : ∃ (j : Nat) (cs : List Value), (i = (j : Int) ∧ j < n ∧ ElC c.h0 F ad (j * 6) cs) ∧ X j cs := by
  obtain ⟨g, off, a2, c2, ha, h1, h2, h3, hc⟩ := H.at2 h.2
  subst hn
  exact ⟨j, _, ⟨h.1, h.2, fun v hv _ => ⟨by rw [ha]; rfl, fun w hw => by rw [ha]; exact hc w (hv.trans hw)⟩⟩, k a2 c2 h1 h2 h3⟩
theorem c_IndexX (ad : Option Addr) (cap : Nat) (l : List Ex) (p : Ex → Bool) (w0 : World) (h0 : View) (hv : VLe h0 (Full w0)) (hx : XL h0 ad cap l)
    (hp : ∀ j, j < l.length → ∀ a2 c2, XL h0 a2 c2 (l.getD j ex0).l → i64 (l.getD j ex0).op → valB (l.getD j ex0).v → ∀ w, VLe h0 (Full w) → Calls Tryz.prog 176 #[.agg (exC (l.getD j ex0).op (l.getD j ex0).v (l.getD j ex0).s (.slice a2 (l.getD j ex0).l.length c2)).toArray] w (Ret w h0 fun u _ => u = .bool (p (l.getD j ex0)))) :
    Calls Tryz.prog 205 #[.slice ad l.length cap, .func (.func 176) #[] #[]] w0 (Ret w0 h0 fun u _ => u = .int .i64 (idxS p l)) := by
  have hlm := hx.lm
  refine ent (args := [.slice ad l.length cap, .func (.func 176) #[] #[]]) TT_ok [] [] Tryz.func205 rfl Tryz.ntmps205 rfl rfl hv ?_
  refine w_loop TT_ok (fun k : Nat => [(8, .v (.int .i64 k))]) 0 (fun k => k ≤ l.length ∧ ∀ j, j < k → p (l.getD j ex0) = false) (fun k => l.length - k) ?_
  refine And.intro ⟨⟨Nat.zero_le _, fun j hj => absurd hj (Nat.not_lt_zero j)⟩, gs⟩ ?_
  intro k ⟨hk, hn⟩
  refine cnd (fun h => ?_) (fun h => ?_)
  · refine ixE hx k (fun a2 c2 h1 h2 h3 => ?_)
    refine cb (fun w hw => hp k (by omega) a2 c2 h1 h2 h3 w hw) ?_
    refine cnd (fun h4 => ?_) (fun h4 => ?_)
    · exact congrArg (Value.int .i64) (idx_hit ex0 (by omega) hn h4).symm
    · refine wi ?_
      exact ⟨k + 1, ⟨⟨by omega, upto_snoc hn h4⟩, by omega⟩, gs⟩
  · exact congrArg (Value.int .i64) (idx_none ex0 (fun j hj => hn j (by omega))).symm
theorem c_ContainsX (ad : Option Addr) (cap : Nat) (l : List Ex) (p : Ex → Bool) (w0 : World) (h0 : View) (hv : VLe h0 (Full w0)) (hx : XL h0 ad cap l)
    (hp : ∀ j, j < l.length → ∀ a2 c2, XL h0 a2 c2 (l.getD j ex0).l → i64 (l.getD j ex0).op → valB (l.getD j ex0).v → ∀ w, VLe h0 (Full w) → Calls Tryz.prog 176 #[.agg (exC (l.getD j ex0).op (l.getD j ex0).v (l.getD j ex0).s (.slice a2 (l.getD j ex0).l.length c2)).toArray] w (Ret w h0 fun u _ => u = .bool (p (l.getD j ex0)))) :
    Calls Tryz.prog 175 #[.slice ad l.length cap, .func (.func 176) #[] #[]] w0 (Ret w0 h0 fun u _ => u = .bool (l.any p)) := by
  refine ent (args := [.slice ad l.length cap, .func (.func 176) #[] #[]]) TT_ok [] [] Tryz.func175 rfl Tryz.ntmps175 rfl rfl hv ?_
  refine cb (fun w hw => c_IndexX ad cap l p w h0 hw hx hp) ?_
  exact congrArg Value.bool (idx_any (p := p) (l := l))
theorem any_right (l : List Ex) : (!(l.any fun y => !rightS y)) = l.all rightS := any_all rightS l
set_option maxHeartbeats 1000000 in
theorem c_right : ∀ (k : Nat) (x : Ex) (ad : Option Addr) (cap : Nat), SizeOf.sizeOf x < k → ∀ (w0 : World) (h0 : View), VLe h0 (Full w0) → GX h0 ad cap x → Calls Tryz.prog 135 #[.agg (exC x.op x.v x.s (.slice ad x.l.length cap)).toArray] w0 (Ret w0 h0 fun u _ => u = .bool (rightS x)) := by
  intro k
  induction k with
  | zero => intro x ad cap h; omega
  | succ k ih =>
    intro x ad cap hk w0 h0 hv hx
    have hsm := hx.sm.parts
    have hp : ∀ j, j < x.l.length → ∀ a2 c2, XL h0 a2 c2 (x.l.getD j ex0).l → i64 (x.l.getD j ex0).op → valB (x.l.getD j ex0).v → ∀ w, VLe h0 (Full w) → Calls Tryz.prog 176 #[.agg (exC (x.l.getD j ex0).op (x.l.getD j ex0).v (x.l.getD j ex0).s (.slice a2 (x.l.getD j ex0).l.length c2)).toArray] w (Ret w h0 fun u _ => u = .bool (!rightS (x.l.getD j ex0))) := by
      intro j hj a2 c2 g1 g2 g3 w hw
      refine ent (args := [.agg (exC (x.l.getD j ex0).op (x.l.getD j ex0).v (x.l.getD j ex0).s (.slice a2 (x.l.getD j ex0).l.length c2)).toArray]) TT_ok [] [] Tryz.func176 rfl Tryz.ntmps176 rfl rfl hw ?_
      intro b
      refine cb (fun w hw => ih _ a2 c2 (by have := Ex.lt (getD_mem x.l j ex0 hj); omega) w h0 hw ⟨g1, g2, g3, hsm.2.2.2 _ (getD_mem x.l j ex0 hj)⟩) ?_
      exact rfl
    refine ent (args := [.agg (exC x.op x.v x.s (.slice ad x.l.length cap)).toArray]) TT_ok [] [] Tryz.func135 rfl Tryz.ntmps135 rfl rfl hv ?_
    intro b1
    refine And.intro (by kernel_rfl) ?_
    refine cl (c_count x.op) ?_
    refine cnd (fun h => ?_) (fun h => ?_)
    · exact congrArg Value.bool (by rw [right_eq, decide_eq_false h, Bool.false_and])
    refine cnd (fun h1 => ?_) (fun h1 => ?_)
    · refine clg (fun _ => c_VCheck x.v hx.v) ?_
      exact congrArg Value.bool (by rw [right_eq, decide_eq_true h, if_pos h1]; simp [Bool.and_assoc])
    refine cnd (fun h2 => ?_) (fun h2 => ?_)
    · refine aq eqV x.v v0 ?_
      refine clg (fun _ => c_Name x.s (by omega)) ?_
      exact congrArg Value.bool (by rw [right_eq, decide_eq_true h, if_neg h1, if_pos h2]; simp)
    · refine aq eqV x.v v0 ?_
      refine cbg (fun _ w hw => c_ContainsX ad cap x.l (fun y => !rightS y) w h0 hw hx.xl hp) ?_
      exact congrArg Value.bool (by rw [right_eq, decide_eq_true h, if_neg h1, if_neg h2, any_right]; simp)
theorem c_Check (x : Ex) (ad : Option Addr) (cap : Nat) (w0 : World) (h0 : View) (hv : VLe h0 (Full w0)) (hx : GX h0 ad cap x) : Calls Tryz.prog 97 #[.agg (exC x.op x.v x.s (.slice ad x.l.length cap)).toArray] w0 (Ret w0 h0 fun u _ => u = .int .i64 (if rightS x then 0 else 2)) := by
  refine ent (args := [.agg (exC x.op x.v x.s (.slice ad x.l.length cap)).toArray]) TT_ok [] [] Tryz.func97 rfl Tryz.ntmps97 rfl rfl hv ?_
  intro b1
  refine cb (fun w hw => c_right _ x ad cap (Nat.lt_succ_self _) w h0 hw hx) ?_
  refine cnd (fun h => ?_) (fun h => ?_)
  · exact congrArg (Value.int .i64) (by rw [if_neg (by rw [h]; decide)])
  · exact congrArg (Value.int .i64) (by rw [if_pos h])
set_option maxHeartbeats 1000000 in
theorem c_RRightX : ∀ (k : Nat) (x : Ex) (ad : Option Addr) (cap : Nat), SizeOf.sizeOf x < k → ∀ (w0 : World) (h0 : View), VLe h0 (Full w0) → GX h0 ad cap x → Calls Tryz.prog 80 #[.agg (exC x.op x.v x.s (.slice ad x.l.length cap)).toArray] w0 (Ret w0 h0 fun u _ => u = .bool (rightS x)) := by
  intro k
  induction k with
  | zero => intro x ad cap h; omega
  | succ k ih =>
    intro x ad cap hk w0 h0 hv hx
    have hsm := hx.sm.parts
    have hlm := hx.xl.lm
    refine ent (args := [.agg (exC x.op x.v x.s (.slice ad x.l.length cap)).toArray]) TT_ok [] [] Tryz.func80 rfl Tryz.ntmps80 rfl rfl hv ?_
    intro b1
    refine And.intro (by kernel_rfl) ?_
    refine cl (c_Rcount x.op) ?_
    refine cnd (fun h => ?_) (fun h => ?_)
    · exact congrArg Value.bool (by rw [right_eq, decide_eq_false h, Bool.false_and])
    refine cnd (fun h1 => ?_) (fun h1 => ?_)
    · refine clg (fun _ => c_RRight x.v (by omega)) ?_
      exact congrArg Value.bool (by rw [right_eq, decide_eq_true h, if_pos h1]; simp [Bool.and_assoc])
    refine cnd (fun h2 => ?_) (fun h2 => ?_)
    · refine aq eqV x.v v0 ?_
      refine clg (fun _ => c_RName x.s (by omega)) ?_
      exact congrArg Value.bool (by rw [right_eq, decide_eq_true h, if_neg h1, if_pos h2]; simp)
    · refine w_loop TT_ok (fun k : Nat => [(3, .v (.int .i64 k))]) 0 (fun k => k ≤ x.l.length ∧ ∀ j, j < k → rightS (x.l.getD j ex0) = true) (fun k => x.l.length - k) ?_
      refine And.intro ⟨⟨Nat.zero_le _, fun j hj => absurd hj (Nat.not_lt_zero j)⟩, gs⟩ ?_
      intro i ⟨hi, hn⟩
      refine cnd (fun h3 => ?_) (fun h3 => ?_)
      · refine ixE hx.xl i (fun a2 c2 g1 g2 g3 => ?_)
        refine cb (fun w hw => ih _ a2 c2 (by have := Ex.lt (getD_mem x.l i ex0 (by omega)); omega) w h0 hw ⟨g1, g2, g3, hsm.2.2.2 _ (getD_mem x.l i ex0 (by omega))⟩) ?_
        refine cnd (fun h4 => ?_) (fun h4 => ?_)
        · exact congrArg Value.bool (by rw [right_eq, all_not ex0 (k := i) (by omega) h4, if_neg h1, if_neg h2]; simp)
        · refine wi ?_
          exact ⟨i + 1, ⟨⟨by omega, upto_snoc hn h4⟩, by omega⟩, gs⟩
      · refine aq eqV x.v v0 ?_
        exact congrArg Value.bool (by rw [right_eq, decide_eq_true h, if_neg h1, if_neg h2, all_upto ex0 (p := rightS) (fun j hj => hn j (by omega))]; simp)
end Go.Proofs.YtkjhlfleojcgjaaGreatDoor
set_option maxRecDepth 100000
namespace Go.Proofs.YtkjhlfleojcgjaaGreatDoor
open Go Go.Dx Go.RowKit
set_option maxRecDepth 100000 in
theorem c_Read (ad : Option Addr) (cap : Nat) (l : List Tok) (hT : TokN l) (hTs : ∀ t ∈ l, t.s.length ≤ 1000000) (hn : l.length ≤ 999999) (i lev : Nat) (hi : i ≤ l.length) (hlev : lev ≤ 7) (w0 : World) (h0 : View) (hv : VLe h0 (Full w0)) (hl : SlC 84 4 (flatR tokC) h0 (.slice ad l.length cap) l) :
    Calls Tryz.prog 145 #[.slice ad l.length cap, .int .i64 (i : Int), .int .i64 (lev : Int)] w0 (Ret w0 h0 fun u hh => ∃ x : Option Addr × Nat, u = .tuple #[exV (readT l i lev).1 x, .int .i64 (((readT l i lev).2.1 : Nat) : Int), .int .i64 (readT l i lev).2.2] ∧ XL hh x.1 x.2 (readT l i lev).1.l) := by
  have g1 := rd_ge l (needS l lev i) lev i false hi
  unfold readT
  refine entA (args := [.slice ad l.length cap, .int .i64 (i : Int), .int .i64 (lev : Int)]) TT_ok [1000006, 1000007] [] Tryz.func145 rfl Tryz.ntmps145 rfl rfl hv (fun x => xl_m x _) ?_
  intro b6
  refine cndF (by simp; omega) ?_
  intro b31
  refine cV TT_ok 31 (fun w v h1 h2 h3 h4 h5 => c_read hT hTs hn (needS l lev i) lev i false hlev hi (Nat.le_refl _) w v h3 h4 (Mono.slF _ _ h1 hl) h5) (fun x => xl_m x _) (fun x1 => ?_)
  generalize rdF l (needS l lev i) lev i false = r at g1 ⊢
  intro b10
  refine cnd (fun h => ?_) (fun h => ?_)
  · rw [if_pos h]
    refine regQ TT_ok [0, 1, 2, 3, 4] [5, 6, 7] [6] false ?_
    refine kq ?_
    refine kq ?_
    refine kq ?_
    exact ⟨(none, 0), rfl, fun v _ _ => xl_nil v⟩
  · rw [if_neg (by rw [h]; decide)]
    refine regQ TT_ok [0, 1, 2, 3, 4] [5, 6, 7] [6] false ?_
    refine kq ?_
    refine kq ?_
    refine kq ?_
    exact ⟨x1, rfl, fun v _ hF => hF.2⟩
theorem mk_int (n m : Nat) : (if (n : Int) < m then (m : Int) else n) = ((max n m : Nat) : Int) := by
  rw [Nat.max_def]; split <;> split <;> omega
theorem c_Deep : ∀ (k : Nat) (x : Ex) (ad : Option Addr) (cap : Nat), SizeOf.sizeOf x < k → deepS x ≤ 1000000000 → ∀ (w0 : World) (h0 : View), VLe h0 (Full w0) → XL h0 ad cap x.l → Calls Tryz.prog 127 #[.agg (exC x.op x.v x.s (.slice ad x.l.length cap)).toArray] w0 (Ret w0 h0 fun u _ => u = .int .i64 (deepS x : Nat)) := by
  intro k
  induction k with
  | zero => intro x ad cap h; omega
  | succ k ih =>
    intro x ad cap hk hd w0 h0 hv hx
    have hlm := hx.lm
    refine ent (args := [.agg (exC x.op x.v x.s (.slice ad x.l.length cap)).toArray]) TT_ok [] [] Tryz.func127 rfl Tryz.ntmps127 rfl rfl hv ?_
    intro b1
    refine w_loop TT_ok (fun k : Nat => [(9, .v (.int .i64 k)), (3, .v (.int .i64 (deepL 0 (x.l.take k) : Nat)))]) 0 (fun k => k ≤ x.l.length) (fun k => x.l.length - k) ?_
    refine And.intro ⟨Nat.zero_le _, gs⟩ ?_
    intro k hkl
    refine cnd (fun h => ?_) (fun h => ?_)
    · have hin := getD_mem x.l k ex0 (by omega)
      have hsub := deep_sub hin
      refine ixE hx k (fun a2 c2 h1 h2 h3 => ?_)
      intro b5
      refine cb (fun w hw => ih (x.l.getD k ex0) a2 c2 (by have := Ex.lt hin; omega) (by omega) w h0 hw h1) ?_
      refine ew ((max (deepL 0 (x.l.take k)) (deepS (x.l.getD k ex0)) : Nat) : Int) (mk_int _ _) ?_
      refine wi ?_
      refine ⟨k + 1, ⟨by omega, by omega⟩, gs (sl := ?_)⟩
      rw [deepL_take x.l k (by omega)]
      rfl
    · have e : k = x.l.length := by omega
      subst e
      have hd2 := deep_eq x
      rw [List.take_length]
      refine wi ?_
      exact congrArg (Value.int .i64) (by rw [deep_eq]; omega)
end Go.Proofs.YtkjhlfleojcgjaaGreatDoor
set_option maxRecDepth 100000
namespace Go.Proofs.YtkjhlfleojcgjaaGreatDoor
open Go Go.Dx Go.RowKit
structure Bld where
  used : Bool
  a : Option Addr
  n : Nat
  cp : Nat
  bs : List UInt8
  fz : Bool
def bldC (b : Nat) (s : Bld) : List Value := [.pointer (if s.used then some ⟨b, 0, none⟩ else none), .slice s.a s.n s.cp]
def bldJ (T b : Nat) (s : Bld) : BL := [(900, .c b T (bldC b s)), (901, .e (bif s.fz then (s.a.map (·.block), fun _ => True) else bufE 5 1 (.slice s.a s.n s.cp) (s.bs.map v8)))]
theorem c_copyCheck {T : Nat} (hT : liesAt Tryz.prog Tryz.prog.depth T (2 / Tryz.prog.cellsOf T) 0 147 1 = true) (b : Nat) (s : Bld) (hfz : s.fz = false) (w0 : World) (h0 : View) (hv : VLe h0 (Full w0)) (hno : ∀ k ∈ ids (oes (bldJ T b s)), h0 k = none) (ho : OwnJ w0 (oes (bldJ T b s))) :
    Calls Tryz.prog 129 #[.pointer (some ⟨b, 0, none⟩)] w0 (RetJ (bldJ T b) s w0 fun u s' => u = .tuple #[] ∧ s' = { s with used := true }) := by
  obtain ⟨us, a, n, cp, bs, fz⟩ := s
  have hfz : fz = false := hfz
  subst hfz
  cases us with
  | false =>
    refine entJ (bldJ T b) _ (g := fun _ => .tuple #[]) (args := [.pointer (some ⟨b, 0, none⟩)]) TT_ok [6, 9, 10, 11] [] [.o 900 0] Tryz.func129 rfl Tryz.ntmps129 rfl rfl hv hno ho rfl ?_
    refine goPu TT_ok (.bool true) (fun w hS => pu_pnil (p := none) (e := 147) (by kernel_rfl) (ev_sl rfl rfl) rfl) ?_
    refine cndT rfl ?_
    refine goPu TT_ok (.pointer (some ⟨b, 0, none⟩)) (fun w hS => ?_) ?_
    · obtain ⟨j, hj, hjs⟩ := (SzIs.of (by kernel_rfl) : SzIs Tryz.prog 147 2)
      have hb := hS.wok.own 900 _ _ _ rfl
      exact pu_tounsafe (tt := 147) (e := T) (cells := 2) (by kernel_rfl) (by kernel_rfl) hj (by omega) (by simp [World.shape?, hb, bldC]) (by show 0 < 2; decide) (ev_sl (v := .pointer (some ⟨b, 0, none⟩)) rfl rfl)
    refine goPu TT_ok (.pointer (some ⟨b, 0, none⟩)) (fun w hS => pu_noesc Tryz.func169 (by kernel_rfl) (by kernel_rfl) (by kernel_rfl) (by kernel_rfl) (ev_sl rfl rfl)) ?_
    refine goPu TT_ok (.pointer (some ⟨b, 0, none⟩)) (fun w hS => ?_) ?_
    · obtain ⟨j, hj, hjs⟩ := (SzIs.of (by kernel_rfl) : SzIs Tryz.prog 147 2)
      have hb := hS.wok.own 900 _ _ _ rfl
      exact pu_fromunsafe (u := 147) (e := T) (cells := 2) (by kernel_rfl) (by kernel_rfl) hj (by simp [World.shape?, hb, bldC]) hT (ev_sl (v := .pointer (some ⟨b, 0, none⟩)) rfl rfl)
    exact ⟨_, rfl, rfl, rfl, rfl, rfl, trivial⟩
  | true =>
    refine entJ (bldJ T b) _ (g := fun _ => .tuple #[]) (args := [.pointer (some ⟨b, 0, none⟩)]) TT_ok [6, 19] [] [.o 900 0] Tryz.func129 rfl Tryz.ntmps129 rfl rfl hv hno ho rfl ?_
    refine goPu TT_ok (.bool false) (fun w hS => pu_pnil (p := some ⟨b, 0, none⟩) (e := 147) (by kernel_rfl) (ev_sl rfl rfl) rfl) ?_
    refine cndF rfl ?_
    refine goPu TT_ok (.bool false) (fun w hS => ?_) ?_
    · obtain ⟨j, hj, hjs⟩ := (SzIs.of (by kernel_rfl) : SzIs Tryz.prog 147 2)
      exact pu_psame (a := ⟨b, 0, none⟩) (e := 147) (by kernel_rfl) hj (ev_sl rfl rfl) (ev_sl (v := .pointer (some ⟨b, 0, none⟩)) rfl rfl)
    refine cndF rfl ?_
    exact ⟨_, rfl, rfl, rfl, rfl, rfl, trivial⟩
def BldW (s : Bld) (t : List UInt8) (s' : Bld) : Prop := s'.bs = s.bs ++ t ∧ s'.fz = false ∧ s'.n = s'.bs.length
theorem bufm (a : Option Addr) (n cp : Nat) (x y : List UInt8) : OB.e (bufE 5 1 (.slice a n cp) (x.map v8 ++ y.map v8)) = OB.e (bufE 5 1 (.slice a n cp) ((x ++ y).map v8)) := by rw [List.map_append]
theorem c_WriteString {T : Nat} (hT : liesAt Tryz.prog Tryz.prog.depth T (2 / Tryz.prog.cellsOf T) 0 147 1 = true) (b : Nat) (s : Bld) (t : List UInt8) (hfz : s.fz = false) (hn : s.n = s.bs.length) (hl : s.bs.length + t.length ≤ 1000000000000) (w0 : World) (h0 : View) (hv : VLe h0 (Full w0)) (hno : ∀ k ∈ ids (oes (bldJ T b s)), h0 k = none) (ho : OwnJ w0 (oes (bldJ T b s))) :
    Calls Tryz.prog 89 #[.pointer (some ⟨b, 0, none⟩), vs t] w0 (RetJ (bldJ T b) s w0 fun u s' => u = .tuple #[.int .i64 t.length, .nilIface] ∧ BldW s t s') := by
  obtain ⟨us, a, n, cp, bs, fz⟩ := s
  have hfz : fz = false := hfz
  subst hfz
  have hn : n = bs.length := hn
  have hl : bs.length + t.length ≤ 1000000000000 := hl
  refine entJ (bldJ T b) _ (g := fun _ => .tuple #[.int .i64 t.length, .nilIface]) (args := [.pointer (some ⟨b, 0, none⟩), vs t]) TT_ok [14] [] [.o 900 0, .v (vs t)] Tryz.func89 rfl Tryz.ntmps89 rfl rfl hv hno ho rfl ?_
  refine cJ TT_ok (bldJ T b) ⟨us, a, n, cp, bs, false⟩ (g := fun _ => .tuple #[]) (fun w v h1 h2 h3 h4 h5 => c_copyCheck hT b _ rfl w v h3 h4 h5) ?_
  rintro s' rfl
  refine apS TT_ok 901 (AppT.of (bytes := 1) (sz := 0) (by kernel_rfl) (by kernel_rfl) (by kernel_rfl)) rfl rfl rfl rfl (by rw [List.length_map]; show (bs.length + t.length) * 2 ≤ 140737488355328; omega) (fun a0 nn cp' hnn => ?_)
  rw [List.length_map] at hnn
  refine ⟨⟨true, a0, nn, cp', bs ++ t, false⟩, rfl, ⟨rfl, rfl, ?_⟩, rfl, rfl, ?_, trivial⟩
  · show nn = (bs ++ t).length
    rw [List.length_append]; exact hnn
  · exact congrArg some (bufm a0 nn cp' bs t)
theorem c_WriteByte {T : Nat} (hT : liesAt Tryz.prog Tryz.prog.depth T (2 / Tryz.prog.cellsOf T) 0 147 1 = true) (b : Nat) (s : Bld) (t : UInt8) (hfz : s.fz = false) (hn : s.n = s.bs.length) (hl : s.bs.length + 1 ≤ 1000000000000) (w0 : World) (h0 : View) (hv : VLe h0 (Full w0)) (hno : ∀ k ∈ ids (oes (bldJ T b s)), h0 k = none) (ho : OwnJ w0 (oes (bldJ T b s))) :
    Calls Tryz.prog 199 #[.pointer (some ⟨b, 0, none⟩), v8 t] w0 (RetJ (bldJ T b) s w0 fun u s' => u = .nilIface ∧ BldW s [t] s') := by
  obtain ⟨us, a, n, cp, bs, fz⟩ := s
  have hfz : fz = false := hfz
  subst hfz
  have hn : n = bs.length := hn
  have hl : bs.length + 1 ≤ 1000000000000 := hl
  refine entJ (bldJ T b) _ (g := fun _ => .nilIface) (args := [.pointer (some ⟨b, 0, none⟩), v8 t]) TT_ok [14] [] [.o 900 0, .v (v8 t)] Tryz.func199 rfl Tryz.ntmps199 rfl rfl hv hno ho rfl ?_
  refine cJ TT_ok (bldJ T b) ⟨us, a, n, cp, bs, false⟩ (g := fun _ => .tuple #[]) (fun w v h1 h2 h3 h4 h5 => c_copyCheck hT b _ rfl w v h3 h4 h5) ?_
  rintro s' rfl
  intro b13
  refine ap TT_ok 901 (AppT.of (bytes := 1) (sz := 0) (by kernel_rfl) (by kernel_rfl) (by kernel_rfl)) rfl rfl rfl rfl rfl rfl rfl (by rw [List.length_map]; show (bs.length + 1) * 2 ≤ 140737488355328; omega) (fun a0 nn cp' hnn => ?_)
  rw [List.length_map] at hnn
  refine ⟨⟨true, a0, nn, cp', bs ++ [t], false⟩, rfl, ⟨rfl, rfl, ?_⟩, rfl, rfl, ?_, trivial⟩
  · show nn = (bs ++ [t]).length
    rw [List.length_append]
    have hnn : nn * 1 = bs.length + 1 := hnn
    show nn = bs.length + 1
    omega
  · exact congrArg some (bufm a0 nn cp' bs [t])
theorem c_BLen {T : Nat} (hT : liesAt Tryz.prog Tryz.prog.depth T (2 / Tryz.prog.cellsOf T) 0 147 1 = true) (b : Nat) (s : Bld) (hfz : s.fz = false) (hn : s.n = s.bs.length) (w0 : World) (h0 : View) (hv : VLe h0 (Full w0)) (hno : ∀ k ∈ ids (oes (bldJ T b s)), h0 k = none) (ho : OwnJ w0 (oes (bldJ T b s))) :
    Calls Tryz.prog 168 #[.pointer (some ⟨b, 0, none⟩)] w0 (RetJ (bldJ T b) s w0 fun u s' => u = .int .i64 s.bs.length ∧ s' = s) := by
  obtain ⟨us, a, n, cp, bs, fz⟩ := s
  have hfz : fz = false := hfz
  subst hfz
  have hn : n = bs.length := hn
  subst hn
  refine entJ (bldJ T b) _ (g := fun _ => .int .i64 bs.length) (args := [.pointer (some ⟨b, 0, none⟩)]) TT_ok [] [] [.o 900 0] Tryz.func168 rfl Tryz.ntmps168 rfl rfl hv hno ho rfl ?_
  exact ⟨_, rfl, rfl, rfl, rfl, rfl, trivial⟩
theorem c_BString {T : Nat} (hT : liesAt Tryz.prog Tryz.prog.depth T (2 / Tryz.prog.cellsOf T) 0 147 1 = true) (b : Nat) (s : Bld) (hfz : s.fz = false) (hn : s.n = s.bs.length) (hne : s.bs ≠ []) (w0 : World) (h0 : View) (hv : VLe h0 (Full w0)) (hno : ∀ k ∈ ids (oes (bldJ T b s)), h0 k = none) (ho : OwnJ w0 (oes (bldJ T b s))) :
    Calls Tryz.prog 90 #[.pointer (some ⟨b, 0, none⟩)] w0 (RetJ (bldJ T b) s w0 fun u s' => u = vs s.bs ∧ s' = { s with fz := true }) := by
  obtain ⟨us, a, n, cp, bs, fz⟩ := s
  have hfz : fz = false := hfz
  subst hfz
  have hn : n = bs.length := hn
  subst hn
  have hne : bs ≠ [] := hne
  have hlen : 0 < bs.length := List.length_pos_iff.2 hne
  have hA : ∃ ad, a = some ad ∧ cp ≠ 0 := by
    have := ho.own (bufE 5 1 (.slice a bs.length cp) (bs.map v8)) (by simp [bldJ, oes, oeOf])
    rcases this with ⟨h1, _⟩ | ⟨g, off, n', cap, cur, fz, h1, _, _, _, hnc, _⟩
    · simp only [Value.slice.injEq] at h1; omega
    · simp only [Value.slice.injEq] at h1
      exact ⟨_, h1.1, by omega⟩
  obtain ⟨ad, rfl, hcp⟩ := hA
  refine entJ (bldJ T b) _ (g := fun _ => vs bs) (args := [.pointer (some ⟨b, 0, none⟩)]) TT_ok [7, 13, 1000001] [] [.o 900 0] Tryz.func90 rfl Tryz.ntmps90 rfl rfl hv hno ho rfl ?_
  refine regQ TT_ok [0, 1, 2, 3, 5, 6, 7, 8, 9] [4, 10, 11] [] true ?_
  refine goPu TT_ok (.pointer (some ad)) (fun w hS => pu_sliceData hcp (ev_sl rfl rfl)) ?_
  refine kq ?_
  refine usS TT_ok bs 901 rfl (by kernel_rfl) (by kernel_rfl) hne rfl rfl ?_
  refine kq ?_
  exact ⟨⟨us, some ad, bs.length, cp, bs, true⟩, rfl, rfl, rfl, rfl, rfl, trivial⟩
end Go.Proofs.YtkjhlfleojcgjaaGreatDoor
namespace Go.Proofs
open Go.Shelf
def Tryz.lays156_ren : Go.Shelf.Ren := ⟨fun | 156 => 52 | 165 => 88 | 166 => 89 | 169 => 90 | 240 => 129 | 241 => 130 | 276 => 169 | 277 => 170 | n => n, fun | 31 => 62 | 9 => 9 | 3 => 3 | 4 => 4 | 0 => 0 | 20 => 20 | 72 => 147 | 76 => 151 | 70 => 144 | 37 => 145 | 75 => 150 | 127 => 173 | 164 => 207 | 5 => 5 | 80 => 80 | n => n, fun | n => n⟩
theorem Tryz.lays156 : Go.Proofs.Lays.n156 Tryz.prog Tryz.lays156_ren := {
  mixed := by kernel_rfl
  f156 := Tryz.func52.trans (congrArg some (by kernel_rfl))
  f165 := Tryz.func88.trans (congrArg some (by kernel_rfl))
  f166 := Tryz.func89.trans (congrArg some (by kernel_rfl))
  f169 := Tryz.func90.trans (congrArg some (by kernel_rfl))
  f240 := Tryz.func129.trans (congrArg some (by kernel_rfl))
  f241 := Tryz.func130.trans (congrArg some (by kernel_rfl))
  f276 := Tryz.func169.trans (congrArg some (by kernel_rfl))
  f277 := Tryz.func170.trans (congrArg some (by kernel_rfl))
  t0 := Tryz.underlying0
  a0 := Tryz.isAgg0
  z0 := Tryz.sizeOf0
  v0 := Tryz.zeroValue0
  t3 := Tryz.underlying3
  a3 := Tryz.isAgg3
  z3 := Tryz.sizeOf3
  v3 := Tryz.zeroValue3
  t4 := Tryz.underlying4
  a4 := Tryz.isAgg4
  z4 := Tryz.sizeOf4
  v4 := Tryz.zeroValue4
  t9 := Tryz.underlying9
  a9 := Tryz.isAgg9
  z9 := Tryz.sizeOf9
  v9 := Tryz.zeroValue9
  t20 := Tryz.underlying20
  a20 := Tryz.isAgg20
  z20 := Tryz.sizeOf20
  v20 := Tryz.zeroValue20
  t31 := Tryz.underlying62
  a31 := Tryz.isAgg62
  z31 := Tryz.sizeOf62
  v31 := Tryz.zeroValue62
  t37 := Tryz.underlying145
  a37 := Tryz.isAgg145
  z37 := Tryz.sizeOf145
  v37 := Tryz.zeroValue145
  t70 := Tryz.underlying144
  a70 := Tryz.isAgg144
  z70 := Tryz.sizeOf144
  v70 := Tryz.zeroValue144
  t72 := Tryz.underlying147
  a72 := Tryz.isAgg147
  z72 := Tryz.sizeOf147
  v72 := Tryz.zeroValue147
  t75 := Tryz.underlying150
  a75 := Tryz.isAgg150
  z75 := Tryz.sizeOf150
  v75 := Tryz.zeroValue150
  t76 := Tryz.underlying151
  a76 := Tryz.isAgg151
  z76 := Tryz.sizeOf151
  v76 := Tryz.zeroValue151
  t127 := Tryz.underlying173
  a127 := Tryz.isAgg173
  z127 := Tryz.sizeOf173
  v127 := Tryz.zeroValue173
  t164 := Tryz.underlying207
  a164 := Tryz.isAgg207
  z164 := Tryz.sizeOf207
  v164 := Tryz.zeroValue207 }
theorem Tryz.Builder_Extra_156 : Builder.Extra Tryz.prog Tryz.lays156_ren := {
  sizeBuilder := by kernel_rfl
  liesBuilder := by kernel_rfl
  t5 := Tryz.underlying5
  a5 := Tryz.isAgg5
  z5 := Tryz.sizeOf5
  v5 := Tryz.zeroValue5
  infoByte := by kernel_rfl
  cellsByte := by kernel_rfl
  sizeByte := by kernel_rfl
  neB5 := by decide }
open Go.RowKit in
theorem Tryz.strings_Join_none (a : Option Addr) (c : Nat) (sep : ByteArray) (w : World) :
    Calls Tryz.prog 52 #[.slice a 0 c, .string sep] w fun e w' => e = .returned (.string ⟨#[]⟩) ∧ w' = w := Any.strings_Join_none Tryz.lays156 Tryz.Builder_Extra_156 a c sep w
open Go.RowKit in
theorem Tryz.strings_Join (bk o c : Nat) (xs : List ByteArray) (sep : ByteArray) (w : World) (hcells : ∀ (j : Nat) x, xs[j]? = some x → w.cell? ⟨bk, o + j, none⟩ = some (.string x)) (hbk : bk < w.heap.size) (hN : xs.length ≤ 140737488355328) (hcap : xs.length ≤ c) (hlen : (Lib.join (xs.map (·.data.toList)) sep.data.toList).length ≤ 140737488355328) :
    Calls Tryz.prog 52 #[.slice (some ⟨bk, o, none⟩) xs.length c, .string sep] w fun e w' => e = .returned (.string ⟨(Lib.join (xs.map (·.data.toList)) sep.data.toList).toArray⟩) ∧ Below w.heap.size w w' := Any.strings_Join Tryz.lays156 Tryz.Builder_Extra_156 bk o c xs sep w hcells hbk hN hcap hlen
def Tryz.lays106_ren : Go.Shelf.Ren := ⟨fun | 106 => 160 | 213 => 196 | 265 => 214 | n => n, fun | 9 => 9 | 3 => 3 | n => n, fun | n => n⟩
theorem Tryz.lays106 : Go.Proofs.Lays.n106 Tryz.prog Tryz.lays106_ren := {
  mixed := by kernel_rfl
  f106 := Tryz.func160.trans (congrArg some (by kernel_rfl))
  f213 := Tryz.func196.trans (congrArg some (by kernel_rfl))
  f265 := Tryz.func214.trans (congrArg some (by kernel_rfl))
  t3 := Tryz.underlying3
  a3 := Tryz.isAgg3
  z3 := Tryz.sizeOf3
  v3 := Tryz.zeroValue3
  t9 := Tryz.underlying9
  a9 := Tryz.isAgg9
  z9 := Tryz.sizeOf9
  v9 := Tryz.zeroValue9 }
open Go.RowKit in
theorem Tryz.strings_Compare (a b : ByteArray) (w : World) :
    Calls Tryz.prog 160 #[.string a, .string b] w fun e w' => e = .returned (.int .i64 (Lib.compareBytes a.data.toList b.data.toList)) ∧ w' = w := Any.strings_Compare Tryz.lays106 a b w
def Tryz.laysM171_ren : Go.Shelf.Ren := ⟨fun | 171 => 215 | 243 => 224 | 246 => 229 | 283 => 231 | 284 => 232 | 285 => 233 | 286 => 234 | 129 => 237 | 317 => 236 | 318 => 238 | 319 => 239 | 320 => 240 | 337 => 241 | 338 => 242 | n => n, fun | 3 => 3 | 9 => 9 | 2 => 2 | 4 => 4 | 171 => 259 | 0 => 0 | 53 => 254 | 37 => 145 | 5 => 5 | 173 => 262 | 212 => 266 | 51 => 251 | 20 => 20 | 213 => 267 | 46 => 246 | 232 => 270 | 233 => 271 | n => n, fun | 17 => 1 | 18 => 2 | 19 => 3 | n => n⟩
theorem Tryz.laysM171 : Go.Proofs.LaysM.n171 Tryz.prog Tryz.laysM171_ren := {
  mixed := by kernel_rfl
  f129 := Tryz.func237.trans (congrArg some (by kernel_rfl))
  f171 := Tryz.func215.trans (congrArg some (by kernel_rfl))
  f243 := Tryz.func224.trans (congrArg some (by kernel_rfl))
  f246 := Tryz.func229.trans (congrArg some (by kernel_rfl))
  f283 := Tryz.func231.trans (congrArg some (by kernel_rfl))
  f284 := Tryz.func232.trans (congrArg some (by kernel_rfl))
  f285 := Tryz.func233.trans (congrArg some (by kernel_rfl))
  f286 := Tryz.func234.trans (congrArg some (by kernel_rfl))
  f317 := Tryz.func236.trans (congrArg some (by kernel_rfl))
  f318 := Tryz.func238.trans (congrArg some (by kernel_rfl))
  f319 := Tryz.func239.trans (congrArg some (by kernel_rfl))
  f320 := Tryz.func240.trans (congrArg some (by kernel_rfl))
  f337 := Tryz.func241.trans (congrArg some (by kernel_rfl))
  f338 := Tryz.func242.trans (congrArg some (by kernel_rfl))
  t0 := Tryz.underlying0
  a0 := Tryz.isAgg0
  z0 := Tryz.sizeOf0
  v0 := Tryz.zeroValue0
  t2 := Tryz.underlying2
  a2 := Tryz.isAgg2
  z2 := Tryz.sizeOf2
  v2 := Tryz.zeroValue2
  t3 := Tryz.underlying3
  a3 := Tryz.isAgg3
  z3 := Tryz.sizeOf3
  v3 := Tryz.zeroValue3
  t4 := Tryz.underlying4
  a4 := Tryz.isAgg4
  z4 := Tryz.sizeOf4
  v4 := Tryz.zeroValue4
  t5 := Tryz.underlying5
  a5 := Tryz.isAgg5
  z5 := Tryz.sizeOf5
  v5 := Tryz.zeroValue5
  t9 := Tryz.underlying9
  a9 := Tryz.isAgg9
  z9 := Tryz.sizeOf9
  v9 := Tryz.zeroValue9
  t20 := Tryz.underlying20
  a20 := Tryz.isAgg20
  z20 := Tryz.sizeOf20
  v20 := Tryz.zeroValue20
  t37 := Tryz.underlying145
  a37 := Tryz.isAgg145
  z37 := Tryz.sizeOf145
  v37 := Tryz.zeroValue145
  t46 := Tryz.underlying246
  a46 := Tryz.isAgg246
  z46 := Tryz.sizeOf246
  v46 := Tryz.zeroValue246
  t51 := Tryz.underlying251
  a51 := Tryz.isAgg251
  z51 := Tryz.sizeOf251
  v51 := Tryz.zeroValue251
  t53 := Tryz.underlying254
  a53 := Tryz.isAgg254
  z53 := Tryz.sizeOf254
  v53 := Tryz.zeroValue254
  t171 := Tryz.underlying259
  a171 := Tryz.isAgg259
  z171 := Tryz.sizeOf259
  v171 := Tryz.zeroValue259
  t173 := Tryz.underlying262
  a173 := Tryz.isAgg262
  z173 := Tryz.sizeOf262
  v173 := Tryz.zeroValue262
  t212 := Tryz.underlying266
  a212 := Tryz.isAgg266
  z212 := Tryz.sizeOf266
  v212 := Tryz.zeroValue266
  t213 := Tryz.underlying267
  a213 := Tryz.isAgg267
  z213 := Tryz.sizeOf267
  t232 := Tryz.underlying270
  a232 := Tryz.isAgg270
  z232 := Tryz.sizeOf270
  v232 := Tryz.zeroValue270
  t233 := Tryz.underlying271
  a233 := Tryz.isAgg271
  z233 := Tryz.sizeOf271
  v233 := Tryz.zeroValue271
  g17 := by kernel_rfl
  g18 := by kernel_rfl
  g19 := by kernel_rfl
  i0 := by kernel_rfl
  i2 := by kernel_rfl
  i3 := by kernel_rfl
  i4 := by kernel_rfl
  i5 := by kernel_rfl
  i9 := by kernel_rfl
  i20 := by kernel_rfl
  i37 := by kernel_rfl
  i46 := by kernel_rfl
  i51 := by kernel_rfl
  i53 := by kernel_rfl
  i171 := by kernel_rfl
  i173 := by kernel_rfl
  i212 := by kernel_rfl
  i232 := by kernel_rfl
  i233 := by kernel_rfl
  m17 := by kernel_rfl
  m18 := by kernel_rfl
  m19 := by kernel_rfl }
open Go.RowKit Go.Sort Go.Lib in
theorem Tryz.strconv_Itoa (n : Int) (h0 : -9223372036854775808 ≤ n) (h1 : n ≤ 9223372036854775807) (w : World) (htab : Lib.TabIs Tryz.prog w "internal/strconv.uint64pow10" .u64 Lib.pow10Tab) :
    Calls Tryz.prog 215 #[.int .i64 n] w fun e w' => e = .returned (.string ⟨(Lib.itoa n).toArray⟩) ∧ ∃ k os, w' = grow (w.drewN k) os := Any.strconv_Itoa Tryz.laysM171 n h0 h1 w htab
def Tryz.lays212_ren : Go.Shelf.Ren := ⟨fun | 212 => 222 | 263 => 227 | 264 => 228 | n => n, fun | 46 => 246 | 51 => 251 | 146 => 252 | 53 => 254 | 148 => 255 | n => n, fun | n => n⟩
theorem Tryz.lays212 : Go.Proofs.Lays.n212 Tryz.prog Tryz.lays212_ren := {
  mixed := by kernel_rfl
  f212 := Tryz.func222.trans (congrArg some (by kernel_rfl))
  f263 := Tryz.func227.trans (congrArg some (by kernel_rfl))
  f264 := Tryz.func228.trans (congrArg some (by kernel_rfl))
  t46 := Tryz.underlying246
  a46 := Tryz.isAgg246
  z46 := Tryz.sizeOf246
  v46 := Tryz.zeroValue246
  t51 := Tryz.underlying251
  a51 := Tryz.isAgg251
  z51 := Tryz.sizeOf251
  v51 := Tryz.zeroValue251
  t53 := Tryz.underlying254
  a53 := Tryz.isAgg254
  z53 := Tryz.sizeOf254
  v53 := Tryz.zeroValue254
  t146 := Tryz.underlying252
  a146 := Tryz.isAgg252
  z146 := Tryz.sizeOf252
  v146 := Tryz.zeroValue252
  t148 := Tryz.underlying255
  a148 := Tryz.isAgg255
  z148 := Tryz.sizeOf255
  v148 := Tryz.zeroValue255 }
open Go.RowKit Go.Lib in
theorem Tryz.bits_Mul (x y : Nat) (hx : x < 18446744073709551616) (hy : y < 18446744073709551616) (w : World) :
    Calls Tryz.prog 222 #[.int .u64 x, .int .u64 y] w fun e w' => e = .returned (.tuple #[.int .u64 ((x * y / 18446744073709551616 : Nat) : Int), .int .u64 ((x * y % 18446744073709551616 : Nat) : Int)]) ∧ w' = w := Any.bits_Mul Tryz.lays212 x y hx hy w
end Go.Proofs
set_option maxRecDepth 100000
namespace Go.Proofs.YtkjhlfleojcgjaaGreatDoor
open Go Go.Dx Go.RowKit
def bldK (k T b : Nat) (s : Bld) : BL := [(k, .c b T (bldC b s)), (901, .e (bif s.fz then (s.a.map (·.block), fun _ => True) else bufE 5 1 (.slice s.a s.n s.cp) (s.bs.map v8)))]
def bufJ (s : Bld) : BL := [(901, .e (bufE 5 1 (.slice s.a s.n s.cp) (s.bs.map v8)))]
theorem c_AppendRune (s : Bld) (t : UInt8) (ht : t.toNat < 128) (hl : s.bs.length + 1 ≤ 1000000000000) (w0 : World) (h0 : View) (hv : VLe h0 (Full w0)) (hno : ∀ k ∈ ids (oes (bufJ s)), h0 k = none) (ho : OwnJ w0 (oes (bufJ s))) :
    Calls Tryz.prog 230 #[.slice s.a s.n s.cp, .int .i32 t.toNat] w0 (RetJ bufJ s w0 fun u s' => u = .slice s'.a s'.n s'.cp ∧ s'.bs = s.bs ++ [t] ∧ s'.fz = s.fz ∧ s'.used = s.used ∧ s'.n = s'.bs.length) := by
  obtain ⟨us, a, n, cp, bs, fz⟩ := s
  have hl : bs.length + 1 ≤ 1000000000000 := hl
  refine entJ bufJ _ (g := fun s' => .slice s'.a s'.n s'.cp) (args := [.slice a n cp, .int .i32 t.toNat]) TT_ok [] [] [.v (.slice a n cp), .v (.int .i32 t.toNat)] Tryz.func230 rfl Tryz.ntmps230 rfl rfl hv hno ho rfl ?_
  refine ew (t.toNat : Int) (wrap_u32 (by omega) (by omega)) ?_
  refine cndT (decide_eq_true (show (t.toNat : Int) ≤ 127 by omega)) ?_
  refine ew (t.toNat : Int) (wrap_u8 (by omega) (by omega)) ?_
  intro b13
  refine ap TT_ok 901 (AppT.of (bytes := 1) (sz := 0) (by kernel_rfl) (by kernel_rfl) (by kernel_rfl)) rfl rfl rfl rfl rfl rfl rfl (by rw [List.length_map]; show (bs.length + 1) * 2 ≤ 140737488355328; omega) (fun a0 nn cp' hnn => ?_)
  rw [List.length_map] at hnn
  refine ⟨⟨us, a0, nn, cp', bs ++ [t], fz⟩, rfl, ⟨rfl, rfl, rfl, ?_⟩, rfl, ?_, trivial⟩
  · show nn = (bs ++ [t]).length
    rw [List.length_append]
    have hnn : nn * 1 = bs.length + 1 := hnn
    show nn = bs.length + 1
    omega
  · exact congrArg some (bufm a0 nn cp' bs [t])
theorem c_WriteRune {T : Nat} (hT : liesAt Tryz.prog Tryz.prog.depth T (2 / Tryz.prog.cellsOf T) 0 147 1 = true) (b : Nat) (s : Bld) (t : UInt8) (ht : t.toNat < 128) (hfz : s.fz = false) (hn : s.n = s.bs.length) (hl : s.bs.length + 1 ≤ 1000000000000) (w0 : World) (h0 : View) (hv : VLe h0 (Full w0)) (hno : ∀ k ∈ ids (oes (bldJ T b s)), h0 k = none) (ho : OwnJ w0 (oes (bldJ T b s))) :
    Calls Tryz.prog 225 #[.pointer (some ⟨b, 0, none⟩), .int .i32 t.toNat] w0 (RetJ (bldJ T b) s w0 fun u s' => u = .tuple #[.int .i64 1, .nilIface] ∧ BldW s [t] s') := by
  obtain ⟨us, a, n, cp, bs, fz⟩ := s
  have hfz : fz = false := hfz
  subst hfz
  have hn : n = bs.length := hn
  have hl : bs.length + 1 ≤ 1000000000000 := hl
  refine entJ (bldJ T b) _ (g := fun _ => .tuple #[.int .i64 1, .nilIface]) (args := [.pointer (some ⟨b, 0, none⟩), .int .i32 t.toNat]) TT_ok [] [] [.o 900 0, .v (.int .i32 t.toNat)] Tryz.func225 rfl Tryz.ntmps225 rfl rfl hv hno ho rfl ?_
  refine cJ TT_ok (bldJ T b) ⟨us, a, n, cp, bs, false⟩ (g := fun _ => .tuple #[]) (fun w v h1 h2 h3 h4 h5 => c_copyCheck hT b _ rfl w v h3 h4 h5) ?_
  rintro s' rfl
  refine cJ TT_ok bufJ ⟨true, a, n, cp, bs, false⟩ (g := fun s' => .slice s'.a s'.n s'.cp) (fun w v h1 h2 h3 h4 h5 => c_AppendRune _ t ht hl w v h3 h4 h5) ?_ (hl := ⟨rfl, trivial⟩)
  rintro ⟨us', a', n', cp', bs', fz'⟩ ⟨e1, e2, e3, e4⟩
  have q1 : bs' = bs ++ [t] := e1
  have q2 : fz' = false := e2
  have q4 : n' = bs'.length := e4
  clear e1 e2 e3 e4
  subst q1; subst q2
  have hn1 : (n' : Int) - n = 1 := by rw [q4, hn, List.length_append]; simp; omega
  refine wi ?_ (by show _ ≤ (n' : Int) - (n : Int) ∧ (n' : Int) - (n : Int) ≤ _; omega)
  exact ⟨⟨true, a', n', cp', bs ++ [t], false⟩, congrArg (fun z => Value.tuple #[.int .i64 z, .nilIface]) hn1, ⟨rfl, rfl, q4⟩, rfl, rfl, rfl, trivial⟩
theorem u8i {b : UInt8} {m : Nat} (hm : m < 256) : ((b.toNat : Int) = (m : Int)) ↔ b = UInt8.ofNat m :=
  ⟨fun h => UInt8.toNat_inj.1 (by rw [byte_lo hm]; omega), fun h => by rw [h, byte_lo hm]⟩
theorem bld_lies : liesAt Tryz.prog Tryz.prog.depth 147 (2 / Tryz.prog.cellsOf 147) 0 147 1 = true := by kernel_rfl
theorem plain_128 {s : List UInt8} (hp : plainS s = true) : ∀ b ∈ s, b.toNat < 128 := by
  intro b hb
  simp only [plainS, Bool.and_eq_true, List.all_eq_true, decide_eq_true_eq] at hp
  have := (hp.2 b hb).2
  omega
theorem c_quote (s : List UInt8) (hp : plainS s = true) (w0 : World) (h0 : View) (hv : VLe h0 (Full w0)) : Calls Tryz.prog 216 #[vs s] w0 (Ret w0 h0 fun u _ => u = vs (quS s)) := by
  have h4 := plain_40 hp
  have hfl : ∀ k : Nat, ((s.take k).flatMap qB).length ≤ 80 := fun k => Nat.le_trans (flat_len _) (by rw [List.length_take]; omega)
  refine ent (args := [vs s]) TT_ok [6] [10] Tryz.func216 rfl Tryz.ntmps216 rfl rfl hv ?_
  intro b
  refine ⟨rfl, nilW 901 5 1 (goW TT_ok ?_)⟩
  refine cJ TT_ok (bldK 3 147 b) ⟨false, none, 0, 0, [], false⟩ (g := fun _ => .nilIface) (fun w v h1 h2 h3 h4 h5 => c_WriteByte bld_lies b _ 34 rfl rfl (by decide) w v h3 h4 h5) ?_
  rintro x0 ⟨e1, e2, e3⟩
  refine rgS TT_ok 902 (fun ib => ?_)
  refine w_loopB TT_ok (fun _ : Nat × Bld => []) (fun z => bldK 3 147 b z.2 ++ [(902, .e (some ib, IterC s z.1))]) (0, x0) (fun z => z.1 ≤ s.length ∧ z.2.bs = 34 :: (s.take z.1).flatMap qB ∧ z.2.fz = false ∧ z.2.n = z.2.bs.length) (fun z => s.length - z.1) ?_
  refine And.intro ⟨⟨Nat.zero_le _, e1, e2, e3⟩, gsJ ⟨rfl, rfl, rfl, trivial⟩⟩ ?_
  rintro ⟨k, x⟩ ⟨hk, e1, e2, e3⟩
  have e1 : x.bs = 34 :: (s.take k).flatMap qB := e1
  have e2 : x.fz = false := e2
  have e3 : x.n = x.bs.length := e3
  have hk : k ≤ s.length := hk
  have hxl : x.bs.length ≤ 81 := by rw [e1, List.length_cons]; have := hfl k; omega
  refine nxS TT_ok 902 (fun h => ?_) (fun h => ?_)
  · have hb := plain_128 hp _ (getD_mem s k 0 h)
    have ed := decode_lo h hb
    have hsn := flat_snoc s k h
    have q34 : ((s.getD k 0).toNat : Int) = 34 ↔ s.getD k 0 = 34 := u8i (m := 34) (by decide)
    have q92 : ((s.getD k 0).toNat : Int) = 92 ↔ s.getD k 0 = 92 := u8i (m := 92) (by decide)
    rw [ed]
    refine cndT rfl ?_
    have esc : ∀ y : Bld, (s.getD k 0 = 34 ∨ s.getD k 0 = 92) → BldW x [92] y → y.bs ++ [s.getD k 0] = 34 :: (s.take (k + 1)).flatMap qB ∧ y.fz = false ∧ y.n = y.bs.length := fun y hq ⟨f1, f2, f3⟩ =>
      ⟨by rw [f1, e1, hsn, qB, if_pos hq]; simp, f2, f3⟩
    refine w_cutB TT_ok (fun _ : Bld => []) (fun y => bldK 3 147 b y ++ [(902, .e (some ib, IterC s (k + 1)))]) (fun y => y.bs ++ [s.getD k 0] = 34 :: (s.take (k + 1)).flatMap qB ∧ y.fz = false ∧ y.n = y.bs.length) ?_
    refine And.intro ?_ ?_
    · refine cnd (fun h1 => ?_) (fun h1 => ?_)
      · refine cJ TT_ok (bldK 3 147 b) x (g := fun _ => .nilIface) (fun w v h1 h2 h3 h4 h5 => c_WriteByte bld_lies b _ 92 e2 e3 (by omega) w v h3 h4 h5) ?_
        intro y hy
        exact ⟨y, esc y (.inl (q34.1 h1)) hy, gsJ ⟨rfl, rfl, rfl, trivial⟩⟩
      · refine cnd (fun h2 => ?_) (fun h2 => ?_)
        · refine cJ TT_ok (bldK 3 147 b) x (g := fun _ => .nilIface) (fun w v h1 h2 h3 h4 h5 => c_WriteByte bld_lies b _ 92 e2 e3 (by omega) w v h3 h4 h5) ?_
          intro y hy
          exact ⟨y, esc y (.inr (q92.1 h2)) hy, gsJ ⟨rfl, rfl, rfl, trivial⟩⟩
        · exact ⟨x, ⟨by rw [e1, hsn, qB, if_neg (fun hq => hq.elim (fun q => h1 (q34.2 q)) fun q => h2 (q92.2 q))]; simp, e2, e3⟩, gsJ ⟨rfl, rfl, rfl, trivial⟩⟩
    · rintro y ⟨f1, f2, f3⟩
      have hl : y.bs.length + 1 ≤ 1000000000000 := by
        have := congrArg List.length f1
        have := hfl (k + 1)
        simp only [List.length_append, List.length_cons, List.length_nil] at *; omega
      refine cJ TT_ok (bldK 3 147 b) y (g := fun _ => .tuple #[.int .i64 1, .nilIface]) (fun w v h1 h2 h3 h4 h5 => c_WriteRune bld_lies b _ (s.getD k 0) hb f2 f3 hl w v h3 h4 h5) ?_
      rintro z ⟨g1, g2, g3⟩
      exact ⟨(k + 1, z), ⟨⟨by show k + 1 ≤ _; omega, by rw [g1, f1], g2, g3⟩, by show s.length - (k + 1) < s.length - k; omega⟩, gsJ ⟨rfl, rfl, rfl, trivial⟩⟩
  · refine cndF rfl ?_
    refine cJ TT_ok (bldK 3 147 b) x (g := fun _ => .nilIface) (fun w v h1 h2 h3 h4 h5 => c_WriteByte bld_lies b _ 34 e2 e3 (by omega) w v h3 h4 h5) ?_
    rintro y ⟨f1, f2, f3⟩
    have ey : y.bs = quS s := by
      rw [f1, e1, List.take_of_length_le (by omega), quS_eq]
    refine cJ TT_ok (bldK 3 147 b) y (g := fun _ => vs (quS s)) (fun w v h1 h2 h3 h4 h5 => by rw [← ey]; exact c_BString bld_lies b _ f2 f3 (by rw [ey]; exact List.cons_ne_nil _ _) w v h3 h4 h5) ?_
    intro z _
    exact rfl
noncomputable def powG : Nat := (Tryz.prog.globalNamed "internal/strconv.uint64pow10").getD 0
def PowV (h : View) : Prop := ∃ (T : TypeId) (fz : Nat × Nat), h powG = some (.cells (Lib.pow10Tab.map fun z => Value.int .u64 z).toArray T fz)
theorem pow_tab {h : View} {w : World} (hp : PowV h) (hv : VLe h (Full w)) : Lib.TabIs Tryz.prog w "internal/strconv.uint64pow10" .u64 Lib.pow10Tab := by
  obtain ⟨T, fz, hg⟩ := hp
  have hw : w.heap[powG]? = _ := hv _ _ hg
  have hn : Tryz.prog.globalNamed "internal/strconv.uint64pow10" = some powG := by kernel_rfl
  unfold Lib.TabIs World.var?
  rw [hn, Option.bind_some, hw]
theorem c_Itoa (n : Int) (hn : I64 n) (w0 : World) (h0 : View) (hv : VLe h0 (Full w0)) (hp : PowV h0) : Calls Tryz.prog 215 #[.int .i64 n] w0 (Ret w0 h0 fun u _ => u = vs (Lib.itoa n)) := by
  refine calls_below ((Tryz.strconv_Itoa n hn.1 hn.2 w0 (pow_tab hp hv)).mono ?_)
  rintro e w' ⟨rfl, k, os, rfl⟩
  exact ⟨rfl, Lib.below_grow _ _ (Nat.le_refl _) k os⟩
theorem c_FB (b : Bool) (w0 : World) (h0 : View) (hv : VLe h0 (Full w0)) : Calls Tryz.prog 226 #[.bool b] w0 (Ret w0 h0 fun u _ => u = vs (boolS b)) := by
  refine ent (args := [.bool b]) TT_ok [] [] Tryz.func226 rfl Tryz.ntmps226 rfl rfl hv ?_
  refine cnd (fun h => ?_) (fun h => ?_)
  · rw [h]; exact rfl
  · rw [h]; exact rfl
theorem c_FormatBool (b : Bool) (w0 : World) (h0 : View) (hv : VLe h0 (Full w0)) : Calls Tryz.prog 217 #[.bool b] w0 (Ret w0 h0 fun u _ => u = vs (boolS b)) := by
  refine ent (args := [.bool b]) TT_ok [] [] Tryz.func217 rfl Tryz.ntmps217 rfl rfl hv ?_
  refine cl (c_FB b) ?_
  exact rfl
theorem itoa_len' {n : Int} (h : I64 n) : (Lib.itoa n).length ≤ 21 := Lib.itoa_length_le n h.1 h.2
theorem c_VText (v : Val) (hvb : valB v) (w0 : World) (h0 : View) (hv : VLe h0 (Full w0)) (hp : PowV h0) : Calls Tryz.prog 200 #[.agg (valC v).toArray] w0 (Ret w0 h0 fun u _ => u = tsV (txR v)) := by
  refine ent (args := [.agg (valC v).toArray]) TT_ok [] [] Tryz.func200 rfl Tryz.ntmps200 rfl rfl hv ?_
  intro b
  refine cl (c_VCheck v hvb) ?_
  refine cnd (fun h => ?_) (fun h => ?_)
  · have h2 : valOk v = false := by
      cases h3 : valOk v
      · rfl
      · rw [h3] at h; exact absurd rfl h
    have e : txR v = ([], 2) := by rw [txR, h2]; rfl
    rw [e, h2]; exact rfl
  · have hok : valOk v = true := by
      cases h3 : valOk v
      · rw [h3] at h; exact absurd h (by decide)
      · rfl
    rw [show txR v = (txS v, 0) by rw [txR, if_pos hok]]
    refine cnd (fun h1 => ?_) (fun h1 => ?_)
    · refine cb (fun w hw => c_Itoa v.n hvb.2 w h0 hw hp) ?_
      rw [txS, if_pos h1]; exact rfl
    · refine cnd (fun h2 => ?_) (fun h2 => ?_)
      · have hpl : plainS v.s = true := by
          rcases valOk_cases hok with ⟨q, _⟩ | ⟨q, _⟩ | ⟨_, _, q⟩ | ⟨q, _⟩ <;> first | exact q | omega
        refine cl (c_quote v.s hpl) ?_
        rw [txS, if_neg h1, if_pos h2]; exact rfl
      · refine cnd (fun h3 => ?_) (fun h3 => ?_)
        · refine cl (c_FormatBool (decide (v.n = 1))) ?_
          rw [txS, if_neg h1, if_neg h2, if_pos h3]; exact rfl
        · rw [txS, if_neg h1, if_neg h2, if_neg h3]; exact rfl
end Go.Proofs.YtkjhlfleojcgjaaGreatDoor
set_option maxRecDepth 100000
namespace Go.Proofs.YtkjhlfleojcgjaaGreatDoor
open Go Go.Dx Go.RowKit
theorem c_level (x : Ex) (ad : Option Addr) (cap : Nat) (w0 : World) (h0 : View) (hv : VLe h0 (Full w0)) : Calls Tryz.prog 198 #[.agg (exC x.op x.v x.s (.slice ad x.l.length cap)).toArray] w0 (Ret w0 h0 fun u _ => u = .int .i64 (levS x.op)) := by
  refine ent (args := [.agg (exC x.op x.v x.s (.slice ad x.l.length cap)).toArray]) TT_ok [] [] Tryz.func198 rfl Tryz.ntmps198 rfl rfl hv ?_
  intro b1
  refine cnd (fun h => ?_) (fun h => ?_)
  · exact congrArg (Value.int .i64) (by rw [levS, if_pos h])
  refine cnd (fun h2 => ?_) (fun h2 => ?_)
  · exact congrArg (Value.int .i64) (by rw [levS, if_neg h, if_pos h2])
  refine cnd (fun h3 => ?_) (fun h3 => ?_)
  · refine cndT (decide_eq_true h3) ?_
    exact congrArg (Value.int .i64) (by rw [levS, if_neg h, if_neg h2, if_pos (.inl h3)])
  refine cnd (fun h4 => ?_) (fun h4 => ?_)
  · exact congrArg (Value.int .i64) (by rw [levS, if_neg h, if_neg h2, if_pos (.inr h4)])
  refine cl (c_find x.op) ?_
  show Value.int .i64 (findS x.op).2.2 = _
  rw [levS, if_neg h, if_neg h2, if_neg (fun q => q.elim h3 h4)]
theorem wr_lies : liesAt Tryz.prog Tryz.prog.depth 204 (2 / Tryz.prog.cellsOf 204) 0 147 1 = true := by kernel_rfl
theorem bw_nil {s s' : Bld} {t u : List UInt8} (h : BldW s t s') (e : t = u) : BldW s u s' := e ▸ h
theorem bw_cat {s s1 s2 : Bld} {t u : List UInt8} (h : BldW s t s1) (h2 : BldW s1 u s2) : BldW s (t ++ u) s2 := ⟨by rw [h2.1, h.1, List.append_assoc], h2.2.1, h2.2.2⟩
theorem bw_len {s s1 : Bld} {t : List UInt8} (h : BldW s t s1) : s1.bs.length = s.bs.length + t.length := by rw [h.1, List.length_append]
theorem ar_if : ArrB Tryz.prog 232 [(0, 1), (1, 1), (2, 1)] [vs [], vs [], vs []] := ArrB.of (m := 3) (e := 9) (sz := 1) (by kernel_rfl) (by kernel_rfl) (by kernel_rfl) (by decide)
theorem pow_m {h h' : View} (hle : VLe h h') (hp : PowV h) : PowV h' := by
  obtain ⟨T, fz, hg⟩ := hp
  exact ⟨T, fz, hle _ _ hg⟩
noncomputable def mzS (x : Ex) (m : Int) : Nat := 2 * SizeOf.sizeOf x + if levS x.op < m then 1 else 0
set_option maxHeartbeats 2000000 in
theorem c_put : ∀ (k : Nat) (x : Ex) (ad : Option Addr) (cap : Nat) (m : Int), mzS x m < k → -1000 ≤ m ∧ m ≤ 1000 → rightS x = true → ∀ (b : Nat) (s : Bld), s.fz = false → s.n = s.bs.length → s.bs.length + (putS x m).length ≤ 1000000000000 →
    ∀ (w0 : World) (h0 : View), VLe h0 (Full w0) → (∀ k ∈ ids (oes (bldJ 204 b s)), h0 k = none) → OwnJ w0 (oes (bldJ 204 b s)) → GX h0 ad cap x → PowV h0 →
    Calls Tryz.prog 167 #[.pointer (some ⟨b, 0, none⟩), .agg (exC x.op x.v x.s (.slice ad x.l.length cap)).toArray, .int .i64 m] w0 (RetJ (bldJ 204 b) s w0 fun u s' => u = .tuple #[] ∧ BldW s (putS x m) s') := by
  intro k
  induction k with
  | zero => intro x ad cap m h; omega
  | succ k ih =>
  intro x ad cap m hk hm hr b s hfz hn hl w0 h0 hv hno ho hx hp
  have hsm := hx.sm.parts
  have hlm := hx.xl.lm
  have hre := hr
  rw [right_eq] at hre
  simp only [Bool.and_eq_true, decide_eq_true_eq] at hre
  refine entJ (bldJ 204 b) _ (g := fun _ => .tuple #[]) (args := [.pointer (some ⟨b, 0, none⟩), .agg (exC x.op x.v x.s (.slice ad x.l.length cap)).toArray, .int .i64 m]) TT_ok [97, 101, 1000017, 1000011, 1000012] [10] [.o 900 0, .v (.agg (exC x.op x.v x.s (.slice ad x.l.length cap)).toArray), .v (.int .i64 m)] Tryz.func167 rfl Tryz.ntmps167 rfl rfl hv hno ho rfl ?_
  intro b4
  refine cl (c_level x ad cap) ?_
  refine cnd (fun h => ?_) (fun h => ?_)
  · have e0 := bodyX_0 x
    have e1 : putS x m = [40] ++ putS x 0 ++ [41] := by rw [put_eq, if_pos h, e0]; rfl
    rw [e1] at hl
    simp only [List.length_append, List.length_cons, List.length_nil] at hl
    refine cJ TT_ok (bldJ 204 b) s (g := fun _ => .nilIface) (fun w v h1 h2 h3 h4 h5 => c_WriteByte wr_lies b _ 40 hfz hn (by omega) w v h3 h4 h5) ?_
    intro s1 g1
    have n1 := bw_len g1
    simp only [List.length_cons, List.length_nil] at n1
    refine cJ TT_ok (bldJ 204 b) s1 (g := fun _ => .tuple #[]) (fun w v h1 h2 h3 h4 h5 => ih x ad cap 0 (by have := lev_lo x.op; unfold mzS at hk ⊢; rw [if_pos h] at hk; rw [if_neg (by omega)]; omega) (by omega) hr b s1 g1.2.1 g1.2.2 (by omega) w v h3 h4 h5 (hx.mono h1) (pow_m h1 hp)) ?_
    intro s2 g2
    have n2 := bw_len g2
    refine cJ TT_ok (bldJ 204 b) s2 (g := fun _ => .nilIface) (fun w v h1 h2 h3 h4 h5 => c_WriteByte wr_lies b _ 41 g2.2.1 g2.2.2 (by omega) w v h3 h4 h5) ?_
    intro s3 g3
    exact ⟨s3, rfl, by rw [e1]; exact bw_cat (bw_cat g1 g2) g3, rfl, rfl, rfl, trivial⟩
  have eb := put_lv h
  rw [eb] at hl ⊢
  have ebb : bodyX x = bodyS x.op x.v x.s (putL x.l (msS x.op)) := rfl
  have kz : ∀ (j : Nat) (m' : Int), j < x.l.length → mzS (x.l.getD j ex0) m' < k := fun j m' hj => by
    have := Ex.lt (getD_mem x.l j ex0 hj)
    unfold mzS at hk ⊢
    rw [if_neg h] at hk
    split <;> omega
  have kr : ¬ x.op = 1 → ¬ x.op = 2 → ∀ j, j < x.l.length → rightS (x.l.getD j ex0) = true := fun n1 n2 j hj => by
    have := hre.2
    rw [if_neg n1, if_neg n2] at this
    simp only [Bool.and_eq_true, List.all_eq_true] at this
    exact this.2 _ (getD_mem x.l j ex0 hj)
  have kx : ∀ j, j < x.l.length → ∀ v a2 c2, VLe h0 v → XL h0 a2 c2 (x.l.getD j ex0).l → i64 (x.l.getD j ex0).op → valB (x.l.getD j ex0).v → GX v a2 c2 (x.l.getD j ex0) := fun j hj v a2 c2 h1 g1 g2 g3 => (⟨g1, g2, g3, hsm.2.2.2 _ (getD_mem x.l j ex0 hj)⟩ : GX h0 a2 c2 (x.l.getD j ex0)).mono h1
  refine cnd (fun h1 => ?_) (fun h1 => ?_)
  · rw [bodyS, if_pos h1] at ebb
    rw [ebb] at hl ⊢
    refine cb (fun w hw => c_VText x.v hx.v w h0 hw hp) ?_
    refine cJ TT_ok (bldJ 204 b) s (g := fun _ => .tuple #[.int .i64 (txR x.v).1.length, .nilIface]) (fun w v h1 h2 h3 h4 h5 => c_WriteString wr_lies b _ _ hfz hn hl w v h3 h4 h5) ?_
    intro s1 g1
    exact ⟨s1, rfl, g1, rfl, rfl, rfl, trivial⟩
  refine cnd (fun h2 => ?_) (fun h2 => ?_)
  · rw [bodyS, if_neg h1, if_pos h2] at ebb
    rw [ebb] at hl ⊢
    refine regQ TT_ok [0, 1, 2, 3, 4] [5] [900, 901] true ?_
    refine cJ TT_ok (bldJ 204 b) s (g := fun _ => .tuple #[.int .i64 x.s.length, .nilIface]) (fun w v h1 h2 h3 h4 h5 => c_WriteString wr_lies b _ _ hfz hn hl w v h3 h4 h5) ?_
    intro s1 g1
    exact ⟨s1, rfl, g1, rfl, rfl, rfl, trivial⟩
  refine cnd (fun h3 => ?_) (fun h3 => ?_)
  · have hc : x.l.length = 1 := by have := hre.1; rw [h3] at this; simp [cntS] at this; omega
    rw [bodyS, if_neg h1, if_neg h2, if_pos h3, putL_get _ _ 0 (by omega) (by rw [msS, if_pos h3]; decide), show (msS x.op).getD 0 0 = 6 by rw [msS, if_pos h3]; rfl] at ebb
    rw [ebb] at hl ⊢
    simp only [List.length_cons] at hl
    refine cJ TT_ok (bldJ 204 b) s (g := fun _ => .nilIface) (fun w v h1 h2 h3 h4 h5 => c_WriteByte wr_lies b _ 45 hfz hn (by omega) w v h3 h4 h5) ?_
    intro s1 g1
    have n1 := bw_len g1
    simp only [List.length_cons, List.length_nil] at n1
    refine ixE hx.xl 0 (fun a2 c2 q1 q2 q3 => ?_)
    refine cJ TT_ok (bldJ 204 b) s1 (g := fun _ => .tuple #[]) (fun w v h6 _ h8 h9 h10 => ih _ a2 c2 6 (kz 0 6 (by omega)) (by omega) (kr h1 h2 0 (by omega)) b s1 g1.2.1 g1.2.2 (by omega) w v h8 h9 h10 (kx 0 (by omega) v a2 c2 h6 q1 q2 q3) (pow_m h6 hp)) ?_
    intro s2 g2
    exact ⟨s2, rfl, bw_cat g1 g2, rfl, rfl, rfl, trivial⟩
  refine cnd (fun h4 => ?_) (fun h4 => ?_)
  · have hc : x.l.length = 3 := by have := hre.1; rw [h4] at this; simp [cntS] at this; omega
    have em : msS x.op = [0, 0, 0] := by rw [msS, if_neg h3, if_pos h4]
    have c0 : (putL x.l (msS x.op)).getD 0 [] = putS (x.l.getD 0 ex0) 0 := by rw [putL_get _ _ 0 (by omega) (by rw [em]; decide), em]; rfl
    have c1 : (putL x.l (msS x.op)).getD 1 [] = putS (x.l.getD 1 ex0) 0 := by rw [putL_get _ _ 1 (by omega) (by rw [em]; decide), em]; rfl
    have c2 : (putL x.l (msS x.op)).getD 2 [] = putS (x.l.getD 2 ex0) 0 := by rw [putL_get _ _ 2 (by omega) (by rw [em]; decide), em]; rfl
    rw [bodyS, if_neg h1, if_neg h2, if_neg h3, if_pos h4, c0, c1, c2] at ebb
    have eb2 : bodyX x = (ifW ++ putS (x.l.getD 0 ex0) 0) ++ (thenW ++ putS (x.l.getD 1 ex0) 0) ++ (elseW ++ putS (x.l.getD 2 ex0) 0) := by rw [ebb]; simp only [List.append_assoc]
    rw [eb2] at hl ⊢
    simp only [List.length_append] at hl
    let pt : Nat → List UInt8 := fun k => match k with
      | 0 => []
      | 1 => ifW ++ putS (x.l.getD 0 ex0) 0
      | 2 => (ifW ++ putS (x.l.getD 0 ex0) 0) ++ (thenW ++ putS (x.l.getD 1 ex0) 0)
      | _ => (ifW ++ putS (x.l.getD 0 ex0) 0) ++ (thenW ++ putS (x.l.getD 1 ex0) 0) ++ (elseW ++ putS (x.l.getD 2 ex0) 0)
    refine goPu TT_ok (.agg (List.toArray [vs ifW, vs thenW, vs elseW])) (fun w hS => pu_build_ar (vsl := [vs ifW, vs thenW, vs elseW]) ar_if rfl rfl) ?_
    refine w_loopB TT_ok (fun z : Nat × Bld => [(98, .v (.int .i64 z.1))]) (fun z => bldJ 204 b z.2 ++ [(4, .c b4 50 (exC x.op x.v x.s (.slice ad x.l.length cap)))]) (0, s) (fun z => z.1 ≤ 3 ∧ BldW s (pt z.1) z.2) (fun z => 3 - z.1) ?_
    refine And.intro ⟨⟨Nat.zero_le _, by show s.bs = s.bs ++ []; rw [List.append_nil], hfz, hn⟩, gsJ ⟨rfl, rfl, rfl, trivial⟩⟩ ?_
    rintro ⟨j, y⟩ ⟨hj, hy⟩
    have hj : j ≤ 3 := hj
    have hj4 : j = 0 ∨ j = 1 ∨ j = 2 ∨ j = 3 := by omega
    rcases hj4 with rfl | rfl | rfl | rfl
    · have hy : BldW s [] y := hy
      have n1 := bw_len hy
      simp only [List.length_nil, List.length_append] at n1
      refine cndT rfl ?_
      refine goPu TT_ok (vs ifW) (fun w hS => pu_index_ar (e := 9) (nn := 3) (i := 0) (cs := [vs ifW, vs thenW, vs elseW]) ⟨by kernel_rfl, SzIs.of (by kernel_rfl)⟩ (OneT.of (by kernel_rfl)) rfl rfl (by decide) (by decide) rfl) ?_
      refine cJ TT_ok (bldJ 204 b) y (g := fun _ => .tuple #[.int .i64 ifW.length, .nilIface]) (fun w v h1 h2 h3 h4 h5 => c_WriteString wr_lies b _ ifW hy.2.1 hy.2.2 (by omega) w v h3 h4 h5) ?_
      intro s1 g1
      have n2 := bw_len g1
      refine ixE hx.xl 0 (fun a2 c2 q1 q2 q3 => ?_)
      refine cJ TT_ok (bldJ 204 b) s1 (g := fun _ => .tuple #[]) (fun w v h6 _ h8 h9 h10 => ih _ a2 c2 0 (kz 0 0 (by omega)) (by omega) (kr h1 h2 0 (by omega)) b s1 g1.2.1 g1.2.2 (by omega) w v h8 h9 h10 (kx 0 (by omega) v a2 c2 h6 q1 q2 q3) (pow_m h6 hp)) ?_
      intro s2 g2
      refine wi ?_ (by show _ ≤ ((0 : Nat) : Int) + 1 ∧ ((0 : Nat) : Int) + 1 ≤ _; decide)
      exact ⟨(1, s2), ⟨⟨(by show (1 : Nat) ≤ 3; decide), bw_nil (bw_cat (bw_cat hy g1) g2) (by simp only [List.append_assoc, List.nil_append]; rfl)⟩, (by show 3 - 1 < 3 - 0; decide)⟩, gsJ ⟨rfl, rfl, rfl, trivial⟩⟩
    · have hy : BldW s (ifW ++ putS (x.l.getD 0 ex0) 0) y := hy
      have n1 := bw_len hy
      simp only [List.length_nil, List.length_append] at n1
      refine cndT rfl ?_
      refine goPu TT_ok (vs thenW) (fun w hS => pu_index_ar (e := 9) (nn := 3) (i := 1) (cs := [vs ifW, vs thenW, vs elseW]) ⟨by kernel_rfl, SzIs.of (by kernel_rfl)⟩ (OneT.of (by kernel_rfl)) rfl rfl (by decide) (by decide) rfl) ?_
      refine cJ TT_ok (bldJ 204 b) y (g := fun _ => .tuple #[.int .i64 thenW.length, .nilIface]) (fun w v h1 h2 h3 h4 h5 => c_WriteString wr_lies b _ thenW hy.2.1 hy.2.2 (by omega) w v h3 h4 h5) ?_
      intro s1 g1
      have n2 := bw_len g1
      refine ixE hx.xl 1 (fun a2 c2 q1 q2 q3 => ?_)
      refine cJ TT_ok (bldJ 204 b) s1 (g := fun _ => .tuple #[]) (fun w v h6 _ h8 h9 h10 => ih _ a2 c2 0 (kz 1 0 (by omega)) (by omega) (kr h1 h2 1 (by omega)) b s1 g1.2.1 g1.2.2 (by omega) w v h8 h9 h10 (kx 1 (by omega) v a2 c2 h6 q1 q2 q3) (pow_m h6 hp)) ?_
      intro s2 g2
      refine wi ?_ (by show _ ≤ ((1 : Nat) : Int) + 1 ∧ ((1 : Nat) : Int) + 1 ≤ _; decide)
      exact ⟨(2, s2), ⟨⟨(by show (2 : Nat) ≤ 3; decide), bw_nil (bw_cat (bw_cat hy g1) g2) (by simp only [List.append_assoc]; show _ = _ ++ _; simp only [List.append_assoc])⟩, (by show 3 - 2 < 3 - 1; decide)⟩, gsJ ⟨rfl, rfl, rfl, trivial⟩⟩
    · have hy : BldW s ((ifW ++ putS (x.l.getD 0 ex0) 0) ++ (thenW ++ putS (x.l.getD 1 ex0) 0)) y := hy
      have n1 := bw_len hy
      simp only [List.length_nil, List.length_append] at n1
      refine cndT rfl ?_
      refine goPu TT_ok (vs elseW) (fun w hS => pu_index_ar (e := 9) (nn := 3) (i := 2) (cs := [vs ifW, vs thenW, vs elseW]) ⟨by kernel_rfl, SzIs.of (by kernel_rfl)⟩ (OneT.of (by kernel_rfl)) rfl rfl (by decide) (by decide) rfl) ?_
      refine cJ TT_ok (bldJ 204 b) y (g := fun _ => .tuple #[.int .i64 elseW.length, .nilIface]) (fun w v h1 h2 h3 h4 h5 => c_WriteString wr_lies b _ elseW hy.2.1 hy.2.2 (by omega) w v h3 h4 h5) ?_
      intro s1 g1
      have n2 := bw_len g1
      refine ixE hx.xl 2 (fun a2 c2 q1 q2 q3 => ?_)
      refine cJ TT_ok (bldJ 204 b) s1 (g := fun _ => .tuple #[]) (fun w v h6 _ h8 h9 h10 => ih _ a2 c2 0 (kz 2 0 (by omega)) (by omega) (kr h1 h2 2 (by omega)) b s1 g1.2.1 g1.2.2 (by omega) w v h8 h9 h10 (kx 2 (by omega) v a2 c2 h6 q1 q2 q3) (pow_m h6 hp)) ?_
      intro s2 g2
      refine wi ?_ (by show _ ≤ ((2 : Nat) : Int) + 1 ∧ ((2 : Nat) : Int) + 1 ≤ _; decide)
      exact ⟨(3, s2), ⟨⟨(by show (3 : Nat) ≤ 3; decide), bw_nil (bw_cat (bw_cat hy g1) g2) (by simp only [List.append_assoc]; show _ = _ ++ _; simp only [List.append_assoc])⟩, (by show 3 - 3 < 3 - 2; decide)⟩, gsJ ⟨rfl, rfl, rfl, trivial⟩⟩
    · refine cndF rfl ?_
      exact ⟨y, rfl, hy, rfl, rfl, rfl, trivial⟩
  · have hop : 4 ≤ x.op ∧ x.op ≤ 15 := by
      have := hre.1
      unfold cntS at this
      rw [if_neg (by omega), if_neg h3, if_neg h4] at this
      split at this
      · assumption
      · omega
    have hc : x.l.length = 2 := by have := hre.1; rw [cntS, if_neg (by omega), if_neg h3, if_neg h4, if_pos hop] at this; omega
    have em : msS x.op = [if (findS x.op).2.2 = 3 then 4 else (findS x.op).2.2, (findS x.op).2.2 + 1] := by rw [msS, if_neg h3, if_neg h4]
    have c0 : (putL x.l (msS x.op)).getD 0 [] = putS (x.l.getD 0 ex0) (if (findS x.op).2.2 = 3 then 4 else (findS x.op).2.2) := by rw [putL_get _ _ 0 (by omega) (by rw [em]; simp), em]; rfl
    have c1 : (putL x.l (msS x.op)).getD 1 [] = putS (x.l.getD 1 ex0) ((findS x.op).2.2 + 1) := by rw [putL_get _ _ 1 (by omega) (by rw [em]; simp), em]; rfl
    rw [bodyS, if_neg h1, if_neg h2, if_neg h3, if_neg h4, c0, c1] at ebb
    rw [ebb] at hl ⊢
    have flo := find_lo x.op
    simp only [List.length_append] at hl
    refine cl (c_find x.op) ?_
    generalize hfd : findS x.op = fd at *
    obtain ⟨fo, fs, fl⟩ := fd
    simp only at hl flo ⊢
    intro b10
    refine w_cut TT_ok (fun _ : Unit => [(11, .v (.int .i64 (if fl = 3 then 4 else fl)))]) (fun _ => True) ?_
    refine And.intro ?_ ?_
    · refine cnd (fun h5 => ?_) (fun h5 => ?_)
      · refine wi ?_
        exact ⟨(), trivial, gs (by rw [if_pos h5, h5]; rfl)⟩
      · exact ⟨(), trivial, gs (by rw [if_neg h5]; rfl)⟩
    intro _ _
    refine ixE hx.xl 0 (fun a2 c2 q1 q2 q3 => ?_)
    refine cJ TT_ok (bldJ 204 b) s (g := fun _ => .tuple #[]) (fun w v h6 _ h8 h9 h10 => ih _ a2 c2 (if fl = 3 then 4 else fl) (kz 0 _ (by omega)) (by split <;> omega) (kr h1 h2 0 (by omega)) b s hfz hn (by omega) w v h8 h9 h10 (kx 0 (by omega) v a2 c2 h6 q1 q2 q3) (pow_m h6 hp)) ?_
    intro s1 g1
    have n1 := bw_len g1
    refine regQ TT_ok [0, 1, 2, 3, 4, 5, 6] [7] [900, 901] true ?_
    refine ct ?_ (by simp only [List.length_cons, List.length_nil]; omega)
    refine ct ?_ (by simp only [List.length_append, List.length_cons, List.length_nil]; omega)
    simp only [List.length_cons, List.length_nil] at hl
    refine cJ TT_ok (bldJ 204 b) s1 (g := fun _ => .tuple #[.int .i64 (32 :: fs ++ [32]).length, .nilIface]) (fun w v h1 h2 h3 h4 h5 => c_WriteString wr_lies b _ (32 :: fs ++ [32]) g1.2.1 g1.2.2 (by simp only [List.length_append, List.length_cons, List.length_nil]; omega) w v h3 h4 h5) ?_
    intro s2 g2
    have n2 := bw_len g2
    simp only [List.length_append, List.length_cons, List.length_nil] at n2
    refine regQ TT_ok [0, 1, 2, 3, 4, 5, 6, 7] [8] [900, 901] true ?_
    refine ixE hx.xl 1 (fun a3 c3 q4 q5 q6 => ?_)
    refine wi ?_ (by show _ ≤ fl + 1 ∧ fl + 1 ≤ _; omega)
    refine cJ TT_ok (bldJ 204 b) s2 (g := fun _ => .tuple #[]) (fun w v h6 _ h8 h9 h10 => ih _ a3 c3 (fl + 1) (kz 1 _ (by omega)) (by omega) (kr h1 h2 1 (by omega)) b s2 g2.2.1 g2.2.2 (by omega) w v h8 h9 h10 (kx 1 (by omega) v a3 c3 h6 q4 q5 q6) (pow_m h6 hp)) ?_
    intro s3 g3
    exact ⟨s3, rfl, bw_cat (bw_cat g1 g2) g3, rfl, rfl, rfl, trivial⟩
end Go.Proofs.YtkjhlfleojcgjaaGreatDoor
set_option maxRecDepth 100000
namespace Go.Proofs.YtkjhlfleojcgjaaGreatDoor
open Go Go.Dx Go.RowKit
set_option maxHeartbeats 1000000 in
theorem c_Text (x : Ex) (ad : Option Addr) (cap : Nat) (hd : deepS x ≤ 1000000000) (w0 : World) (h0 : View) (hv : VLe h0 (Full w0)) (hx : GX h0 ad cap x) (hp : PowV h0) :
    Calls Tryz.prog 128 #[.agg (exC x.op x.v x.s (.slice ad x.l.length cap)).toArray] w0 (Ret w0 h0 fun u _ => u = tsV (textT x)) := by
  refine ent (args := [.agg (exC x.op x.v x.s (.slice ad x.l.length cap)).toArray]) TT_ok [15] [] Tryz.func128 rfl Tryz.ntmps128 rfl rfl hv ?_
  intro b1
  refine cb (fun w hw => c_right _ x ad cap (Nat.lt_succ_self _) w h0 hw hx) ?_
  refine cnd (fun h => ?_) (fun h => ?_)
  · have h : rightS x = false := by simpa using h
    rw [textT, if_pos h]; exact rfl
  have hr : rightS x = true := by simpa using h
  refine cb (fun w hw => c_Deep _ x ad cap (Nat.lt_succ_self _) hd w h0 hw hx.xl) ?_
  refine cnd (fun h2 => ?_) (fun h2 => ?_)
  · rw [textT, if_neg (by rw [hr]; decide), if_pos (by omega)]; exact rfl
  have hln := put_len (XL.rx hx.xl ⟨hx.op, hx.v⟩) hr 0
  have h12 : 4 ^ deepS x ≤ 4 ^ 12 := Nat.pow_le_pow_right (by decide) (by omega)
  have h12 : 4 ^ deepS x ≤ 16777216 := h12
  rw [textT, if_neg (by rw [hr]; decide), if_neg (by omega)]
  intro b14
  refine ⟨rfl, nilW 901 5 1 (goW TT_ok ?_)⟩
  refine cJ TT_ok (bldK 14 204 b14) ⟨false, none, 0, 0, [], false⟩ (g := fun _ => .tuple #[]) (fun w v h1 h2 h3 h4 h5 => c_put _ x ad cap 0 (Nat.lt_succ_self _) (by omega) hr b14 ⟨false, none, 0, 0, [], false⟩ rfl rfl (by show 0 + _ ≤ _; omega) w v h3 h4 h5 (hx.mono h1) (pow_m h1 hp)) ?_
  intro s1 g1
  have e1 : s1.bs = putS x 0 := g1.1
  refine cJ TT_ok (bldK 14 204 b14) s1 (g := fun _ => .int .i64 s1.bs.length) (Ψ := fun s' => s' = s1) (fun w v h1 h2 h3 h4 h5 => c_BLen wr_lies b14 _ g1.2.1 g1.2.2 w v h3 h4 h5) ?_
  rintro s2 rfl
  refine cnd (fun h3 => ?_) (fun h3 => ?_)
  · rw [if_pos (by rw [← e1]; omega)]; exact rfl
  rw [if_neg (by rw [← e1]; omega)]
  have hne : s2.bs ≠ [] := by rw [e1, bodyX_0]; exact body_pos hx.v hr
  refine cJ TT_ok (bldK 14 204 b14) s2 (g := fun _ => vs s2.bs) (Ψ := fun s' => s' = { s2 with fz := true }) (fun w v h1 h2 h3 h4 h5 => c_BString wr_lies b14 _ g1.2.1 g1.2.2 hne w v h3 h4 h5) ?_
  intro s3 _
  rw [← e1]
  exact rfl
theorem c_RDeep : ∀ (k : Nat) (x : Ex) (ad : Option Addr) (cap : Nat), SizeOf.sizeOf x < k → deepS x ≤ 1000000000 → ∀ (w0 : World) (h0 : View), VLe h0 (Full w0) → XL h0 ad cap x.l → Calls Tryz.prog 132 #[.agg (exC x.op x.v x.s (.slice ad x.l.length cap)).toArray] w0 (Ret w0 h0 fun u _ => u = .int .i64 (deepS x : Nat)) := by
  intro k
  induction k with
  | zero => intro x ad cap h; omega
  | succ k ih =>
    intro x ad cap hk hd w0 h0 hv hx
    have hlm := hx.lm
    refine ent (args := [.agg (exC x.op x.v x.s (.slice ad x.l.length cap)).toArray]) TT_ok [] [] Tryz.func132 rfl Tryz.ntmps132 rfl rfl hv ?_
    intro b1
    refine w_loop TT_ok (fun k : Nat => [(4, .v (.int .i64 k)), (3, .v (.int .i64 (deepL 0 (x.l.take k) : Nat)))]) 0 (fun k => k ≤ x.l.length) (fun k => x.l.length - k) ?_
    refine And.intro ⟨Nat.zero_le _, gs⟩ ?_
    intro k hkl
    refine cnd (fun h => ?_) (fun h => ?_)
    · have hin := getD_mem x.l k ex0 (by omega)
      have hsub := deep_sub hin
      refine ixE hx k (fun a2 c2 h1 h2 h3 => ?_)
      refine cb (fun w hw => ih (x.l.getD k ex0) a2 c2 (by have := Ex.lt hin; omega) (by omega) w h0 hw h1) ?_
      refine cnd (fun h4 => ?_) (fun h4 => ?_)
      · refine wi ?_
        refine ⟨k + 1, ⟨by omega, by omega⟩, gs (sl := ?_)⟩
        rw [deepL_take x.l k (by omega), Nat.max_eq_right (by omega)]
        rfl
      · refine wi ?_
        refine ⟨k + 1, ⟨by omega, by omega⟩, gs (sl := ?_)⟩
        rw [deepL_take x.l k (by omega), Nat.max_eq_left (by omega)]
        rfl
    · have e : k = x.l.length := by omega
      subst e
      have hd2 := deep_eq x
      rw [List.take_length]
      refine wi ?_
      exact congrArg (Value.int .i64) (by rw [deep_eq]; omega)
end Go.Proofs.YtkjhlfleojcgjaaGreatDoor
set_option maxRecDepth 100000
namespace Go.Proofs.YtkjhlfleojcgjaaGreatDoor
open Go Go.Dx Go.RowKit
end Go.Proofs.YtkjhlfleojcgjaaGreatDoor
set_option maxRecDepth 100000
namespace Go.Proofs.YtkjhlfleojcgjaaGreatDoor
open Go Go.Dx Go.RowKit
set_option maxRecDepth 100000 in
theorem c_small : ∀ (d : Nat), d ≤ 1000 → ∀ (x : Ex) (ad : Option Addr) (cap : Nat) (w0 : World) (h0 : View), VLe h0 (Full w0) → XL h0 ad cap x.l → Calls Tryz.prog 75 #[.agg (exC x.op x.v x.s (.slice ad x.l.length cap)).toArray, .int .i64 (d : Nat)] w0 (Ret w0 h0 fun u _ => u = .bool (smallX d x)) := by
  intro d
  induction d with
  | zero =>
    intro hd x ad cap w0 h0 hv hx
    refine ent (args := [.agg (exC x.op x.v x.s (.slice ad x.l.length cap)).toArray, .int .i64 ((0 : Nat) : Int)]) TT_ok [] [] Tryz.func75 rfl Tryz.ntmps75 rfl rfl hv ?_
    intro b2
    refine cnd (fun h => ?_) (fun h => by exfalso; omega)
    exact rfl
  | succ d ih =>
    intro hd x ad cap w0 h0 hv hx
    have hlm := hx.lm
    refine ent (args := [.agg (exC x.op x.v x.s (.slice ad x.l.length cap)).toArray, .int .i64 ((d + 1 : Nat) : Int)]) TT_ok [] [] Tryz.func75 rfl Tryz.ntmps75 rfl rfl hv ?_
    intro b2
    refine cnd (fun h => ?_) (fun h => ?_)
    · exact congrArg Value.bool (small_no (d + 1) x (by omega)).symm
    · refine w_loop TT_ok (fun k : Nat => [(5, .v (.int .i64 k))]) 0 (fun k => k ≤ x.l.length ∧ ∀ j, j < k → smallX d (x.l.getD j ex0) = true) (fun k => x.l.length - k) ?_
      refine And.intro ⟨⟨Nat.zero_le _, fun j hj => absurd hj (Nat.not_lt_zero j)⟩, gs⟩ ?_
      intro k ⟨hk, hn⟩
      refine cnd (fun h1 => ?_) (fun h1 => ?_)
      · refine ixE hx k (fun a2 c2 g1 g2 g3 => ?_)
        refine ew ((d : Nat) : Int) (show IntKind.i64.wrap (((d + 1 : Nat) : Int) - 1) = ((d : Nat) : Int) by rw [show ((d + 1 : Nat) : Int) - 1 = ((d : Nat) : Int) by omega]; exact wrap_i64 (by omega) (by omega)) ?_
        refine cb (fun w hw => ih (by omega) _ a2 c2 w h0 hw g1) ?_
        refine cnd (fun h4 => ?_) (fun h4 => ?_)
        · exact congrArg Value.bool (by rw [small_eq (by omega)]; simp only [Nat.add_sub_cancel]; rw [all_not ex0 (k := k) (by omega) h4]; simp)
        · refine wi ?_
          exact ⟨k + 1, ⟨⟨by omega, upto_snoc hn h4⟩, by omega⟩, gs⟩
      · exact congrArg Value.bool (by rw [small_eq (by omega)]; simp only [Nat.add_sub_cancel]; rw [all_upto ex0 (p := smallX d) (fun j hj => hn j (by omega))]; simp; omega)
theorem c_Size : ∀ (k : Nat) (x : Ex) (ad : Option Addr) (cap : Nat), SizeOf.sizeOf x < k → ∀ (w0 : World) (h0 : View), VLe h0 (Full w0) → XL h0 ad cap x.l → Calls Tryz.prog 76 #[.agg (exC x.op x.v x.s (.slice ad x.l.length cap)).toArray] w0 (Ret w0 h0 fun u _ => u = .int .i64 (szF x)) := by
  intro k
  induction k with
  | zero => intro x ad cap h; omega
  | succ k ih =>
    intro x ad cap hk w0 h0 hv hx
    have hlm := hx.lm
    refine ent (args := [.agg (exC x.op x.v x.s (.slice ad x.l.length cap)).toArray]) TT_ok [] [] Tryz.func76 rfl Tryz.ntmps76 rfl rfl hv ?_
    intro b2
    refine w_loop TT_ok (fun k : Nat => [(4, .v (.int .i64 k)), (3, .v (.int .i64 (szL 1 (x.l.take k))))]) 0 (fun k => k ≤ x.l.length) (fun k => x.l.length - k) ?_
    refine And.intro ⟨Nat.zero_le _, gs⟩ ?_
    intro i hi
    refine cnd (fun h1 => ?_) (fun h1 => ?_)
    · refine ixE hx i (fun a2 c2 g1 g2 g3 => ?_)
      refine cb (fun w hw => ih _ a2 c2 (by have := Ex.lt (getD_mem x.l i ex0 (by omega)); omega) w h0 hw g1) ?_
      refine ew _ rfl ?_
      refine wi ?_
      exact ⟨i + 1, ⟨by omega, by omega⟩, gs (by rw [show szL 1 (x.l.take (i + 1)) = IntKind.i64.wrap (szL 1 (x.l.take i) + szF (x.l.getD i ex0)) by rw [take_snocD x.l i ex0 (by omega), szL_snoc]]; rfl)⟩
    · exact congrArg (Value.int .i64) (by rw [sz_eq, List.take_of_length_le (by omega)])
theorem c_XSmall (x : Ex) (ad : Option Addr) (cap : Nat) (w0 : World) (h0 : View) (hv : VLe h0 (Full w0)) (hx : XL h0 ad cap x.l) : Calls Tryz.prog 40 #[.agg (exC x.op x.v x.s (.slice ad x.l.length cap)).toArray] w0 (Ret w0 h0 fun u _ => u = .bool (XSm x)) := by
  refine ent (args := [.agg (exC x.op x.v x.s (.slice ad x.l.length cap)).toArray]) TT_ok [] [] Tryz.func40 rfl Tryz.ntmps40 rfl rfl hv ?_
  intro b1
  refine cb (fun w hw => c_small 30 (by decide) x ad cap w h0 hw hx) ?_
  refine cbg (fun _ w hw => c_Size _ x ad cap (Nat.lt_succ_self _) w h0 hw hx) ?_
  exact rfl
end Go.Proofs.YtkjhlfleojcgjaaGreatDoor
set_option maxRecDepth 100000
namespace Go.Proofs.YtkjhlfleojcgjaaGreatDoor
open Go Go.Dx Go.RowKit
theorem deep_of {x : Ex} (h : XSm x = true) : deepS x ≤ 30 := deep_small 30 x (Bool.and_eq_true_iff.1 h).1
end Go.Proofs.YtkjhlfleojcgjaaGreatDoor
set_option maxRecDepth 100000
namespace Go.Proofs.YtkjhlfleojcgjaaGreatDoor
open Go Go.Dx Go.RowKit
def levD (op : Int) : Int := if op = 15 then 1 else if op = 14 then 2 else if 8 ≤ op ∧ op ≤ 13 then 3 else if op = 4 ∨ op = 5 then 4 else if op = 6 ∨ op = 7 then 5 else if op = 3 then 6 else if op = 1 ∨ op = 2 then 7 else 0
theorem c_Level (op : Int) (w0 : World) (h0 : View) (hv : VLe h0 (Full w0)) : Calls Tryz.prog 171 #[.int .i64 op] w0 (Ret w0 h0 fun u _ => u = .int .i64 (levD op)) := by
  refine ent (args := [.int .i64 op]) TT_ok [] [] Tryz.func171 rfl Tryz.ntmps171 rfl rfl hv ?_
  have hc : (op < 1 ∨ 15 < op) ∨ op = 1 ∨ op = 2 ∨ op = 3 ∨ op = 4 ∨ op = 5 ∨ op = 6 ∨ op = 7 ∨ op = 8 ∨ op = 9 ∨ op = 10 ∨ op = 11 ∨ op = 12 ∨ op = 13 ∨ op = 14 ∨ op = 15 := by omega
  rcases hc with hc | hc
  · have e : levD op = 0 := by
      unfold levD
      rw [if_neg (by omega), if_neg (by omega), if_neg (by omega), if_neg (by omega), if_neg (by omega), if_neg (by omega), if_neg (by omega)]
    rw [e]
    repeat refine cndF (decide_eq_false (by omega)) ?_
    exact rfl
  · rcases hc with rfl | rfl | rfl | rfl | rfl | rfl | rfl | rfl | rfl | rfl | rfl | rfl | rfl | rfl | rfl
    all_goals
      repeat (first | refine cndF (by decide) ?_ | refine cndT (by decide) ?_)
      exact rfl
end Go.Proofs.YtkjhlfleojcgjaaGreatDoor
set_option maxRecDepth 100000
namespace Go.Proofs.YtkjhlfleojcgjaaGreatDoor
open Go Go.Dx Go.RowKit
theorem u8_digit {m : Nat} (h : m < 10) : IntKind.u8.wrap (48 + (m : Int)) = ((UInt8.ofNat (48 + m)).toNat : Int) := by
  rw [digit_val h, wrap_u8 (by omega) (by omega)]; omega
theorem c_Digits : ∀ (k : Nat) (n : Int), n.natAbs ≤ k → I64 n → ∀ (w0 : World) (h0 : View) (_ : VLe h0 (Full w0)), Calls Tryz.prog 202 #[.int .i64 n] w0 (Ret w0 h0 fun u _ => u = vs (Lib.itoa n)) := by
  intro k
  induction k using Nat.strongRecOn with
  | _ k ih =>
  intro n hk hn w0 h0 hv
  have hn1 := hn.1
  have hn2 := hn.2
  refine ent (args := [.int .i64 n]) TT_ok [] [8] Tryz.func202 rfl Tryz.ntmps202 rfl rfl hv ?_
  refine cnd (fun h => ?_) (fun h => ?_)
  · refine cnd (fun h1 => ?_) (fun h1 => ?_)
    · refine wi ?_
      refine ew _ (show IntKind.u8.wrap (48 - n) = ((UInt8.ofNat (48 + n.natAbs)).toNat : Int) by rw [show 48 - n = 48 + (n.natAbs : Int) by omega]; exact u8_digit (by omega)) ?_
      intro b
      refine ew [UInt8.ofNat (48 + n.natAbs)] rfl ?_
      refine ct ?_
      show vs _ = _
      rw [itoa_neg' h1, dec_lo (by omega)]; rfl
    · refine wi ?_
      refine ew _ (show IntKind.u8.wrap (48 + n) = ((UInt8.ofNat (48 + n.natAbs)).toNat : Int) by rw [show 48 + n = 48 + (n.natAbs : Int) by omega]; exact u8_digit (by omega)) ?_
      intro b
      refine ew [UInt8.ofNat (48 + n.natAbs)] rfl ?_
      show vs _ = _
      rw [itoa_pos h1, dec_lo (by omega)]
  · have ht : (n.tdiv 10).natAbs = n.natAbs / 10 := by rw [Int.natAbs_tdiv]; rfl
    have hm : (n.tmod 10).natAbs = n.natAbs % 10 := by rw [Int.natAbs_tmod]; rfl
    have hi := itoa_hi (n := n) (by omega)
    refine rm (by decide) ?_
    refine w_cut TT_ok (fun _ : Unit => [(3, .v (.int .i64 ((n.natAbs % 10 : Nat) : Int)))]) (fun _ => True) ?_
    refine And.intro ?_ ?_
    · refine cnd (fun h1 => ?_) (fun h1 => ?_)
      · refine wi ?_
        exact ⟨(), trivial, gs (by rw [show 0 - n.tmod 10 = ((n.natAbs % 10 : Nat) : Int) by omega]; rfl)⟩
      · exact ⟨(), trivial, gs (by rw [show n.tmod 10 = ((n.natAbs % 10 : Nat) : Int) by omega]; rfl)⟩
    · intro _ _
      refine And.intro (by kernel_rfl) ?_
      refine qu (by decide) ?_
      refine cl (ih (n.natAbs / 10) (by omega) (n.tdiv 10) (by omega) ⟨by omega, by omega⟩) ?_
      refine wi ?_
      refine ew _ (u8_digit (Nat.mod_lt _ (by decide))) ?_
      refine ew [UInt8.ofNat (48 + n.natAbs % 10)] rfl ?_
      refine ct ?_ (by have := itoa_len' (n := n.tdiv 10) ⟨by omega, by omega⟩; simp; omega)
      exact congrArg vs hi.symm
theorem c_RQuote (s : List UInt8) (hs : s.length ≤ 1000000) (w0 : World) (h0 : View) (hv : VLe h0 (Full w0)) : Calls Tryz.prog 203 #[vs s] w0 (Ret w0 h0 fun u _ => u = vs (quS s)) := by
  refine ent (args := [vs s]) TT_ok [] [7] Tryz.func203 rfl Tryz.ntmps203 rfl rfl hv ?_
  have hfl : ∀ k : Nat, ((s.take k).flatMap qB).length ≤ 2 * s.length := fun k => Nat.le_trans (flat_len _) (by rw [List.length_take]; omega)
  refine w_loop TT_ok (fun k : Nat => [(4, .v (.int .i64 k)), (3, .v (vs (34 :: (s.take k).flatMap qB)))]) 0 (fun k => k ≤ s.length) (fun k => s.length - k) ?_
  refine And.intro ⟨Nat.zero_le _, gs⟩ ?_
  intro k hk
  have hf := hfl k
  refine cnd (fun h => ?_) (fun h => ?_)
  · refine w_cut TT_ok (fun _ : Unit => [(3, .v (vs (34 :: (s.take k).flatMap qB ++ if s.getD k 0 = 34 ∨ s.getD k 0 = 92 then [92] else [])))]) (fun _ => True) ?_
    refine And.intro ?_ ?_
    · refine ix k ?_
      refine ixg k ?_
      have e1 : ((s.getD k 0).toNat : Int) = 34 ↔ s.getD k 0 = 34 := u8i (m := 34) (by decide)
      have e2 : ((s.getD k 0).toNat : Int) = 92 ↔ s.getD k 0 = 92 := u8i (m := 92) (by decide)
      refine cnd (fun h1 => ?_) (fun h1 => ?_)
      · refine ct ?_ (by simp only [List.length_cons, List.length_nil]; omega)
        exact ⟨(), trivial, gs (by rw [if_pos (by rwa [e1, e2] at h1)]; rfl)⟩
      · exact ⟨(), trivial, gs (by rw [if_neg (by rw [e1, e2] at h1; simpa using h1), List.append_nil]; rfl)⟩
    · intro _ _
      refine wi ?_
      refine sl2 k (k + 1) ?_
      have h2 : (s.drop k).take (k + 1 - k) = [s.getD k 0] := by
        rw [show k + 1 - k = 1 by omega, drop_getD s k (by omega)]; rfl
      have h3 : (34 :: (s.take k).flatMap qB ++ if s.getD k 0 = 34 ∨ s.getD k 0 = 92 then [92] else []) ++ (s.drop k).take (k + 1 - k) = 34 :: (s.take (k + 1)).flatMap qB := by
        rw [h2, flat_snoc s k (by omega), List.cons_append, List.cons_append, List.append_assoc]
        congr 2
        unfold qB; split <;> rfl
      refine ct ?_ (by rw [← List.length_append, h3, List.length_cons]; have := hfl (k + 1); omega)
      refine wi ?_
      exact ⟨k + 1, ⟨by omega, by omega⟩, gs (by rw [h3]; rfl)⟩
  · have e : s.take k = s := List.take_of_length_le (by omega)
    refine ct ?_ (by simp only [List.length_cons, List.length_nil]; omega)
    show vs _ = _
    rw [e]; exact rfl
theorem c_RVText (v : Val) (hvb : valB v) (hok : valOk v = true) (w0 : World) (h0 : View) (hv : VLe h0 (Full w0)) : Calls Tryz.prog 172 #[.agg (valC v).toArray] w0 (Ret w0 h0 fun u _ => u = vs (txS v)) := by
  refine ent (args := [.agg (valC v).toArray]) TT_ok [] [] Tryz.func172 rfl Tryz.ntmps172 rfl rfl hv ?_
  intro b
  refine cnd (fun h1 => ?_) (fun h1 => ?_)
  · refine cl (c_Digits _ v.n (Nat.le_refl _) hvb.2) ?_
    rw [txS, if_pos h1]; exact rfl
  · refine cnd (fun h2 => ?_) (fun h2 => ?_)
    · refine cl (c_RQuote v.s (by have := valOk_40 hok; omega)) ?_
      rw [txS, if_neg h1, if_pos h2]; exact rfl
    · refine cnd (fun h3 => ?_) (fun h3 => ?_)
      · refine cnd (fun h4 => ?_) (fun h4 => ?_)
        · rw [txS, if_neg h1, if_neg h2, if_pos h3, decide_eq_true h4]; exact rfl
        · rw [txS, if_neg h1, if_neg h2, if_pos h3, decide_eq_false h4]; exact rfl
      · rw [txS, if_neg h1, if_neg h2, if_neg h3]; exact rfl
theorem lev_D {x : Ex} (hr : rightS x = true) : levD x.op = levS x.op := by
  have key : ∀ k, k < 12 → levD ((k + 4 : Nat) : Int) = levS ((k + 4 : Nat) : Int) := by decide +kernel
  rcases right_parts hr with ⟨h, _⟩ | ⟨h, _⟩ | ⟨h, _⟩ | ⟨h, _⟩ | ⟨h, _⟩
  · rw [h]; decide
  · rw [h]; decide
  · rw [h]; decide
  · rw [h]; decide
  · have := key (x.op.toNat - 4) (by omega)
    rw [show ((x.op.toNat - 4 + 4 : Nat) : Int) = x.op by omega] at this
    exact this
theorem lev_b2 {op : Int} (h : 4 ≤ op ∧ op ≤ 15) : levS op = (findS op).2.2 := by
  rw [levS, if_neg (by omega), if_neg (by omega), if_neg (by omega)]
set_option maxHeartbeats 2000000 in
theorem c_write : ∀ (k : Nat) (x : Ex) (ad : Option Addr) (cap : Nat) (m : Int), mzS x m < k → -1000 ≤ m ∧ m ≤ 1000 → rightS x = true → (putS x m).length ≤ 1000000000000 → ∀ (w0 : World) (h0 : View), VLe h0 (Full w0) → GX h0 ad cap x →
    Calls Tryz.prog 131 #[.agg (exC x.op x.v x.s (.slice ad x.l.length cap)).toArray, .int .i64 m] w0 (Ret w0 h0 fun u _ => u = vs (putS x m)) := by
  intro k
  induction k with
  | zero => intro x ad cap m h; omega
  | succ k ih =>
  intro x ad cap m hk hm hr hl w0 h0 hv hx
  have hsm := hx.sm.parts
  have hlm := hx.xl.lm
  have hlv := lev_D hr
  have hlo := lev_lo x.op
  refine ent (args := [.agg (exC x.op x.v x.s (.slice ad x.l.length cap)).toArray, .int .i64 m]) TT_ok [] [15] Tryz.func131 rfl Tryz.ntmps131 rfl rfl hv ?_
  intro b2
  refine cl (c_Level x.op) ?_
  rw [hlv]
  refine cnd (fun h => ?_) (fun h => ?_)
  · have e1 : putS x m = [40] ++ putS x 0 ++ [41] := by rw [put_eq, if_pos h, bodyX_0 x]; rfl
    rw [e1] at hl ⊢
    simp only [List.length_append, List.length_cons, List.length_nil] at hl
    refine cb (fun w hw => ih x ad cap 0 (by unfold mzS at hk ⊢; rw [if_pos h] at hk; rw [if_neg (by omega)]; omega) (by omega) hr (by omega) w h0 hw hx) ?_
    refine ct ?_ (by simp only [List.length_cons, List.length_nil]; omega)
    refine ct ?_ (by simp only [List.length_append, List.length_cons, List.length_nil]; omega)
    exact rfl
  have eb := put_lv h
  rw [eb] at hl ⊢
  have kz : ∀ (y : Ex) (m' : Int), y ∈ x.l → mzS y m' < k := fun y m' hy => by
    have := Ex.lt hy
    unfold mzS at hk ⊢
    rw [if_neg h] at hk
    split <;> omega
  have kx : ∀ j, j < x.l.length → ∀ a2 c2, XL h0 a2 c2 (x.l.getD j ex0).l → i64 (x.l.getD j ex0).op → valB (x.l.getD j ex0).v → GX h0 a2 c2 (x.l.getD j ex0) := fun j hj a2 c2 g1 g2 g3 => (⟨g1, g2, g3, hsm.2.2.2 _ (getD_mem x.l j ex0 hj)⟩ : GX h0 a2 c2 (x.l.getD j ex0))
  rcases right_parts hr with ⟨h1, hxl, hs, hok, hn⟩ | ⟨h1, hxl, hxv, hn⟩ | ⟨h1, hxv, hs, a, hxl, ha⟩ | ⟨h1, hxv, hs, a, b, c, hxl, ha, hb, hc⟩ | ⟨h1, hxv, hs, a, b, hxl, ha, hb⟩
  · rw [body_1 h1] at hl ⊢
    refine cndT (decide_eq_true h1) ?_
    refine cl (c_RVText x.v hx.v hok) ?_
    show vs (txS x.v) = _
    rw [show txR x.v = (txS x.v, 0) by rw [txR, if_pos hok]]
  · rw [body_2 h1] at hl ⊢
    refine cndF (decide_eq_false (by omega)) ?_
    refine cndT (decide_eq_true h1) ?_
    exact rfl
  · rw [body_3 h1 hxl] at hl ⊢
    simp only [List.length_cons] at hl
    have hg0 : x.l.getD 0 ex0 = a := by rw [hxl]; rfl
    refine cndF (decide_eq_false (by omega)) ?_
    refine cndF (decide_eq_false (by omega)) ?_
    refine cndT (decide_eq_true h1) ?_
    refine ixE hx.xl 0 (fun a2 c2 q1 q2 q3 => ?_) (by rw [hxl]; exact ⟨rfl, by simp⟩)
    have hkx := kx 0 (by rw [hxl]; simp) a2 c2 q1 q2 q3
    rw [hg0] at hkx ⊢
    refine cb (fun w hw => ih a a2 c2 6 (kz a 6 (by rw [hxl]; simp)) (by omega) ha (by omega) w h0 hw hkx) ?_
    refine ct ?_ (by simp only [List.length_cons, List.length_nil]; omega)
    exact rfl
  · rw [body_16 h1 hxl] at hl ⊢
    simp only [List.length_append, ifW, thenW, elseW, List.length_cons, List.length_nil] at hl
    have hg0 : x.l.getD 0 ex0 = a := by rw [hxl]; rfl
    have hg1 : x.l.getD 1 ex0 = b := by rw [hxl]; rfl
    have hg2 : x.l.getD 2 ex0 = c := by rw [hxl]; rfl
    refine cndF (decide_eq_false (by omega)) ?_
    refine cndF (decide_eq_false (by omega)) ?_
    refine cndF (decide_eq_false (by omega)) ?_
    refine cndT (decide_eq_true h1) ?_
    refine And.intro (by kernel_rfl) ?_
    refine ixE hx.xl 0 (fun a02 c02 q01 q02 q03 => ?_) (by rw [hxl]; exact ⟨rfl, by simp⟩)
    have hk0 := kx 0 (by rw [hxl]; simp) a02 c02 q01 q02 q03
    rw [hg0] at hk0 ⊢
    refine cb (fun w hw => ih a a02 c02 0 (kz a _ (by rw [hxl]; simp)) (by omega) ha (by omega) w h0 hw hk0) ?_
    refine ct ?_ (by simp only [List.length_append, List.length_cons, List.length_nil]; omega)
    refine ct ?_ (by simp only [List.length_append, List.length_cons, List.length_nil]; omega)
    refine ixE hx.xl 1 (fun a12 c12 q11 q12 q13 => ?_) (by rw [hxl]; exact ⟨rfl, by simp⟩)
    have hk1 := kx 1 (by rw [hxl]; simp) a12 c12 q11 q12 q13
    rw [hg1] at hk1 ⊢
    refine cb (fun w hw => ih b a12 c12 0 (kz b _ (by rw [hxl]; simp)) (by omega) hb (by omega) w h0 hw hk1) ?_
    refine ct ?_ (by simp only [List.length_append, List.length_cons, List.length_nil]; omega)
    refine ct ?_ (by simp only [List.length_append, List.length_cons, List.length_nil]; omega)
    refine ixE hx.xl 2 (fun a22 c22 q21 q22 q23 => ?_) (by rw [hxl]; exact ⟨rfl, by simp⟩)
    have hk2 := kx 2 (by rw [hxl]; simp) a22 c22 q21 q22 q23
    rw [hg2] at hk2 ⊢
    refine cb (fun w hw => ih c a22 c22 0 (kz c _ (by rw [hxl]; simp)) (by omega) hc (by omega) w h0 hw hk2) ?_
    refine ct ?_ (by simp only [List.length_append, List.length_cons, List.length_nil]; omega)
    exact rfl
  · rw [body_b h1 hxl] at hl ⊢
    have flo := find_lo x.op
    have hlb := lev_b2 h1
    rw [hlb] at h
    simp only [List.length_append, List.length_cons, List.length_nil] at hl
    have hg0 : x.l.getD 0 ex0 = a := by rw [hxl]; rfl
    have hg1 : x.l.getD 1 ex0 = b := by rw [hxl]; rfl
    refine cndF (decide_eq_false (by omega)) ?_
    refine cndF (decide_eq_false (by omega)) ?_
    refine cndF (decide_eq_false (by omega)) ?_
    refine cndF (decide_eq_false (by omega)) ?_
    rw [hlb]
    refine w_cut TT_ok (fun _ : Unit => [(6, .v (.int .i64 (if (findS x.op).2.2 = 3 then 4 else (findS x.op).2.2)))]) (fun _ => True) ?_
    refine And.intro ?_ ?_
    · refine cnd (fun h5 => ?_) (fun h5 => ?_)
      · exact ⟨(), trivial, gs (by rw [if_pos h5]; rfl)⟩
      · exact ⟨(), trivial, gs (by rw [if_neg h5]; rfl)⟩
    intro _ _
    refine And.intro (by kernel_rfl) ?_
    refine ixE hx.xl 0 (fun a02 c02 q01 q02 q03 => ?_) (by rw [hxl]; exact ⟨rfl, by simp⟩)
    have hk0 := kx 0 (by rw [hxl]; simp) a02 c02 q01 q02 q03
    rw [hg0] at hk0 ⊢
    refine cb (fun w hw => ih a a02 c02 (if (findS x.op).2.2 = 3 then 4 else (findS x.op).2.2) (kz a _ (by rw [hxl]; simp)) (by split <;> omega) ha (by omega) w h0 hw hk0) ?_
    refine ct ?_ (by simp only [List.length_append, List.length_cons, List.length_nil]; omega)
    refine cl (c_sign x.op) ?_
    refine ct ?_ (by simp only [List.length_append, List.length_cons, List.length_nil]; omega)
    refine ct ?_ (by simp only [List.length_append, List.length_cons, List.length_nil]; omega)
    refine ixE hx.xl 1 (fun a12 c12 q11 q12 q13 => ?_) (by rw [hxl]; exact ⟨rfl, by simp⟩)
    refine wi ?_ (by show _ ≤ (findS x.op).2.2 + 1 ∧ (findS x.op).2.2 + 1 ≤ _; omega)
    have hk1 := kx 1 (by rw [hxl]; simp) a12 c12 q11 q12 q13
    rw [hg1] at hk1 ⊢
    refine cb (fun w hw => ih b a12 c12 ((findS x.op).2.2 + 1) (kz b _ (by rw [hxl]; simp)) (by omega) hb (by omega) w h0 hw hk1) ?_
    refine ct ?_ (by simp only [List.length_append, List.length_cons, List.length_nil]; omega)
    refine congrArg vs ?_
    simp only [List.append_assoc, List.cons_append, List.nil_append]
end Go.Proofs.YtkjhlfleojcgjaaGreatDoor
set_option maxRecDepth 100000
namespace Go.Proofs.YtkjhlfleojcgjaaGreatDoor
open Go Go.Dx Go.RowKit
theorem contains_idxT (l : List (List UInt8)) (v : List UInt8) : decide (idxS (fun x => decide (v = x)) l ≥ 0) = l.contains v := by
  have := idx_any (p := fun x => decide (v = x)) (l := l)
  rw [show decide (idxS (fun x => decide (v = x)) l ≥ 0) = decide (0 ≤ idxS (fun x => decide (v = x)) l) from rfl, this, List.contains_eq_any_beq]
  congr 1
  funext x
  by_cases h : v = x <;> simp [h]
theorem c_IndexT (ad : Option Addr) (cap : Nat) (l : List (List UInt8)) (v : List UInt8) (w0 : World) (h0 : View) (hv : VLe h0 (Full w0)) (hb : SlC 9 1 (flatR fun s => [vs s]) h0 (.slice ad l.length cap) l) : Calls Tryz.prog 96 #[.slice ad l.length cap, vs v] w0 (Ret w0 h0 fun u _ => u = .int .i64 (idxS (fun x => decide (v = x)) l)) := by
  have hlm := slc_lm hb
  refine ent (args := [.slice ad l.length cap, vs v]) TT_ok [] [] Tryz.func96 rfl Tryz.ntmps96 rfl rfl hv ?_
  refine w_loop TT_ok (fun k : Nat => [(8, .v (.int .i64 k))]) 0 (fun k => k ≤ l.length ∧ ∀ j, j < k → decide (v = l.getD j []) = false) (fun k => l.length - k) ?_
  refine And.intro ⟨⟨Nat.zero_le _, fun j hj => absurd hj (Nat.not_lt_zero j)⟩, gs⟩ ?_
  intro k ⟨hk, hn⟩
  refine cnd (fun h => ?_) (fun h => ?_)
  · refine ixs hb k [] ?_
    refine cnd (fun h1 => ?_) (fun h1 => ?_)
    · exact congrArg (Value.int .i64) (idx_hit [] (by omega) hn (decide_eq_true h1)).symm
    · refine wi ?_
      exact ⟨k + 1, ⟨⟨by omega, upto_snoc hn (decide_eq_false h1)⟩, by omega⟩, gs⟩
  · exact congrArg (Value.int .i64) (idx_none [] (fun j hj => hn j (by omega))).symm
theorem c_ContainsT (ad : Option Addr) (cap : Nat) (l : List (List UInt8)) (v : List UInt8) (w0 : World) (h0 : View) (hv : VLe h0 (Full w0)) (hb : SlC 9 1 (flatR fun s => [vs s]) h0 (.slice ad l.length cap) l) : Calls Tryz.prog 60 #[.slice ad l.length cap, vs v] w0 (Ret w0 h0 fun u _ => u = .bool (l.contains v)) := by
  refine ent (args := [.slice ad l.length cap, vs v]) TT_ok [] [] Tryz.func60 rfl Tryz.ntmps60 rfl rfl hv ?_
  refine cb (fun w hw => c_IndexT ad cap l v w h0 hw hb) ?_
  exact congrArg Value.bool (contains_idxT l v)
structure NmG where
  a : Option Addr
  n : Nat
  cp : Nat
  l : List (List UInt8)
def nmR (bc : Nat) (s : NmG) (k : Nat := 900) : BL := [(k, .c bc 62 [.slice s.a s.n s.cp]), (901, .e (bufE 9 1 (.slice s.a s.n s.cp) (s.l.map fun s => [vs s]).flatten))]
def nmJ (bc l : Nat) (rec : Loop) (s : NmG) : BL := nmR bc s ++ [(902, .e (some l, LoopC rec))]
theorem c_names (bc l : Nat) (rec : Loop) (h00 : View) (hy : ∀ (x : List UInt8) (s : NmG), s.n = s.l.length → s.l.length + 1 ≤ 2000000 → ∀ w v, VLe h00 v → VLe v (Full w) → (∀ b ∈ ids (oes (nmJ bc l rec s)), v b = none) → OwnJ w (oes (nmJ bc l rec s)) →
    YC Tryz.prog (nmJ bc l rec) s l [vs x] w fun u s' => u = .bool true ∧ (s'.l = addS s.l x ∧ s'.n = s'.l.length)) :
    ∀ (k : Nat) (x : Ex) (ad : Option Addr) (cap : Nat), SizeOf.sizeOf x < k → ∀ (s : NmG), s.n = s.l.length → s.l.length + (nmS x).length ≤ 2000000 → ∀ (w0 : World) (h0 : View), VLe h00 h0 → VLe h0 (Full w0) → (∀ b ∈ ids (oes (nmJ bc l rec s)), h0 b = none) → OwnJ w0 (oes (nmJ bc l rec s)) → XL h0 ad cap x.l →
    Calls Tryz.prog 134 #[.agg (exC x.op x.v x.s (.slice ad x.l.length cap)).toArray, .func (.yield l) #[] #[]] w0 (RetJ (nmJ bc l rec) s w0 fun u s' => u = .bool true ∧ (s'.l = (nmS x).foldl addS s.l ∧ s'.n = s'.l.length)) := by
  intro k
  induction k with
  | zero => intro x _ _ h; omega
  | succ k ih =>
  intro x ad cap hk s hn hlen w0 h0 hle hv hno ho hx
  have hlm := hx.lm
  have hne := nm_eq x
  refine entJR (nmJ bc l rec) s (g := fun _ => .bool true) (args := [.agg (exC x.op x.v x.s (.slice ad x.l.length cap)).toArray, .func (.yield l) #[] #[]]) TT_ok [4000014] [3] [.v (.agg (exC x.op x.v x.s (.slice ad x.l.length cap)).toArray), .v (.func (.yield l) #[] #[])] Tryz.func134 rfl Tryz.ntmps134 rfl rfl hv hno ho rfl ?_
  intro b2
  refine w_cutB TT_ok (fun _ : NmG => []) (fun y => nmJ bc l rec y ++ [(2, .c b2 50 (exC x.op x.v x.s (.slice ad x.l.length cap)))]) (fun y => y.l = (if x.op = 2 then [x.s] else []).foldl addS s.l ∧ y.n = y.l.length) ?_
  refine And.intro ?_ ?_
  · refine cnd (fun h => ?_) (fun h => ?_)
    · have h : x.op = 2 := by simpa using h
      rw [if_pos h] at hne
      have hl1 : s.l.length + 1 ≤ 2000000 := by rw [hne] at hlen; simp only [List.length_append, List.length_cons, List.length_nil] at hlen; omega
      refine yJ TT_ok (nmJ bc l rec) s (g := fun _ => .bool true) (fun w v h1 h2 h3 h4 h5 => hy x.s s hn hl1 w v (hle.trans h1) h3 h4 h5) ?_ (hl := ⟨rfl, rfl, rfl, trivial⟩)
      rintro y ⟨g1, g2⟩
      refine cndF (by rw [decide_eq_true h]; rfl) ?_
      exact ⟨y, ⟨by rw [if_pos h]; exact g1, g2⟩, gsJ ⟨rfl, rfl, rfl, rfl, trivial⟩⟩
    · have h : ¬ x.op = 2 := by simpa using h
      refine ⟨.bool false, ?_⟩
      refine cndF (by rw [decide_eq_false h]; rfl) ?_
      exact ⟨s, ⟨by rw [if_neg h]; rfl, hn⟩, gsJ ⟨rfl, rfl, rfl, rfl, trivial⟩⟩
  · rintro s1 ⟨e1, n1⟩
    have hl1 : s1.l.length + (nmL x.l).length ≤ 2000000 := by
      have := adds_len (if x.op = 2 then [x.s] else []) s.l
      rw [hne, List.length_append] at hlen
      rw [e1]; omega
    refine w_loopB TT_ok (fun z : Nat × NmG => [(20, .v (.int .i64 z.1))]) (fun z => nmJ bc l rec z.2 ++ [(2, .c b2 50 (exC x.op x.v x.s (.slice ad x.l.length cap)))]) (0, s1) (fun z => z.1 ≤ x.l.length ∧ z.2.l = (nmL (x.l.take z.1)).foldl addS s1.l ∧ z.2.n = z.2.l.length) (fun z => x.l.length - z.1) ?_
    refine And.intro ⟨⟨Nat.zero_le _, rfl, n1⟩, gsJ ⟨rfl, rfl, rfl, rfl, trivial⟩⟩ ?_
    rintro ⟨j, y⟩ ⟨hj, hy1, hy2⟩
    have hj : j ≤ x.l.length := hj
    have hy1 : y.l = (nmL (x.l.take j)).foldl addS s1.l := hy1
    refine cnd (fun h => ?_) (fun h => ?_)
    · have hj2 : j < x.l.length := by have : (j : Int) < x.l.length := h; omega
      have hin := getD_mem x.l j ex0 hj2
      refine ixE hx j (fun a2 c2 g1 g2 g3 => ?_)
      intro b6
      have hroom : y.l.length + (nmS (x.l.getD j ex0)).length ≤ 2000000 := by
        have h1 := nmL_take x.l j hj2
        have h2 := nmL_drop x.l (j + 1)
        rw [h1, List.length_append] at h2
        have h3 := adds_len (nmL (x.l.take j)) s1.l
        rw [hy1]; omega
      refine cJ TT_ok (nmJ bc l rec) y (g := fun _ => .bool true) (fun w v h1 _ h3 h4 h5 => ih (x.l.getD j ex0) a2 c2 (by have := Ex.lt hin; omega) y hy2 hroom w v (hle.trans h1) h3 h4 h5 (g1.mono h1)) ?_ (hl := ⟨rfl, rfl, rfl, trivial⟩)
      rintro z ⟨z1, z2⟩
      refine cndF rfl ?_
      refine wi ?_
      exact ⟨(j + 1, z), ⟨⟨by show j + 1 ≤ _; omega, by rw [nmL_take x.l j hj2, List.foldl_append, ← hy1]; exact z1, z2⟩, by show x.l.length - (j + 1) < x.l.length - j; omega⟩, gsJ ⟨rfl, rfl, rfl, rfl, trivial⟩⟩
    · have hj2 : j = x.l.length := by have : ¬ (j : Int) < x.l.length := h; omega
      refine ⟨y, rfl, ⟨?_, hy2⟩, rfl, rfl, rfl, rfl, trivial⟩
      rw [hy1, hj2, List.take_length, e1, ← List.foldl_append, ← hne]
theorem fl1 (l : List (List UInt8)) : (l.map fun t => [vs t]).flatten.length = l.length := by
  induction l <;> simp_all
theorem c_each1 (bc l : Nat) (rec : Loop) (h00 : View) (hy : ∀ (x : List UInt8) (s : NmG), s.n = s.l.length → s.l.length + 1 ≤ 2000000 → ∀ w v, VLe h00 v → VLe v (Full w) → (∀ b ∈ ids (oes (nmJ bc l rec s)), v b = none) → OwnJ w (oes (nmJ bc l rec s)) →
      YC Tryz.prog (nmJ bc l rec) s l [vs x] w fun u s' => u = .bool true ∧ (s'.l = addS s.l x ∧ s'.n = s'.l.length))
    (x : Ex) (ad : Option Addr) (cap b : Nat) (s : NmG) (hn : s.n = s.l.length) (hlen : s.l.length + (nmS x).length ≤ 2000000) (w0 : World) (h0 : View) (hle : VLe h00 h0) (hv : VLe h0 (Full w0)) (hno : ∀ b ∈ ids (oes (nmJ bc l rec s)), h0 b = none) (ho : OwnJ w0 (oes (nmJ bc l rec s))) (hx : XL h0 ad cap x.l)
    (hb : h0 b = some (.cells (exC x.op x.v x.s (.slice ad x.l.length cap)).toArray 50 (0, 0))) :
    Calls Tryz.prog 133 #[.func (.yield l) #[] #[], .pointer (some ⟨b, 0, none⟩)] w0 (RetJ (nmJ bc l rec) s w0 fun u s' => u = .tuple #[] ∧ (s'.l = (nmS x).foldl addS s.l ∧ s'.n = s'.l.length)) := by
  refine entJR (nmJ bc l rec) s (g := fun _ => .tuple #[]) (args := [.func (.yield l) #[] #[], .pointer (some ⟨b, 0, none⟩)]) TT_ok [] [] [.v (.func (.yield l) #[] #[]), .v (.pointer (some ⟨b, 0, none⟩))] Tryz.func133 rfl Tryz.ntmps133 rfl rfl hv hno ho rfl ?_
  refine ⟨exC x.op x.v x.s (.slice ad x.l.length cap), ⟨rfl, fun v w g1 _ g3 j u hj => by rw [add_mk, cell_row (g3 _ _ (g1 _ _ hb)), Nat.zero_add]; exact hj⟩, ?_⟩
  refine cJ TT_ok (nmJ bc l rec) s (g := fun _ => .bool true) (fun w v h1 _ h3 h4 h5 => c_names bc l rec h00 hy _ x ad cap (Nat.lt_succ_self _) s hn hlen w v (hle.trans h1) h3 h4 h5 (hx.mono h1)) ?_ (hl := ⟨rfl, rfl, rfl, trivial⟩)
  rintro y ⟨g1, g2⟩
  exact ⟨y, rfl, ⟨g1, g2⟩, rfl, rfl, rfl, rfl, trivial⟩
theorem c_each (x : Ex) (ad : Option Addr) (cap : Nat) (w0 : World) (h0 : View) (hv : VLe h0 (Full w0)) : Calls Tryz.prog 95 #[.agg (exC x.op x.v x.s (.slice ad x.l.length cap)).toArray] w0 (Ret w0 h0 fun u hh => ∃ b : Nat, u = .func (.func 133) #[] #[.pointer (some ⟨b, 0, none⟩)] ∧ hh b = some (.cells (exC x.op x.v x.s (.slice ad x.l.length cap)).toArray 50 (0, 0))) := by
  refine entA (args := [.agg (exC x.op x.v x.s (.slice ad x.l.length cap)).toArray]) TT_ok [3] [] Tryz.func95 rfl Tryz.ntmps95 rfl rfl hv (fun _ _ _ hle hx => hle _ _ hx) ?_
  intro b1
  refine shutG TT_ok (Φ := fun h => h b1 = some (.cells (exC x.op x.v x.s (.slice ad x.l.length cap)).toArray 50 (0, 0))) 1 rfl (fun hh _ _ hb => hb) ?_ (fun _ _ hle hx => hle _ _ hx)
  exact ⟨b1, rfl, fun v _ hF => hF.2⟩
theorem c_Names (x : Ex) (ad : Option Addr) (cap : Nat) (hlen : (nmS x).length ≤ 2000000) (w0 : World) (h0 : View) (hv : VLe h0 (Full w0)) (hx : XL h0 ad cap x.l) : Calls Tryz.prog 59 #[.agg (exC x.op x.v x.s (.slice ad x.l.length cap)).toArray] w0 (Ret w0 h0 fun u hh => ∃ a : Option Addr × Nat, u = .slice a.1 (namesS x).length a.2 ∧ SlC 9 1 (flatR fun t => [vs t]) hh (.slice a.1 (namesS x).length a.2) (namesS x)) := by
  refine entDM (E := fun B F us => ∃ a : Option Addr × Nat, tupV us = .slice a.1 (namesS x).length a.2 ∧ ∀ v, F v → SlC 9 1 (flatR fun t => [vs t]) v (.slice a.1 (namesS x).length a.2) (namesS x)) (args := [.agg (exC x.op x.v x.s (.slice ad x.l.length cap)).toArray]) TT_ok [] [] 2 Tryz.func59 rfl Tryz.ntmps59 rfl rfl hv ?_ ?_
  · rintro B F us w ⟨a, h1, h2⟩ hS
    rw [h1]
    exact hS.st.ret (fun _ _ hle ⟨b, e, hs⟩ => ⟨b, e, hs.monoF hle⟩) fun hh hF => ⟨a, rfl, h2 hh hF⟩
  intro b1 b3
  intro a w hD hS
  refine c_seq (c_seq (hand (c := ⟨Tryz.prog, TT, .wp, 17, w0, h0, [], fun _ => False, [], []⟩) TT_ok hD hS ?_ (fun _ _ _ h _ _ => h.elim)))
  refine cA TT_ok (fun w v h1 h2 h3 => c_each x ad cap w v h3) (fun _ _ _ hle hx => hle _ _ hx) (fun be => ?_)
  intro a w hD hS
  refine n_then (c_block ?_)
  have hS := nil_sx (T := 9) (sz := 1) (k := 901) hS
  have hD := nil_dn 901 (bufE 9 1 (.slice none 0 0) []) hD
  have e6 : a.eval (.tmp 6) = .func (.func 133) #[] #[.pointer (some ⟨be, 0, none⟩)] := hD.fr.kv (t := 6) rfl
  have e3 : a.tmps.getD 3 undef = .pointer (some ⟨b3, 0, none⟩) := hD.fr.kv (t := 3) rfl
  have hsz := hD.fr.sz
  have hdf := hD.fr.df
  refine rangeJ TT_ok (fun s => nmR b3 s 3) ⟨none, 0, 0, []⟩ 902 903 (Ψ := fun s' => s'.l = namesS x ∧ s'.n = s'.l.length) (lb := [.pointer (some ⟨be, 0, none⟩)]) hD hS e6 (TT_ok.call rfl) ⟨rfl, rfl, trivial⟩ rfl (fun _ _ => rfl) (fun _ => rfl) (fun _ => rfl) ?_ ?_
  · intro rec l hr1 hr2 hr3 hr4 hr5 hr6 w1 v g1 g2 g3 g4 g5
    refine (c_each1 b3 l rec v ?_ x ad cap be ⟨none, 0, 0, []⟩ rfl (by simpa using hlen) w1 v (fun _ _ h => h) g3 g4 g5 (hx.mono g1) g2.2).mono ?_
    · intro y s hn hl w2 v2 q1 q3 q4 q5
      have hl2 : w2.heap[l]? = some (.loop rec) := q5.own (some l, LoopC rec) (by unfold nmJ; rw [oes_app]; exact List.mem_append_right _ (List.mem_singleton.2 rfl))
      refine ⟨_, _, _, _, run_yield1 hl2 hr4, ?_⟩
      obtain ⟨t7, tx⟩ := set_tmp (v := vs y) hsz (show 7 < 17 by decide)
      refine roundJ TT_ok (nmR b3) 902 (Ψ := fun s' => s'.l = addS s.l y ∧ s'.n = s'.l.length) hr1 hr2 s [] [] [(7, .v (vs y)), (3, .o 900 0)] (n := 17) q3 q4 q5 (by rw [Array.size_setIfInBounds, hr3]; exact hsz) ?_ ?_
      · intro t u hu
        rw [hr3]
        by_cases h7 : t = 7
        · subst h7
          rw [t7]; exact Option.some.inj hu
        · rw [tx t h7]
          by_cases h3 : t = 3
          · subst h3
            rw [e3]; exact Option.some.inj hu
          · have hn : lkA [(7, SV.v (vs y)), (3, SV.o 900 0)] t = none := by rw [lkA_ne (Ne.symm h7), lkA_ne (Ne.symm h3)]; rfl
            rw [kv_none hn] at hu; cases hu
      · generalize LoopC { rec with state := .busy } = LC
        rw [hr5]
        refine ⟨rfl, ?_⟩
        show vcC _ rec.body _ _ _ _ _ _
        rw [hr6]
        refine co (x := .bool (s.l.contains y)) ?_ ?_
        · intro w hS
          have h1 := own_sl (T := 9) (sz := 1) (g := fun t => [vs t]) (k := 901) (a0 := s.a) (nn := s.n) (cp := s.cp) (l := s.l) rfl hn (by intros; rfl) hS
          rw [hn] at h1 ⊢
          exact c_ContainsT s.a s.cp s.l y w (Full w) (VLe.refl _) h1
        refine cnd (fun h => ?_) (fun h => ?_)
        · have h : s.l.contains y = false := by simpa using h
          intro b14
          refine ap TT_ok 901 (AppT.of (bytes := 16) (sz := 0) (by kernel_rfl) (by kernel_rfl) (by kernel_rfl)) rfl rfl rfl rfl rfl rfl rfl (by rw [fl1]; show (s.l.length + 1) * 17 ≤ 140737488355328; omega) (fun a0 nn cp' hnn => ?_)
          rw [fl1] at hnn
          have hnn : nn * 1 = s.l.length + 1 := hnn
          refine ⟨⟨a0, nn, cp', s.l ++ [y]⟩, ⟨by rw [addS, if_neg (by rw [h]; decide)], by show nn = (s.l ++ [y]).length; rw [List.length_append]; show nn = s.l.length + 1; omega⟩, rfl, rfl, ?_, rfl, trivial⟩
          exact congrArg some (by rw [show ((s.l ++ [y]).map fun t => [vs t]).flatten = (s.l.map fun t => [vs t]).flatten ++ [vs y] by simp]; rfl)
        · have h : s.l.contains y = true := by simpa using h
          exact ⟨s, ⟨by rw [addS, if_pos h], hn⟩, rfl, rfl, rfl, rfl, trivial⟩
    · rintro e w2 ⟨u, s', rfl, ⟨_, h1, h2⟩, h3⟩
      exact ⟨u, s', rfl, ⟨h1, h2⟩, h3⟩
  · rintro s' D w2 ⟨hl, hn⟩ hD2 hS2
    show codeM Md.wp Tryz.prog _ _ _ _
    rw [hdf]
    generalize hds : [(⟨.collected D, #[]⟩ : Deferred)] = ds
    refine c_seq (regM TT_ok rfl (K := fun L B F => ∀ a w, Dn _ L [] B a → Sx _ B F w → _) hD2 hS2 (fun o ho => ?_) ?_ (fun _ _ _ a w hk hD hS => hk a w hD hS) (fun _ _ _ h _ _ => h.elim))
    · simp only [List.mem_cons, List.not_mem_nil, or_false] at ho
      rcases ho with rfl | rfl
      all_goals exact nodef_quiet rfl
    intro a3 w3 hD3 hS3
    refine n_then (c_ret ?_)
    show LeavesInM Fence.wide 1 Tryz.prog _ a3.tmps _ ds .returning w3
    rw [← hds]
    refine retM TT_ok (rs := [.tmp 2]) (E := fun B F us => (∃ s' : NmG, tupV us = .slice s'.a s'.n s'.cp ∧ s'.l = namesS x ∧ s'.n = s'.l.length ∧ lkA B 901 = some (.e (bufE 9 1 (.slice s'.a s'.n s'.cp) (s'.l.map fun t => [vs t]).flatten))) ∧ delE B 901 fun _ => True) 903 rfl rfl ?_ hD3 hS3 ?_
    · exact ⟨⟨s', rfl, hl, hn, rfl⟩, trivial⟩
    · rintro B F us w ⟨⟨s2, h1, h2, h3, h4⟩, h5⟩ hS
      obtain ⟨B', _, _, hs⟩ := seal_sx (c := ⟨Tryz.prog, TT, .wp, 17, w0, h0, [], fun _ => False, [], []⟩) (g := fun t => [vs t]) rfl h4 h3 (by intros; rfl) h5
      have hS' := hs w hS
      rw [h1]
      refine hS'.st.ret (fun _ _ hle ⟨b, e, hs⟩ => ⟨b, e, hs.monoF hle⟩) fun hh hF => ⟨(s2.a, s2.cp), ?_, ?_⟩
      · rw [h3, h2]
      · have := hF.2
        rw [h3, h2] at this
        exact this
end Go.Proofs.YtkjhlfleojcgjaaGreatDoor
set_option maxRecDepth 100000
namespace Go.Proofs.YtkjhlfleojcgjaaGreatDoor
open Go Go.Dx Go.RowKit
theorem c_RText (x : Ex) (ad : Option Addr) (cap : Nat) (hd : deepS x ≤ 1000000000) (w0 : World) (h0 : View) (hv : VLe h0 (Full w0)) (hx : GX h0 ad cap x) :
    Calls Tryz.prog 93 #[.agg (exC x.op x.v x.s (.slice ad x.l.length cap)).toArray] w0 (Ret w0 h0 fun u _ => u = tsV (textT x)) := by
  refine ent (args := [.agg (exC x.op x.v x.s (.slice ad x.l.length cap)).toArray]) TT_ok [] [] Tryz.func93 rfl Tryz.ntmps93 rfl rfl hv ?_
  intro b1
  refine cb (fun w hw => c_RRightX _ x ad cap (Nat.lt_succ_self _) w h0 hw hx) ?_
  refine cnd (fun h => ?_) (fun h => ?_)
  · have h : rightS x = false := by simpa using h
    rw [textT, if_pos h]; exact rfl
  have hr : rightS x = true := by simpa using h
  refine cb (fun w hw => c_RDeep _ x ad cap (Nat.lt_succ_self _) hd w h0 hw hx.xl) ?_
  refine cnd (fun h2 => ?_) (fun h2 => ?_)
  · rw [textT, if_neg (by rw [hr]; decide), if_pos (by omega)]; exact rfl
  have hln := put_len (XL.rx hx.xl ⟨hx.op, hx.v⟩) hr 0
  have h12 : 4 ^ deepS x ≤ 4 ^ 12 := Nat.pow_le_pow_right (by decide) (by omega)
  have h12 : 4 ^ deepS x ≤ 16777216 := h12
  rw [textT, if_neg (by rw [hr]; decide), if_neg (by omega)]
  refine cb (fun w hw => c_write _ x ad cap 0 (Nat.lt_succ_self _) (by decide) hr (by omega) w h0 hw hx) ?_
  refine cnd (fun h3 => ?_) (fun h3 => ?_)
  · rw [if_pos (by omega)]; exact rfl
  · rw [if_neg (by omega)]; exact rfl
theorem c_EqualF2 (l m : List Ex) (ad ad2 : Option Addr) (cap cap2 : Nat) (w0 : World) (h0 : View) (hv : VLe h0 (Full w0)) (hx : XL h0 ad cap l) (hy : XL h0 ad2 cap2 m)
    (hp : ∀ j, j < l.length → ∀ a2 c2 a3 c3, XL h0 a2 c2 (l.getD j ex0).l → XL h0 a3 c3 (m.getD j ex0).l → ∀ w, VLe h0 (Full w) → Calls Tryz.prog 56 #[.agg (exC (l.getD j ex0).op (l.getD j ex0).v (l.getD j ex0).s (.slice a2 (l.getD j ex0).l.length c2)).toArray, .agg (exC (m.getD j ex0).op (m.getD j ex0).v (m.getD j ex0).s (.slice a3 (m.getD j ex0).l.length c3)).toArray] w (Ret w h0 fun u _ => u = .bool (sameX (l.getD j ex0) (m.getD j ex0)))) :
    Calls Tryz.prog 91 #[.slice ad l.length cap, .slice ad2 m.length cap2, .func (.func 56) #[] #[]] w0 (Ret w0 h0 fun u _ => u = .bool (sameXL l m)) := by
  have hlm := hx.lm
  refine ent (args := [.slice ad l.length cap, .slice ad2 m.length cap2, .func (.func 56) #[] #[]]) TT_ok [] [] Tryz.func91 rfl Tryz.ntmps91 rfl rfl hv ?_
  refine cnd (fun h => ?_) (fun h => ?_)
  · exact congrArg Value.bool (sameL_len (by omega)).symm
  have hle : l.length = m.length := by omega
  refine w_loop TT_ok (fun k : Nat => [(17, .v (.int .i64 k))]) 0 (fun k => k ≤ l.length ∧ ∀ j, j < k → sameX (l.getD j ex0) (m.getD j ex0) = true) (fun k => l.length - k) ?_
  refine And.intro ⟨⟨Nat.zero_le _, fun j hj => absurd hj (Nat.not_lt_zero j)⟩, gs⟩ ?_
  intro k ⟨hk, hn⟩
  refine cnd (fun h => ?_) (fun h => ?_)
  · refine ixE hx k (fun a2 c2 h1 _ _ => ?_)
    intro b8
    refine ixE hy k (fun a3 c3 h2 _ _ => ?_)
    intro b9
    refine cb (fun w hw => hp k (by omega) a2 c2 a3 c3 h1 h2 w hw) ?_
    refine cnd (fun h3 => ?_) (fun h3 => ?_)
    · exact congrArg Value.bool (sameL_no (k := k) (by omega) (by simpa using h3)).symm
    refine wi ?_
    exact ⟨k + 1, ⟨⟨by omega, fun j hj => by
      by_cases hjk : j = k
      · subst hjk; simpa using h3
      · exact hn j (by omega)⟩, by omega⟩, gs⟩
  · exact congrArg Value.bool (sameL_all hle (fun j hj => hn j (by omega))).symm
set_option maxHeartbeats 1000000 in
theorem c_Same2 : ∀ (k : Nat) (x y : Ex) (ad ad2 : Option Addr) (cap cap2 : Nat), SizeOf.sizeOf x < k → ∀ (w0 : World) (h0 : View), VLe h0 (Full w0) → XL h0 ad cap x.l → XL h0 ad2 cap2 y.l → Calls Tryz.prog 56 #[.agg (exC x.op x.v x.s (.slice ad x.l.length cap)).toArray, .agg (exC y.op y.v y.s (.slice ad2 y.l.length cap2)).toArray] w0 (Ret w0 h0 fun u _ => u = .bool (sameX x y)) := by
  intro k
  induction k with
  | zero => intro x _ _ _ _ _ h; omega
  | succ k ih =>
    intro x y ad ad2 cap cap2 hk w0 h0 hv hx hy
    have hlm := hx.lm
    refine ent (args := [.agg (exC x.op x.v x.s (.slice ad x.l.length cap)).toArray, .agg (exC y.op y.v y.s (.slice ad2 y.l.length cap2)).toArray]) TT_ok [] [] Tryz.func56 rfl Tryz.ntmps56 rfl rfl hv ?_
    intro b2 b3
    refine aqg eqV x.v y.v ?_
    refine cbg (fun _ w hw => c_EqualF2 x.l y.l ad ad2 cap cap2 w h0 hw hx hy (fun j hj a2 c2 a3 c3 g1 g2 w hw => ih _ _ a2 a3 c2 c3 (by have := Ex.lt (getD_mem x.l j ex0 hj); omega) w h0 hw g1 g2)) ?_
    exact congrArg Value.bool (by rw [same_eq])
set_option maxHeartbeats 1000000 in
theorem c_RSame2 : ∀ (k : Nat) (x y : Ex) (ad ad2 : Option Addr) (cap cap2 : Nat), SizeOf.sizeOf x < k → ∀ (w0 : World) (h0 : View), VLe h0 (Full w0) → XL h0 ad cap x.l → XL h0 ad2 cap2 y.l → Calls Tryz.prog 39 #[.agg (exC x.op x.v x.s (.slice ad x.l.length cap)).toArray, .agg (exC y.op y.v y.s (.slice ad2 y.l.length cap2)).toArray] w0 (Ret w0 h0 fun u _ => u = .bool (sameX x y)) := by
  intro k
  induction k with
  | zero => intro x _ _ _ _ _ h; omega
  | succ k ih =>
    intro x y ad ad2 cap cap2 hk w0 h0 hv hx hy
    have hlm := hx.lm
    refine ent (args := [.agg (exC x.op x.v x.s (.slice ad x.l.length cap)).toArray, .agg (exC y.op y.v y.s (.slice ad2 y.l.length cap2)).toArray]) TT_ok [] [] Tryz.func39 rfl Tryz.ntmps39 rfl rfl hv ?_
    intro b2 b3
    refine aqg eqV x.v y.v ?_
    refine cnd (fun h => ?_) (fun h => ?_)
    · refine congrArg Value.bool ?_
      rw [same_eq]
      have hs : ¬ (x.op = y.op ∧ x.v = y.v ∧ x.s = y.s ∧ x.l.length = y.l.length) := by
        rintro ⟨h1, h2, h3, h4⟩
        rw [h1, h2, h3, h4] at h
        simp at h
      by_cases h1 : x.op = y.op
      · by_cases h2 : x.v = y.v
        · by_cases h3 : x.s = y.s
          · rw [sameL_len (fun h4 => hs ⟨h1, h2, h3, h4⟩), Bool.and_false]
          · rw [decide_eq_false h3]; simp
        · rw [decide_eq_false h2]; simp
      · rw [decide_eq_false h1]; simp
    obtain ⟨h1, h2, h3, h4⟩ : x.op = y.op ∧ x.v = y.v ∧ x.s = y.s ∧ x.l.length = y.l.length := by
      exact ⟨h.1.1.1, h.1.1.2, h.1.2, by have := h.2; omega⟩
    have hsx : sameX x y = sameXL x.l y.l := by
      rw [same_eq, decide_eq_true h1, decide_eq_true h2, decide_eq_true h3]; simp
    refine w_loop TT_ok (fun k : Nat => [(5, .v (.int .i64 k))]) 0 (fun k => k ≤ x.l.length ∧ ∀ j, j < k → sameX (x.l.getD j ex0) (y.l.getD j ex0) = true) (fun k => x.l.length - k) ?_
    refine And.intro ⟨⟨Nat.zero_le _, fun j hj => absurd hj (Nat.not_lt_zero j)⟩, gs⟩ ?_
    intro j ⟨hj, hn⟩
    refine cnd (fun h => ?_) (fun h => ?_)
    · refine And.intro (by kernel_rfl) ?_
      refine ixE hx j (fun a2 c2 g1 _ _ => ?_)
      refine ixE hy j (fun a3 c3 g2 _ _ => ?_)
      refine cb (fun w hw => ih _ _ a2 a3 c2 c3 (by have := Ex.lt (getD_mem x.l j ex0 (by omega)); omega) w h0 hw g1 g2) ?_
      refine cnd (fun h5 => ?_) (fun h5 => ?_)
      · exact congrArg Value.bool (by rw [hsx]; exact (sameL_no (k := j) (by omega) (by simpa using h5)).symm)
      refine wi ?_
      exact ⟨j + 1, ⟨⟨by omega, fun i hi => by
        by_cases hij : i = j
        · subst hij; simpa using h5
        · exact hn i (by omega)⟩, by omega⟩, gs⟩
    · exact congrArg Value.bool (by rw [hsx]; exact (sameL_all h4 (fun i hi => hn i (by omega))).symm)
theorem contains_take (l : List (List UInt8)) (t : List UInt8) (j : Nat) (h : j < l.length) : (l.take (j + 1)).contains t = ((l.take j).contains t || decide (l.getD j [] = t)) := by
  rw [take_snocD l j [] h]
  simp only [List.contains_eq_any_beq, List.any_append, List.any_cons, List.any_nil, Bool.or_false]
  congr 1
  by_cases e : l.getD j [] = t
  · rw [e]; simp
  · rw [decide_eq_false e]; simpa using fun h => e h.symm
theorem fl1' (l : List (List UInt8)) : (l.map fun t => [vs t]).flatten = l.map vs := by
  induction l <;> simp_all
set_option maxHeartbeats 2000000 in
theorem c_RNames : ∀ (k : Nat) (x : Ex) (ad : Option Addr) (cap : Nat), SizeOf.sizeOf x < k → (nmS x).length ≤ 2000000 → ∀ (w0 : World) (h0 : View), VLe h0 (Full w0) → XL h0 ad cap x.l →
    Calls Tryz.prog 61 #[.agg (exC x.op x.v x.s (.slice ad x.l.length cap)).toArray] w0 (Ret w0 h0 fun u hh => ∃ a : Option Addr × Nat, u = .slice a.1 (namesS x).length a.2 ∧ SlC 9 1 (flatR fun t => [vs t]) hh (.slice a.1 (namesS x).length a.2) (namesS x)) := by
  intro k
  induction k with
  | zero => intro x _ _ h; omega
  | succ k ih =>
  intro x ad cap hk hlen w0 h0 hv hx
  have hlm := hx.lm
  have hne := names_eq x
  refine entA (args := [.agg (exC x.op x.v x.s (.slice ad x.l.length cap)).toArray]) TT_ok [44, 45, 60, 1000015] [4] Tryz.func61 rfl Tryz.ntmps61 rfl rfl hv (fun _ => Mono.slF) ?_
  intro b1
  refine nilC 900 9 1 ?_
  refine w_cutB TT_ok (fun s : NmG => [(3, .v (.slice s.a s.n s.cp))]) (fun s => [(900, .e (bufE 9 1 (.slice s.a s.n s.cp) (s.l.map fun t => [vs t]).flatten)), (1, .c b1 50 (exC x.op x.v x.s (.slice ad x.l.length cap)))]) (fun s => s.l = (if x.op = 2 then [x.s] else []) ∧ s.n = s.l.length) ?_
  refine And.intro ?_ ?_
  · refine cnd (fun h => ?_) (fun h => ?_)
    · intro b15
      refine ap TT_ok 900 (AppT.of (bytes := 16) (sz := 0) (by kernel_rfl) (by kernel_rfl) (by kernel_rfl)) rfl rfl rfl rfl rfl rfl rfl (by show 1 * 17 ≤ 140737488355328; omega) (fun a0 nn cp' hnn => ?_)
      have hnn : nn * 1 = 1 := hnn
      exact ⟨⟨a0, nn, cp', [x.s]⟩, ⟨by rw [if_pos h], by show nn = 1; omega⟩, gs⟩
    · exact ⟨⟨none, 0, 0, []⟩, ⟨by rw [if_neg h], rfl⟩, gs⟩
  rintro ⟨a1, n1, c1, l1⟩ ⟨e1, hn1⟩
  dsimp only at e1 hn1 ⊢
  have hl1 : l1.length ≤ 1 := by rw [e1]; split <;> simp
  refine w_loopB TT_ok (fun z : NmG × Nat => [(4, .v (.int .i64 z.2)), (3, .v (.slice z.1.a z.1.n z.1.cp))]) (fun z => [(900, .e (bufE 9 1 (.slice z.1.a z.1.n z.1.cp) (z.1.l.map fun t => [vs t]).flatten)), (1, .c b1 50 (exC x.op x.v x.s (.slice ad x.l.length cap)))]) (⟨a1, n1, c1, l1⟩, 0) (fun z => z.2 ≤ x.l.length ∧ z.1.n = z.1.l.length ∧ z.1.l = (nmL (x.l.take z.2)).foldl addS l1) (fun z => x.l.length - z.2) ?_
  refine And.intro ⟨⟨Nat.zero_le _, hn1, rfl⟩, gs⟩ ?_
  rintro ⟨⟨a2, n2, c2, l2⟩, i⟩ ⟨hi, hn2, e2⟩
  dsimp only at hi hn2 e2 ⊢
  have hl2 : l2.length ≤ 2000001 := by
    have h1 := adds_len (nmL (x.l.take i)) l1
    have h2 := nmL_drop x.l i
    have h3 := congrArg List.length (nm_eq x)
    rw [List.length_append] at h3
    rw [e2]; omega
  refine cnd (fun h => ?_) (fun h => ?_)
  · have hil : i < x.l.length := by omega
    have hin := getD_mem x.l i ex0 hil
    refine ixE hx i (fun a3 c3 g1 _ _ => ?_)
    have hkid := nm_kid hin
    refine cA TT_ok (fun w v h1 h2 h3 => ih (x.l.getD i ex0) a3 c3 (by have := Ex.lt hin; omega) (by omega) w v h3 (g1.mono h1)) (fun _ => Mono.slF) (fun nm => ?_)
    have hMl := names_len (x.l.getD i ex0)
    have hacc := names_kids l2 (x.l.getD i ex0)
    generalize namesS (x.l.getD i ex0) = M at hMl hacc ⊢
    refine w_loopB TT_ok (fun z : NmG × Nat => [(6, .v (.int .i64 z.2)), (3, .v (.slice z.1.a z.1.n z.1.cp))]) (fun z => [(27, .k none (adB ad) (adO ad + i * 6) (exC (x.l.getD i ex0).op (x.l.getD i ex0).v (x.l.getD i ex0).s (.slice a3 (x.l.getD i ex0).l.length c3))), (900, .e (bufE 9 1 (.slice z.1.a z.1.n z.1.cp) (z.1.l.map fun t => [vs t]).flatten)), (1, .c b1 50 (exC x.op x.v x.s (.slice ad x.l.length cap)))]) (⟨a2, n2, c2, l2⟩, 0) (fun z => z.2 ≤ M.length ∧ z.1.n = z.1.l.length ∧ z.1.l = (M.take z.2).foldl addS l2) (fun z => M.length - z.2) ?_
    refine And.intro ⟨⟨Nat.zero_le _, hn2, rfl⟩, gs⟩ ?_
    rintro ⟨⟨a4, n4, c4, l4⟩, j⟩ ⟨hj, hn4, e4⟩
    dsimp only at hj hn4 e4 ⊢
    have hl4 : l4.length ≤ 6000000 := by
      have h1 := adds_len (M.take j) l2
      rw [List.length_take] at h1
      rw [e4]; omega
    refine cnd (fun h2 => ?_) (fun h2 => ?_)
    · have hjl : j < M.length := by omega
      refine w_loop TT_ok (fun z : Nat => [(8, .v (.int .i64 z)), (7, .v (.bool ((l4.take z).contains (M.getD j []))))]) 0 (fun z => z ≤ l4.length) (fun z => l4.length - z) ?_
      refine And.intro ⟨Nat.zero_le _, gs⟩ ?_
      intro q hq
      refine cnd (fun h3 => ?_) (fun h3 => ?_)
      · have hql : q < l4.length := by omega
        refine regQ TT_ok [0, 1, 4, 5, 6, 7] [2, 3, 8] [] false ?_
        refine ixf (fun v hF => hF.2) j [] ?_
        refine ixB TT_ok 900 (T := 9) (e := 9) rfl ⟨by kernel_rfl, SzIs.of (by kernel_rfl)⟩ rfl rfl (m := q) rfl (by omega) (fun bb oo hab => ?_)
        cases hab
        refine kq ?_
        refine ldB TT_ok 900 (T := 9) rfl (OneT.of (by kernel_rfl)) rfl (v := vs (l4.getD q [])) (by rw [fl1', List.getElem?_map, getD_lt l4 q [] hql, List.getElem?_eq_getElem hql]; rfl) ?_
        refine kq ?_
        refine kq ?_
        have hct := contains_take l4 (M.getD j []) q hql
        refine cnd (fun h4 => ?_) (fun h4 => ?_)
        · refine wi ?_
          exact ⟨q + 1, ⟨by omega, by omega⟩, gs (by rw [hct, decide_eq_true h4, Bool.or_true]; rfl)⟩
        · refine wi ?_
          exact ⟨q + 1, ⟨by omega, by omega⟩, gs (by rw [hct, decide_eq_false h4, Bool.or_false]; rfl)⟩
      · rw [List.take_of_length_le (show l4.length ≤ q by omega)]
        have hst : (M.take (j + 1)).foldl addS l2 = addS l4 (M.getD j []) := by
          rw [take_snocD M j [] hjl, List.foldl_append, ← e4]; rfl
        refine cnd (fun h4 => ?_) (fun h4 => ?_)
        · have h4 : l4.contains (M.getD j []) = false := by simpa using h4
          refine ixf (fun v hF => hF.2) j [] ?_
          intro b58
          refine ap TT_ok 900 (AppT.of (bytes := 16) (sz := 0) (by kernel_rfl) (by kernel_rfl) (by kernel_rfl)) rfl rfl rfl rfl rfl rfl rfl (by rw [fl1]; show (l4.length + 1) * 17 ≤ 140737488355328; omega) (fun a0 nn cp' hnn => ?_)
          rw [fl1] at hnn
          have hnn : nn * 1 = l4.length + 1 := hnn
          refine wi ?_
          refine ⟨(⟨a0, nn, cp', l4 ++ [M.getD j []]⟩, j + 1), ⟨⟨hjl, by show nn = (l4 ++ [_]).length; rw [List.length_append]; show nn = l4.length + 1; omega, by rw [hst, addS, if_neg (by rw [h4]; decide)]⟩, by show M.length - (j + 1) < M.length - j; omega⟩, gs rfl ?_⟩
          show [_, (900, OB.e (bufE 9 1 (.slice a0 nn cp') _)), _] = [_, (900, OB.e (bufE 9 1 (.slice a0 nn cp') _)), _]
          rw [List.map_append, List.flatten_append]; rfl
        · have h4 : l4.contains (M.getD j []) = true := by simpa using h4
          refine wi ?_
          exact ⟨(⟨a4, n4, c4, l4⟩, j + 1), ⟨⟨hjl, hn4, by rw [hst, addS, if_pos h4]⟩, by show M.length - (j + 1) < M.length - j; omega⟩, gs⟩
    · have hje : j = M.length := by omega
      rw [hje, List.take_length, hacc] at e4
      refine wi ?_
      exact ⟨(⟨a4, n4, c4, l4⟩, i + 1), ⟨⟨hil, hn4, by rw [nmL_take x.l i hil, List.foldl_append, ← e2]; exact e4⟩, by show x.l.length - (i + 1) < x.l.length - i; omega⟩, gs (fv := fun v hF => hF.1)⟩
  · have hie : i = x.l.length := by omega
    rw [hie, List.take_length, e1, ← hne] at e2
    subst e2
    subst hn2
    refine And.intro rfl ?_
    refine sealW (g := fun t => [vs t]) (l := namesS x) 900 rfl rfl ?_
    refine goW TT_ok ?_
    exact ⟨(a2, c2), rfl, fun v _ hF => hF.2⟩
theorem c_SameTexts (ad ad2 : Option Addr) (cap cap2 : Nat) (l : List (List UInt8)) (w0 : World) (h0 : View) (hv : VLe h0 (Full w0)) (hb : SlC 9 1 (flatR fun s => [vs s]) h0 (.slice ad l.length cap) l) (hb2 : SlC 9 1 (flatR fun s => [vs s]) h0 (.slice ad2 l.length cap2) l) :
    Calls Tryz.prog 24 #[.slice ad l.length cap, .slice ad2 l.length cap2] w0 (Ret w0 h0 fun u _ => u = .bool true) := by
  have hlm := slc_lm hb
  refine ent (args := [.slice ad l.length cap, .slice ad2 l.length cap2]) TT_ok [] [] Tryz.func24 rfl Tryz.ntmps24 rfl rfl hv ?_
  refine cndF (by simp) ?_
  refine w_loop TT_ok (fun k : Nat => [(5, .v (.int .i64 k))]) 0 (fun k => k ≤ l.length) (fun k => l.length - k) ?_
  refine And.intro ⟨Nat.zero_le _, gs⟩ ?_
  intro k hk
  refine cnd (fun h => ?_) (fun h => ?_)
  · refine And.intro (by kernel_rfl) ?_
    refine ixs hb k [] ?_
    refine ixs hb2 k [] ?_
    refine cndF (by simp) ?_
    refine wi ?_
    exact ⟨k + 1, ⟨by omega, by omega⟩, gs⟩
  · exact rfl
end Go.Proofs.YtkjhlfleojcgjaaGreatDoor
set_option maxRecDepth 100000
namespace Go.Proofs.YtkjhlfleojcgjaaGreatDoor
open Go Go.Dx Go.RowKit
theorem c_Fits (p q : Int) (w0 : World) (h0 : View) (hv : VLe h0 (Full w0)) : Calls Tryz.prog 30 #[.int .i64 p, .int .i64 q] w0 (Ret w0 h0 fun u _ => u = .bool (fitS p q)) := by
  refine ent (args := [.int .i64 p, .int .i64 q]) TT_ok [] [] Tryz.func30 rfl Tryz.ntmps30 rfl rfl hv ?_
  exact congrArg Value.bool (by rw [fitS, Bool.or_assoc])
end Go.Proofs.YtkjhlfleojcgjaaGreatDoor
set_option maxRecDepth 100000
namespace Go.Proofs.YtkjhlfleojcgjaaGreatDoor
open Go Go.Dx Go.RowKit
end Go.Proofs.YtkjhlfleojcgjaaGreatDoor
set_option maxRecDepth 100000
namespace Go.Proofs.YtkjhlfleojcgjaaGreatDoor
open Go Go.Dx Go.RowKit
def tstC (t : Tst) (aa : Option Addr) (ca : Nat) (ab : Option Addr) (cb : Nat) : List Value :=
  .int .i64 t.k :: (exC t.a.op t.a.v t.a.s (.slice aa t.a.l.length ca) ++ (exC t.b.op t.b.v t.b.s (.slice ab t.b.l.length cb) ++ [.bool t.lo, .bool t.hi]))
def celC (c : Cel) (ad : Option Addr) (cap : Nat) : List Value := [.bool c.any, .bool c.neg, .slice ad c.ts.length cap]
def EX (h : View) (ad : Option Addr) (cap : Nat) (x : Ex) : Prop := XL h ad cap x.l ∧ i64 x.op ∧ valB x.v
theorem EX.mono {h h' : View} (hle : VLe h h') {ad : Option Addr} {cap : Nat} {x : Ex} (hx : EX h ad cap x) : EX h' ad cap x := ⟨hx.1.mono hle, hx.2⟩
theorem EX.gx {h : View} {ad : Option Addr} {cap : Nat} {x : Ex} (hx : EX h ad cap x) (hs : SmX x) : GX h ad cap x := ⟨hx.1, hx.2.1, hx.2.2, hs⟩
def RT (h : View) (cs : List Value) (t : Tst) : Prop := ∃ aa ca ab cb, cs = tstC t aa ca ab cb ∧ EX h aa ca t.a ∧ EX h ab cb t.b ∧ i64 t.k
theorem RT.mono {h h' : View} (hle : VLe h h') {cs : List Value} {t : Tst} (hx : RT h cs t) : RT h' cs t := by
  obtain ⟨aa, ca, ab, cb, e, h1, h2, h3⟩ := hx
  exact ⟨aa, ca, ab, cb, e, h1.mono hle, h2.mono hle, h3⟩
def TL (h : View) (ad : Option Addr) (cap : Nat) (l : List Tst) : Prop := ∃ c : Nat → List Value, SlC 52 15 (flatR c) h (.slice ad l.length cap) (List.range l.length) ∧ ∀ i t, l[i]? = some t → RT h (c i) t
theorem TL.mono {h h' : View} (hle : VLe h h') {ad : Option Addr} {cap : Nat} {l : List Tst} (hx : TL h ad cap l) : TL h' ad cap l := by
  obtain ⟨c, h1, h2⟩ := hx
  exact ⟨c, h1.monoF hle, fun i t hi => (h2 i t hi).mono hle⟩
theorem tl_m (a : Option Addr × Nat) (l : List Tst) : Mono fun h => TL h a.1 a.2 l := fun _ _ hle hx => hx.mono hle
theorem TL.lm {h : View} {ad : Option Addr} {cap : Nat} {l : List Tst} (hx : TL h ad cap l) : l.length ≤ 9223372036854775807 := by
  obtain ⟨c, h1, _⟩ := hx
  have := slc_lm h1
  simpa using this
theorem getDT (l : List Tst) (i : Nat) (h : i < l.length) : l.getD i tst0 = l[i] := by simp [List.getD, h]
theorem getT_mem (l : List Tst) (i : Nat) (h : i < l.length) : l.getD i tst0 ∈ l := by rw [getDT l i h]; exact List.getElem_mem h
theorem TL.at {h : View} {ad : Option Addr} {cap : Nat} {l : List Tst} (hx : TL h ad cap l) {i : Nat} (hi : i < l.length) : ∃ g off aa ca ab cb, ad = some ⟨g, off, none⟩ ∧ EX h aa ca (l.getD i tst0).a ∧ EX h ab cb (l.getD i tst0).b ∧ i64 (l.getD i tst0).k ∧
    ∀ w, VLe h (Full w) → ∀ j v, (tstC (l.getD i tst0) aa ca ab cb)[j]? = some v → w.cell? ⟨g, off + i * 15 + j, none⟩ = some v := by
  obtain ⟨c, h1, h2⟩ := hx
  obtain ⟨g, off, ha, H⟩ := h1.at (i := i) (x := i) (by simp [hi])
  have hg : l[i]? = some (l.getD i tst0) := by rw [getDT l i hi]; exact List.getElem?_eq_getElem hi
  obtain ⟨aa, ca, ab, cb, e, q1, q2, q3⟩ := h2 i _ hg
  refine ⟨g, off, aa, ca, ab, cb, ha, q1, q2, q3, ?_⟩
  rw [← e]; exact H
theorem ixT {c : Cx} {F : FV} {n : Nat} {ad : Option Addr} {cap : Nat} {l : List Tst} {i : Int} {X : Nat → List Value → Prop} (H : TL c.h0 ad cap l) (j : Nat)
    (k : ∀ aa ca ab cb, EX c.h0 aa ca (l.getD j tst0).a → EX c.h0 ab cb (l.getD j tst0).b → i64 (l.getD j tst0).k → X j (tstC (l.getD j tst0) aa ca ab cb))
    (h : i = (j : Int) ∧ j < l.length := by omega) (hn : n = l.length := by rfl) : ∃ (j : Nat) (cs : List Value), (i = (j : Int) ∧ j < n ∧ ElC c.h0 F ad (j * 15) cs) ∧ X j cs := by
  obtain ⟨g, off, aa, ca, ab, cb, ha, h1, h2, h3, hc⟩ := H.at h.2
  subst hn
  exact ⟨j, _, ⟨h.1, h.2, fun v hv _ => ⟨by rw [ha]; rfl, fun w hw => by rw [ha]; exact hc w (hv.trans hw)⟩⟩, k aa ca ab cb h1 h2 h3⟩
def SmT (t : Tst) : Prop := SmX t.a ∧ SmX t.b
theorem c_cof (t : Tst) (aa : Option Addr) (ca : Nat) (ab : Option Addr) (cb : Nat) (w0 : World) (h0 : View) (hv : VLe h0 (Full w0)) : Calls Tryz.prog 55 #[.agg (tstC t aa ca ab cb).toArray] w0 (Ret w0 h0 fun u _ => u = .agg #[.bool t.lo, .bool t.hi]) := by
  refine ent (args := [.agg (tstC t aa ca ab cb).toArray]) TT_ok [] [] Tryz.func55 rfl Tryz.ntmps55 rfl rfl hv ?_
  intro b1 b2
  exact rfl
theorem c_part (x : Ex) (ad : Option Addr) (cap : Nat) (hd : deepS x ≤ 1000000000) (w0 : World) (h0 : View) (hv : VLe h0 (Full w0)) (hx : GX h0 ad cap x) : Calls Tryz.prog 85 #[.agg (exC x.op x.v x.s (.slice ad x.l.length cap)).toArray] w0 (Ret w0 h0 fun u _ => u = .bool (partX x)) := by
  refine ent (args := [.agg (exC x.op x.v x.s (.slice ad x.l.length cap)).toArray]) TT_ok [] [] Tryz.func85 rfl Tryz.ntmps85 rfl rfl hv ?_
  intro b1
  refine cb (fun w hw => c_Check x ad cap w h0 hw hx) ?_
  refine cbg (fun _ w hw => c_Deep _ x ad cap (Nat.lt_succ_self _) hd w h0 hw hx.xl) ?_
  refine congrArg Value.bool ?_
  unfold partX
  cases rightS x <;> simp
  omega
def enC (e : Bool × Bool) : List Value := [.bool e.1, .bool e.2]
theorem eqE : EqT Tryz.prog 108 enC := EqT.of [(0, .b), (1, .b)] (by kernel_rfl) (by kernel_rfl) (by kernel_rfl) (by kernel_rfl)
  (fun a b s hs => by
    simp only [List.mem_cons, List.mem_nil_iff, or_false] at hs
    rcases hs with rfl | rfl
    · exact ⟨_, _, rfl, rfl, ⟨_, rfl⟩, ⟨_, rfl⟩⟩
    · exact ⟨_, _, rfl, rfl, ⟨_, rfl⟩, ⟨_, rfl⟩⟩)
  (fun a b => by
    obtain ⟨k, n⟩ := a
    obtain ⟨k', n'⟩ := b
    simp [enC, eqC])
theorem c_sound (t : Tst) (aa : Option Addr) (ca : Nat) (ab : Option Addr) (cb' : Nat) (hd : deepS t.a ≤ 1000000000 ∧ deepS t.b ≤ 1000000000) (hs : SmT t) (w0 : World) (h0 : View) (hv : VLe h0 (Full w0)) (ha : EX h0 aa ca t.a) (hb : EX h0 ab cb' t.b) : Calls Tryz.prog 50 #[.agg (tstC t aa ca ab cb').toArray] w0 (Ret w0 h0 fun u _ => u = .bool (soundT t)) := by
  refine ent (args := [.agg (tstC t aa ca ab cb').toArray]) TT_ok [] [] Tryz.func50 rfl Tryz.ntmps50 rfl rfl hv ?_
  intro b1
  refine cnd (fun h => ?_) (fun h => ?_)
  · refine cb (fun w hw => c_part t.a aa ca hd.1 w h0 hw (ha.gx hs.1)) ?_
    refine cbg (fun _ w hw => c_part t.b ab cb' hd.2 w h0 hw (hb.gx hs.2)) ?_
    exact congrArg Value.bool (by rw [soundT, if_pos h])
  refine cnd (fun h1 => ?_) (fun h1 => ?_)
  · exact congrArg Value.bool (by rw [soundT, if_neg h, if_pos h1])
  refine cb (fun w hw => c_part t.a aa ca hd.1 w h0 hw (ha.gx hs.1)) ?_
  refine cbg (fun _ w hw => c_Same2 _ t.b ex0 ab none cb' 0 (Nat.lt_succ_self _) w h0 hw hb.1 (xl_nil h0)) ?_
  refine clg (fun _ => c_cof t aa ca ab cb') ?_
  refine aqg eqE (t.lo, t.hi) (false, false) ?_
  refine congrArg Value.bool ?_
  rw [soundT, if_neg h, if_neg (by omega)]
  cases t.lo <;> cases t.hi <;> simp [Bool.and_assoc]
end Go.Proofs.YtkjhlfleojcgjaaGreatDoor
set_option maxRecDepth 100000
namespace Go.Proofs.YtkjhlfleojcgjaaGreatDoor
open Go Go.Dx Go.RowKit Go.ChangeShapes Go.WideShapes Go.ChangeAt
section
variable {H : Type} {enc : TypeId × Value → H} {W : World}
theorem bkXL_exs : ∀ l : List Tst, bkXL (exsT l) = (l.map fun t => bkX t.a + bkX t.b).sum
  | [] => rfl
  | t :: l => by rw [exsT, bkXL, bkXL, bkXL_exs l, List.map_cons, List.sum_cons]; omega
theorem open_tsB {fuel : Nat} {cs : List Value} {x : DataW H × List MemPlace} (h : DataW.trod enc Tryz.prog W 0 (fun _ => true) true fuel 52 cs = some x) : ∃ t : Tst, RT (Full W) cs t ∧ bkX t.a + bkX t.b ≤ bkD x.1 := by
  obtain ⟨hl, n0, y0, _, h0, _⟩ := trod_bk (FldIs.of (P := Tryz.prog) (t := 52) (i := 0) (off := 0) (ty := 46) (sz := 1) (by kernel_rfl)) h
  obtain ⟨_, n1, y1, _, h1, j1⟩ := trod_bk (FldIs.of (P := Tryz.prog) (t := 52) (i := 1) (off := 1) (ty := 50) (sz := 6) (by kernel_rfl)) h
  obtain ⟨_, n2, y2, _, h2, j2⟩ := trod_bk (FldIs.of (P := Tryz.prog) (t := 52) (i := 2) (off := 7) (ty := 50) (sz := 6) (by kernel_rfl)) h
  obtain ⟨_, n3, y3, _, h3, _⟩ := trod_bk (FldIs.of (P := Tryz.prog) (t := 52) (i := 3) (off := 13) (ty := 4) (sz := 1) (by kernel_rfl)) h
  obtain ⟨_, n4, y4, _, h4, _⟩ := trod_bk (FldIs.of (P := Tryz.prog) (t := 52) (i := 4) (off := 14) (ty := 4) (sz := 1) (by kernel_rfl)) h
  have hsum : bkD x.1 = bkAt 0 x.1 + bkAt 1 x.1 + bkAt 2 x.1 + bkAt 3 x.1 + bkAt 4 x.1 + 1 := by
    obtain ⟨fs, f, hu, _⟩ := (FldIs.of (P := Tryz.prog) (t := 52) (i := 0) (off := 0) (ty := 46) (sz := 1) (by kernel_rfl))
    have hs := trod_sum hu h
    have hfs : fs.size = 5 := by
      have hb : (match Tryz.prog.underlying 52 with | some (.struct fs) => fs.size | _ => 0) = 5 := by kernel_rfl
      rw [hu] at hb; exact hb
    rw [hfs] at hs
    simp only [List.range_succ, List.range_zero, List.map_append, List.map_cons, List.map_nil, List.sum_append, List.sum_cons, List.sum_nil, List.nil_append] at hs
    omega
  have hl' : cs.length = 15 := hl.trans (by kernel_rfl)
  match cs, hl' with
  | [k, a0, a1, a2, a3, a4, a5, e0, e1, e2, e3, e4, e5, lo, hi], _ =>
    obtain ⟨kk, q0, b0⟩ := trod_i (by kernel_rfl) h0
    obtain ⟨xa, ra, ka⟩ := open_exB _ _ _ h1
    obtain ⟨xb, rb, kb⟩ := open_exB _ _ _ h2
    obtain ⟨l, q3⟩ := trod_b (by kernel_rfl) h3
    obtain ⟨m, q4⟩ := trod_b (by kernel_rfl) h4
    obtain ⟨aa, ca, ea, g1, g2, g3⟩ := ra.inv
    obtain ⟨ab, cb, eb, g4, g5, g6⟩ := rb.inv
    simp at q0 q3 q4
    have ea : [a0, a1, a2, a3, a4, a5] = exC xa.op xa.v xa.s (.slice aa xa.l.length ca) := ea
    have eb : [e0, e1, e2, e3, e4, e5] = exC xb.op xb.v xb.s (.slice ab xb.l.length cb) := eb
    refine ⟨⟨kk, xa, xb, l, m⟩, ⟨aa, ca, ab, cb, ?_, ⟨g3, g1, g2⟩, ⟨g6, g4, g5⟩, b0⟩, ?_⟩
    · unfold tstC
      rw [← ea, ← eb, q0, q3, q4]; rfl
    · show bkX xa + bkX xb ≤ _
      omega
theorem open_celBC {fuel : Nat} {cs : List Value} {x : DataW H × List MemPlace} (h : DataW.trod enc Tryz.prog W 0 (fun _ => true) true fuel 25 cs = some x) : ∃ (c : Cel) (ad : Option Addr) (cap : Nat), cs = celC c ad cap ∧ TL (Full W) ad cap c.ts ∧ bkXL (exsT c.ts) ≤ bkD x.1 := by
  obtain ⟨hl, n0, y0, _, h0, _⟩ := trod_bk (FldIs.of (P := Tryz.prog) (t := 25) (i := 0) (off := 0) (ty := 4) (sz := 1) (by kernel_rfl)) h
  obtain ⟨_, n1, y1, _, h1, _⟩ := trod_bk (FldIs.of (P := Tryz.prog) (t := 25) (i := 1) (off := 1) (ty := 4) (sz := 1) (by kernel_rfl)) h
  obtain ⟨_, n2, y2, _, h2, j2⟩ := trod_bk (FldIs.of (P := Tryz.prog) (t := 25) (i := 2) (off := 2) (ty := 23) (sz := 1) (by kernel_rfl)) h
  have hsum : bkD x.1 = bkAt 0 x.1 + bkAt 1 x.1 + bkAt 2 x.1 + 1 := by
    obtain ⟨fs, f, hu, _⟩ := (FldIs.of (P := Tryz.prog) (t := 25) (i := 0) (off := 0) (ty := 4) (sz := 1) (by kernel_rfl))
    have hs := trod_sum hu h
    have hfs : fs.size = 3 := by
      have hb : (match Tryz.prog.underlying 25 with | some (.struct fs) => fs.size | _ => 0) = 3 := by kernel_rfl
      rw [hu] at hb; exact hb
    rw [hfs] at hs
    simp only [List.range_succ, List.range_zero, List.map_append, List.map_cons, List.map_nil, List.sum_append, List.sum_cons, List.sum_nil, List.nil_append] at hs
    omega
  have hl' : cs.length = 3 := hl.trans (by kernel_rfl)
  match cs, hl' with
  | [a, b, c], _ =>
    obtain ⟨x', q0⟩ := trod_b (by kernel_rfl) h0
    obtain ⟨y, q1⟩ := trod_b (by kernel_rfl) h1
    obtain ⟨ad, cap, n, cc, gb, q2, hs, hk, j3⟩ := open_slB (sz := 15) (t := 23) (e := 52) (by kernel_rfl) (by kernel_rfl) (by decide) (show DataW.trod enc Tryz.prog W 0 (fun _ => true) true n2 23 [c] = some y2 from h2)
    have kids : ∀ i, i < n → ∃ t : Tst, RT (Full W) (cc i) t ∧ bkX t.a + bkX t.b ≤ gb i := fun i hi => by
      obtain ⟨m, z, _, hz, hb⟩ := hk i hi
      obtain ⟨t, ht, htb⟩ := open_tsB hz
      exact ⟨t, ht, by rw [← hb]; exact htb⟩
    have : Inhabited Tst := ⟨tst0⟩
    obtain ⟨g, hg⟩ := Go.Deep.choose_lt kids
    simp at q0 q1
    subst q0 q1 q2
    have hlen : ((List.range n).map g).length = n := by simp
    refine ⟨⟨x', y, (List.range n).map g⟩, ad, cap, ?_, ⟨cc, ?_, fun i t hi => ?_⟩, ?_⟩
    · unfold celC; rw [hlen]
    · rw [hlen]; simpa using hs
    · have hin : i < n := by have := (List.getElem?_eq_some_iff.1 hi).1; simpa using this
      have : t = g i := by simp [hin] at hi; exact hi.symm
      subst this; exact (hg i hin).1
    · have hle := sum_le_range (f := fun i => bkX (g i).a + bkX (g i).b) (g := gb) n fun i hi => (hg i hi).2
      show bkXL (exsT ((List.range n).map g)) ≤ _
      rw [bkXL_exs, List.map_map]
      have hle : (List.map ((fun t : Tst => bkX t.a + bkX t.b) ∘ g) (List.range n)).sum ≤ ((List.range n).map gb).sum := hle
      omega
set_option maxRecDepth 100000 in
theorem open_celB {v : Value} {d : DataW H} {ps : List MemPlace} {b0 : Nat} (hok : Value.okWide Tryz.prog W .any b0 25 v) (h : DataW.Trod enc Tryz.prog W 0 (fun _ => true) true 25 v d ps) :
    ∃ (c : Cel) (ad : Option Addr) (cap : Nat), v = .agg (celC c ad cap).toArray ∧ TL (Full W) ad cap c.ts ∧ bkXL (exsT c.ts) ≤ bkD d := by
  obtain ⟨fs, _, hu, _⟩ := (FldIs.of (P := Tryz.prog) (t := 25) (i := 0) (off := 0) (ty := 4) (sz := 1) (by kernel_rfl))
  obtain ⟨cs, rfl, _⟩ := okWide_struct (P := Tryz.prog) (t := 25) hu hok
  obtain ⟨fuel, hf⟩ := h
  obtain ⟨c, ad, cap, e, h1, h2⟩ := open_celBC hf
  refine ⟨c, ad, cap, ?_, h1, h2⟩
  congr 1
  apply Array.toList_inj.1; simpa [Value.cells] using e
end
end Go.Proofs.YtkjhlfleojcgjaaGreatDoor
set_option maxRecDepth 100000
namespace Go.Proofs.YtkjhlfleojcgjaaGreatDoor
open Go Go.Dx Go.RowKit
def GT (t : Tst) : Prop := SmX t.a ∧ SmX t.b ∧ deepS t.a ≤ 1000000000 ∧ deepS t.b ≤ 1000000000
theorem c_Check1 (t : Tst) (aa : Option Addr) (ca : Nat) (ab : Option Addr) (cb' : Nat) (hg : GT t) (w0 : World) (h0 : View) (hv : VLe h0 (Full w0)) (ha : EX h0 aa ca t.a) (hb : EX h0 ab cb' t.b) : Calls Tryz.prog 49 #[.agg (tstC t aa ca ab cb').toArray] w0 (Ret w0 h0 fun u _ => u = .bool (!soundT t)) := by
  refine ent (args := [.agg (tstC t aa ca ab cb').toArray]) TT_ok [] [] Tryz.func49 rfl Tryz.ntmps49 rfl rfl hv ?_
  intro b1
  refine cb (fun w hw => c_sound t aa ca ab cb' ⟨hg.2.2.1, hg.2.2.2⟩ ⟨hg.1, hg.2.1⟩ w h0 hw ha hb) ?_
  exact rfl
theorem c_IndexFT (ad : Option Addr) (cap : Nat) (l : List Tst) (hg : ∀ t ∈ l, GT t) (w0 : World) (h0 : View) (hv : VLe h0 (Full w0)) (hx : TL h0 ad cap l) :
    Calls Tryz.prog 84 #[.slice ad l.length cap, .func (.func 49) #[] #[]] w0 (Ret w0 h0 fun u _ => u = .int .i64 (idxS (fun t => !soundT t) l)) := by
  have hlm := hx.lm
  refine ent (args := [.slice ad l.length cap, .func (.func 49) #[] #[]]) TT_ok [] [] Tryz.func84 rfl Tryz.ntmps84 rfl rfl hv ?_
  refine w_loop TT_ok (fun k : Nat => [(8, .v (.int .i64 k))]) 0 (fun k => k ≤ l.length ∧ ∀ j, j < k → (!soundT (l.getD j tst0)) = false) (fun k => l.length - k) ?_
  refine And.intro ⟨⟨Nat.zero_le _, fun j hj => absurd hj (Nat.not_lt_zero j)⟩, gs⟩ ?_
  intro k ⟨hk, hn⟩
  refine cnd (fun h => ?_) (fun h => ?_)
  · refine ixT hx k (fun aa ca ab cb' h1 h2 h3 => ?_)
    refine cb (fun w hw => c_Check1 _ aa ca ab cb' (hg _ (getT_mem l k (by omega))) w h0 hw h1 h2) ?_
    refine cnd (fun h4 => ?_) (fun h4 => ?_)
    · exact congrArg (Value.int .i64) (idx_hit tst0 (p := fun t => !soundT t) (by omega) hn (by rw [h4]; rfl)).symm
    · refine wi ?_
      exact ⟨k + 1, ⟨⟨by omega, upto_snoc hn (by rw [h4]; rfl)⟩, by omega⟩, gs⟩
  · exact congrArg (Value.int .i64) (idx_none tst0 (p := fun t => !soundT t) (fun j hj => hn j (by omega))).symm
theorem c_ContainsFT (ad : Option Addr) (cap : Nat) (l : List Tst) (hg : ∀ t ∈ l, GT t) (w0 : World) (h0 : View) (hv : VLe h0 (Full w0)) (hx : TL h0 ad cap l) :
    Calls Tryz.prog 48 #[.slice ad l.length cap, .func (.func 49) #[] #[]] w0 (Ret w0 h0 fun u _ => u = .bool (l.any fun t => !soundT t)) := by
  refine ent (args := [.slice ad l.length cap, .func (.func 49) #[] #[]]) TT_ok [] [] Tryz.func48 rfl Tryz.ntmps48 rfl rfl hv ?_
  refine cb (fun w hw => c_IndexFT ad cap l hg w h0 hw hx) ?_
  exact congrArg Value.bool (idx_any (p := fun t => !soundT t) (l := l))
theorem any_sound (l : List Tst) : (l.any fun t => !soundT t) = !l.all soundT := by
  induction l with
  | nil => rfl
  | cons t l ih => rw [List.any_cons, List.all_cons, ih]; cases soundT t <;> rfl
theorem c_CCheck (c : Cel) (ad : Option Addr) (cap : Nat) (hg : ∀ t ∈ c.ts, GT t) (w0 : World) (h0 : View) (hv : VLe h0 (Full w0)) (hx : TL h0 ad cap c.ts) : Calls Tryz.prog 19 #[.agg (celC c ad cap).toArray] w0 (Ret w0 h0 fun u _ => u = .int .i64 (if rightC c = true then 0 else 2)) := by
  refine ent (args := [.agg (celC c ad cap).toArray]) TT_ok [] [] Tryz.func19 rfl Tryz.ntmps19 rfl rfl hv ?_
  intro b1
  refine cnd (fun h => ?_) (fun h => ?_)
  · exact congrArg (Value.int .i64) (by rw [rightC, if_pos h.1.1, if_pos (by rw [h.1.2, decide_eq_true (by omega)]; rfl)])
  refine cnd (fun h1 => ?_) (fun h1 => ?_)
  · refine congrArg (Value.int .i64) ?_
    rw [if_neg]
    intro hr
    rw [rightC] at hr
    split at hr
    · rename_i ha
      have hr : c.neg = false ∧ c.ts.length = 0 := by simpa using hr
      rcases h with h | h
      · rcases h with h | h
        · rw [ha] at h; cases h
        · rw [hr.1] at h; cases h
      · omega
    · rename_i ha
      simp only [Bool.and_eq_true, decide_eq_true_eq] at hr
      rcases h1 with h1 | h1
      · rcases h1 with h1 | h1
        · exact ha h1
        · omega
      · omega
  have h2 : c.any = false := by
    rcases Bool.eq_false_or_eq_true c.any with e | e
    · rw [e] at h1; exact absurd h1.1.1 (by decide)
    · exact e
  refine cb (fun w hw => c_ContainsFT ad cap c.ts hg w h0 hw hx) ?_
  rw [any_sound]
  have hrc : rightC c = c.ts.all soundT := by
    rw [rightC, if_neg (by rw [h2]; decide), decide_eq_true (show 1 ≤ c.ts.length by omega), decide_eq_true (show c.ts.length ≤ 12 by omega)]; rfl
  refine cnd (fun h3 => ?_) (fun h3 => ?_)
  · exact congrArg (Value.int .i64) (by rw [hrc, if_neg (by rw [h3]; decide)])
  · exact congrArg (Value.int .i64) (by rw [hrc, if_pos h3])
theorem c_RPart (x : Ex) (ad : Option Addr) (cap : Nat) (hd : deepS x ≤ 1000000000) (w0 : World) (h0 : View) (hv : VLe h0 (Full w0)) (hx : GX h0 ad cap x) : Calls Tryz.prog 94 #[.agg (exC x.op x.v x.s (.slice ad x.l.length cap)).toArray] w0 (Ret w0 h0 fun u _ => u = .bool (partX x)) := by
  refine ent (args := [.agg (exC x.op x.v x.s (.slice ad x.l.length cap)).toArray]) TT_ok [] [] Tryz.func94 rfl Tryz.ntmps94 rfl rfl hv ?_
  intro b1
  refine cb (fun w hw => c_RRightX _ x ad cap (Nat.lt_succ_self _) w h0 hw hx) ?_
  refine cbg (fun _ w hw => c_RDeep _ x ad cap (Nat.lt_succ_self _) hd w h0 hw hx.xl) ?_
  refine congrArg Value.bool ?_
  unfold partX
  cases rightS x <;> simp
  omega
theorem c_RTest (t : Tst) (aa : Option Addr) (ca : Nat) (ab : Option Addr) (cb' : Nat) (hg : GT t) (w0 : World) (h0 : View) (hv : VLe h0 (Full w0)) (ha : EX h0 aa ca t.a) (hb : EX h0 ab cb' t.b) : Calls Tryz.prog 58 #[.agg (tstC t aa ca ab cb').toArray] w0 (Ret w0 h0 fun u _ => u = .bool (soundT t)) := by
  refine ent (args := [.agg (tstC t aa ca ab cb').toArray]) TT_ok [] [] Tryz.func58 rfl Tryz.ntmps58 rfl rfl hv ?_
  intro b1
  refine cnd (fun h => ?_) (fun h => ?_)
  · refine cb (fun w hw => c_RPart t.a aa ca hg.2.2.1 w h0 hw (ha.gx hg.1)) ?_
    refine cbg (fun _ w hw => c_RPart t.b ab cb' hg.2.2.2 w h0 hw (hb.gx hg.2.1)) ?_
    exact congrArg Value.bool (by rw [soundT, if_pos h])
  refine cbg (fun _ w hw => c_RPart t.a aa ca hg.2.2.1 w h0 hw (ha.gx hg.1)) ?_
  refine cbg (fun _ w hw => c_RSame2 _ t.b ex0 ab none cb' 0 (Nat.lt_succ_self _) w h0 hw hb.1 (xl_nil h0)) ?_
  refine congrArg Value.bool ?_
  rw [soundT, if_neg h]
  by_cases h1 : t.k < 1 ∨ 6 < t.k
  · rw [if_pos h1]
    rcases h1 with h1 | h1
    · rw [decide_eq_false (show ¬ 1 ≤ t.k by omega)]; rfl
    · rw [decide_eq_false (show ¬ t.k ≤ 5 by omega), Bool.and_false]; rfl
  · rw [if_neg h1, decide_eq_true (show 1 ≤ t.k by omega), decide_eq_true (show t.k ≤ 5 by omega)]
    simp [Bool.and_assoc]
theorem all_noT {p : Tst → Bool} {l : List Tst} {k : Nat} (hk : k < l.length) (h : p (l.getD k tst0) = false) : l.all p = false := by
  rw [List.all_eq_false]
  exact ⟨_, getT_mem l k hk, by rw [h]; decide⟩
theorem all_upT {p : Tst → Bool} {l : List Tst} (h : ∀ j, j < l.length → p (l.getD j tst0) = true) : l.all p = true := by
  rw [List.all_eq_true]
  intro t ht
  obtain ⟨j, hj, rfl⟩ := List.mem_iff_getElem.1 ht
  rw [← getDT l j hj]; exact h j hj
theorem c_RRightC (c : Cel) (ad : Option Addr) (cap : Nat) (hg : ∀ t ∈ c.ts, GT t) (w0 : World) (h0 : View) (hv : VLe h0 (Full w0)) (hx : TL h0 ad cap c.ts) : Calls Tryz.prog 23 #[.agg (celC c ad cap).toArray] w0 (Ret w0 h0 fun u _ => u = .bool (rightC c)) := by
  have hlm := hx.lm
  refine ent (args := [.agg (celC c ad cap).toArray]) TT_ok [] [] Tryz.func23 rfl Tryz.ntmps23 rfl rfl hv ?_
  intro b1
  refine cnd (fun h => ?_) (fun h => ?_)
  · refine congrArg Value.bool ?_
    rw [rightC, if_pos h]
    congr 1
    exact decide_eq_decide.2 (by omega)
  have hrc : rightC c = (decide (1 ≤ c.ts.length) && decide (c.ts.length ≤ 12) && c.ts.all soundT) := by rw [rightC, if_neg (by rw [h]; decide)]
  refine w_loop TT_ok (fun k : Nat => [(3, .v (.int .i64 k))]) 0 (fun k => k ≤ c.ts.length ∧ ∀ j, j < k → soundT (c.ts.getD j tst0) = true) (fun k => c.ts.length - k) ?_
  refine And.intro ⟨⟨Nat.zero_le _, fun j hj => absurd hj (Nat.not_lt_zero j)⟩, gs⟩ ?_
  intro k ⟨hk, hn⟩
  refine cnd (fun h1 => ?_) (fun h1 => ?_)
  · refine ixT hx k (fun aa ca ab cb' h1 h2 h3 => ?_)
    refine cb (fun w hw => c_RTest _ aa ca ab cb' (hg _ (getT_mem c.ts k (by omega))) w h0 hw h1 h2) ?_
    refine cnd (fun h4 => ?_) (fun h4 => ?_)
    · exact congrArg Value.bool (by rw [hrc, all_noT (k := k) (by omega) h4, Bool.and_false])
    · refine wi ?_
      exact ⟨k + 1, ⟨⟨by omega, upto_snoc hn h4⟩, by omega⟩, gs⟩
  · refine congrArg Value.bool ?_
    rw [hrc, all_upT (p := soundT) (fun j hj => hn j (by omega)), Bool.and_true]
    congr 1
    · exact decide_eq_decide.2 (by omega)
    · exact decide_eq_decide.2 (by omega)
theorem c_Same1T (t u : Tst) (aa : Option Addr) (ca : Nat) (ab : Option Addr) (cb' : Nat) (ac : Option Addr) (cc : Nat) (ae : Option Addr) (ce : Nat) (w0 : World) (h0 : View) (hv : VLe h0 (Full w0)) (ha : EX h0 aa ca t.a) (hb : EX h0 ab cb' t.b) (hc : EX h0 ac cc u.a) (he : EX h0 ae ce u.b) :
    Calls Tryz.prog 54 #[.agg (tstC t aa ca ab cb').toArray, .agg (tstC u ac cc ae ce).toArray] w0 (Ret w0 h0 fun x _ => x = .bool (sameT t u)) := by
  refine ent (args := [.agg (tstC t aa ca ab cb').toArray, .agg (tstC u ac cc ae ce).toArray]) TT_ok [] [] Tryz.func54 rfl Tryz.ntmps54 rfl rfl hv ?_
  intro b2 b3
  refine And.intro (by kernel_rfl) ?_
  refine clg (fun _ => c_cof t aa ca ab cb') ?_
  refine clg (fun _ => c_cof u ac cc ae ce) ?_
  refine aqg eqE (t.lo, t.hi) (u.lo, u.hi) ?_
  refine cbg (fun _ w hw => c_Same2 _ t.a u.a aa ac ca cc (Nat.lt_succ_self _) w h0 hw ha.1 hc.1) ?_
  refine cbg (fun _ w hw => c_Same2 _ t.b u.b ab ae cb' ce (Nat.lt_succ_self _) w h0 hw hb.1 he.1) ?_
  refine congrArg Value.bool ?_
  rw [sameT]
  simp
theorem sameTL_len : ∀ {l m : List Tst}, l.length ≠ m.length → sameTL l m = false
  | [], [], h => absurd rfl h
  | [], _ :: _, _ => rfl
  | _ :: _, [], _ => rfl
  | x :: l, y :: m, h => by rw [sameTL, sameTL_len (by simpa using h), Bool.and_false]
theorem sameTL_all : ∀ {l m : List Tst}, l.length = m.length → (∀ j, j < l.length → sameT (l.getD j tst0) (m.getD j tst0) = true) → sameTL l m = true
  | [], [], _, _ => rfl
  | [], _ :: _, h, _ => by simp at h
  | _ :: _, [], h, _ => by simp at h
  | x :: l, y :: m, h, hj => by
    have h0 := hj 0 (by simp)
    have hr := sameTL_all (l := l) (m := m) (by simpa using h) fun j hlt => by
      have := hj (j + 1) (by simp; omega)
      simpa using this
    rw [sameTL, hr, Bool.and_true]
    simpa using h0
theorem sameTL_no : ∀ {l m : List Tst} {k : Nat}, k < l.length → sameT (l.getD k tst0) (m.getD k tst0) = false → sameTL l m = false
  | [], _, _, h, _ => by simp at h
  | _ :: _, [], _, _, _ => rfl
  | x :: l, y :: m, 0, _, h => by
    have h : sameT x y = false := by simpa using h
    rw [sameTL, h, Bool.false_and]
  | x :: l, y :: m, k + 1, hk, h => by
    rw [sameTL, sameTL_no (l := l) (m := m) (k := k) (by simpa using hk) (by simpa using h), Bool.and_false]
theorem c_EqualFT (l m : List Tst) (ad ad2 : Option Addr) (cap cap2 : Nat) (w0 : World) (h0 : View) (hv : VLe h0 (Full w0)) (hx : TL h0 ad cap l) (hy : TL h0 ad2 cap2 m) :
    Calls Tryz.prog 53 #[.slice ad l.length cap, .slice ad2 m.length cap2, .func (.func 54) #[] #[]] w0 (Ret w0 h0 fun u _ => u = .bool (sameTL l m)) := by
  have hlm := hx.lm
  refine ent (args := [.slice ad l.length cap, .slice ad2 m.length cap2, .func (.func 54) #[] #[]]) TT_ok [] [] Tryz.func53 rfl Tryz.ntmps53 rfl rfl hv ?_
  refine cnd (fun h => ?_) (fun h => ?_)
  · exact congrArg Value.bool (sameTL_len (by omega)).symm
  have hle : l.length = m.length := by omega
  refine w_loop TT_ok (fun k : Nat => [(17, .v (.int .i64 k))]) 0 (fun k => k ≤ l.length ∧ ∀ j, j < k → sameT (l.getD j tst0) (m.getD j tst0) = true) (fun k => l.length - k) ?_
  refine And.intro ⟨⟨Nat.zero_le _, fun j hj => absurd hj (Nat.not_lt_zero j)⟩, gs⟩ ?_
  intro k ⟨hk, hn⟩
  refine cnd (fun h => ?_) (fun h => ?_)
  · refine ixT hx k (fun aa ca ab cb' h1 h2 _ => ?_)
    intro b8
    refine ixT hy k (fun ac cc ae ce h3 h4 _ => ?_)
    intro b9
    refine cb (fun w hw => c_Same1T _ _ aa ca ab cb' ac cc ae ce w h0 hw h1 h2 h3 h4) ?_
    refine cnd (fun h3 => ?_) (fun h3 => ?_)
    · exact congrArg Value.bool (sameTL_no (k := k) (by omega) (by simpa using h3)).symm
    refine wi ?_
    exact ⟨k + 1, ⟨⟨by omega, upto_snoc hn (by simpa using h3)⟩, by omega⟩, gs⟩
  · exact congrArg Value.bool (sameTL_all hle (fun j hj => hn j (by omega))).symm
theorem c_CSame (c d : Cel) (ad ad2 : Option Addr) (cap cap2 : Nat) (w0 : World) (h0 : View) (hv : VLe h0 (Full w0)) (hx : TL h0 ad cap c.ts) (hy : TL h0 ad2 cap2 d.ts) :
    Calls Tryz.prog 21 #[.agg (celC c ad cap).toArray, .agg (celC d ad2 cap2).toArray] w0 (Ret w0 h0 fun u _ => u = .bool (sameC c d)) := by
  refine ent (args := [.agg (celC c ad cap).toArray, .agg (celC d ad2 cap2).toArray]) TT_ok [] [] Tryz.func21 rfl Tryz.ntmps21 rfl rfl hv ?_
  intro b2 b3
  refine cbg (fun _ w hw => c_EqualFT c.ts d.ts ad ad2 cap cap2 w h0 hw hx hy) ?_
  exact congrArg Value.bool rfl
theorem sameT_no {t u : Tst} (h : (((¬t.k = u.k ∨ (t.lo == u.lo) = false) ∨ (t.hi == u.hi) = false) ∨ sameX t.a u.a = false) ∨ sameX t.b u.b = false) : sameT t u = false := by
  rw [sameT]
  rcases h with ((((h | h) | h) | h) | h)
  · rw [decide_eq_false h]; rfl
  · rw [decide_eq_false (p := t.lo = u.lo) (by simpa using h)]; simp
  · rw [decide_eq_false (p := t.hi = u.hi) (by simpa using h)]; simp
  · rw [h]; simp
  · rw [h]; simp
theorem sameT_yes {t u : Tst} (h : (((t.k = u.k ∧ (t.lo == u.lo) = true) ∧ (t.hi == u.hi) = true) ∧ sameX t.a u.a = true) ∧ sameX t.b u.b = true) : sameT t u = true := by
  obtain ⟨⟨⟨⟨h1, h2⟩, h3⟩, h4⟩, h5⟩ := h
  rw [sameT, h4, h5, decide_eq_true h1, decide_eq_true (p := t.lo = u.lo) (by simpa using h2), decide_eq_true (p := t.hi = u.hi) (by simpa using h3)]
  rfl
set_option maxHeartbeats 1000000 in
theorem c_RSameC (c d : Cel) (ad ad2 : Option Addr) (cap cap2 : Nat) (w0 : World) (h0 : View) (hv : VLe h0 (Full w0)) (hx : TL h0 ad cap c.ts) (hy : TL h0 ad2 cap2 d.ts) :
    Calls Tryz.prog 13 #[.agg (celC c ad cap).toArray, .agg (celC d ad2 cap2).toArray] w0 (Ret w0 h0 fun u _ => u = .bool (sameC c d)) := by
  have hlm := hx.lm
  refine ent (args := [.agg (celC c ad cap).toArray, .agg (celC d ad2 cap2).toArray]) TT_ok [1000006] [] Tryz.func13 rfl Tryz.ntmps13 rfl rfl hv ?_
  intro b2 b3
  refine cnd (fun h => ?_) (fun h => ?_)
  · refine congrArg Value.bool ?_
    rw [sameC]
    rcases h with h | h
    · rcases h with h | h
      · rw [decide_eq_false (by simpa using h)]; rfl
      · rw [decide_eq_false (p := c.neg = d.neg) (by simpa using h), Bool.and_false]; rfl
    · rw [sameTL_len (by omega), Bool.and_false]
  have hle : c.ts.length = d.ts.length := by omega
  have hsc : sameC c d = sameTL c.ts d.ts := by rw [sameC, decide_eq_true (by simpa using h.1.1), decide_eq_true (p := c.neg = d.neg) (by simpa using h.1.2)]; rfl
  refine w_loop TT_ok (fun k : Nat => [(5, .v (.int .i64 k))]) 0 (fun k => k ≤ c.ts.length ∧ ∀ j, j < k → sameT (c.ts.getD j tst0) (d.ts.getD j tst0) = true) (fun k => c.ts.length - k) ?_
  refine And.intro ⟨⟨Nat.zero_le _, fun j hj => absurd hj (Nat.not_lt_zero j)⟩, gs⟩ ?_
  intro k ⟨hk, hn⟩
  refine cnd (fun h1 => ?_) (fun h1 => ?_)
  · refine regPt TT_ok (.m [0, 2, 5, 7, 1, 6, 3, 8, 4, 9] (.n 10 (.n 11 (.n 12 (.n 13 .e .z) .z) .z) (.n 11 (.n 10 (.n 12 (.n 13 .e .z) .z) .z) .z))) [6, 7] ?_
    refine ixT hx k (fun aa ca ab cb' h2 h3 _ => ?_)
    refine ixT hy k (fun ac cc ae ce h4 h5 _ => ?_)
    refine kq ⟨?_, ?_⟩
    all_goals
      intro b6
      refine kq ?_
      intro b7
      refine kq ?_
      refine kq ?_
      refine kq ?_
      refine cbg (fun _ w hw => c_RSame2 _ (c.ts.getD k tst0).a (d.ts.getD k tst0).a aa ac ca cc (Nat.lt_succ_self _) w h0 hw h2.1 h4.1) ?_
      refine cbg (fun _ w hw => c_RSame2 _ (c.ts.getD k tst0).b (d.ts.getD k tst0).b ab ae cb' ce (Nat.lt_succ_self _) w h0 hw h3.1 h5.1) ?_
      refine cnd (fun h6 => ?_) (fun h6 => ?_)
      · refine congrArg Value.bool ?_
        rw [hsc]
        exact (sameTL_no (k := k) (by omega) (sameT_no h6)).symm
      · refine wi ?_
        exact ⟨k + 1, ⟨⟨by omega, upto_snoc hn (sameT_yes h6)⟩, by omega⟩, gs⟩
  · exact congrArg Value.bool (by rw [hsc]; exact (sameTL_all hle (fun j hj => hn j (by omega))).symm)
theorem c_fits (t : Tst) (aa : Option Addr) (ca : Nat) (ab : Option Addr) (cb' : Nat) (p q : Int) (w0 : World) (h0 : View) (hv : VLe h0 (Full w0)) : Calls Tryz.prog 64 #[.agg (tstC t aa ca ab cb').toArray, .int .i64 p, .int .i64 q] w0 (Ret w0 h0 fun u _ => u = .bool (fitT t p q)) := by
  refine ent (args := [.agg (tstC t aa ca ab cb').toArray, .int .i64 p, .int .i64 q]) TT_ok [] [] Tryz.func64 rfl Tryz.ntmps64 rfl rfl hv ?_
  intro b3
  refine cl (c_Fits p q) ?_
  exact rfl
end Go.Proofs.YtkjhlfleojcgjaaGreatDoor
set_option maxRecDepth 100000
namespace Go.Proofs.YtkjhlfleojcgjaaGreatDoor
open Go Go.Dx Go.RowKit
def ech (e : Int) : List PanicEntry := [{ v := .iface 26 (.int .i64 e), recovered := false }]
theorem c_raise0 (w0 : World) (h0 : View) (hv : VLe h0 (Full w0)) : Calls Tryz.prog 190 #[.int .i64 0] w0 (Ret w0 h0 fun u _ => u = .tuple #[]) := by
  refine ent (args := [.int .i64 0]) TT_ok [] [] Tryz.func190 rfl Tryz.ntmps190 rfl rfl hv ?_
  refine cnd (fun h => absurd rfl h) (fun h => ?_)
  exact rfl
theorem c_raiseX (e : Int) (he : ¬ e = 0) (w0 : World) : Calls Tryz.prog 190 #[.int .i64 e] w0 (Pan (ech e) w0) := by
  refine entR (args := [.int .i64 e]) (h0 := fun _ => none) (kp := fun ch => ch = ech e) TT_ok [] [] Tryz.func190 rfl Tryz.ntmps190 rfl rfl (fun _ _ h => by cases h) (fun ch w hk hw => ⟨by rw [hk], hw⟩) ?_
  refine cnd (fun h => ?_) (fun h => absurd (by simpa using h) he)
  refine mI TT_ok (u := .int .i64) (by kernel_rfl) rfl rfl rfl ?_
  exact pn rfl rfl rfl
theorem c_catch (b6 b7 : Nat) (xs : List Value) (e0 : Value) (e : Int) (older : List PanicEntry) (hne : b6 ≠ b7) (w : World) (h6 : w.heap[b6]? = some (.cells xs.toArray 35 (0, 0))) (hcs : xs.length = 3) (h7 : w.heap[b7]? = some (.cells #[e0] 26 (0, 0))) :
    CallsD Tryz.prog 114 #[.pointer (some ⟨b6, 0, none⟩), .pointer (some ⟨b7, 0, none⟩)] (.panicking ({ v := .iface 26 (.int .i64 e), recovered := false } :: older)) w fun en u' w' =>
      en = .returned (.tuple #[]) ∧ u' = .panicking ({ v := .iface 26 (.int .i64 e), recovered := true } :: older) ∧ Keep [b6, b7] w w' ∧ w'.heap[b6]? = some (.cells (valC v0).toArray 35 (0, 0)) ∧ w'.heap[b7]? = some (.cells #[.int .i64 e] 26 (0, 0)) := by
  refine callsD_of_wpS Tryz.func114 rfl fun c₀ cs hu => ?_
  apply wpS_seq
  apply wpS_region
  simp [wpOpsS, go_sem, recoverD, hu, Tryz.ntmps114, Exit.thenS]
  apply wpS_seq
  apply wpS_region
  simp [wpOpsS, go_sem, Tryz.ntmps114, Exit.thenS]
  refine wpS_cond (t := true) (by simp [Act.eval, Array.replicate]) ?_
  simp only [if_true]
  refine wpS_of_wp ?_
  have hlt6 := (Array.getElem?_eq_some_iff.1 h6).1
  have hlt7 := (Array.getElem?_eq_some_iff.1 h7).1
  have hS := St.initL w (fun _ => none) (fun _ _ h => by cases h) [(some b6, CellsC 35 xs), (some b7, CellsC 26 [e0])] (fun x hx => by
    simp only [List.mem_cons, List.not_mem_nil, or_false] at hx
    rcases hx with rfl | rfl
    · exact h6
    · exact h7) (fun b hb => by
    have hb : b = b6 ∨ b = b7 := by simpa [ids] using hb
    rcases hb with rfl | rfl
    · exact ⟨hlt6, rfl⟩
    · exact ⟨hlt7, rfl⟩) (by simp [ids, hne])
  generalize hac : ({ tmps := _, defers := [] } : Act) = ac
  have hF : Fr ac 9 [(0, .val (.pointer (some ⟨b6, 0, none⟩))), (1, .val (.pointer (some ⟨b7, 0, none⟩))), (2, .val (.iface 26 (.int .i64 e)))] := by
    subst hac
    refine ⟨rfl, by simp, fun i v hi => ?_⟩
    match i with
    | 0 => simpa using Option.some.inj (show some (Value.pointer (some ⟨b6, 0, none⟩)) = some v from hi)
    | 1 => simpa using Option.some.inj (show some (Value.pointer (some ⟨b7, 0, none⟩)) = some v from hi)
    | 2 => simpa using Option.some.inj (show some (Value.iface 26 (.int .i64 e)) = some v from hi)
    | i + 3 => cases (show none = some v from hi)
  show codeM .wp Tryz.prog _ _ ac w
  refine region_sto (i := 0) (b := b6) (T := 35) (cs := xs) (valC v0) 4 hF hS rfl (allV_ne rfl) pow_fol (by kernel_rfl) fun hbw Γ hG => ?_
  refine t_pu (v := .agg (valC v0).toArray) hG (fun w1 _ => ?_) fun Γ hG => ?_
  · exact pu_build_st (parts := []) (vsl := []) (StrB.of (places := [(0, 1), (1, 1), (2, 1)]) (zero := valC v0) (by kernel_rfl) (by kernel_rfl)) rfl rfl
  refine t_pu hG (fun w1 _ => pu_move rfl) fun Γ hG => ?_
  refine t_pu (v := .int .i64 e) hG (fun w1 _ => ?_) fun Γ hG => ?_
  · intro ρ hρ
    have e1 : ρ (.tmp 7) = .iface 26 (.int .i64 e) := hρ _ (by simp [Op.operands]) _ rfl
    have hu : Tryz.prog.underlying 26 = some (.int .i64) := by kernel_rfl
    simp [execOp, Instr.typeAssert, e1, run_underlying hu]
  refine t_store (i := 0) hbw hG rfl rfl rfl rfl (SzIs.of (by kernel_rfl)) rfl (by rw [hcs]; exact Nat.le_refl _) ?_ ?_
  · unfold spl; rw [List.take_zero, List.drop_of_length_le (by rw [hcs]; exact Nat.le_refl _)]; rfl
  intro Γ hG
  refine t_end hG fun a' w' hC hE hF' _ => ?_
  have hS' := hC.st.tight (i := 0) rfl hE.1
  refine s_store hF' hS' (i := 1) rfl rfl rfl rfl (SzIs.of (by kernel_rfl)) rfl (Nat.le_refl _) fun w2 a2 hS2 hF2 => ?_
  refine c_nil ?_
  have k6 := hS2.own (some b6, CellsC 35 (valC v0)) (by simp)
  have k7 := hS2.own (some b7, CellsC 26 [.int .i64 e]) (by simp [spl])
  refine ⟨hF2.df, _, rfl, .tuple #[], ?_, rfl, rfl, hS2.keep, k6, k7⟩
  simp [results, Tryz.results114]
theorem c_idle (b6 b7 : Nat) (w : World) : CallsD Tryz.prog 114 #[.pointer (some ⟨b6, 0, none⟩), .pointer (some ⟨b7, 0, none⟩)] .returning w fun en u' w' => en = .returned (.tuple #[]) ∧ u' = .returning ∧ w' = w := by
  refine callsD_of_wpS Tryz.func114 rfl fun c₀ cs hu => ?_
  apply wpS_seq
  apply wpS_region
  simp [wpOpsS, go_sem, recoverD, hu, Tryz.ntmps114, Exit.thenS]
  apply wpS_seq
  apply wpS_region
  simp [wpOpsS, go_sem, Tryz.ntmps114, Exit.thenS]
  refine wpS_cond (t := false) (by simp [Act.eval, Array.replicate]) ?_
  simp only [Bool.false_eq_true, if_false]
  refine wpS_of_wp (wp_skip ?_)
  cases c₀
  simp_all [bodyPostS, results, Tryz.results114]
end Go.Proofs.YtkjhlfleojcgjaaGreatDoor
set_option maxRecDepth 100000
namespace Go.Proofs.YtkjhlfleojcgjaaGreatDoor
open Go Go.Dx Go.RowKit
theorem dd {p q : Prop} [Decidable p] [Decidable q] (h : p ↔ q) : (!(decide p == decide q)) = false := by
  have e : decide p = decide q := decide_eq_decide.2 h
  rw [e]
  cases decide q <;> rfl
theorem dn {p q : Prop} [Decidable p] [Decidable q] (h : p ↔ ¬ q) : (!(decide p == decide q)) = true := by
  by_cases hq : q
  · rw [decide_eq_true hq, decide_eq_false (p := p) (fun hp => (h.1 hp) hq)]; rfl
  · rw [decide_eq_false hq, decide_eq_true (h.2 hq)]; rfl
theorem c_EAdd (a b : Int) (ha : I64 a) (hb : I64 b) (w0 : World) (h0 : View) (hv : VLe h0 (Full w0)) : Calls Tryz.prog 211 #[.int .i64 a, .int .i64 b] w0 (Ret w0 h0 fun u _ => u = niV (ovr (a + b))) := by
  have ha1 := ha.1; have ha2 := ha.2; have hb1 := hb.1; have hb2 := hb.2
  refine ent (args := [.int .i64 a, .int .i64 b]) TT_ok [] [] Tryz.func211 rfl Tryz.ntmps211 rfl rfl hv ?_
  rcases Int.lt_or_le (a + b) (-9223372036854775808) with h1 | h1
  · refine ew _ (wrap_lo h1 (by omega)) ?_
    rw [ovr_out (.inl h1)]
    refine cndT (by rw [dn (by omega), decide_eq_false (p := b = 0) (by omega)]; rfl) ?_
    exact rfl
  · rcases Int.lt_or_le 9223372036854775807 (a + b) with h2 | h2
    · refine ew _ (wrap_hi h2 (by omega)) ?_
      rw [ovr_out (.inr h2)]
      refine cndT (by rw [dn (by omega), decide_eq_false (p := b = 0) (by omega)]; rfl) ?_
      exact rfl
    · refine wi ?_
      rw [ovr_in ⟨h1, h2⟩]
      refine cndF (by rw [dd (by omega)]; rfl) ?_
      exact rfl
theorem c_ESub (a b : Int) (ha : I64 a) (hb : I64 b) (w0 : World) (h0 : View) (hv : VLe h0 (Full w0)) : Calls Tryz.prog 151 #[.int .i64 a, .int .i64 b] w0 (Ret w0 h0 fun u _ => u = niV (ovr (a - b))) := by
  have ha1 := ha.1; have ha2 := ha.2; have hb1 := hb.1; have hb2 := hb.2
  refine ent (args := [.int .i64 a, .int .i64 b]) TT_ok [] [] Tryz.func151 rfl Tryz.ntmps151 rfl rfl hv ?_
  rcases Int.lt_or_le (a - b) (-9223372036854775808) with h1 | h1
  · refine ew _ (wrap_lo h1 (by omega)) ?_
    rw [ovr_out (.inl h1)]
    refine cndT (by rw [dn (by omega), decide_eq_false (p := b = 0) (by omega)]; rfl) ?_
    exact rfl
  · rcases Int.lt_or_le 9223372036854775807 (a - b) with h2 | h2
    · refine ew _ (wrap_hi h2 (by omega)) ?_
      rw [ovr_out (.inr h2)]
      refine cndT (by rw [dn (by omega), decide_eq_false (p := b = 0) (by omega)]; rfl) ?_
      exact rfl
    · refine wi ?_
      rw [ovr_in ⟨h1, h2⟩]
      refine cndF (by rw [dd (by omega)]; rfl) ?_
      exact rfl
theorem wrap_u64_neg {n : Int} (h : -9223372036854775808 ≤ n) (h2 : n < 0) : IntKind.u64.wrap n = n + 18446744073709551616 := by
  have e := wrap_u64 (n := n + 18446744073709551616) (by omega) (by omega)
  rw [← e]
  simp [IntKind.wrap, IntKind.bits]
theorem c_size (a : Int) (ha : I64 a) (w0 : World) (h0 : View) (hv : VLe h0 (Full w0)) : Calls Tryz.prog 223 #[.int .i64 a] w0 (Ret w0 h0 fun u _ => u = .int .u64 ((a.natAbs : Nat) : Int)) := by
  have ha1 := ha.1; have ha2 := ha.2
  refine ent (args := [.int .i64 a]) TT_ok [] [] Tryz.func223 rfl Tryz.ntmps223 rfl rfl hv ?_
  refine cnd (fun h => ?_) (fun h => ?_)
  · refine ew _ (wrap_u64_neg ha1 h) ?_
    refine ew (a.natAbs : Int) ?_ ?_
    · show IntKind.u64.wrap (0 - (a + 18446744073709551616)) = ((a.natAbs : Nat) : Int)
      have : (0 : Int) - (a + 18446744073709551616) = (a.natAbs : Int) - 18446744073709551616 := by omega
      rw [this]
      simp only [IntKind.wrap, IntKind.bits, IntKind.signed, Bool.false_and, Bool.false_eq_true, if_false]
      omega
    exact rfl
  · refine ew (a.natAbs : Int) (by rw [show a = (a.natAbs : Int) by omega]; exact wrap_u64 (by omega) (by omega)) ?_
    exact rfl
theorem c_EDiv (a b : Int) (ha : I64 a) (hb : I64 b) (w0 : World) (h0 : View) (hv : VLe h0 (Full w0)) : Calls Tryz.prog 213 #[.int .i64 a, .int .i64 b] w0 (Ret w0 h0 fun u _ => u = niV (divR a b)) := by
  have ha1 := ha.1; have ha2 := ha.2; have hb1 := hb.1; have hb2 := hb.2
  refine ent (args := [.int .i64 a, .int .i64 b]) TT_ok [] [] Tryz.func213 rfl Tryz.ntmps213 rfl rfl hv ?_
  refine cnd (fun h => ?_) (fun h => ?_)
  · rw [divR, if_pos h]; exact rfl
  · refine cnd (fun h2 => ?_) (fun h2 => ?_)
    · rw [divR, if_neg h, h2.1, h2.2, ovr_out (.inr (by decide))]; exact rfl
    · have hq := tdiv_in a b ha hb h h2
      refine qu h ?_ hq
      rw [divR, if_neg h, ovr_in hq]; exact rfl
theorem c_Mul (x y : Nat) (hx : x < 18446744073709551616) (hy : y < 18446744073709551616) (w0 : World) (h0 : View) (hv : VLe h0 (Full w0)) : Calls Tryz.prog 222 #[.int .u64 (x : Int), .int .u64 (y : Int)] w0 (Ret w0 h0 fun u _ => u = .tuple #[.int .u64 ((x * y / 18446744073709551616 : Nat) : Int), .int .u64 ((x * y % 18446744073709551616 : Nat) : Int)]) :=
  calls_same (h := h0) (Tryz.bits_Mul x y hx hy w0)
theorem sg_neg {a b : Int} (h : (decide (a < 0) == decide (b < 0)) = false) : a * b ≤ 0 := by
  by_cases h1 : a < 0 <;> by_cases h2 : b < 0
  · simp [h1, h2] at h
  · have := Int.mul_nonneg (a := -a) (b := b) (by omega) (by omega)
    rw [Int.neg_mul] at this; omega
  · have := Int.mul_nonneg (a := a) (b := -b) (by omega) (by omega)
    rw [Int.mul_neg] at this; omega
  · simp [h1, h2] at h
theorem sg_pos {a b : Int} (h : (decide (a < 0) == decide (b < 0)) = true) : 0 ≤ a * b := by
  by_cases h1 : a < 0 <;> by_cases h2 : b < 0
  · have := Int.mul_nonneg (a := -a) (b := -b) (by omega) (by omega)
    rwa [Int.neg_mul_neg] at this
  · simp [h1, h2] at h
  · simp [h1, h2] at h
  · exact Int.mul_nonneg (by omega) (by omega)
set_option maxHeartbeats 1000000 in
theorem c_EMul (a b : Int) (ha : I64 a) (hb : I64 b) (w0 : World) (h0 : View) (hv : VLe h0 (Full w0)) : Calls Tryz.prog 212 #[.int .i64 a, .int .i64 b] w0 (Ret w0 h0 fun u _ => u = niV (ovr (a * b))) := by
  have ha1 := ha.1; have ha2 := ha.2; have hb1 := hb.1; have hb2 := hb.2
  have sa := natAbs_sz ha
  have sb := natAbs_sz hb
  have hab : (a * b).natAbs = a.natAbs * b.natAbs := Int.natAbs_mul a b
  have hmx : a.natAbs * b.natAbs ≤ 9223372036854775808 * 9223372036854775808 := Nat.mul_le_mul sa sb
  refine ent (args := [.int .i64 a, .int .i64 b]) TT_ok [] [6, 10] Tryz.func212 rfl Tryz.ntmps212 rfl rfl hv ?_
  refine cl (c_size a ha) ?_
  refine cl (c_size b hb) ?_
  refine cl (c_Mul a.natAbs b.natAbs (by omega) (by omega)) ?_
  generalize hm : a.natAbs * b.natAbs = m at hab hmx ⊢
  generalize hn : a * b = n at hab ⊢
  have hsn : (decide (a < 0) == decide (b < 0)) = false → n ≤ 0 := fun h => hn ▸ sg_neg h
  have hsp : (decide (a < 0) == decide (b < 0)) = true → 0 ≤ n := fun h => hn ▸ sg_pos h
  refine w_cut TT_ok (fun _ : Unit => [(8, .v (.int .u64 (if (decide (a < 0) == decide (b < 0)) = false then 9223372036854775808 else 9223372036854775807)))]) (fun _ => True) ?_
  refine And.intro ?_ ?_
  · refine cnd (fun h => ?_) (fun h => ?_)
    · refine ew 9223372036854775808 (wrap_u64 (by decide) (by decide)) ?_
      exact ⟨(), trivial, gs (by rw [if_pos h]; rfl)⟩
    · exact ⟨(), trivial, gs (by rw [if_neg (by rw [h]; decide)]; rfl)⟩
  · intro _ _
    refine cnd (fun h => ?_) (fun h => ?_)
    · rw [ovr_out (by
        cases hs : (decide (a < 0) == decide (b < 0))
        · rw [hs] at h; simp only [if_true] at h
          have := hsn hs; omega
        · rw [hs] at h; simp only [Bool.true_eq_false, if_false] at h
          have := hsp hs; omega)]
      exact rfl
    · refine w_cut TT_ok (fun _ : Unit => [(7, .v (.int .u64 (if (decide (a < 0) == decide (b < 0)) = false then IntKind.u64.wrap (0 - ((m % 18446744073709551616 : Nat) : Int)) else ((m % 18446744073709551616 : Nat) : Int))))]) (fun _ => True) ?_
      refine And.intro ?_ ?_
      · refine cnd (fun h2 => ?_) (fun h2 => ?_)
        · refine ew _ rfl ?_
          exact ⟨(), trivial, gs (by rw [if_pos h2, if_pos h2]; rfl)⟩
        · have h3 : ¬ (decide (a < 0) == decide (b < 0)) = false := by rw [h2]; decide
          exact ⟨(), trivial, gs (by rw [if_neg h3, if_neg h3]; rfl)⟩
      · intro _ _
        have hin : -9223372036854775808 ≤ n ∧ n ≤ 9223372036854775807 := by
          cases hs : (decide (a < 0) == decide (b < 0))
          · rw [hs] at h; simp only [if_true] at h
            have := hsn hs; omega
          · rw [hs] at h; simp only [Bool.true_eq_false, if_false] at h
            have := hsp hs; omega
        refine ew n ?_ ?_
        · show IntKind.i64.wrap _ = n
          cases hs : (decide (a < 0) == decide (b < 0))
          · rw [if_pos rfl]
            have hn0 := hsn hs
            rw [hs] at h; simp only [if_true] at h
            have e1 : ((m % 18446744073709551616 : Nat) : Int) = (m : Int) := by omega
            have hm2 : (m : Int) ≤ 9223372036854775808 := by omega
            rw [e1]
            by_cases hz : m = 0
            · have : n = 0 := by omega
              rw [hz, this]; decide +kernel
            · rw [wrap_u64_neg (by omega) (by omega), wrap_hi (by omega) (by omega)]; omega
          · rw [if_neg (by decide)]
            have := hsp hs
            have e := wrap_i64 hin.1 hin.2
            rw [show ((m % 18446744073709551616 : Nat) : Int) = n by omega]; exact e
        rw [ovr_in hin]; exact rfl
end Go.Proofs.YtkjhlfleojcgjaaGreatDoor
set_option maxRecDepth 100000
namespace Go.Proofs.YtkjhlfleojcgjaaGreatDoor
open Go Go.Dx Go.RowKit
abbrev RetE (w0 : World) (h0 : View) (r : EV) : Ending → World → Prop := RetX ech (fun v : Val => .agg (valC v).toArray) w0 h0 r
theorem c_truth (b : Bool) (w0 : World) (h0 : View) (hv : VLe h0 (Full w0)) : Calls Tryz.prog 152 #[.bool b] w0 (Ret w0 h0 fun u _ => u = .agg (valC (truV b)).toArray) := by
  refine ent (args := [.bool b]) TT_ok [] [] Tryz.func152 rfl Tryz.ntmps152 rfl rfl hv ?_
  intro b2 b3
  cases b
  · refine cnd (fun h => h.elim) (fun _ => ?_)
    exact rfl
  · refine cnd (fun _ => ?_) (fun h => h.elim)
    exact rfl
theorem c_evNumber (n e : Int) (w0 : World) (h0 : View) (hv : VLe h0 (Full w0)) : Calls Tryz.prog 150 #[.int .i64 n, .int .i64 e] w0 (RetE w0 h0 (numR (n, e))) := by
  by_cases he : e = 0
  · rw [show numR (n, e) = .ok ⟨1, n, []⟩ by rw [numR, if_pos he]]
    subst he
    refine ent (args := [.int .i64 n, .int .i64 0]) TT_ok [] [] Tryz.func150 rfl Tryz.ntmps150 rfl rfl hv ?_
    intro b
    refine cl c_raise0 ?_
    exact rfl
  · rw [show numR (n, e) = .error e by rw [numR, if_neg he]]
    refine entR (args := [.int .i64 n, .int .i64 e]) (h0 := h0) (kp := fun ch => ch = ech e) TT_ok [] [] Tryz.func150 rfl Tryz.ntmps150 rfl rfl hv (fun ch w hk hw => ⟨by rw [hk], hw⟩) ?_
    intro b
    exact cP TT_ok (fun w _ => c_raiseX e he w)
theorem c_join (s t : List UInt8) (hs : s.length ≤ 1000000) (ht : t.length ≤ 1000000) (w0 : World) (h0 : View) (hv : VLe h0 (Full w0)) : Calls Tryz.prog 191 #[vs s, vs t] w0 (RetE w0 h0 (joinE s t)) := by
  by_cases he : 40 < s.length + t.length
  · rw [show joinE s t = .error 5 by rw [joinE, if_pos he]]
    refine entR (args := [vs s, vs t]) (h0 := h0) (kp := fun ch => ch = ech 5) TT_ok [] [] Tryz.func191 rfl Tryz.ntmps191 rfl rfl hv (fun ch w hk hw => ⟨by rw [hk], hw⟩) ?_
    intro b
    refine wi ?_
    refine cnd (fun h => ?_) (fun h => by exfalso; omega)
    exact cP TT_ok (fun w _ => c_raiseX 5 (by decide) w)
  · rw [show joinE s t = .ok ⟨2, 0, s ++ t⟩ by rw [joinE, if_neg he]]
    refine ent (args := [vs s, vs t]) TT_ok [] [] Tryz.func191 rfl Tryz.ntmps191 rfl rfl hv ?_
    intro b
    refine wi ?_
    refine cnd (fun h => by exfalso; omega) (fun h => ?_)
    refine ct ?_
    exact rfl
theorem RetE.ok {w0 : World} {h0 : View} {r : EV} {v : Val} {P : Program} {f : FuncId} {args : Array Value} (h : Calls P f args w0 (RetE w0 h0 r)) (e : r = .ok v) : Calls P f args w0 (Ret w0 h0 fun u _ => u = .agg (valC v).toArray) := by subst e; exact h
theorem RetE.err {w0 : World} {h0 : View} {r : EV} {x : Int} {P : Program} {f : FuncId} {args : Array Value} (h : Calls P f args w0 (RetE w0 h0 r)) (e : r = .error x) : Calls P f args w0 (Pan (ech x) w0) := by subst e; exact h
set_option maxHeartbeats 1000000 in
theorem c_reckon (op a b : Int) (ha : I64 a) (hb : I64 b) (w0 : World) (h0 : View) (hv : VLe h0 (Full w0)) : Calls Tryz.prog 192 #[.int .i64 op, .int .i64 a, .int .i64 b] w0 (RetE w0 h0 (reckE op a b)) := by
  cases hr : reckE op a b with
  | ok v =>
    refine ent (args := [.int .i64 op, .int .i64 a, .int .i64 b]) TT_ok [] [] Tryz.func192 rfl Tryz.ntmps192 rfl rfl hv ?_
    intro bb
    refine cnd (fun h => ?_) (fun h => ?_)
    · refine cl (c_EAdd a b ha hb) ?_
      refine cl (fun w hh hv => RetE.ok (c_evNumber _ _ w hh hv) (by rw [← hr, reckE, reckR, if_pos h])) ?_
      exact rfl
    · refine cnd (fun h2 => ?_) (fun h2 => ?_)
      · refine cl (c_ESub a b ha hb) ?_
        refine cl (fun w hh hv => RetE.ok (c_evNumber _ _ w hh hv) (by rw [← hr, reckE, reckR, if_neg h, if_pos h2])) ?_
        exact rfl
      · refine cnd (fun h3 => ?_) (fun h3 => ?_)
        · refine cl (c_EMul a b ha hb) ?_
          refine cl (fun w hh hv => RetE.ok (c_evNumber _ _ w hh hv) (by rw [← hr, reckE, reckR, if_neg h, if_neg h2, if_pos h3])) ?_
          exact rfl
        · refine cl (c_EDiv a b ha hb) ?_
          refine cl (fun w hh hv => RetE.ok (c_evNumber _ _ w hh hv) (by rw [← hr, reckE, reckR, if_neg h, if_neg h2, if_neg h3])) ?_
          exact rfl
  | error x =>
    refine entR (args := [.int .i64 op, .int .i64 a, .int .i64 b]) (h0 := h0) (kp := fun ch => ch = ech x) TT_ok [] [] Tryz.func192 rfl Tryz.ntmps192 rfl rfl hv (fun ch w hk hw => ⟨by rw [hk], hw⟩) ?_
    intro bb
    refine cnd (fun h => ?_) (fun h => ?_)
    · refine cl (c_EAdd a b ha hb) ?_
      exact cP TT_ok (fun w _ => RetE.err (c_evNumber _ _ w _ (VLe.refl _)) (by rw [← hr, reckE, reckR, if_pos h]))
    · refine cnd (fun h2 => ?_) (fun h2 => ?_)
      · refine cl (c_ESub a b ha hb) ?_
        exact cP TT_ok (fun w _ => RetE.err (c_evNumber _ _ w _ (VLe.refl _)) (by rw [← hr, reckE, reckR, if_neg h, if_pos h2]))
      · refine cnd (fun h3 => ?_) (fun h3 => ?_)
        · refine cl (c_EMul a b ha hb) ?_
          exact cP TT_ok (fun w _ => RetE.err (c_evNumber _ _ w _ (VLe.refl _)) (by rw [← hr, reckE, reckR, if_neg h, if_neg h2, if_pos h3]))
        · refine cl (c_EDiv a b ha hb) ?_
          exact cP TT_ok (fun w _ => RetE.err (c_evNumber _ _ w _ (VLe.refl _)) (by rw [← hr, reckE, reckR, if_neg h, if_neg h2, if_neg h3]))
theorem c_of_ok (k : Int) (ad : Option Addr) (cap : Nat) (l : List Val) (nl : Bool) (hr : ofG k l false = .ok nl) (hl : l.length ≤ 1000000) (w0 : World) (h0 : View) (hv : VLe h0 (Full w0)) (hb : SlC 35 3 (flatR valC) h0 (.slice ad l.length cap) l) :
    Calls Tryz.prog 149 #[.int .i64 k, .slice ad l.length cap] w0 (Ret w0 h0 fun u _ => u = .bool nl) := by
  refine ent (args := [.int .i64 k, .slice ad l.length cap]) TT_ok [] [] Tryz.func149 rfl Tryz.ntmps149 rfl rfl hv ?_
  refine w_loop TT_ok (fun x : Nat × Bool => [(9, .v (.int .i64 x.1)), (4, .v (.bool x.2))]) (0, false) (fun x => x.1 ≤ l.length ∧ ofG k (l.drop x.1) x.2 = .ok nl) (fun x => l.length - x.1) ?_
  refine And.intro ⟨⟨Nat.zero_le _, hr⟩, gs⟩ ?_
  rintro ⟨i, b⟩ ⟨hi, hg⟩
  dsimp only at hi hg ⊢
  refine cnd (fun h => ?_) (fun h => ?_)
  · have hi' : i < l.length := by omega
    refine ixs hb i v0 ?_
    intro b6
    refine cnd (fun h1 => ?_) (fun h1 => ?_)
    · refine wi ?_
      rw [of_here hi' h1] at hg
      exact ⟨(i + 1, b), ⟨⟨hi', hg⟩, (by show l.length - (i + 1) < l.length - i; omega)⟩, gs⟩
    · refine cnd (fun h2 => ?_) (fun h2 => ?_)
      · refine wi ?_
        rw [of_null hi' h1 h2] at hg
        exact ⟨(i + 1, true), ⟨⟨hi', hg⟩, (by show l.length - (i + 1) < l.length - i; omega)⟩, gs⟩
      · rw [of_bad hi' h1 h2] at hg; cases hg
  · have hi' : ¬ i < l.length := by omega
    rw [of_end hi'] at hg
    cases hg; exact rfl
theorem c_of_err (k : Int) (ad : Option Addr) (cap : Nat) (l : List Val) (x : Int) (hr : ofG k l false = .error x) (hl : l.length ≤ 1000000) (w0 : World) (h0 : View) (hv : VLe h0 (Full w0)) (hb : SlC 35 3 (flatR valC) h0 (.slice ad l.length cap) l) :
    Calls Tryz.prog 149 #[.int .i64 k, .slice ad l.length cap] w0 (Pan (ech x) w0) := by
  refine entR (args := [.int .i64 k, .slice ad l.length cap]) (h0 := h0) (kp := fun ch => ch = ech x) TT_ok [] [] Tryz.func149 rfl Tryz.ntmps149 rfl rfl hv (fun ch w hk hw => ⟨by rw [hk], hw⟩) ?_
  refine w_loop TT_ok (fun x : Nat × Bool => [(9, .v (.int .i64 x.1)), (4, .v (.bool x.2))]) (0, false) (fun y => y.1 ≤ l.length ∧ ofG k (l.drop y.1) y.2 = .error x) (fun x => l.length - x.1) ?_
  refine And.intro ⟨⟨Nat.zero_le _, hr⟩, gs⟩ ?_
  rintro ⟨i, b⟩ ⟨hi, hg⟩
  dsimp only at hi hg ⊢
  refine cnd (fun h => ?_) (fun h => ?_)
  · have hi' : i < l.length := by omega
    refine ixs hb i v0 ?_
    intro b6
    refine cnd (fun h1 => ?_) (fun h1 => ?_)
    · refine wi ?_
      rw [of_here hi' h1] at hg
      exact ⟨(i + 1, b), ⟨⟨hi', hg⟩, (by show l.length - (i + 1) < l.length - i; omega)⟩, gs⟩
    · refine cnd (fun h2 => ?_) (fun h2 => ?_)
      · refine wi ?_
        rw [of_null hi' h1 h2] at hg
        exact ⟨(i + 1, true), ⟨⟨hi', hg⟩, (by show l.length - (i + 1) < l.length - i; omega)⟩, gs⟩
      · have hx := of_err hg
        subst hx
        exact cP TT_ok (fun w _ => c_raiseX 14 (by decide) w)
  · have hi' : ¬ i < l.length := by omega
    rw [of_end hi'] at hg
    cases hg
theorem c_of (k : Int) (ad : Option Addr) (cap : Nat) (l : List Val) (hl : l.length ≤ 1000000) (w0 : World) (h0 : View) (hv : VLe h0 (Full w0)) (hb : SlC 35 3 (flatR valC) h0 (.slice ad l.length cap) l) :
    Calls Tryz.prog 149 #[.int .i64 k, .slice ad l.length cap] w0 (RetX ech (fun b : Bool => .bool b) w0 h0 (ofG k l false)) := by
  cases hr : ofG k l false with
  | ok nl => exact c_of_ok k ad cap l nl hr hl w0 h0 hv hb
  | error x => exact c_of_err k ad cap l x hr hl w0 h0 hv hb
end Go.Proofs.YtkjhlfleojcgjaaGreatDoor
set_option maxRecDepth 100000
namespace Go.Proofs.YtkjhlfleojcgjaaGreatDoor
open Go Go.Dx Go.RowKit
theorem c_kin_ok (a b : Val) (nl : Bool) (hr : ofG (kinK a b) [a, b] false = .ok nl) (w0 : World) (h0 : View) (hv : VLe h0 (Full w0)) :
    Calls Tryz.prog 193 #[.agg (valC a).toArray, .agg (valC b).toArray] w0 (Ret w0 h0 fun u _ => u = .int .i64 (kinK a b)) := by
  refine ent (args := [.agg (valC a).toArray, .agg (valC b).toArray]) TT_ok [] [4] Tryz.func193 rfl Tryz.ntmps193 rfl rfl hv ?_
  intro b1 b2
  refine w_cut TT_ok (fun _ : Unit => [(5, .v (.int .i64 (kinK a b)))]) (fun _ => True) ?_
  refine And.intro ?_ ?_
  · refine cnd (fun h => ?_) (fun h => ?_)
    · exact ⟨(), trivial, gs (by rw [kinK, if_pos h]; rfl)⟩
    · exact ⟨(), trivial, gs (by rw [kinK, if_neg h]; rfl)⟩
  · intro _ _
    intro b3
    refine co (fun w hS => c_of_ok (kinK a b) _ 2 [a, b] nl hr (by simp) w (Full w) (VLe.refl _) (hS.row (k := 15) (l := [a, b]) (g := valC) (hk := rfl) (hcs := rfl) (hc := Nat.le_refl 2))) ?_
    exact rfl
theorem c_kin_err (a b : Val) (x : Int) (hr : ofG (kinK a b) [a, b] false = .error x) (w0 : World) (h0 : View) (hv : VLe h0 (Full w0)) :
    Calls Tryz.prog 193 #[.agg (valC a).toArray, .agg (valC b).toArray] w0 (Pan (ech x) w0) := by
  refine entR (args := [.agg (valC a).toArray, .agg (valC b).toArray]) (h0 := h0) (kp := fun ch => ch = ech x) TT_ok [] [4] Tryz.func193 rfl Tryz.ntmps193 rfl rfl hv (fun ch w hk hw => ⟨by rw [hk], hw⟩) ?_
  intro b1 b2
  refine w_cut TT_ok (fun _ : Unit => [(5, .v (.int .i64 (kinK a b)))]) (fun _ => True) ?_
  refine And.intro ?_ ?_
  · refine cnd (fun h => ?_) (fun h => ?_)
    · exact ⟨(), trivial, gs (by rw [kinK, if_pos h]; rfl)⟩
    · exact ⟨(), trivial, gs (by rw [kinK, if_neg h]; rfl)⟩
  · intro _ _
    intro b3
    exact cPo TT_ok (fun w hS => c_of_err (kinK a b) _ 2 [a, b] x hr (by simp) w (Full w) (VLe.refl _) (hS.row (k := 15) (l := [a, b]) (g := valC) (hk := rfl) (hcs := rfl) (hc := Nat.le_refl 2)))
set_option maxHeartbeats 1000000 in
theorem c_sums (op : Int) (a b : Val) (ha : I64 a.n) (hb : I64 b.n) (hsa : a.s.length ≤ 1000000) (hsb : b.s.length ≤ 1000000) (w0 : World) (h0 : View) (hv : VLe h0 (Full w0)) :
    Calls Tryz.prog 153 #[.int .i64 op, .agg (valC a).toArray, .agg (valC b).toArray] w0 (RetE w0 h0 (sumsE op a b)) := by
  cases hr : sumsE op a b with
  | ok v =>
    refine ent (args := [.int .i64 op, .agg (valC a).toArray, .agg (valC b).toArray]) TT_ok [] [5] Tryz.func153 rfl Tryz.ntmps153 rfl rfl hv ?_
    intro b1 b2 b3
    refine w_cut TT_ok (fun _ : Unit => [(8, .v (.int .i64 (sumK op a b))), (7, .v (.bool (txtQ op a b)))]) (fun _ => True) ?_
    refine And.intro ?_ ?_
    · refine cnd (fun h => ?_) (fun h => ?_)
      · have hq : txtQ op a b = true := by simp only [txtQ, Bool.and_eq_true, Bool.or_eq_true, decide_eq_true_eq]; exact h
        exact ⟨(), trivial, gs (by rw [sumK, if_pos hq]; rfl)⟩
      · have hq : ¬ txtQ op a b = true := by simp only [txtQ, Bool.and_eq_true, Bool.or_eq_true, decide_eq_true_eq]; omega
        exact ⟨(), trivial, gs (by rw [sumK, if_neg hq]; rfl)⟩
    · intro _ _
      intro b4
      cases hof : ofG (sumK op a b) [a, b] false with
      | error x => rw [sumsE, hof] at hr; cases hr
      | ok nl =>
        refine co (fun w hS => c_of_ok (sumK op a b) _ 2 [a, b] nl hof (by simp) w (Full w) (VLe.refl _) (hS.row (k := 26) (l := [a, b]) (g := valC) (hk := rfl) (hcs := rfl) (hc := Nat.le_refl 2))) ?_
        rw [sumsE, hof] at hr
        cases nl
        · refine cnd (fun h => h.elim) (fun _ => ?_)
          simp only at hr
          refine cnd (fun h => ?_) (fun h => ?_)
          · rw [if_pos h] at hr
            refine cl (fun w hh hv => RetE.ok (c_join a.s b.s hsa hsb w hh hv) hr) ?_
            exact rfl
          · rw [if_neg (by rw [h]; decide)] at hr
            refine cl (fun w hh hv => RetE.ok (c_reckon op a.n b.n ha hb w hh hv) hr) ?_
            exact rfl
        · refine cnd (fun _ => ?_) (fun h => h.elim)
          cases hr; exact rfl
  | error x =>
    refine entR (args := [.int .i64 op, .agg (valC a).toArray, .agg (valC b).toArray]) (h0 := h0) (kp := fun ch => ch = ech x) TT_ok [] [5] Tryz.func153 rfl Tryz.ntmps153 rfl rfl hv (fun ch w hk hw => ⟨by rw [hk], hw⟩) ?_
    intro b1 b2 b3
    refine w_cut TT_ok (fun _ : Unit => [(8, .v (.int .i64 (sumK op a b))), (7, .v (.bool (txtQ op a b)))]) (fun _ => True) ?_
    refine And.intro ?_ ?_
    · refine cnd (fun h => ?_) (fun h => ?_)
      · have hq : txtQ op a b = true := by simp only [txtQ, Bool.and_eq_true, Bool.or_eq_true, decide_eq_true_eq]; exact h
        exact ⟨(), trivial, gs (by rw [sumK, if_pos hq]; rfl)⟩
      · have hq : ¬ txtQ op a b = true := by simp only [txtQ, Bool.and_eq_true, Bool.or_eq_true, decide_eq_true_eq]; omega
        exact ⟨(), trivial, gs (by rw [sumK, if_neg hq]; rfl)⟩
    · intro _ _
      intro b4
      cases hof : ofG (sumK op a b) [a, b] false with
      | error y =>
        rw [sumsE, hof] at hr
        cases hr
        exact cPo TT_ok (fun w hS => c_of_err (sumK op a b) _ 2 [a, b] x hof (by simp) w (Full w) (VLe.refl _) (hS.row (k := 26) (l := [a, b]) (g := valC) (hk := rfl) (hcs := rfl) (hc := Nat.le_refl 2)))
      | ok nl =>
        refine co (fun w hS => c_of_ok (sumK op a b) _ 2 [a, b] nl hof (by simp) w (Full w) (VLe.refl _) (hS.row (k := 26) (l := [a, b]) (g := valC) (hk := rfl) (hcs := rfl) (hc := Nat.le_refl 2))) ?_
        rw [sumsE, hof] at hr
        cases nl
        · refine cnd (fun h => h.elim) (fun _ => ?_)
          simp only at hr
          refine cnd (fun h => ?_) (fun h => ?_)
          · rw [if_pos h] at hr
            exact cP TT_ok (fun w _ => RetE.err (c_join a.s b.s hsa hsb w _ (VLe.refl _)) hr)
          · rw [if_neg (by rw [h]; decide)] at hr
            exact cP TT_ok (fun w _ => RetE.err (c_reckon op a.n b.n ha hb w _ (VLe.refl _)) hr)
        · cases hr
theorem c_truths_ok (op : Int) (a b v : Val) (hr : trusE op a b = .ok v) (w0 : World) (h0 : View) (hv : VLe h0 (Full w0)) :
    Calls Tryz.prog 154 #[.int .i64 op, .agg (valC a).toArray, .agg (valC b).toArray] w0 (Ret w0 h0 fun u _ => u = .agg (valC v).toArray) := by
  refine ent (args := [.int .i64 op, .agg (valC a).toArray, .agg (valC b).toArray]) TT_ok [] [] Tryz.func154 rfl Tryz.ntmps154 rfl rfl hv ?_
  intro b1 b2 b3 b4
  cases hof : ofG 3 [a, b] false with
  | error x => rw [trusE, hof] at hr; cases hr
  | ok nl =>
    rw [trusE, hof] at hr
    simp only at hr
    refine co (fun w hS => c_of_ok 3 _ 2 [a, b] nl hof (by simp) w (Full w) (VLe.refl _) (hS.row (k := 11) (l := [a, b]) (g := valC) (hk := rfl) (hcs := rfl) (hc := Nat.le_refl 2))) ?_
    refine cl (c_truth (decide (op = 15))) ?_
    intro b5
    refine aq eqV a (truV (decide (op = 15))) ?_
    refine aqg eqV b (truV (decide (op = 15))) ?_
    refine cnd (fun h => ?_) (fun h => ?_)
    · rw [if_pos h] at hr
      cases hr; exact rfl
    · rw [if_neg (fun hh => hh.elim h.1 h.2)] at hr
      refine cnd (fun h2 => ?_) (fun h2 => ?_)
      · rw [if_pos h2] at hr
        cases hr; exact rfl
      · rw [if_neg (by rw [h2]; decide)] at hr
        refine cl (c_truth (decide (op = 14))) ?_
        cases hr; exact rfl
theorem c_truths_err (op : Int) (a b : Val) (x : Int) (hr : trusE op a b = .error x) (w0 : World) (h0 : View) (hv : VLe h0 (Full w0)) :
    Calls Tryz.prog 154 #[.int .i64 op, .agg (valC a).toArray, .agg (valC b).toArray] w0 (Pan (ech x) w0) := by
  refine entR (args := [.int .i64 op, .agg (valC a).toArray, .agg (valC b).toArray]) (h0 := h0) (kp := fun ch => ch = ech x) TT_ok [] [] Tryz.func154 rfl Tryz.ntmps154 rfl rfl hv (fun ch w hk hw => ⟨by rw [hk], hw⟩) ?_
  intro b1 b2 b3 b4
  cases hof : ofG 3 [a, b] false with
  | error y =>
    rw [trusE, hof] at hr
    cases hr
    exact cPo TT_ok (fun w hS => c_of_err 3 _ 2 [a, b] x hof (by simp) w (Full w) (VLe.refl _) (hS.row (k := 11) (l := [a, b]) (g := valC) (hk := rfl) (hcs := rfl) (hc := Nat.le_refl 2)))
  | ok nl =>
    rw [trusE, hof] at hr
    simp only at hr
    split at hr
    · cases hr
    · split at hr <;> cases hr
end Go.Proofs.YtkjhlfleojcgjaaGreatDoor
set_option maxRecDepth 100000
namespace Go.Proofs.YtkjhlfleojcgjaaGreatDoor
open Go Go.Dx Go.RowKit
theorem c_NaNK (x : Int) (w0 : World) (h0 : View) (hv : VLe h0 (Full w0)) : Calls Tryz.prog 194 #[.int .i64 x] w0 (Ret w0 h0 fun u _ => u = .bool false) := by
  refine ent (args := [.int .i64 x]) TT_ok [] [] Tryz.func194 rfl Tryz.ntmps194 rfl rfl hv ?_
  show Value.bool _ = _
  simp
theorem c_NaNI (x : Int) (w0 : World) (h0 : View) (hv : VLe h0 (Full w0)) : Calls Tryz.prog 195 #[.int .i64 x] w0 (Ret w0 h0 fun u _ => u = .bool false) := by
  refine ent (args := [.int .i64 x]) TT_ok [] [] Tryz.func195 rfl Tryz.ntmps195 rfl rfl hv ?_
  show Value.bool _ = _
  simp
theorem c_CmpK (x y : Int) (w0 : World) (h0 : View) (hv : VLe h0 (Full w0)) : Calls Tryz.prog 158 #[.int .i64 x, .int .i64 y] w0 (Ret w0 h0 fun u _ => u = .int .i64 (cmpI x y)) := by
  refine ent (args := [.int .i64 x, .int .i64 y]) TT_ok [] [] Tryz.func158 rfl Tryz.ntmps158 rfl rfl hv ?_
  refine cl (c_NaNK x) ?_
  refine cl (c_NaNK y) ?_
  refine cndF rfl ?_
  refine cndF rfl ?_
  refine cnd (fun h => ?_) (fun h => ?_)
  · rw [cmpI, if_pos h]; exact rfl
  · refine cnd (fun h2 => ?_) (fun h2 => ?_)
    · rw [cmpI, if_neg h, if_pos h2]; exact rfl
    · rw [cmpI, if_neg h, if_neg h2]; exact rfl
theorem c_CmpI (x y : Int) (w0 : World) (h0 : View) (hv : VLe h0 (Full w0)) : Calls Tryz.prog 159 #[.int .i64 x, .int .i64 y] w0 (Ret w0 h0 fun u _ => u = .int .i64 (cmpI x y)) := by
  refine ent (args := [.int .i64 x, .int .i64 y]) TT_ok [] [] Tryz.func159 rfl Tryz.ntmps159 rfl rfl hv ?_
  refine cl (c_NaNI x) ?_
  refine cl (c_NaNI y) ?_
  refine cndF rfl ?_
  refine cndF rfl ?_
  refine cnd (fun h => ?_) (fun h => ?_)
  · rw [cmpI, if_pos h]; exact rfl
  · refine cnd (fun h2 => ?_) (fun h2 => ?_)
    · rw [cmpI, if_neg h, if_pos h2]; exact rfl
    · rw [cmpI, if_neg h, if_neg h2]; exact rfl
theorem c_Or (ad : Option Addr) (cap : Nat) (l : List Int) (hl : l.length ≤ 1000000) (w0 : World) (h0 : View) (hv : VLe h0 (Full w0)) (hb : SlC 3 1 (flatR fun n => [Value.int .i64 n]) h0 (.slice ad l.length cap) l) :
    Calls Tryz.prog 157 #[.slice ad l.length cap] w0 (Ret w0 h0 fun u _ => u = .int .i64 (orI l)) := by
  refine ent (args := [.slice ad l.length cap]) TT_ok [] [] Tryz.func157 rfl Tryz.ntmps157 rfl rfl hv ?_
  refine w_loop TT_ok (fun k : Nat => [(8, .v (.int .i64 k))]) 0 (fun k => k ≤ l.length ∧ ∀ j, j < k → l.getD j 0 = 0) (fun k => l.length - k) ?_
  refine And.intro ⟨⟨Nat.zero_le _, fun j h => absurd h (Nat.not_lt_zero _)⟩, gs⟩ ?_
  intro k ⟨hk, hz⟩
  refine cnd (fun h => ?_) (fun h => ?_)
  · have hk' : k < l.length := by omega
    refine ixs hb k 0 ?_
    refine cnd (fun h1 => ?_) (fun h1 => ?_)
    · rw [orI_hit l k hk' hz h1]; exact rfl
    · refine wi ?_
      exact ⟨k + 1, ⟨⟨hk', upto_snoc hz (by omega)⟩, by omega⟩, gs⟩
  · rw [orI_none l (fun j hj => hz j (by omega))]; exact rfl
theorem c_sCmp (s t : List UInt8) (w0 : World) (h0 : View) (hv : VLe h0 (Full w0)) : Calls Tryz.prog 160 #[vs s, vs t] w0 (Ret w0 h0 fun u _ => u = .int .i64 (Lib.compareBytes s t)) := by
  have := calls_same (h := h0) (Tryz.strings_Compare ⟨s.toArray⟩ ⟨t.toArray⟩ w0)
  simpa using this
theorem c_OrRow (b : Nat) (x y z : Int) (w : World) (hb : w.heap[b]? = some (.cells #[.int .i64 x, .int .i64 y, .int .i64 z] 3 (0, 0))) :
    Calls Tryz.prog 157 #[.slice (some ⟨b, 0, none⟩) 3 3] w (Ret w (Full w) fun u _ => u = .int .i64 (orI [x, y, z])) :=
  c_Or _ _ [x, y, z] (by simp) w (Full w) (VLe.refl _) (SlC.ofRow (f := fun n => [Value.int .i64 n]) (fun _ _ => rfl) (h := Full w) hb rfl (Nat.le_refl 3) (by decide) rfl)
theorem c_VCompare (a b : Val) (w0 : World) (h0 : View) (hv : VLe h0 (Full w0)) : Calls Tryz.prog 117 #[.agg (valC a).toArray, .agg (valC b).toArray] w0 (Ret w0 h0 fun u _ => u = .int .i64 (cmpV a b)) := by
  refine ent (args := [.agg (valC a).toArray, .agg (valC b).toArray]) TT_ok [] [] Tryz.func117 rfl Tryz.ntmps117 rfl rfl hv ?_
  intro b1 b2
  refine And.intro (by kernel_rfl) ?_
  refine cl (c_CmpK a.k b.k) ?_
  refine cl (c_CmpI a.n b.n) ?_
  refine cl (c_sCmp a.s b.s) ?_
  refine ⟨_, fun w b hS hb => ⟨Full w, c_OrRow b _ _ _ w hb⟩, ?_⟩
  rw [orI_three]; exact rfl
end Go.Proofs.YtkjhlfleojcgjaaGreatDoor
set_option maxRecDepth 100000
namespace Go.Proofs.YtkjhlfleojcgjaaGreatDoor
open Go Go.Dx Go.RowKit
set_option maxHeartbeats 1000000 in
theorem c_compares_ok (op : Int) (a b v : Val) (hr : cmpE op a b = .ok v) (w0 : World) (h0 : View) (hv : VLe h0 (Full w0)) :
    Calls Tryz.prog 155 #[.int .i64 op, .agg (valC a).toArray, .agg (valC b).toArray] w0 (Ret w0 h0 fun u _ => u = .agg (valC v).toArray) := by
  cases hof : ofG (kinK a b) [a, b] false with
  | error x => rw [cmpE, hof] at hr; cases hr
  | ok nl =>
    rw [cmpE, hof] at hr
    simp only at hr
    refine ent (args := [.int .i64 op, .agg (valC a).toArray, .agg (valC b).toArray]) TT_ok [] [] Tryz.func155 rfl Tryz.ntmps155 rfl rfl hv ?_
    intro b1 b2 b3
    refine cl (c_kin_ok a b nl hof) ?_
    refine cnd (fun h => ?_) (fun h => ?_)
    · rw [if_pos h] at hr
      refine aq eqV a b ?_
      refine cl (c_truth (decide (a = b))) ?_
      cases hr; exact rfl
    · rw [if_neg h] at hr
      refine cnd (fun h2 => ?_) (fun h2 => ?_)
      · rw [if_pos h2] at hr
        refine aq eqV a b ?_
        refine cl (c_truth (!decide (a = b))) ?_
        cases hr; exact rfl
      · rw [if_neg h2] at hr
        refine cnd (fun h3 => ?_) (fun h3 => ?_)
        · rw [if_pos h3] at hr; cases hr
        · rw [if_neg h3] at hr
          refine cnd (fun h4 => ?_) (fun h4 => ?_)
          · rw [if_pos h4] at hr; cases hr; exact rfl
          · rw [if_neg (fun hh => hh.elim h4.1 h4.2)] at hr
            refine cl (c_VCompare a b) ?_
            refine cnd (fun h5 => ?_) (fun h5 => ?_)
            · rw [if_pos h5] at hr
              refine cl (c_truth (decide (cmpV a b < 0))) ?_
              cases hr; exact rfl
            · rw [if_neg h5] at hr
              refine cnd (fun h6 => ?_) (fun h6 => ?_)
              · rw [if_pos h6] at hr
                refine cl (c_truth (decide (cmpV a b ≤ 0))) ?_
                cases hr; exact rfl
              · rw [if_neg h6] at hr
                refine cnd (fun h7 => ?_) (fun h7 => ?_)
                · rw [if_pos h7] at hr
                  refine cl (c_truth (decide (0 < cmpV a b))) ?_
                  cases hr; exact rfl
                · rw [if_neg h7] at hr
                  refine cl (c_truth (decide (0 ≤ cmpV a b))) ?_
                  cases hr; exact rfl
set_option maxHeartbeats 1000000 in
theorem c_compares_err (op : Int) (a b : Val) (x : Int) (hr : cmpE op a b = .error x) (w0 : World) (h0 : View) (hv : VLe h0 (Full w0)) :
    Calls Tryz.prog 155 #[.int .i64 op, .agg (valC a).toArray, .agg (valC b).toArray] w0 (Pan (ech x) w0) := by
  refine entR (args := [.int .i64 op, .agg (valC a).toArray, .agg (valC b).toArray]) (h0 := h0) (kp := fun ch => ch = ech x) TT_ok [] [] Tryz.func155 rfl Tryz.ntmps155 rfl rfl hv (fun ch w hk hw => ⟨by rw [hk], hw⟩) ?_
  intro b1 b2 b3
  cases hof : ofG (kinK a b) [a, b] false with
  | error y =>
    rw [cmpE, hof] at hr
    cases hr
    exact cP TT_ok (fun w _ => c_kin_err a b x hof w _ (VLe.refl _))
  | ok nl =>
    rw [cmpE, hof] at hr
    simp only at hr
    refine cl (c_kin_ok a b nl hof) ?_
    refine cnd (fun h => ?_) (fun h => ?_)
    · rw [if_pos h] at hr; cases hr
    · rw [if_neg h] at hr
      refine cnd (fun h2 => ?_) (fun h2 => ?_)
      · rw [if_pos h2] at hr; cases hr
      · rw [if_neg h2] at hr
        refine cnd (fun h3 => ?_) (fun h3 => ?_)
        · rw [if_pos h3] at hr
          cases hr
          exact cP TT_ok (fun w _ => c_raiseX 14 (by decide) w)
        · rw [if_neg h3] at hr
          exfalso
          split at hr
          · cases hr
          · split at hr
            · cases hr
            · split at hr
              · cases hr
              · split at hr <;> cases hr
end Go.Proofs.YtkjhlfleojcgjaaGreatDoor
set_option maxRecDepth 100000
namespace Go.Proofs.YtkjhlfleojcgjaaGreatDoor
open Go Go.Dx Go.RowKit
theorem name_here {s : List UInt8} {l : List Col} {row : List Val} {i : Nat} (h : i < l.length) (h2 : i < row.length) (h1 : (l.getD i c0).name = s) : nameG s (l.drop i) (row.drop i) = .ok (row.getD i v0) := by
  rw [List.drop_eq_getElem_cons h, List.drop_eq_getElem_cons h2, ← getD_lt l i c0 h, ← getD_lt row i v0 h2, nameG, if_pos h1]
theorem name_next {s : List UInt8} {l : List Col} {row : List Val} {i : Nat} (h : i < l.length) (h2 : i < row.length) (h1 : ¬ (l.getD i c0).name = s) : nameG s (l.drop i) (row.drop i) = nameG s (l.drop (i + 1)) (row.drop (i + 1)) := by
  rw [List.drop_eq_getElem_cons h, List.drop_eq_getElem_cons h2, ← getD_lt l i c0 h, nameG, if_neg h1]
theorem name_end {s : List UInt8} {l : List Col} {row : List Val} {i : Nat} (h : ¬ i < l.length) : nameG s (l.drop i) (row.drop i) = .error 13 := by
  rw [List.drop_of_length_le (l := l) (by omega)]; cases row.drop i <;> rfl
def scC (ad : Option Addr) (n cap : Nat) (ad2 : Option Addr) (n2 cap2 : Nat) : List Value := [.slice ad n cap, .slice ad2 n2 cap2]
theorem c_name_ok (ad : Option Addr) (cap : Nat) (l : List Col) (ad2 : Option Addr) (cap2 : Nat) (row : List Val) (s : List UInt8) (v : Val) (hlr : l.length = row.length) (hr : nameG s l row = .ok v) (hl : l.length ≤ 1000000) (w0 : World) (h0 : View) (hv : VLe h0 (Full w0))
    (hb : SlC 70 3 (flatR colC) h0 (.slice ad l.length cap) l) (hb2 : SlC 35 3 (flatR valC) h0 (.slice ad2 row.length cap2) row) :
    Calls Tryz.prog 148 #[.agg (scC ad l.length cap ad2 row.length cap2).toArray, vs s] w0 (Ret w0 h0 fun u _ => u = .agg (valC v).toArray) := by
  refine ent (args := [.agg (scC ad l.length cap ad2 row.length cap2).toArray, vs s]) TT_ok [] [] Tryz.func148 rfl Tryz.ntmps148 rfl rfl hv ?_
  intro b1 b2
  refine w_loop TT_ok (fun k : Nat => [(10, .v (.int .i64 k))]) 0 (fun k => k ≤ l.length ∧ nameG s (l.drop k) (row.drop k) = .ok v) (fun k => l.length - k) ?_
  refine And.intro ⟨⟨Nat.zero_le _, hr⟩, gs⟩ ?_
  intro k ⟨hk, hg⟩
  refine cnd (fun h => ?_) (fun h => ?_)
  · have hk' : k < l.length := by omega
    refine ixs hb k c0 ?_
    intro b3
    refine cnd (fun h1 => ?_) (fun h1 => ?_)
    · rw [name_here hk' (by omega) h1] at hg
      refine ixs hb2 k v0 ?_
      cases hg; exact rfl
    · rw [name_next hk' (by omega) h1] at hg
      refine wi ?_
      exact ⟨k + 1, ⟨⟨hk', hg⟩, by omega⟩, gs⟩
  · rw [name_end (by omega)] at hg; cases hg
theorem c_name_err (ad : Option Addr) (cap : Nat) (l : List Col) (ad2 : Option Addr) (cap2 : Nat) (row : List Val) (s : List UInt8) (x : Int) (hlr : l.length = row.length) (hr : nameG s l row = .error x) (hl : l.length ≤ 1000000) (w0 : World) (h0 : View) (hv : VLe h0 (Full w0))
    (hb : SlC 70 3 (flatR colC) h0 (.slice ad l.length cap) l) (hb2 : SlC 35 3 (flatR valC) h0 (.slice ad2 row.length cap2) row) :
    Calls Tryz.prog 148 #[.agg (scC ad l.length cap ad2 row.length cap2).toArray, vs s] w0 (Pan (ech x) w0) := by
  refine entR (args := [.agg (scC ad l.length cap ad2 row.length cap2).toArray, vs s]) (h0 := h0) (kp := fun ch => ch = ech x) TT_ok [] [] Tryz.func148 rfl Tryz.ntmps148 rfl rfl hv (fun ch w hk hw => ⟨by rw [hk], hw⟩) ?_
  intro b1 b2
  refine w_loop TT_ok (fun k : Nat => [(10, .v (.int .i64 k))]) 0 (fun k => k ≤ l.length ∧ nameG s (l.drop k) (row.drop k) = .error x) (fun k => l.length - k) ?_
  refine And.intro ⟨⟨Nat.zero_le _, hr⟩, gs⟩ ?_
  intro k ⟨hk, hg⟩
  refine cnd (fun h => ?_) (fun h => ?_)
  · have hk' : k < l.length := by omega
    refine ixs hb k c0 ?_
    intro b3
    refine cnd (fun h1 => ?_) (fun h1 => ?_)
    · rw [name_here hk' (by omega) h1] at hg; cases hg
    · rw [name_next hk' (by omega) h1] at hg
      refine wi ?_
      exact ⟨k + 1, ⟨⟨hk', hg⟩, by omega⟩, gs⟩
  · rw [name_end (by omega)] at hg
    cases hg
    exact cP TT_ok (fun w _ => c_raiseX 13 (by decide) w)
end Go.Proofs.YtkjhlfleojcgjaaGreatDoor
set_option maxRecDepth 100000
namespace Go.Proofs.YtkjhlfleojcgjaaGreatDoor
open Go Go.Dx Go.RowKit
theorem vs_inj {a b : List UInt8} (h : vs a = vs b) : a = b := by simpa [vs] using h
theorem RX.xl {h : View} {op : Int} {v : Val} {s : List UInt8} {ad : Option Addr} {n cap : Nat} {x : Ex} (hx : RX h (exC op v s (.slice ad n cap)) x) : op = x.op ∧ v = x.v ∧ s = x.s ∧ n = x.l.length ∧ i64 x.op ∧ valB x.v ∧ XL h ad cap x.l := by
  obtain ⟨ad', cap', e, h1, h2, h3⟩ := hx.inv
  simp only [exC, List.cons.injEq, Value.int.injEq, Value.slice.injEq, true_and, and_true] at e
  obtain ⟨e1, e2, e3, e4, e5, e6, e7, e8⟩ := e
  subst e6; subst e8
  refine ⟨e1, ?_, vs_inj e5, e7, h1, h2, h3⟩
  have := vs_inj e4
  cases v; cases hv : x.v
  rw [hv] at e2 e3 this
  simp only at e2 e3 this
  rw [e2, e3, this]
theorem ixx {c : Cx} {F : FV} {n : Nat} {ad : Option Addr} {cap : Nat} {l : List Ex} {i : Int} {X : Nat → List Value → Prop} (H : XL c.h0 ad cap l) (j : Nat)
    (k : ∀ a2 c2, RX c.h0 (exC (l.getD j ex0).op (l.getD j ex0).v (l.getD j ex0).s (.slice a2 (l.getD j ex0).l.length c2)) (l.getD j ex0) → X j (exC (l.getD j ex0).op (l.getD j ex0).v (l.getD j ex0).s (.slice a2 (l.getD j ex0).l.length c2)))
    (h : i = (j : Int) ∧ j < l.length := by omega) (hn : n = l.length := by rfl) : ∃ (j : Nat) (cs : List Value), (i = (j : Int) ∧ j < n ∧ ElC c.h0 F ad (j * 6) cs) ∧ X j cs := by
  obtain ⟨g, off, cs, ha, hr, _, hc⟩ := H.at h.2
  obtain ⟨a2, c2, rfl, _⟩ := hr.inv
  subst hn
  exact ⟨j, _, ⟨h.1, h.2, fun v hv _ => ⟨by rw [ha]; rfl, fun w hw => by rw [ha]; exact hc w (hv.trans hw)⟩⟩, k a2 c2 hr⟩
theorem c_name (ad : Option Addr) (cap : Nat) (l : List Col) (ad2 : Option Addr) (cap2 : Nat) (row : List Val) (s : List UInt8) (hlr : l.length = row.length) (hl : l.length ≤ 1000000) (w0 : World) (h0 : View) (hv : VLe h0 (Full w0))
    (hb : SlC 70 3 (flatR colC) h0 (.slice ad l.length cap) l) (hb2 : SlC 35 3 (flatR valC) h0 (.slice ad2 row.length cap2) row) :
    Calls Tryz.prog 148 #[.agg (scC ad l.length cap ad2 row.length cap2).toArray, vs s] w0 (RetE w0 h0 (nameG s l row)) := by
  cases hr : nameG s l row with
  | ok v => exact c_name_ok ad cap l ad2 cap2 row s v hlr hr hl w0 h0 hv hb hb2
  | error x => exact c_name_err ad cap l ad2 cap2 row s x hlr hr hl w0 h0 hv hb hb2
theorem c_truths (op : Int) (a b : Val) (w0 : World) (h0 : View) (hv : VLe h0 (Full w0)) : Calls Tryz.prog 154 #[.int .i64 op, .agg (valC a).toArray, .agg (valC b).toArray] w0 (RetE w0 h0 (trusE op a b)) := by
  cases hr : trusE op a b with
  | ok v => exact c_truths_ok op a b v hr w0 h0 hv
  | error x => exact c_truths_err op a b x hr w0 h0 hv
theorem c_compares (op : Int) (a b : Val) (w0 : World) (h0 : View) (hv : VLe h0 (Full w0)) : Calls Tryz.prog 155 #[.int .i64 op, .agg (valC a).toArray, .agg (valC b).toArray] w0 (RetE w0 h0 (cmpE op a b)) := by
  cases hr : cmpE op a b with
  | ok v => exact c_compares_ok op a b v hr w0 h0 hv
  | error x => exact c_compares_err op a b x hr w0 h0 hv
set_option maxHeartbeats 2000000 in
theorem c_eval (ad : Option Addr) (cap : Nat) (l : List Col) (ad2 : Option Addr) (cap2 : Nat) (row : List Val) (hlr : l.length = row.length) (hl : l.length ≤ 1000000) (hrow : ∀ v ∈ row, okV v) (h0 : View)
    (hb : SlC 70 3 (flatR colC) h0 (.slice ad l.length cap) l) (hb2 : SlC 35 3 (flatR valC) h0 (.slice ad2 row.length cap2) row) : ∀ (k : Nat) (x : Ex) (ax : Option Addr) (cx : Nat),
    RX h0 (exC x.op x.v x.s (.slice ax x.l.length cx)) x → rightS x = true → SizeOf.sizeOf x < k → ∀ w0 : World, VLe h0 (Full w0) →
    Calls Tryz.prog 115 #[.agg (scC ad l.length cap ad2 row.length cap2).toArray, .agg (exC x.op x.v x.s (.slice ax x.l.length cx)).toArray] w0 (RetE w0 h0 (evX l row k x)) := by
  intro k
  induction k with
  | zero => intro x ax cx hx hr hk; omega
  | succ k ih =>
    intro x ax cx hx hr hk w0 hv
    obtain ⟨_, _, _, _, ho, hvb, hxl⟩ := hx.xl
    refine entX (r := evX l row (k + 1) x) (args := [.agg (scC ad l.length cap ad2 row.length cap2).toArray, .agg (exC x.op x.v x.s (.slice ax x.l.length cx)).toArray]) TT_ok [1000006, 1000015, 1000016, 1000017] [] Tryz.func115 rfl Tryz.ntmps115 rfl rfl hv ?_
    intro b2 b3 b4
    refine cnd (fun h1 => ?_) (fun h1 => ?_)
    · exact ⟨x.v, by rw [evX, if_pos h1], rfl⟩
    refine cnd (fun h2 => ?_) (fun h2 => ?_)
    · refine cX TT_ok (fun w hw => c_name ad cap l ad2 cap2 row x.s hlr hl w h0 hw hb hb2) (fun y hy => ⟨y, by rw [evX, if_neg h1, if_pos h2, hy], rfl⟩) (fun v hy => ?_)
      exact ⟨v, by rw [evX, if_neg h1, if_pos h2, hy], rfl⟩
    obtain ⟨hop, hlen, hch⟩ := right_sub hr h1 h2
    have hc := cnt_pos hop
    have IH : ∀ i, i < x.l.length → ∀ a2 c2, RX h0 (exC (x.l.getD i ex0).op (x.l.getD i ex0).v (x.l.getD i ex0).s (.slice a2 (x.l.getD i ex0).l.length c2)) (x.l.getD i ex0) → ∀ w, VLe h0 (Full w) →
        Calls Tryz.prog 115 #[.agg (scC ad l.length cap ad2 row.length cap2).toArray, .agg (exC (x.l.getD i ex0).op (x.l.getD i ex0).v (x.l.getD i ex0).s (.slice a2 (x.l.getD i ex0).l.length c2)).toArray] w (RetE w h0 (evX l row k (x.l.getD i ex0))) := fun i hi a2 c2 hx2 w hw =>
      ih _ a2 c2 hx2 (hch _ (getD_mem x.l i ex0 hi)) (by have := Ex.lt (getD_mem x.l i ex0 hi); omega) w hw
    have good : ∀ i, i < x.l.length → ∀ v, evX l row k (x.l.getD i ex0) = .ok v → okV v := fun i hi v e => by
      obtain ⟨_, _, cs', _, hx', _⟩ := hxl.at hi
      exact evX_good hrow k _ cs' v hx' (hch _ (getD_mem x.l i ex0 hi)) e
    have ev1 : evX l row (k + 1) x = match evX l row k (x.l.getD 0 ex0) with
      | .error e => .error e
      | .ok a =>
        if x.op = 3 then (match ofG 1 [a] false with
          | .error e => .error e
          | .ok true => .ok a
          | .ok false => numR (ovr (0 - a.n)))
        else if x.op = 16 then (match ofG 3 [a] false with
          | .error e => .error e
          | .ok _ => if a = truV true then evX l row k (x.l.getD 1 ex0) else evX l row k (x.l.getD 2 ex0))
        else match evX l row k (x.l.getD 1 ex0) with
          | .error e => .error e
          | .ok b =>
            if x.op = 4 ∨ x.op = 5 ∨ x.op = 6 ∨ x.op = 7 then sumsE x.op a b
            else if x.op = 14 ∨ x.op = 15 then trusE x.op a b
            else cmpE x.op a b := by rw [evX, if_neg h1, if_neg h2]; rfl
    cases ha : evX l row k (x.l.getD 0 ex0) with
    | error y =>
      rw [ha] at ev1
      refine regPA TT_ok 5 (ch := ech y) ⟨y, ev1, rfl⟩ ?_
      refine ixx hxl 0 (fun a2 c2 hx2 => ?_)
      exact ⟨_, rfl, fun w hS => RetE.err (IH 0 (by omega) a2 c2 hx2 w hS.st.base) ha⟩
    | ok a =>
      rw [ha] at ev1
      have ga := good 0 (by omega) a ha
      simp only at ev1
      refine regA TT_ok 6 ?_
      refine ixx hxl 0 (fun a2 c2 hx2 => ?_)
      refine cb (fun w hw => RetE.ok (IH 0 (by omega) a2 c2 hx2 w hw) ha) ?_
      intro b5
      refine cnd (fun h3 => ?_) (fun h3 => ?_)
      · rw [if_pos h3] at ev1
        intro b30
        refine cXo TT_ok (r := ofG 1 [a] false) (fun w hS => ⟨_, c_of 1 _ 1 [a] (by simp) w (Full w) (VLe.refl _) (hS.row (k := 30) (l := [a]) (g := valC) (hk := rfl) (hcs := rfl) (hc := Nat.le_refl 1))⟩) (fun y hy => ⟨y, by rw [ev1, hy], rfl⟩) (fun nl hy => ?_)
        rw [hy] at ev1
        refine cnd (fun h4 => ?_) (fun h4 => ?_)
        · subst h4
          exact ⟨a, ev1, rfl⟩
        · subst h4
          refine cl (c_ESub 0 a.n ⟨by decide, by decide⟩ ga.2.2) ?_
          refine cX TT_ok (fun w hw => c_evNumber _ _ w h0 hw) (fun y hy => ⟨y, by rw [ev1]; exact hy, rfl⟩) (fun v hy => ?_)
          exact ⟨v, by rw [ev1]; exact hy, rfl⟩
      rw [if_neg h3] at ev1
      refine cnd (fun h4 => ?_) (fun h4 => ?_)
      · rw [if_pos h4] at ev1
        have hl3 := hc.2.2.2 h4
        intro b42
        refine cXo TT_ok (r := ofG 3 [a] false) (fun w hS => ⟨_, c_of 3 _ 1 [a] (by simp) w (Full w) (VLe.refl _) (hS.row (k := 42) (l := [a]) (g := valC) (hk := rfl) (hcs := rfl) (hc := Nat.le_refl 1))⟩) (fun y hy => ⟨y, by rw [ev1, hy], rfl⟩) (fun nl hy => ?_)
        rw [hy] at ev1
        simp only at ev1
        refine And.intro (by kernel_rfl) ?_
        refine cl (c_truth true) ?_
        refine aq eqV a (truV true) ?_
        refine cnd (A := CP _ _ _ _ _ _ _ _) (C := CP _ _ _ _ _ _ _ _) (fun h5 => ?_) (fun h5 => ?_)
        · rw [if_pos h5] at ev1
          cases hb1 : evX l row k (x.l.getD 1 ex0) with
          | error y =>
            refine regP TT_ok 5 (ch := ech y) ⟨y, by rw [ev1, hb1], rfl⟩ ?_
            refine ixx hxl 1 (fun a2 c2 hx2 => ?_)
            exact ⟨_, rfl, fun w hS => RetE.err (IH 1 (by omega) a2 c2 hx2 w hS.st.base) hb1⟩
          | ok b =>
            refine regD TT_ok ?_
            refine And.intro (by kernel_rfl) ?_
            refine ixx hxl 1 (fun a2 c2 hx2 => ?_)
            refine cb (fun w hw => RetE.ok (IH 1 (by omega) a2 c2 hx2 w hw) hb1) ?_
            exact ⟨b, by rw [ev1, hb1], rfl⟩
        · rw [if_neg h5] at ev1
          cases hb1 : evX l row k (x.l.getD 2 ex0) with
          | error y =>
            refine regP TT_ok 5 (ch := ech y) ⟨y, by rw [ev1, hb1], rfl⟩ ?_
            refine ixx hxl 2 (fun a2 c2 hx2 => ?_)
            exact ⟨_, rfl, fun w hS => RetE.err (IH 2 (by omega) a2 c2 hx2 w hS.st.base) hb1⟩
          | ok b =>
            refine regD TT_ok ?_
            refine And.intro (by kernel_rfl) ?_
            refine ixx hxl 2 (fun a2 c2 hx2 => ?_)
            refine cb (fun w hw => RetE.ok (IH 2 (by omega) a2 c2 hx2 w hw) hb1) ?_
            exact ⟨b, by rw [ev1, hb1], rfl⟩
      rw [if_neg h4] at ev1
      have hl2 := hc.2.2.1 (by omega)
      cases hb1 : evX l row k (x.l.getD 1 ex0) with
      | error y =>
        rw [hb1] at ev1
        refine regPA TT_ok 5 (ch := ech y) ⟨y, ev1, rfl⟩ ?_
        refine ixx hxl 1 (fun a2 c2 hx2 => ?_)
        exact ⟨_, rfl, fun w hS => RetE.err (IH 1 (by omega) a2 c2 hx2 w hS.st.base) hb1⟩
      | ok b =>
        rw [hb1] at ev1
        have gb := good 1 (by omega) b hb1
        simp only at ev1
        refine regA TT_ok 6 ?_
        refine ixx hxl 1 (fun a2 c2 hx2 => ?_)
        refine cb (fun w hw => RetE.ok (IH 1 (by omega) a2 c2 hx2 w hw) hb1) ?_
        intro b6
        refine cnd (fun h5 => ?_) (fun h5 => ?_)
        · refine cndT (decide_eq_true h5) ?_
          refine cX TT_ok (fun w hw => c_sums x.op a b ga.2.2 gb.2.2 (by have := len_of ga; omega) (by have := len_of gb; omega) w h0 hw) (fun y hy => ⟨y, by rw [ev1, if_pos (by omega)]; exact hy, rfl⟩) (fun v hy => ?_)
          exact ⟨v, by rw [ev1, if_pos (by omega)]; exact hy, rfl⟩
        refine cnd (fun h6 => ?_) (fun h6 => ?_)
        · refine cndT (decide_eq_true h6) ?_
          refine cX TT_ok (fun w hw => c_sums x.op a b ga.2.2 gb.2.2 (by have := len_of ga; omega) (by have := len_of gb; omega) w h0 hw) (fun y hy => ⟨y, by rw [ev1, if_pos (by omega)]; exact hy, rfl⟩) (fun v hy => ?_)
          exact ⟨v, by rw [ev1, if_pos (by omega)]; exact hy, rfl⟩
        refine cnd (fun h7 => ?_) (fun h7 => ?_)
        · refine cndT (decide_eq_true h7) ?_
          refine cX TT_ok (fun w hw => c_sums x.op a b ga.2.2 gb.2.2 (by have := len_of ga; omega) (by have := len_of gb; omega) w h0 hw) (fun y hy => ⟨y, by rw [ev1, if_pos (by omega)]; exact hy, rfl⟩) (fun v hy => ?_)
          exact ⟨v, by rw [ev1, if_pos (by omega)]; exact hy, rfl⟩
        refine cnd (fun h8 => ?_) (fun h8 => ?_)
        · refine cX TT_ok (fun w hw => c_sums x.op a b ga.2.2 gb.2.2 (by have := len_of ga; omega) (by have := len_of gb; omega) w h0 hw) (fun y hy => ⟨y, by rw [ev1, if_pos (by omega)]; exact hy, rfl⟩) (fun v hy => ?_)
          exact ⟨v, by rw [ev1, if_pos (by omega)]; exact hy, rfl⟩
        refine cnd (fun h9 => ?_) (fun h9 => ?_)
        · refine cndT (decide_eq_true h9) ?_
          refine cX TT_ok (fun w hw => c_truths x.op a b w h0 hw) (fun y hy => ⟨y, by rw [ev1, if_neg (by omega), if_pos (by omega)]; exact hy, rfl⟩) (fun v hy => ?_)
          exact ⟨v, by rw [ev1, if_neg (by omega), if_pos (by omega)]; exact hy, rfl⟩
        refine cnd (fun h10 => ?_) (fun h10 => ?_)
        · refine cX TT_ok (fun w hw => c_truths x.op a b w h0 hw) (fun y hy => ⟨y, by rw [ev1, if_neg (by omega), if_pos (by omega)]; exact hy, rfl⟩) (fun v hy => ?_)
          exact ⟨v, by rw [ev1, if_neg (by omega), if_pos (by omega)]; exact hy, rfl⟩
        refine cX TT_ok (fun w hw => c_compares x.op a b w h0 hw) (fun y hy => ⟨y, by rw [ev1, if_neg (by omega), if_neg (by omega)]; exact hy, rfl⟩) (fun v hy => ?_)
        exact ⟨v, by rw [ev1, if_neg (by omega), if_neg (by omega)]; exact hy, rfl⟩
end Go.Proofs.YtkjhlfleojcgjaaGreatDoor
