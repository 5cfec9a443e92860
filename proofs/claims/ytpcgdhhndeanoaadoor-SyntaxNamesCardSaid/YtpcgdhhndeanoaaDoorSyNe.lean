/- Laws of walks, and what functions of the program compute: part 5. Each with the conditions that it names. -/
import Derived.Test.YtpcgdhhndeanoaaDoorRows
import Derived.Test.YtpcgdhhndeanoaaDoorProg
import Derived.Shelf.Strings.Builder1
import Derived.Shelf.Strconv.Itoa0
import Derived.Shelf.Strconv.Itoa1
import Derived.Shelf.LaysM
import Derived.Shelf.Strconv.Itoa2
import Derived.Shelf.Strconv.Itoa3
import Derived.Lib.AppendIntMem
import Derived.Lib.LaidTab
import Derived.Lib.ItoaLen
import Derived.Sort.Grow
import Derived.LaidSub
import Derived.Test.YtpcgdhhndeanoaaDoorSyNd
set_option linter.unusedSimpArgs false
set_option linter.unusedVariables false
namespace Go.Proofs.YtpcgdhhndeanoaaDoor
open Go Go.Dx Go.RowKit Go.ChangeShapes Go.WideShapes Go.ChangeAt
section
variable {H : Type} {enc : TypeId × Value → H} {W : World}
theorem sl_map {α : Type} {T sz : Nat} {h : View} {v : Value} {n : Nat} {c : Nat → List Value} {f : α → List Value} {g : Nat → α} (hs : SlC T sz (flatR c) h v (List.range n)) (hc : ∀ i, i < n → c i = f (g i)) : SlC T sz (flatR f) h v ((List.range n).map g) := by
  obtain ⟨a, cap, hv, h1, h2, h3⟩ := hs
  refine ⟨a, cap, by simpa using hv, by simpa using h1, h2, fun hne => ?_⟩
  obtain ⟨gb, off, arr, fz, ha, hg, hx⟩ := h3 (by intro e; rw [e] at hne; exact hne rfl)
  refine ⟨gb, off, arr, fz, ha, hg, fun i x hi => ?_⟩
  have hin : i < n := by have := (List.getElem?_eq_some_iff.1 hi).1; simpa using this
  have hxe : x = g i := by simp [hin] at hi; exact hi.symm
  obtain ⟨cs, c1, c2, c3⟩ := hx i i (by simp [hin])
  have c2' : cs = c i := c2
  exact ⟨cs, c1, by show cs = f x; rw [c2', hxe, hc i hin], c3⟩
end
def laidL : List (String × DataW Unit) := [("math/bits.deBruijn32tab", Rows.laid_math_bits_deBruijn32tab), ("math/bits.deBruijn64tab", Rows.laid_math_bits_deBruijn64tab), ("internal/strconv.uint64pow10", Rows.laid_internal_strconv_uint64pow10)]
theorem door_met (os : Os) (args : Array Value) : laidMetH Tryd.prog laidL ((World.doorLaid Tryd.prog 400 os).forCall (fun _ _ => 0) ⟨#[], args, []⟩).memory :=
  laidMetH_of_parts3 (fuel := 8) (laidMet_of_run' 8 (by kernel_rfl) (by kernel_rfl)) (by kernel_rfl) (by kernel_rfl)
end Go.Proofs.YtpcgdhhndeanoaaDoor
namespace Go.Proofs.YtpcgdhhndeanoaaDoor
open Go Go.Dx Go.RowKit Go.ChangeShapes Go.WideShapes Go.ChangeAt
section
variable {H : Type} {enc : TypeId × Value → H} {W : World}
theorem open_valC {fuel : Nat} {cs : List Value} {x : DataW H × List MemPlace} (h : DataW.trod enc Tryd.prog W 0 (fun _ => true) true fuel 26 cs = some x) : ∃ v : Val, cs = valC v ∧ valB v ∧ v.s.length ≤ 9223372036854775807 := by
  obtain ⟨hl, n0, y0, _, h0⟩ := trod_at (FldIs.of (P := Tryd.prog) (t := 26) (i := 0) (off := 0) (ty := 24) (sz := 1) (by kernel_rfl)) h
  obtain ⟨_, n1, y1, _, h1⟩ := trod_at (FldIs.of (P := Tryd.prog) (t := 26) (i := 1) (off := 1) (ty := 3) (sz := 1) (by kernel_rfl)) h
  obtain ⟨_, n2, y2, _, h2⟩ := trod_at (FldIs.of (P := Tryd.prog) (t := 26) (i := 2) (off := 2) (ty := 9) (sz := 1) (by kernel_rfl)) h
  have hl' : cs.length = 3 := hl.trans (by kernel_rfl)
  match cs, hl' with
  | [a, b, c], _ =>
    obtain ⟨k, e0, b0⟩ := trod_i (by kernel_rfl) h0
    obtain ⟨m, e1, b1⟩ := trod_i (by kernel_rfl) h1
    obtain ⟨s, e2, l2⟩ := trod_s (by kernel_rfl) h2
    simp at e0 e1 e2
    subst e0 e1 e2
    exact ⟨⟨k, m, s⟩, rfl, ⟨b0, b1⟩, l2⟩
theorem open_exC : ∀ (fuel : Nat) (cs : List Value) (x : DataW H × List MemPlace), DataW.trod enc Tryd.prog W 0 (fun _ => true) true fuel 29 cs = some x → ∃ y : Ex, RX (Full W) cs y := by
  intro fuel
  induction fuel using Nat.strongRecOn with
  | _ fuel ih =>
    intro cs x h
    obtain ⟨hl, n0, y0, _, h0⟩ := trod_at (FldIs.of (P := Tryd.prog) (t := 29) (i := 0) (off := 0) (ty := 23) (sz := 1) (by kernel_rfl)) h
    obtain ⟨_, n1, y1, _, h1⟩ := trod_at (FldIs.of (P := Tryd.prog) (t := 29) (i := 1) (off := 1) (ty := 26) (sz := 3) (by kernel_rfl)) h
    obtain ⟨_, n2, y2, _, h2⟩ := trod_at (FldIs.of (P := Tryd.prog) (t := 29) (i := 2) (off := 4) (ty := 9) (sz := 1) (by kernel_rfl)) h
    obtain ⟨_, n3, y3, hn3, h3⟩ := trod_at (FldIs.of (P := Tryd.prog) (t := 29) (i := 3) (off := 5) (ty := 27) (sz := 1) (by kernel_rfl)) h
    have hl' : cs.length = 6 := hl.trans (by kernel_rfl)
    match cs, hl' with
    | [a, b, c, d, e, f], _ =>
      obtain ⟨op, e0, b0⟩ := trod_i (by kernel_rfl) h0
      obtain ⟨v, e1, b1, _⟩ := open_valC h1
      obtain ⟨s, e2, _⟩ := trod_s (by kernel_rfl) h2
      obtain ⟨ad, cap, n, cc, e3, hs, hk⟩ := open_sl (sz := 6) (t := 27) (e := 29) (by kernel_rfl) (by kernel_rfl) (by decide) (show DataW.trod enc Tryd.prog W 0 (fun _ => true) true n3 27 [f] = some y3 from h3)
      have kids : ∀ i, i < n → ∃ y : Ex, RX (Full W) (cc i) y := fun i hi => by
        obtain ⟨m, z, hm, hz⟩ := hk i hi
        exact ih m (Nat.lt_trans hm hn3) (cc i) z hz
      have : Inhabited Ex := ⟨ex0⟩
      obtain ⟨g, hg⟩ := Go.Deep.choose_lt kids
      simp [valC] at e0 e1 e2
      obtain ⟨rfl, rfl, rfl⟩ := e1
      subst e0 e2 e3
      have hlen : ((List.range n).map g).length = n := by simp
      have := RX.mk (h := Full W) op v s ((List.range n).map g) ad cap cc ⟨b0, b1⟩ (by rw [hlen]; exact hs) (fun i y hi => by
        have hin : i < n := by have := (List.getElem?_eq_some_iff.1 hi).1; simpa using this
        have : y = g i := by simp [hin] at hi; exact hi.symm
        subst this; exact hg i hin)
      rw [hlen] at this
      exact ⟨_, this⟩
set_option maxRecDepth 100000 in
theorem open_val {v : Value} {d : DataW H} {ps : List MemPlace} {b0 : Nat} (hok : Value.okWide Tryd.prog W .any b0 26 v) (h : DataW.Trod enc Tryd.prog W 0 (fun _ => true) true 26 v d ps) : ∃ x : Val, v = .agg (valC x).toArray ∧ valB x ∧ x.s.length ≤ 9223372036854775807 := by
  obtain ⟨fs, _, hu, _⟩ := (FldIs.of (P := Tryd.prog) (t := 26) (i := 0) (off := 0) (ty := 24) (sz := 1) (by kernel_rfl))
  obtain ⟨cs, rfl, _⟩ := okWide_struct (P := Tryd.prog) (t := 26) hu hok
  obtain ⟨fuel, hf⟩ := h
  obtain ⟨x, hx, hb⟩ := open_valC hf
  refine ⟨x, ?_, hb⟩
  congr 1
  apply Array.toList_inj.1; simpa [Value.cells] using hx
set_option maxRecDepth 100000 in
theorem open_expr {v : Value} {d : DataW H} {ps : List MemPlace} {b0 : Nat} (hok : Value.okWide Tryd.prog W .any b0 29 v) (h : DataW.Trod enc Tryd.prog W 0 (fun _ => true) true 29 v d ps) :
    ∃ (x : Ex) (ad : Option Addr) (cap : Nat), v = .agg (exC x.op x.v x.s (.slice ad x.l.length cap)).toArray ∧ i64 x.op ∧ valB x.v ∧ XL (Full W) ad cap x.l := by
  obtain ⟨fs, _, hu, _⟩ := (FldIs.of (P := Tryd.prog) (t := 29) (i := 0) (off := 0) (ty := 23) (sz := 1) (by kernel_rfl))
  obtain ⟨cs, rfl, _⟩ := okWide_struct (P := Tryd.prog) (t := 29) hu hok
  obtain ⟨fuel, hf⟩ := h
  obtain ⟨x, hx⟩ := open_exC fuel _ _ hf
  obtain ⟨ad, cap, e, h1, h2, h3⟩ := hx.inv
  refine ⟨x, ad, cap, ?_, h1, h2, h3⟩
  congr 1
  apply Array.toList_inj.1; simpa [Value.cells] using e
end
end Go.Proofs.YtpcgdhhndeanoaaDoor
set_option maxRecDepth 100000
namespace Go.Proofs.YtpcgdhhndeanoaaDoor
open Go Go.Dx Go.RowKit
def TT : Tab := ⟨[(2, ⟨.int .i64, 1, false, [.int .i64 0]⟩),
  (3, ⟨.int .i64, 1, false, [.int .i64 0]⟩),
  (4, ⟨.bool, 1, false, [.bool false]⟩),
  (5, ⟨.int .u8, 1, false, [.int .u8 0]⟩),
  (9, ⟨.str, 1, false, [vs []]⟩),
  (21, ⟨.int .i32, 1, false, [.int .i32 0]⟩),
  (23, ⟨.int .i64, 1, false, [.int .i64 0]⟩),
  (24, ⟨.int .i64, 1, false, [.int .i64 0]⟩),
  (26, ⟨.st [(0, 1, false), (1, 1, false), (2, 1, false)], 3, true, [.int .i64 0, .int .i64 0, vs []]⟩),
  (27, ⟨.sl 29 6, 1, false, [.slice none 0 0]⟩),
  (29, ⟨.st [(0, 1, false), (1, 3, true), (4, 1, false), (5, 1, false)], 6, true, [.int .i64 0, .int .i64 0, .int .i64 0, vs [], vs [], .slice none 0 0]⟩),
  (30, ⟨.int .i64, 1, false, [.int .i64 0]⟩),
  (35, ⟨.ot, 1, false, [.nilFunc]⟩),
  (36, ⟨.ot, 1, false, [.nilFunc]⟩),
  (37, ⟨.st [(0, 1, false), (1, 3, true), (4, 1, false), (5, 1, false)], 6, true, [.int .i64 0, .int .i64 0, .int .i64 0, vs [], vs [], .slice none 0 0]⟩),
  (40, ⟨.ot, 1, false, [.nilFunc]⟩),
  (43, ⟨.sl 50 4, 1, false, [.slice none 0 0]⟩),
  (46, ⟨.sl 9 1, 1, false, [.slice none 0 0]⟩),
  (48, ⟨.int .i64, 1, false, [.int .i64 0]⟩),
  (50, ⟨.st [(0, 1, false), (1, 1, false), (2, 1, false), (3, 1, false)], 4, true, [.int .i64 0, vs [], .int .i64 0, .int .i64 0]⟩),
  (56, ⟨.ot, 1, false, [.pointer none]⟩),
  (57, ⟨.ot, 1, false, [.pointer none]⟩),
  (58, ⟨.sl 5 1, 1, false, [.slice none 0 0]⟩),
  (60, ⟨.st [(0, 1, false), (1, 1, false)], 2, true, [.pointer none, .slice none 0 0]⟩),
  (62, ⟨.st [(0, 2, true)], 2, true, [.pointer none, .slice none 0 0]⟩),
  (68, ⟨.st [(0, 4, true), (4, 1, false)], 5, true, [.int .i64 0, vs [], .int .i64 0, .int .i64 0, .int .i64 0]⟩),
  (75, ⟨.ot, 1, false, [.pointer none]⟩),
  (77, ⟨.st [(0, 1, false), (1, 1, false), (2, 1, false)], 3, true, [.slice none 0 0, .int .i64 0, .bool false]⟩),
  (81, ⟨.ot, 1, false, [.pointer none]⟩),
  (83, ⟨.st [(0, 1, false), (1, 1, false), (2, 1, false)], 3, true, [.slice none 0 0, .int .i64 0, .bool false]⟩),
  (93, ⟨.ar 3 9 1, 3, true, [vs [], vs [], vs []]⟩),
  (95, ⟨.st [(0, 1, false), (1, 1, false), (2, 1, false)], 3, true, [.int .i64 0, vs [], .int .i64 0]⟩),
  (97, ⟨.ot, 1, false, [.pointer none]⟩),
  (98, ⟨.ot, 1, false, [.nilFunc]⟩),
  (111, ⟨.sl 95 3, 1, false, [.slice none 0 0]⟩),
  (119, ⟨.ot, 1, false, [.pointer none]⟩),
  (124, ⟨.ar 24 5 1, 24, true, [.int .u8 0, .int .u8 0, .int .u8 0, .int .u8 0, .int .u8 0, .int .u8 0, .int .u8 0, .int .u8 0, .int .u8 0, .int .u8 0, .int .u8 0, .int .u8 0, .int .u8 0, .int .u8 0, .int .u8 0, .int .u8 0, .int .u8 0, .int .u8 0, .int .u8 0, .int .u8 0, .int .u8 0, .int .u8 0, .int .u8 0, .int .u8 0]⟩),
  (125, ⟨.int .u64, 1, false, [.int .u64 0]⟩),
  (130, ⟨.int .u32, 1, false, [.int .u32 0]⟩),
  (133, ⟨.ar 20 125 1, 20, true, [.int .u64 0, .int .u64 0, .int .u64 0, .int .u64 0, .int .u64 0, .int .u64 0, .int .u64 0, .int .u64 0, .int .u64 0, .int .u64 0, .int .u64 0, .int .u64 0, .int .u64 0, .int .u64 0, .int .u64 0, .int .u64 0, .int .u64 0, .int .u64 0, .int .u64 0, .int .u64 0]⟩),
  (136, ⟨.int .u64, 1, false, [.int .u64 0]⟩),
  (139, ⟨.ar 32 5 1, 32, true, [.int .u8 0, .int .u8 0, .int .u8 0, .int .u8 0, .int .u8 0, .int .u8 0, .int .u8 0, .int .u8 0, .int .u8 0, .int .u8 0, .int .u8 0, .int .u8 0, .int .u8 0, .int .u8 0, .int .u8 0, .int .u8 0, .int .u8 0, .int .u8 0, .int .u8 0, .int .u8 0, .int .u8 0, .int .u8 0, .int .u8 0, .int .u8 0, .int .u8 0, .int .u8 0, .int .u8 0, .int .u8 0, .int .u8 0, .int .u8 0, .int .u8 0, .int .u8 0]⟩)], [7, 8, 9, 10, 11, 12, 13, 14, 15, 16, 17, 18, 19, 20, 21, 22, 23, 24, 25, 26, 27, 28, 29, 30, 31, 32, 33, 34, 35, 36, 37, 38, 39, 40, 41, 42, 43, 44, 45, 46, 47, 48, 49, 50, 51, 52, 53, 54, 55, 56, 57, 58, 59, 60, 61, 62, 63, 64, 65, 66, 67, 68, 69, 70, 71, 72, 73, 74, 75, 76, 77, 78, 79, 80, 81, 82, 83, 84, 85, 86, 87, 88, 89, 91, 92, 93, 94, 95, 96, 97, 98, 99, 100, 101, 102, 103, 104, 105, 106, 107, 108, 109]⟩
theorem TT_ok : Tab.Ok Tryd.prog TT := ⟨by kernel_rfl, by kernel_rfl, by kernel_rfl⟩
theorem pow_fol : Tryd.prog.follows .mixedOrders = true := by kernel_rfl

end Go.Proofs.YtpcgdhhndeanoaaDoor
set_option maxRecDepth 100000
namespace Go.Proofs.YtpcgdhhndeanoaaDoor
open Go Go.Dx Go.RowKit
theorem c_letter (b : UInt8) (w0 : World) (h0 : View) (hv : VLe h0 (Full w0)) : Calls Tryd.prog 47 #[v8 b] w0 (Ret w0 h0 fun u _ => u = .bool (isLet b)) := by
  refine ent (args := [v8 b]) TT_ok [] [] Tryd.func47 rfl Tryd.ntmps47 rfl rfl hv ?_
  refine ew (low b) rfl ?_
  refine ew (low b) (fun _ => rfl) ?_
  exact rfl
theorem c_digit (b : UInt8) (w0 : World) (h0 : View) (hv : VLe h0 (Full w0)) : Calls Tryd.prog 49 #[v8 b] w0 (Ret w0 h0 fun u _ => u = .bool (isDig b)) := by
  refine ent (args := [v8 b]) TT_ok [] [] Tryd.func49 rfl Tryd.ntmps49 rfl rfl hv ?_
  exact rfl
set_option maxRecDepth 100000 in
theorem c_Rletter' (b : UInt8) (w0 : World) (h0 : View) (hv : VLe h0 (Full w0)) : Calls Tryd.prog 62 #[v8 b] w0 (Ret w0 h0 fun u _ => u = .bool (decide (97 ≤ (b.toNat : Int)) && decide ((b.toNat : Int) ≤ 122) || decide (65 ≤ (b.toNat : Int)) && decide ((b.toNat : Int) ≤ 90) || decide ((b.toNat : Int) = 95))) := by
  refine ent (args := [v8 b]) TT_ok [] [] Tryd.func62 rfl Tryd.ntmps62 rfl rfl hv ?_
  exact rfl
theorem c_Rletter (b : UInt8) (w0 : World) (h0 : View) (hv : VLe h0 (Full w0)) : Calls Tryd.prog 62 #[v8 b] w0 (Ret w0 h0 fun u _ => u = .bool (isLet b)) := by
  have := c_Rletter' b w0 h0 hv
  rw [← isLet_ref] at this
  exact this
theorem c_Rdigit (b : UInt8) (w0 : World) (h0 : View) (hv : VLe h0 (Full w0)) : Calls Tryd.prog 64 #[v8 b] w0 (Ret w0 h0 fun u _ => u = .bool (isDig b)) := by
  refine ent (args := [v8 b]) TT_ok [] [] Tryd.func64 rfl Tryd.ntmps64 rfl rfl hv ?_
  exact rfl
theorem c_word1 (b : UInt8) (w0 : World) (h0 : View) (hv : VLe h0 (Full w0)) : Calls Tryd.prog 57 #[v8 b] w0 (Ret w0 h0 fun u _ => u = .bool (isWord b)) := by
  refine ent (args := [v8 b]) TT_ok [] [] Tryd.func57 rfl Tryd.ntmps57 rfl rfl hv ?_
  refine cl (c_letter b) ?_
  refine clg (fun _ => c_digit b) ?_
  exact rfl
theorem all_snocW {p : UInt8 → Bool} {s : List UInt8} {k : Nat} (hk : k < s.length) (ha : (s.take k).all p = true) (h : p (s.getD k 0) = true) : (s.take (k + 1)).all p = true := by
  rw [take_snocD s k 0 hk, List.all_append, ha]; simp only [List.all_cons, h, List.all_nil, Bool.and_self]
theorem c_runW (s : List UInt8) (hs : s.length ≤ 1000000) (w0 : World) (h0 : View) (hv : VLe h0 (Full w0)) : Calls Tryd.prog 56 #[vs s, .func (.func 57) #[] #[]] w0 (Ret w0 h0 fun u _ => u = .int .i64 ((s.takeWhile isWord).length : Nat)) := by
  refine ent (args := [vs s, .func (.func 57) #[] #[]]) TT_ok [] [] Tryd.func56 rfl Tryd.ntmps56 rfl rfl hv ?_
  refine w_loop TT_ok (fun k : Nat => [(8, .v (.int .i64 k))]) 0 (fun k => k ≤ s.length ∧ (s.take k).all isWord = true) (fun k => s.length - k) ?_
  refine And.intro ⟨⟨Nat.zero_le _, by simp⟩, gs⟩ ?_
  intro k ⟨hk, ha⟩
  refine cnd (fun h => ?_) (fun h => ?_)
  · refine ix k ?_
    refine cl (c_word1 (s.getD k 0)) ?_
    refine cnd (fun h1 => ?_) (fun h1 => ?_)
    · show Value.int .i64 (k : Int) = _
      rw [tw_len isWord s k ha hk (.inr h1)]
    · refine wi ?_
      exact ⟨k + 1, ⟨⟨by omega, all_snocW (by omega) ha h1⟩, by omega⟩, gs⟩
  · show Value.int .i64 (s.length : Int) = _
    rw [tw_len isWord s k ha hk (.inl (by omega))]
    rw [show k = s.length by omega]
theorem word_emp {s : List UInt8} (h : s = [] ∨ isLet (s.getD 0 0) = false) : wordN s = 0 := wordN_zero s h
theorem c_word (s : List UInt8) (hs : s.length ≤ 1000000) (w0 : World) (h0 : View) (hv : VLe h0 (Full w0)) : Calls Tryd.prog 33 #[vs s] w0 (Ret w0 h0 fun u _ => u = .int .i64 (wordN s : Nat)) := by
  refine ent (args := [vs s]) TT_ok [] [] Tryd.func33 rfl Tryd.ntmps33 rfl rfl hv ?_
  refine ixg 0 ?_ (fun h => ⟨rfl, by rcases s with _ | ⟨b, s⟩ <;> simp_all⟩)
  refine clg (fun _ => c_letter (s.getD 0 0)) ?_
  refine cnd (fun h => ?_) (fun h => ?_)
  · show Value.int .i64 0 = _
    rw [wordN_zero s h]; rfl
  · refine cl (c_runW s hs) ?_
    show Value.int .i64 _ = _
    rw [wordN_pos s h.1 h.2]
theorem c_reserved (s : List UInt8) (w0 : World) (h0 : View) (hv : VLe h0 (Full w0)) : Calls Tryd.prog 34 #[vs s] w0 (Ret w0 h0 fun u _ => u = .bool (resS s)) := by
  refine ent (args := [vs s]) TT_ok [] [11] Tryd.func34 rfl Tryd.ntmps34 rfl rfl hv ?_
  refine w_cut TT_ok (fun _ : Unit => [(4, .v (.bool (resS s)))]) (fun _ => True) ?_
  refine And.intro ?_ ?_
  · repeat (refine cnd (fun h => ⟨(), trivial, gs (by subst h; rfl)⟩) (fun h => ?_))
    exact ⟨(), trivial, gs (by rw [show resS s = decide (s = [110, 117, 108, 108]) by simp_all [resS, resvL]]; rfl)⟩
  · intro _ _
    refine cnd (fun h => ?_) (fun h => ?_)
    · exact congrArg Value.bool h.symm
    · exact congrArg Value.bool h.symm
theorem c_Name (s : List UInt8) (hs : s.length ≤ 1000000) (w0 : World) (h0 : View) (hv : VLe h0 (Full w0)) : Calls Tryd.prog 18 #[vs s] w0 (Ret w0 h0 fun u _ => u = .bool (nameOk s)) := by
  refine ent (args := [vs s]) TT_ok [] [] Tryd.func18 rfl Tryd.ntmps18 rfl rfl hv ?_
  refine clg (fun _ => c_word s hs) ?_
  refine clg (fun _ => c_reserved s) ?_
  show Value.bool _ = _
  simp only [nameOk, Bool.and_assoc]
theorem c_Rword (s : List UInt8) (hs : s.length ≤ 1000000) (w0 : World) (h0 : View) (hv : VLe h0 (Full w0)) : Calls Tryd.prog 86 #[vs s] w0 (Ret w0 h0 fun u _ => u = .int .i64 (wordN s : Nat)) := by
  refine ent (args := [vs s]) TT_ok [] [] Tryd.func86 rfl Tryd.ntmps86 rfl rfl hv ?_
  refine w_loop TT_ok (fun k : Nat => [(3, .v (.int .i64 k))]) 0 (fun k => k ≤ s.length ∧ (s.take k).all isWord = true ∧ (k = 0 ∨ isLet (s.getD 0 0) = true)) (fun k => s.length - k) ?_
  refine And.intro ⟨⟨Nat.zero_le _, by simp, .inl rfl⟩, gs⟩ ?_
  intro k ⟨hk, ha, h0⟩
  refine ixg k ?_
  refine clg (fun _ => c_Rletter (s.getD k 0)) ?_
  refine ixg k ?_
  refine clg (fun _ => c_Rdigit (s.getD k 0)) ?_
  refine cnd (fun h => ?_) (fun h => ?_)
  · refine wi ?_
    refine ⟨k + 1, ⟨⟨by omega, all_snocW (by omega) ha ?_, ?_⟩, by omega⟩, gs⟩
    · rcases h.2 with h1 | h1
      · rw [isWord, h1, Bool.true_or]
      · rw [isWord, h1.2, Bool.or_true]
    · rcases h0 with rfl | h0
      · rcases h.2 with h1 | h1
        · exact .inr h1
        · exfalso; omega
      · exact .inr h0
  · show Value.int .i64 (k : Int) = _
    rw [word_end s k hk ha h0 (by
      rcases h with h1 | h1
      · exact .inl (by omega)
      · exact .inr ⟨h1.1, by rcases h1.2 with h2 | h2; exact .inl (by omega); exact .inr h2⟩)]
theorem c_RReserved (s : List UInt8) (w0 : World) (h0 : View) (hv : VLe h0 (Full w0)) : Calls Tryd.prog 95 #[vs s] w0 (Ret w0 h0 fun u _ => u = .bool (resS s)) := by
  refine ent (args := [vs s]) TT_ok [] [] Tryd.func95 rfl Tryd.ntmps95 rfl rfl hv ?_
  intro b
  refine shutC 5 (row_sl (g := fun s => [vs s]) (l := resvL) (sz := 1) (n := 9) (cp := 9) rfl) ?_ Mono.slF
  refine w_loop TT_ok (fun k : Nat => [(4, .v (.int .i64 k))]) 0 (fun k => k ≤ 9 ∧ ∀ j, j < k → ¬ resvL.getD j [] = s) (fun k => 9 - k) ?_
  refine And.intro ⟨⟨Nat.zero_le _, fun j hj => absurd hj (Nat.not_lt_zero j)⟩, gs⟩ ?_
  intro k ⟨hk, hn⟩
  have hlen : resvL.length = 9 := rfl
  refine cnd (fun h => ?_) (fun h => ?_)
  · refine ixf (l := resvL) (fun v hF => hF.2) k [] ?_ (by omega)
    refine cnd (fun h1 => ?_) (fun h1 => ?_)
    · show Value.bool true = _
      rw [show resS s = true by rw [resS, ← h1]; exact List.contains_iff_mem.2 (getD_mem resvL k [] (by omega))]
    · refine wi ?_
      refine ⟨k + 1, ⟨⟨by omega, fun j hj => ?_⟩, by omega⟩, gs⟩
      rcases Nat.lt_or_ge j k with h2 | h2
      · exact hn j h2
      · rw [show j = k by omega]; exact h1
  · show Value.bool false = _
    rw [show resS s = false by
      rw [resS, Bool.eq_false_iff]
      intro hc
      obtain ⟨j, hj⟩ := List.mem_iff_getElem?.1 (List.contains_iff_mem.1 hc)
      have hj9 : j < 9 := by have := (List.getElem?_eq_some_iff.1 hj).1; omega
      exact hn j (by omega) (by simp [List.getD, hj])]
set_option maxRecDepth 100000 in
theorem c_RName (s : List UInt8) (hs : s.length ≤ 1000000) (w0 : World) (h0 : View) (hv : VLe h0 (Full w0)) : Calls Tryd.prog 87 #[vs s] w0 (Ret w0 h0 fun u _ => u = .bool (nameOk s)) := by
  refine ent (args := [vs s]) TT_ok [] [] Tryd.func87 rfl Tryd.ntmps87 rfl rfl hv ?_
  refine clg (fun _ => c_Rword s hs) ?_
  refine clg (fun _ => c_RReserved s) ?_
  show Value.bool _ = _
  simp only [nameOk, Bool.and_assoc]

end Go.Proofs.YtpcgdhhndeanoaaDoor
set_option maxRecDepth 100000
namespace Go.Proofs.YtpcgdhhndeanoaaDoor
open Go Go.Dx Go.RowKit
theorem c_runD (s : List UInt8) (hs : s.length ≤ 1000000) (w0 : World) (h0 : View) (hv : VLe h0 (Full w0)) : Calls Tryd.prog 56 #[vs s, .func (.func 49) #[] #[]] w0 (Ret w0 h0 fun u _ => u = .int .i64 (digN s : Nat)) := by
  refine ent (args := [vs s, .func (.func 49) #[] #[]]) TT_ok [] [] Tryd.func56 rfl Tryd.ntmps56 rfl rfl hv ?_
  refine w_loop TT_ok (fun k : Nat => [(8, .v (.int .i64 k))]) 0 (fun k => k ≤ s.length ∧ (s.take k).all isDig = true) (fun k => s.length - k) ?_
  refine And.intro ⟨⟨Nat.zero_le _, by simp⟩, gs⟩ ?_
  intro k ⟨hk, ha⟩
  refine cnd (fun h => ?_) (fun h => ?_)
  · refine ix k ?_
    refine cl (c_digit (s.getD k 0)) ?_
    refine cnd (fun h1 => ?_) (fun h1 => ?_)
    · show Value.int .i64 (k : Int) = _
      rw [digN, tw_len isDig s k ha hk (.inr h1)]
    · refine wi ?_
      exact ⟨k + 1, ⟨⟨by omega, all_snocW (by omega) ha h1⟩, by omega⟩, gs⟩
  · show Value.int .i64 (s.length : Int) = _
    rw [digN, tw_len isDig s k ha hk (.inl (by omega))]
    rw [show k = s.length by omega]
theorem c_Lname (s : List UInt8) (hs : s.length ≤ 1000000) (w0 : World) (h0 : View) (hv : VLe h0 (Full w0)) : Calls Tryd.prog 48 #[vs s] w0 (Ret w0 h0 fun u _ => u = resA (nameS s)) := by
  refine ent (args := [vs s]) TT_ok [] [] Tryd.func48 rfl Tryd.ntmps48 rfl rfl hv ?_
  intro b2
  refine cl (c_word s hs) ?_
  refine cnd (fun h => ?_) (fun h => ?_)
  · rw [nameS, if_pos (by omega)]; exact rfl
  · have := wordN_le s
    refine ixl (wordN s) ?_
    rw [nameS, if_neg (by omega)]; exact rfl
theorem numF_lt (s : List UInt8) : ∀ (k v : Nat), k ≤ s.length → numF (s.take k) = some v → v ≤ 9223372036854775807
  | 0, v, _, h => by simp [numF] at h; omega
  | k + 1, v, hk, h => by
    rw [numF_snoc s k (by omega), numStep] at h
    cases ho : numF (s.take k) with
    | none => rw [ho] at h; cases h
    | some u =>
      rw [ho, Option.bind_some] at h
      split at h
      · cases h
      · rename_i hn
        cases h
        have := (s.getD k 0).toNat_lt
        omega
set_option maxHeartbeats 1000000 in
theorem c_number (s : List UInt8) (hs : s.length ≤ 1000000) (w0 : World) (h0 : View) (hv : VLe h0 (Full w0)) : Calls Tryd.prog 50 #[vs s] w0 (Ret w0 h0 fun u _ => u = resA (numS s)) := by
  refine ent (args := [vs s]) TT_ok [] [] Tryd.func50 rfl Tryd.ntmps50 rfl rfl hv ?_
  intro b2
  refine cl (c_runD s hs) ?_
  have hdl := digN_le s
  refine ixg 0 ?_ (fun h => ⟨rfl, by omega⟩)
  refine cnd (fun h => ?_) (fun h => ?_)
  · rw [numS, if_pos ⟨by omega, h.2⟩]; exact rfl
  · have hne : ¬ (1 < digN s ∧ ((s.getD 0 0).toNat : Int) = 48) := fun g => by rcases h with h | h; omega; exact h g.2
    refine w_loop TT_ok (fun z : Nat × Nat => [(5, .v (.int .i64 z.2)), (19, .v (.int .i64 z.1))]) (0, 0) (fun z => z.1 ≤ digN s ∧ numF (s.take z.1) = some z.2) (fun z => digN s - z.1) ?_
    refine And.intro ⟨⟨Nat.zero_le _, rfl⟩, gs⟩ ?_
    rintro ⟨k, v⟩ ⟨hk, hn⟩
    dsimp only at hk hn ⊢
    refine cnd (fun h2 => ?_) (fun h2 => ?_)
    · have hkd : k < digN s := by omega
      obtain ⟨hd1, hd2⟩ := dig_at s k hkd
      have hv1 := numF_lt s k v (by omega) hn
      refine ix k ?_
      have hov := @numS_over s k v (by omega) hn
      have hst := @numS_step s k v (by omega) hn
      generalize hd : (s.getD k 0).toNat - 48 = d at hov hst
      refine ew (d : Int) (show IntKind.u8.wrap (((s.getD k 0).toNat : Int) - 48) = _ by rw [wrap_u8 (by omega) (by omega)]; omega) ?_
      refine ew (d : Int) (wrap_i64 (by omega) (by omega)) ?_
      refine wi ?_
      refine qu (by decide) ?_ (by rw [Int.tdiv_eq_ediv_of_nonneg (by omega)]; omega)
      refine cnd (fun h3 => ?_) (fun h3 => ?_)
      · rw [Int.tdiv_eq_ediv_of_nonneg (by omega)] at h3
        rw [numS, if_neg hne, numF_none s (k + 1) (digN s) (by omega) (hov (by omega))]; exact rfl
      · rw [Int.tdiv_eq_ediv_of_nonneg (by omega)] at h3
        refine ew ((v * 10 : Nat) : Int) (show IntKind.i64.wrap ((v : Int) * 10) = _ by rw [wrap_i64 (by omega) (by omega)]; omega) ?_
        refine ew ((10 * v + d : Nat) : Int) (show IntKind.i64.wrap (((v * 10 : Nat) : Int) + d) = _ by rw [wrap_i64 (by omega) (by omega)]; omega) ?_
        refine wi ?_
        exact ⟨(k + 1, 10 * v + d), ⟨⟨by show k + 1 ≤ digN s; omega, hst (by omega)⟩, by show digN s - (k + 1) < digN s - k; omega⟩, gs⟩
    · have hkk : k = digN s := by omega
      subst hkk
      rw [numS, if_neg hne, hn]; exact rfl
theorem hp_eq (s m : List UInt8) : (decide (m.length ≤ s.length) && decide (s.take m.length = m)) = pre s m := rfl
theorem c_HasPrefixL (s m : List UInt8) (w0 : World) (h0 : View) (hv : VLe h0 (Full w0)) : Calls Tryd.prog 94 #[vs s, vs m] w0 (Ret w0 h0 fun u _ => u = .bool (pre s m)) := by
  refine ent (args := [vs s, vs m]) TT_ok [] [] Tryd.func94 rfl Tryd.ntmps94 rfl rfl hv ?_
  refine ⟨m.length, fun h => ⟨rfl, by simpa [bq] using h⟩, ?_⟩
  show Value.bool _ = _
  rw [pre]
  congr 2
  exact decide_eq_decide.2 Int.ofNat_le
theorem c_HasPrefix (s m : List UInt8) (w0 : World) (h0 : View) (hv : VLe h0 (Full w0)) : Calls Tryd.prog 82 #[vs s, vs m] w0 (Ret w0 h0 fun u _ => u = .bool (pre s m)) := by
  refine ent (args := [vs s, vs m]) TT_ok [] [] Tryd.func82 rfl Tryd.ntmps82 rfl rfl hv ?_
  refine cl (c_HasPrefixL s m) ?_
  exact rfl
theorem c_marks (w0 : World) (h0 : View) (hv : VLe h0 (Full w0)) : Calls Tryd.prog 79 #[] w0 (Ret w0 h0 fun u h => ∃ b : Nat, u = .slice (some ⟨b, 0, none⟩) 16 16 ∧ SlC 9 1 (flatR fun s => [vs s]) h (.slice (some ⟨b, 0, none⟩) 16 16) marksL) := by
  refine entA (args := []) TT_ok [0] [] Tryd.func79 rfl Tryd.ntmps79 rfl rfl hv (fun _ => Mono.slF) ?_
  refine ⟨rfl, goW TT_ok ?_⟩
  intro b1
  refine shutG TT_ok (Φ := fun h => SlC 9 1 (flatR fun s => [vs s]) h (.slice (some ⟨b1, 0, none⟩) 16 16) marksL) 1 rfl (row_sl (g := fun s => [vs s]) (l := marksL) (sz := 1) (n := 16) (cp := 16) rfl) ?_ Mono.slF
  exact ⟨b1, rfl, fun v _ hF => hF.2⟩
theorem c_mark1 (m s : List UInt8) (b : Nat) (w0 : World) (h0 : View) (hv : VLe h0 (Full w0)) (hb : h0 b = some (.cells [vs s].toArray 9 (0, 0))) : Calls Tryd.prog 81 #[vs m, .pointer (some ⟨b, 0, none⟩)] w0 (Ret w0 h0 fun u _ => u = .bool (pre s m)) := by
  refine ent (args := [vs m, .pointer (some ⟨b, 0, none⟩)]) TT_ok [] [] Tryd.func81 rfl Tryd.ntmps81 rfl rfl hv ?_
  refine ⟨vs s, fun v w g1 g2 g3 => by rw [cell_row (cs := [vs s]) (g3 _ _ (g1 _ _ hb))]; rfl, ?_⟩
  refine cl (c_HasPrefix s m) ?_
  exact rfl
theorem c_IndexMark (s : List UInt8) (b : Nat) (ad : Option Addr) (cap : Nat) (w0 : World) (h0 : View) (hv : VLe h0 (Full w0)) (hb : h0 b = some (.cells [vs s].toArray 9 (0, 0))) (hl : SlC 9 1 (flatR fun s => [vs s]) h0 (.slice ad 16 cap) marksL) :
    Calls Tryd.prog 80 #[.slice ad 16 cap, .func (.func 81) #[] #[.pointer (some ⟨b, 0, none⟩)]] w0 (Ret w0 h0 fun u _ => u = .int .i64 (ixF (pre s) marksL)) := by
  refine ent (args := [.slice ad 16 cap, .func (.func 81) #[] #[.pointer (some ⟨b, 0, none⟩)]]) TT_ok [] [] Tryd.func80 rfl Tryd.ntmps80 rfl rfl hv ?_
  have hml : marksL.length = 16 := rfl
  refine w_loop TT_ok (fun k : Nat => [(8, .v (.int .i64 k))]) 0 (fun k => k ≤ 16 ∧ (marksL.take k).any (pre s) = false) (fun k => 16 - k) ?_
  refine And.intro ⟨⟨Nat.zero_le _, rfl⟩, gs⟩ ?_
  intro k ⟨hk, ha⟩
  refine cnd (fun h => ?_) (fun h => ?_)
  · refine ixs hl k [] ?_ (by omega)
    refine cb (fun w hw => c_mark1 (marksL.getD k []) s b w h0 hw hb) ?_
    refine cnd (fun h1 => ?_) (fun h1 => ?_)
    · show Value.int .i64 (k : Int) = _
      rw [ixF_at (pre s) marksL k (by omega) ha h1]
    · refine wi ?_
      exact ⟨k + 1, ⟨⟨by omega, any_snoc (pre s) marksL k (by omega) ha h1⟩, by omega⟩, gs⟩
  · have : k = 16 := by omega
    subst this
    rw [ixF_none (pre s) marksL (by rw [← hml, List.take_length] at ha; exact ha)]
    exact rfl
theorem c_mark (s : List UInt8) (w0 : World) (h0 : View) (hv : VLe h0 (Full w0)) : Calls Tryd.prog 52 #[vs s] w0 (Ret w0 h0 fun u _ => u = resA (markG s marksL)) := by
  refine ent (args := [vs s]) TT_ok [8] [] Tryd.func52 rfl Tryd.ntmps52 rfl rfl hv ?_
  intro b1 b2
  refine cA TT_ok (fun w v h1 h2 h3 => c_marks w v h3) (fun _ => Mono.slF) (fun b6 => ?_)
  refine shutG TT_ok (Φ := fun h => h b1 = some (.cells [vs s].toArray 9 (0, 0))) 1 rfl (fun hh _ _ hb => hb) ?_ (fun _ _ hle hx => hle _ _ hx)
  refine cf (fun w v h1 h2 h3 => c_IndexMark s b1 (some ⟨b6, 0, none⟩) 16 w v h3 h2.2 h2.1.2) ?_
  refine cnd (fun h => ?_) (fun h => ?_)
  · rw [mark_none s h]; exact rfl
  · obtain ⟨i, hi, e1, e2⟩ := mark_found s h
    have hml : marksL.length = 16 := rfl
    refine And.intro (by kernel_rfl) ?_
    refine ixf (l := marksL) (fun v hF => hF.1.2) i [] ?_ ⟨e1, by omega⟩
    refine ixf (l := marksL) (fun v hF => hF.1.2) i [] ?_ ⟨e1, by omega⟩
    rw [e2]; exact rfl
theorem flat8 (b : List UInt8) : (b.map fun c => [v8 c]).flatten = b.map v8 := by induction b with
  | nil => rfl
  | cons x r ih => simp [ih]
set_option maxRecDepth 100000 in
set_option maxHeartbeats 1000000 in
theorem c_text (s : List UInt8) (hs0 : 0 < s.length) (hs : s.length ≤ 1000000) (w0 : World) (h0 : View) (hv : VLe h0 (Full w0)) : Calls Tryd.prog 51 #[vs s] w0 (Ret w0 h0 fun u _ => u = resA (textS s)) := by
  refine ent (args := [vs s]) TT_ok [29] [16] Tryd.func51 rfl Tryd.ntmps51 rfl rfl hv ?_
  intro b2
  refine nilC 900 5 1 ?_
  refine w_loopB TT_ok (fun z : Option Addr × Nat × Nat × Nat × List UInt8 => [(4, .v (.slice z.1 z.2.1 z.2.2.1)), (5, .v (.int .i64 z.2.2.2.1))]) (fun z => [(900, .e (bufE 5 1 (.slice z.1 z.2.1 z.2.2.1) (z.2.2.2.2.map v8))), (2, .c b2 68 (resC (.err 0)))]) (none, 0, 0, 1, [])
    (fun z => z.2.2.2.1 ≤ s.length ∧ z.2.1 = z.2.2.2.2.length ∧ z.2.2.2.2.length ≤ z.2.2.2.1 ∧ textG s z.2.2.2.1 z.2.2.2.2 = textS s) (fun z => s.length - z.2.2.2.1) ?_
  refine And.intro ⟨⟨by show 1 ≤ s.length; omega, rfl, Nat.zero_le _, rfl⟩, gs⟩ ?_
  rintro ⟨a0, n, cp, i, b⟩ ⟨hi, hn, hb, ht⟩
  dsimp only at hi hn hb ht ⊢
  refine cnd (fun h => ?_) (fun h => ?_)
  · have hil : i < s.length := by omega
    refine ix i ?_
    refine w_cut TT_ok (fun j : Nat => [(5, .v (.int .i64 j))]) (fun j => j < s.length ∧ i ≤ j ∧ textG s (j + 1) (b ++ [s.getD j 0]) = textS s) ?_
    refine And.intro ?_ ?_
    · refine cnd (fun h1 => ?_) (fun h1 => ?_)
      · rw [← ht, tx_big hil h1.1 (by omega)]; exact rfl
      refine cnd (fun h2 => ?_) (fun h2 => ?_)
      · refine cvB TT_ok b 900 rfl ?_
        refine wi ?_
        rw [← ht, tx_end hil h2 (fun hh => by rcases h1 with h1 | h1; exact h1 h2; omega)]; exact rfl
      refine cnd (fun h3 => ?_) (fun h3 => ?_)
      · refine wi ?_
        refine ixg (i + 1) ?_
        refine ixg (i + 1) ?_
        refine cnd (fun h4 => ?_) (fun h4 => ?_)
        · rw [← ht, tx_bad hil h2 h3 (by simp only [bt]; omega)]; exact rfl
        · refine ⟨i + 1, ⟨by omega, by omega, ?_⟩, gs⟩
          rw [← ht, tx_esc hil h2 h3 (by simp only [bt]; omega)]
      · refine cnd (fun h4 => ?_) (fun h4 => ?_)
        · rw [← ht, tx_ctl hil h2 h3 (by simp only [bt]; omega)]; exact rfl
        · refine ⟨i, ⟨by omega, Nat.le_refl _, ?_⟩, gs⟩
          rw [← ht, tx_ch hil h2 h3 (by simp only [bt]; omega)]
    · intro j ⟨hj, hij, hj2⟩
      refine ix j ?_
      intro b68
      refine ap TT_ok 900 (AppT.of (bytes := 1) (sz := 0) (by kernel_rfl) (by kernel_rfl) (by kernel_rfl)) rfl rfl rfl rfl rfl rfl rfl (by rw [List.length_map]; show (_ + 1) * 2 ≤ _; omega) (fun a1 n1 c1 e1 => ?_)
      refine wi ?_
      have hn1 : n1 = b.length + 1 := by
        rw [List.length_map] at e1
        have e1 : n1 * 1 = b.length + 1 := e1
        omega
      refine ⟨(a1, n1, c1, j + 1, b ++ [s.getD j 0]), ⟨⟨by show j + 1 ≤ s.length; omega, by show n1 = (b ++ [s.getD j 0]).length; rw [List.length_append]; exact hn1, by show (b ++ [s.getD j 0]).length ≤ j + 1; rw [List.length_append]; show b.length + 1 ≤ j + 1; omega, hj2⟩, by show s.length - (j + 1) < s.length - i; omega⟩, gs rfl ?_⟩
      show [(900, OB.e (bufE 5 1 (.slice a1 n1 c1) _)), _] = [(900, OB.e (bufE 5 1 (.slice a1 n1 c1) _)), _]
      rw [List.map_append]; rfl
  · rw [← ht, tx_over (by omega)]; exact rfl
theorem c_next (s : List UInt8) (hs0 : 0 < s.length) (hs : s.length ≤ 1000000) (w0 : World) (h0 : View) (hv : VLe h0 (Full w0)) : Calls Tryd.prog 30 #[vs s] w0 (Ret w0 h0 fun u _ => u = resA (oneS s)) := by
  refine ent (args := [vs s]) TT_ok [] [] Tryd.func30 rfl Tryd.ntmps30 rfl rfl hv ?_
  intro b2
  refine ix 0 ?_
  refine cl (c_letter (s.getD 0 0)) ?_
  refine cnd (fun h => ?_) (fun h => ?_)
  · refine cl (c_Lname s hs) ?_
    rw [one_let h]; exact rfl
  refine cl (c_digit (s.getD 0 0)) ?_
  refine cnd (fun h2 => ?_) (fun h2 => ?_)
  · refine cl (c_number s hs) ?_
    rw [one_dig h h2]; exact rfl
  refine cnd (fun h3 => ?_) (fun h3 => ?_)
  · refine cl (c_text s hs0 hs) ?_
    rw [one_txt h h2 h3]; exact rfl
  · refine cl (c_mark s) ?_
    rw [one_mark h h2 h3]; exact rfl
theorem flatT (l : List Tok) : (l.map tokC).flatten.length = 4 * l.length := flatC_len l
set_option maxRecDepth 100000 in
set_option maxHeartbeats 1000000 in
theorem c_Lex (s : List UInt8) (w0 : World) (h0 : View) (hv : VLe h0 (Full w0)) : Calls Tryd.prog 16 #[vs s] w0 (Ret w0 h0 fun u h => ∃ x : Option Addr × Nat, u = .tuple #[.slice x.1 (lexS s).1.length x.2, .int .i64 (lexS s).2.1, .int .i64 (lexS s).2.2] ∧ SlC 50 4 (flatR tokC) h (.slice x.1 (lexS s).1.length x.2) (lexS s).1) := by
  refine entA (args := [vs s]) TT_ok [51] [] Tryd.func16 rfl Tryd.ntmps16 rfl rfl hv (fun _ => Mono.slF) ?_
  refine cnd (fun h => ?_) (fun h => ?_)
  · rw [lexS, if_pos (by omega)]
    exact ⟨(none, 0), rfl, fun v _ _ => SlC.nil (by simp [maxLen])⟩
  have hlx : lexS s = lexG s 0 [] := by rw [lexS, if_neg (by omega)]
  refine nilC 900 50 4 ?_
  refine w_loopB TT_ok (fun z : Option Addr × Nat × Nat × Nat × List Tok => [(5, .v (.slice z.1 z.2.1 z.2.2.1)), (6, .v (.int .i64 z.2.2.2.1))]) (fun z => [(900, .e (bufE 50 4 (.slice z.1 z.2.1 z.2.2.1) (z.2.2.2.2.map tokC).flatten))]) (none, 0, 0, 0, [])
    (fun z => z.2.2.2.1 ≤ s.length ∧ z.2.1 = z.2.2.2.2.length ∧ z.2.2.2.2.length ≤ z.2.2.2.1 ∧ lexG s z.2.2.2.1 z.2.2.2.2 = lexS s) (fun z => s.length - z.2.2.2.1) ?_
  refine And.intro ⟨⟨Nat.zero_le _, rfl, Nat.zero_le _, hlx.symm⟩, gs⟩ ?_
  rintro ⟨a0, n, cp, i, out⟩ ⟨hi, hn, hb, ht⟩
  dsimp only at hi hn hb ht ⊢
  refine w_loop TT_ok (fun j : Nat => [(6, .v (.int .i64 j))]) i (fun j => i ≤ j ∧ j ≤ s.length ∧ lexG s j out = lexS s) (fun j => s.length - j) ?_
  refine And.intro ⟨⟨Nat.le_refl _, hi, ht⟩, gs⟩ ?_
  intro j ⟨hij, hj, hjt⟩
  refine ixg j ?_
  refine cnd (fun h1 => ?_) (fun h1 => ?_)
  · refine wi ?_
    refine ⟨j + 1, ⟨⟨by omega, by omega, ?_⟩, by omega⟩, gs⟩
    rw [← hjt, lex_sp (by omega) h1.2]
  refine cnd (fun h2 => ?_) (fun h2 => ?_)
  · have e : lexS s = (out, 0, 0) := by rw [← hjt, lex_end (by omega)]
    subst hn
    refine And.intro rfl ?_
    refine sealW (g := tokC) (l := out) 900 rfl rfl ?_
    refine goW TT_ok ?_
    rw [e]
    exact ⟨(a0, cp), rfl, fun v _ hF => hF.2⟩
  · have hjl : j < s.length := by omega
    have hne : ¬ bt s j = 32 := fun g => by rcases h1 with h1 | h1; omega; exact h1 g
    have hdl : (s.drop j).length = s.length - j := List.length_drop
    refine ixl j ?_
    rcases one_ok (s.drop j) (by omega) with ⟨e, he, h0e⟩ | ⟨t, m, he, hm, hml⟩
    · refine cl (x := resA (.err e)) (fun w h hv => by have := c_next (s.drop j) (by omega) (by omega) w h hv; rw [he] at this; exact this) ?_
      intro b7
      refine cndT (show (!decide (resE (.err e) = 0)) = true by rw [show resE (.err e) = e from rfl, decide_eq_false h0e]; rfl) ?_
      have e2 : lexS s = ([], (j : Int), e) := by rw [← hjt, lex_err hjl hne he]
      rw [e2]
      exact ⟨(none, 0), rfl, fun v _ _ => SlC.nil (by simp [maxLen])⟩
    · refine cl (x := resA (.ok t m)) (fun w h hv => by have := c_next (s.drop j) (by omega) (by omega) w h hv; rw [he] at this; exact this) ?_
      intro b7
      refine cndF rfl ?_
      intro b45
      refine ap TT_ok 900 (AppT.of (bytes := 40) (sz := 3) (by kernel_rfl) (by kernel_rfl) (by kernel_rfl)) rfl rfl rfl rfl rfl rfl rfl (by rw [flatT]; show (_ + 4) * 41 ≤ _; omega) (fun a1 n1 c1 e1 => ?_)
      refine ew ((j + m : Nat) : Int) (show IntKind.i64.wrap ((j : Int) + m) = _ by rw [wrap_i64 (by omega) (by omega)]; omega) ?_
      have hn1 : n1 = out.length + 1 := by
        rw [flatT] at e1
        have e1 : n1 * 4 = 4 * out.length + 4 := e1
        omega
      refine ⟨(a1, n1, c1, j + m, out ++ [{ t with p := (j : Int) }]), ⟨⟨by show j + m ≤ s.length; omega, by show n1 = (out ++ [{ t with p := (j : Int) }]).length; rw [List.length_append]; exact hn1, by show (out ++ [{ t with p := (j : Int) }]).length ≤ j + m; rw [List.length_append]; show out.length + 1 ≤ j + m; omega, by rw [← hjt, lex_ok hjl hne he hm]⟩, by show s.length - (j + m) < s.length - i; omega⟩, gs rfl ?_⟩
      show [(900, OB.e (bufE 50 4 (.slice a1 n1 c1) _))] = [(900, OB.e (bufE 50 4 (.slice a1 n1 c1) _))]
      rw [List.map_append, List.flatten_append]; rfl

end Go.Proofs.YtpcgdhhndeanoaaDoor
set_option maxRecDepth 100000
namespace Go.Proofs.YtpcgdhhndeanoaaDoor
open Go Go.Dx Go.RowKit
/-- the reader's block -/
def rdC (ad : Option Addr) (n cap : Nat) (at_ : Int) (bad : Bool) : List Value := [.slice ad n cap, .int .i64 at_, .bool bad]
theorem c_now (b : Nat) (ad : Option Addr) (cap : Nat) (l : List Tok) (i : Nat) (bad : Bool) (w0 : World) (h0 : View) (hv : VLe h0 (Full w0)) (hno : h0 b = none) (hl : SlC 50 4 (flatR tokC) h0 (.slice ad l.length cap) l)
    (hbl : w0.heap[b]? = some (.cells (rdC ad l.length cap i bad).toArray 77 (0, 0))) :
    Calls Tryd.prog 83 #[.pointer (some ⟨b, 0, none⟩)] w0 (RetM [b] w0 fun u w' => u = .agg (tokC (nowS l i bad)).toArray ∧ w'.heap[b]? = some (.cells (rdC ad l.length cap i bad).toArray 77 (0, 0))) := by
  refine entM (args := [.pointer (some ⟨b, 0, none⟩)]) TT_ok [] [] [.o 900 0] Tryd.func83 rfl Tryd.ntmps83 rfl rfl hv hbl hno rfl ?_
  intro b2
  refine And.intro (by kernel_rfl) ?_
  refine cnd (fun h => ?_) (fun h => ?_)
  · refine ⟨?_, rfl⟩
    have e : nowS l i bad = t0 := by
      rcases h with h | h
      · rw [nowS, if_pos h]
      · rw [nowS]; split
        · rfl
        · have hge : l.length ≤ i := by omega
          simp [List.getD, List.getElem?_eq_none hge]
    rw [e]; exact rfl
  · refine And.intro (by kernel_rfl) ?_
    refine ixs hl i t0 ?_ (by omega)
    refine ⟨?_, rfl⟩
    rw [nowS, if_neg (by rw [h.1]; decide)]
    exact rfl
theorem c_on (b : Nat) (ad : Option Addr) (cap : Nat) (l : List Tok) (i : Nat) (bad : Bool) (k : Int) (s : List UInt8) (hi : i ≤ 1000000) (w0 : World) (h0 : View) (hv : VLe h0 (Full w0)) (hno : h0 b = none) (hl : SlC 50 4 (flatR tokC) h0 (.slice ad l.length cap) l)
    (hbl : w0.heap[b]? = some (.cells (rdC ad l.length cap i bad).toArray 77 (0, 0))) :
    Calls Tryd.prog 58 #[.pointer (some ⟨b, 0, none⟩), .int .i64 k, vs s] w0 (RetM [b] w0 fun u w' => u = .bool (onS l i bad k s) ∧ w'.heap[b]? = some (.cells (rdC ad l.length cap ((if onS l i bad k s = true then i + 1 else i : Nat) : Int) bad).toArray 77 (0, 0))) := by
  refine entM (args := [.pointer (some ⟨b, 0, none⟩), .int .i64 k, vs s]) TT_ok [] [] [.o 900 0, .v (.int .i64 k), .v (vs s)] Tryd.func58 rfl Tryd.ntmps58 rfl rfl hv hbl hno rfl ?_
  refine cM TT_ok 900 (fun w v h1 h2 h3 h4 h5 => c_now b ad cap l i bad w v h3 h4 (Mono.slF _ _ h1 hl) h5) ?_
  intro b7
  refine cnd (fun h => ?_) (fun h => ?_)
  · have e : onS l i bad k s = false := by rw [onS]; rcases h with h | h <;> simp [h]
    rw [e]; exact ⟨rfl, rfl⟩
  · have e : onS l i bad k s = true := by rw [onS, h.1, h.2]; simp
    rw [e]
    refine wi ?_
    exact ⟨rfl, rfl⟩
theorem c_must (b : Nat) (ad : Option Addr) (cap : Nat) (l : List Tok) (i : Nat) (bad : Bool) (k : Int) (s : List UInt8) (hi : i ≤ 1000000) (w0 : World) (h0 : View) (hv : VLe h0 (Full w0)) (hno : h0 b = none) (hl : SlC 50 4 (flatR tokC) h0 (.slice ad l.length cap) l)
    (hbl : w0.heap[b]? = some (.cells (rdC ad l.length cap i bad).toArray 77 (0, 0))) :
    Calls Tryd.prog 84 #[.pointer (some ⟨b, 0, none⟩), .int .i64 k, vs s] w0 (RetM [b] w0 fun u w' => u = .tuple #[] ∧ w'.heap[b]? = some (.cells (rdC ad l.length cap ((if onS l i bad k s = true then i + 1 else i : Nat) : Int) (bad || !onS l i bad k s)).toArray 77 (0, 0))) := by
  refine entM (args := [.pointer (some ⟨b, 0, none⟩), .int .i64 k, vs s]) TT_ok [] [] [.o 900 0, .v (.int .i64 k), .v (vs s)] Tryd.func84 rfl Tryd.ntmps84 rfl rfl hv hbl hno rfl ?_
  refine cM TT_ok 900 (fun w v h1 h2 h3 h4 h5 => c_on b ad cap l i bad k s hi w v h3 h4 (Mono.slF _ _ h1 hl) h5) ?_
  refine cnd (fun h => ?_) (fun h => ?_)
  · rw [h, Bool.not_false, Bool.or_true]; exact ⟨rfl, rfl⟩
  · rw [h, Bool.not_true, Bool.or_false]; exact ⟨rfl, rfl⟩
theorem c_syWord (s : List UInt8) (w0 : World) (h0 : View) (hv : VLe h0 (Full w0)) : Calls Tryd.prog 85 #[vs s] w0 (Ret w0 h0 fun u _ => u = if s = [110, 117, 108, 108] then .tuple #[.agg (valC v0).toArray, .bool true] else if s = [102, 97, 108, 115, 101] then .tuple #[.agg (valC ⟨3, 0, []⟩).toArray, .bool true] else if s = [116, 114, 117, 101] then .tuple #[.agg (valC ⟨3, 1, []⟩).toArray, .bool true] else .tuple #[.agg (valC v0).toArray, .bool false]) := by
  refine ent (args := [vs s]) TT_ok [] [] Tryd.func85 rfl Tryd.ntmps85 rfl rfl hv ?_
  intro b2
  refine cnd (fun h => ?_) (fun h => ?_)
  · rw [if_pos h]; exact rfl
  rw [if_neg h]
  refine cnd (fun h2 => ?_) (fun h2 => ?_)
  · rw [if_pos h2]; exact rfl
  rw [if_neg h2]
  refine cnd (fun h3 => ?_) (fun h3 => ?_)
  · rw [if_pos h3]; exact rfl
  rw [if_neg h3]; exact rfl

end Go.Proofs.YtpcgdhhndeanoaaDoor
set_option maxRecDepth 100000
namespace Go.Proofs.YtpcgdhhndeanoaaDoor
open Go Go.Dx Go.RowKit
theorem bin_len (b : Int × List UInt8 × Int) : (binC b).length = 3 := rfl
theorem c_binaries (w0 : World) (h0 : View) (hv : VLe h0 (Full w0)) : Calls Tryd.prog 78 #[] w0 (Ret w0 h0 fun u h => ∃ b : Nat, u = .slice (some ⟨b, 0, none⟩) 12 12 ∧ SlC 95 3 (flatR binC) h (.slice (some ⟨b, 0, none⟩) 12 12) binL) := by
  refine entA (args := []) TT_ok [0] [] Tryd.func78 rfl Tryd.ntmps78 rfl rfl hv (fun _ => Mono.slF) ?_
  refine ⟨rfl, goW TT_ok ?_⟩
  intro b
  refine shutG TT_ok 13 rfl (row_sl (g := binC) (l := binL) (sz := 3) (n := 12) (cp := 12) rfl) ?_ Mono.slF
  exact ⟨b, rfl, fun v _ hF => hF.2⟩
theorem c_find (op : Int) (w0 : World) (h0 : View) (hv : VLe h0 (Full w0)) : Calls Tryd.prog 46 #[.int .i64 op] w0 (Ret w0 h0 fun u _ => u = .agg (binC (findS op)).toArray) := by
  refine ent (args := [.int .i64 op]) TT_ok [] [] Tryd.func46 rfl Tryd.ntmps46 rfl rfl hv ?_
  intro b2
  refine cA TT_ok (fun w v h1 h2 h3 => c_binaries w v h3) (fun _ => Mono.slF) (fun mb => ?_)
  refine w_loop TT_ok (fun k : Nat => [(7, .v (.int .i64 k))]) 0 (fun k => k ≤ 12 ∧ ∀ j, j < k → ¬ (binL.getD j (0, [], 0)).1 = op) (fun k => 12 - k) ?_
  refine And.intro ⟨⟨Nat.zero_le _, fun j hj => absurd hj (Nat.not_lt_zero j)⟩, gs⟩ ?_
  intro k ⟨hk, hn⟩
  have hlen : binL.length = 12 := rfl
  refine cnd (fun h => ?_) (fun h => ?_)
  · refine ixf (fun v hF => hF.2) k (0, [], 0) ?_ (by omega)
    intro b4
    refine cnd (fun h1 => ?_) (fun h1 => ?_)
    · show _ = Value.agg (binC (findS op)).toArray
      rw [find_hit op k (by omega) hn h1]; rfl
    · refine wi ?_
      exact ⟨k + 1, ⟨⟨by omega, upto_snoc hn h1⟩, by omega⟩, gs⟩
  · show _ = Value.agg (binC (findS op)).toArray
    rw [find_none op (fun j hj => hn j (by omega))]; rfl
theorem c_count (op : Int) (w0 : World) (h0 : View) (hv : VLe h0 (Full w0)) : Calls Tryd.prog 38 #[.int .i64 op] w0 (Ret w0 h0 fun u _ => u = .int .i64 (cntS op)) := by
  refine ent (args := [.int .i64 op]) TT_ok [] [] Tryd.func38 rfl Tryd.ntmps38 rfl rfl hv ?_
  refine cnd (fun h => ?_) (fun h => ?_)
  · exact congrArg (Value.int .i64) (by rw [cntS, if_pos h])
  refine cnd (fun h2 => ?_) (fun h2 => ?_)
  · exact congrArg (Value.int .i64) (by rw [cntS, if_neg (by omega), if_pos h2])
  refine cnd (fun h3 => ?_) (fun h3 => ?_)
  · exact congrArg (Value.int .i64) (by rw [cntS, if_neg (by omega), if_neg h2, if_pos h3])
  refine cl (c_find op) ?_
  refine cnd (fun h4 => ?_) (fun h4 => ?_)
  · have := (find_lev op).1 h4
    exact congrArg (Value.int .i64) (by rw [cntS, if_neg (by omega), if_neg h2, if_neg h3, if_pos this])
  · have : ¬ (4 ≤ op ∧ op ≤ 15) := fun hh => h4 ((find_lev op).2 hh)
    exact congrArg (Value.int .i64) (by rw [cntS, if_neg (by omega), if_neg h2, if_neg h3, if_neg this])
theorem c_sign (op : Int) (w0 : World) (h0 : View) (hv : VLe h0 (Full w0)) : Calls Tryd.prog 89 #[.int .i64 op] w0 (Ret w0 h0 fun u _ => u = vs (findS op).2.1) := by
  refine ent (args := [.int .i64 op]) TT_ok [] [] Tryd.func89 rfl Tryd.ntmps89 rfl rfl hv ?_
  iterate 12 (refine cnd (fun h => by subst h; exact rfl) (fun h => ?_))
  show vs [] = vs (findS op).2.1
  rw [find_none op (fun j hj => bin_other op (by omega) j hj)]
end Go.Proofs.YtpcgdhhndeanoaaDoor
set_option maxRecDepth 100000
namespace Go.Proofs.YtpcgdhhndeanoaaDoor
open Go Go.Dx Go.RowKit
theorem c_binary (b : Nat) (ad : Option Addr) (cap : Nat) (l : List Tok) (i : Nat) (bad : Bool) (lev : Int) (hi : i ≤ 1000000) (w0 : World) (h0 : View) (hv : VLe h0 (Full w0)) (hno : h0 b = none) (hl : SlC 50 4 (flatR tokC) h0 (.slice ad l.length cap) l)
    (hbl : w0.heap[b]? = some (.cells (rdC ad l.length cap i bad).toArray 77 (0, 0))) :
    Calls Tryd.prog 61 #[.pointer (some ⟨b, 0, none⟩), .int .i64 lev] w0 (RetM [b] w0 fun u w' => u = .int .i64 (opS l i bad lev) ∧ w'.heap[b]? = some (.cells (rdC ad l.length cap ((if opS l i bad lev = 0 then i else i + 1 : Nat) : Int) bad).toArray 77 (0, 0))) := by
  refine entM (args := [.pointer (some ⟨b, 0, none⟩), .int .i64 lev]) TT_ok [4000026] [] [.o 900 0, .v (.int .i64 lev)] Tryd.func61 rfl Tryd.ntmps61 rfl rfl hv hbl hno rfl ?_
  refine cA TT_ok (fun w v h1 h2 h3 => c_binaries w v h3) (fun _ => Mono.slF) (fun b8 => ?_)
  refine w_loop TT_ok (fun k : Nat => [(10, .v (.int .i64 k))]) 0 (fun k => k ≤ 12 ∧ ∀ j, j < k → hitB l i bad lev (binL.getD j (0, [], 0)) = false) (fun k => 12 - k) ?_
  refine And.intro ⟨⟨Nat.zero_le _, fun j hj => absurd hj (Nat.not_lt_zero j)⟩, gs⟩ ?_
  intro k ⟨hk, hn⟩
  have hlen : binL.length = 12 := rfl
  refine cnd (fun h => ?_) (fun h => ?_)
  · refine ixf (fun v hF => hF.2) k (0, [], 0) ?_ (by omega)
    have hhit := op_hit l i bad lev k (by omega) hn
    have hpos := op_pos k (by omega)
    have hmiss : hitB l i bad lev (binL.getD k (0, [], 0)) = false → ∀ j, j < k + 1 → hitB l i bad lev (binL.getD j (0, [], 0)) = false := fun hh j hj => by
      by_cases hjk : j = k
      · rw [hjk]; exact hh
      · exact hn j (by omega)
    generalize hbb : binL.getD k (0, [], 0) = bb at hhit hpos hmiss ⊢
    obtain ⟨op, sg, lv⟩ := bb
    have hkd : ∀ kd, kindB (op, sg, lv) = kd → hitB l i bad lev (op, sg, lv) = (decide (lv = lev) && onS l i bad kd sg) := fun kd e => by rw [← e]; rfl
    have fin1 : ∀ kd, kindB (op, sg, lv) = kd → lv = lev → onS l i bad kd sg = true → opS l i bad lev = op := fun kd e h1 h2 => hhit (by rw [hkd kd e, h2, decide_eq_true h1]; rfl)
    intro b6
    refine cnd (fun h3 => ?_) (fun h3 => ?_)
    · have e1 : kindB (op, sg, lv) = 1 := if_pos h3
      refine cnd (fun h4 => ?_) (fun h4 => ?_)
      · refine cMI TT_ok 900 (fun w v h1 h2 h3 h4 h5 => c_on b ad cap l i bad 1 sg hi w v h3 h4 (Mono.slF _ _ h1 hl) h5) ?_
        refine cnd (fun h5 => ?_) (fun h5 => ?_)
        · have e2 := fin1 1 e1 h4 h5.2
          refine ⟨?_, ?_⟩
          · rw [e2]; rfl
          · rw [if_pos h5.2, if_neg (by rw [e2]; exact hpos)]; rfl
        · have h6 : onS l i bad 1 sg = false := h5.resolve_left (fun hh => hh h4)
          rw [if_neg (by rw [h6]; decide)]
          refine wi ?_
          exact ⟨k + 1, ⟨⟨by omega, hmiss (by rw [hkd 1 e1, h6, Bool.and_false])⟩, by omega⟩, gs⟩
      · refine ⟨.bool false, ?_⟩
        refine cndF (by rw [Bool.and_false]) ?_
        refine wi ?_
        exact ⟨k + 1, ⟨⟨by omega, hmiss (by rw [hkd 1 e1, decide_eq_false h4, Bool.false_and])⟩, by omega⟩, gs⟩
    · have e1 : kindB (op, sg, lv) = 4 := if_neg h3
      refine cnd (fun h4 => ?_) (fun h4 => ?_)
      · refine cMI TT_ok 900 (fun w v h1 h2 h3 h4 h5 => c_on b ad cap l i bad 4 sg hi w v h3 h4 (Mono.slF _ _ h1 hl) h5) ?_
        refine cnd (fun h5 => ?_) (fun h5 => ?_)
        · have e2 := fin1 4 e1 h4 h5.2
          refine ⟨?_, ?_⟩
          · rw [e2]; rfl
          · rw [if_pos h5.2, if_neg (by rw [e2]; exact hpos)]; rfl
        · have h6 : onS l i bad 4 sg = false := h5.resolve_left (fun hh => hh h4)
          rw [if_neg (by rw [h6]; decide)]
          refine wi ?_
          exact ⟨k + 1, ⟨⟨by omega, hmiss (by rw [hkd 4 e1, h6, Bool.and_false])⟩, by omega⟩, gs⟩
      · refine ⟨.bool false, ?_⟩
        refine cndF (by rw [Bool.and_false]) ?_
        refine wi ?_
        exact ⟨k + 1, ⟨⟨by omega, hmiss (by rw [hkd 4 e1, decide_eq_false h4, Bool.false_and])⟩, by omega⟩, gs⟩
  · have e : opS l i bad lev = 0 := op_none l i bad lev fun j hj => hn j (by omega)
    refine ⟨?_, ?_⟩
    · rw [e]; rfl
    · rw [if_pos e]; rfl

end Go.Proofs.YtpcgdhhndeanoaaDoor
set_option maxRecDepth 100000
namespace Go.Proofs.YtpcgdhhndeanoaaDoor
open Go Go.Dx Go.RowKit
def exV (e : Ex) (x : Option Addr × Nat) : Value := .agg (exC e.op e.v e.s (.slice x.1 e.l.length x.2)).toArray
theorem c_syWord2 (s : List UInt8) (w0 : World) (h0 : View) (hv : VLe h0 (Full w0)) : Calls Tryd.prog 85 #[vs s] w0 (Ret w0 h0 fun u _ => u = .tuple #[.agg (valC ((wordV s).getD v0)).toArray, .bool (wordV s).isSome]) := by
  refine (c_syWord s w0 h0 hv).mono (Ret.mono fun u _ hu => ?_)
  rw [hu]
  unfold wordV
  by_cases h1 : s = [110, 117, 108, 108]
  · rw [if_pos h1, if_pos h1]; rfl
  rw [if_neg h1, if_neg h1]
  by_cases h2 : s = [102, 97, 108, 115, 101]
  · rw [if_pos h2, if_pos h2]; rfl
  rw [if_neg h2, if_neg h2]
  by_cases h3 : s = [116, 114, 117, 101]
  · rw [if_pos h3, if_pos h3]; rfl
  · rw [if_neg h3, if_neg h3]; rfl
/-- what a reading leaves -/
def RdP (b : Nat) (ad : Option Addr) (n cap : Nat) (r : RdR) (u : Value) (w' : World) (hh : View) : Prop := ∃ x : Option Addr × Nat, u = exV r.1 x ∧ w'.heap[b]? = some (.cells (rdC ad n cap ((r.2.1 : Nat) : Int) r.2.2).toArray 77 (0, 0)) ∧ XL hh x.1 x.2 r.1.l
theorem xl_m (x : Option Addr × Nat) (l : List Ex) : Mono fun h => XL h x.1 x.2 l := fun _ _ hle hx => XL.mono hle hx
/-- the cells of a row of expressions -/
def rowC (es : List (Ex × Option Addr × Nat)) (i : Nat) : List Value := exC (es.getD i (ex0, none, 0)).1.op (es.getD i (ex0, none, 0)).1.v (es.getD i (ex0, none, 0)).1.s (.slice (es.getD i (ex0, none, 0)).2.1 (es.getD i (ex0, none, 0)).1.l.length (es.getD i (ex0, none, 0)).2.2)
theorem rowC_len (es : List (Ex × Option Addr × Nat)) (l : List Nat) : ∀ x ∈ l, (rowC es x).length = 6 := fun _ _ => rfl
theorem rowC_xl (es : List (Ex × Option Addr × Nat)) {h : View} {ad : Option Addr} {cap : Nat} (hs : SlC 29 6 (flatR (rowC es)) h (.slice ad es.length cap) (List.range es.length)) (hc : ∀ (i : Nat) (p : Ex × Option Addr × Nat), es[i]? = some p → RX h (exC p.1.op p.1.v p.1.s (.slice p.2.1 p.1.l.length p.2.2)) p.1) : XL h ad cap (es.map (·.1)) := by
  refine ⟨rowC es, by simpa using hs, fun i y hi => ?_⟩
  rw [List.getElem?_map] at hi
  cases he : es[i]? with
  | none => rw [he] at hi; cases hi
  | some p =>
    rw [he] at hi
    cases hi
    have e : es.getD i (ex0, none, 0) = p := by simp [List.getD, he]
    have := hc i p he
    unfold rowC
    rw [e]; exact this
theorem c_mustS (b : Nat) (ad : Option Addr) (cap : Nat) (l : List Tok) (p : Nat × Bool) (k : Int) (s : List UInt8) (hi : p.1 ≤ 1000000) (w0 : World) (h0 : View) (hv : VLe h0 (Full w0)) (hno : h0 b = none) (hl : SlC 50 4 (flatR tokC) h0 (.slice ad l.length cap) l)
    (hbl : w0.heap[b]? = some (.cells (rdC ad l.length cap ((p.1 : Nat) : Int) p.2).toArray 77 (0, 0))) :
    Calls Tryd.prog 84 #[.pointer (some ⟨b, 0, none⟩), .int .i64 k, vs s] w0 (RetM [b] w0 fun u w' => u = .tuple #[] ∧ w'.heap[b]? = some (.cells (rdC ad l.length cap (((mustS l p k s).1 : Nat) : Int) (mustS l p k s).2).toArray 77 (0, 0))) :=
  c_must b ad cap l p.1 p.2 k s hi w0 h0 hv hno hl hbl
section rd
variable (b : Nat) (ad : Option Addr) (cap : Nat) (l : List Tok)
def RdC (f : Nat) : Prop := ∀ (lev i : Nat) (bad : Bool), lev ≤ 7 → i ≤ l.length → needS l lev i ≤ f → ∀ (w0 : World) (h0 : View), VLe h0 (Full w0) → h0 b = none → SlC 50 4 (flatR tokC) h0 (.slice ad l.length cap) l →
    w0.heap[b]? = some (.cells (rdC ad l.length cap (i : Int) bad).toArray 77 (0, 0)) → Calls Tryd.prog 35 #[.pointer (some ⟨b, 0, none⟩), .int .i64 (lev : Int)] w0 (RetV [b] w0 h0 fun u w' hh => RdP b ad l.length cap (rdF l f lev i bad) u w' hh)
variable {b ad cap l}
theorem c_branch {f : Nat} (ih : RdC b ad cap l f) (hT : TokN l) (hn : l.length ≤ 999999) (i : Nat) (bad : Bool) (hi : i ≤ l.length) (hf : needS l 0 i ≤ f) (w0 : World) (h0 : View) (hv : VLe h0 (Full w0)) (hno : h0 b = none) (hl : SlC 50 4 (flatR tokC) h0 (.slice ad l.length cap) l)
    (hbl : w0.heap[b]? = some (.cells (rdC ad l.length cap (i : Int) bad).toArray 77 (0, 0))) :
    Calls Tryd.prog 59 #[.pointer (some ⟨b, 0, none⟩)] w0 (RetV [b] w0 h0 fun u w' hh => RdP b ad l.length cap (branchS (rdF l f 0) l i bad) u w' hh) := by
  have g1 := rd_ge l f 0 i bad hi
  have d1 := rd_nd hT f 0 i bad
  unfold branchS
  refine entW (args := [.pointer (some ⟨b, 0, none⟩)]) TT_ok [1000005, 18] [] [.o 900 0] Tryd.func59 rfl Tryd.ntmps59 rfl rfl hv hbl hno rfl (fun x => xl_m x _) ?_
  intro b2
  refine cV TT_ok 900 (fun w v h1 h2 h3 h4 h5 => ih 0 i bad (by omega) hi hf w v h3 h4 (Mono.slF _ _ h1 hl) h5) (fun x => xl_m x _) (fun x1 => ?_)
  have m1 := must_ge (l := l) (p := (rdF l f 0 i bad).2) (k := 1) (s := thenT) (by decide) g1.2
  generalize rdF l f 0 i bad = r1 at g1 d1 m1 ⊢
  intro b3
  refine cM TT_ok 900 (fun w v h1 h2 h3 h4 h5 => c_mustS b ad cap l r1.2 1 thenT (by have := g1.2; omega) w v h3 h4 (Mono.slF _ _ h1 hl) h5) ?_
  generalize mustS l r1.2 1 thenT = p1 at m1 ⊢
  have g2 := rd_ge l f 0 p1.1 p1.2 m1.2
  have d2 := rd_nd hT f 0 p1.1 p1.2
  have f2 : needS l 0 p1.1 ≤ f := by have := g1.1; have := m1.1; unfold needS at hf ⊢; omega
  refine cV TT_ok 900 (fun w v h1 h2 h3 h4 h5 => ih 0 p1.1 p1.2 (by omega) m1.2 f2 w v h3 h4 (Mono.slF _ _ h1 hl) h5) (fun x => xl_m x _) (fun x2 => ?_)
  have m2 := must_ge (l := l) (p := (rdF l f 0 p1.1 p1.2).2) (k := 1) (s := elseT) (by decide) g2.2
  generalize rdF l f 0 p1.1 p1.2 = r2 at g2 d2 m2 ⊢
  intro b4
  refine cM TT_ok 900 (fun w v h1 h2 h3 h4 h5 => c_mustS b ad cap l r2.2 1 elseT (by have := g2.2; omega) w v h3 h4 (Mono.slF _ _ h1 hl) h5) ?_
  generalize mustS l r2.2 1 elseT = p2 at m2 ⊢
  have g3 := rd_ge l f 0 p2.1 p2.2 m2.2
  have d3 := rd_nd hT f 0 p2.1 p2.2
  have f3 : needS l 0 p2.1 ≤ f := by have := g2.1; have := m2.1; unfold needS at f2 ⊢; omega
  refine regQ TT_ok [0, 1, 2] [3, 4, 5, 6] [900] true ?_
  refine cV TT_ok 900 (fun w v h1 h2 h3 h4 h5 => ih 0 p2.1 p2.2 (by omega) m2.2 f3 w v h3 h4 (Mono.slF _ _ h1 hl) h5) (fun x => xl_m x _) (fun x3 => ?_)
  generalize rdF l f 0 p2.1 p2.2 = r3 at g3 d3 ⊢
  refine kq ?_
  intro b17
  refine kq ?_
  refine shutG TT_ok 17 rfl (row_sl (g := rowC [(r1.1, x1), (r2.1, x2), (r3.1, x3)]) (l := List.range 3) (sz := 6) (n := 3) (cp := 3) rfl ?_) ?_ Mono.slF rfl (.inr ⟨b, _, _, 900, rfl, by decide, rfl⟩)
  · exact rowC_len _ _
  refine kq ?_
  exact ⟨(some ⟨b17, 0, none⟩, 3), rfl, rfl, fun v _ hF => rowC_xl [(r1.1, x1), (r2.1, x2), (r3.1, x3)] hF.2 (fun i p hp => by
    match i, hp with
    | 0, hp => cases hp; exact XL.rx hF.1.1.1.2 d1
    | 1, hp => cases hp; exact XL.rx hF.1.1.2 d2
    | 2, hp => cases hp; exact XL.rx hF.1.2 d3
    | n + 3, hp => simp at hp)⟩
theorem c_atom {f : Nat} (ih : RdC b ad cap l f) (hT : TokN l) (hTs : ∀ t ∈ l, t.s.length ≤ 1000000) (hn : l.length ≤ 999999) (i : Nat) (bad : Bool) (hi : i ≤ l.length) (hf : needS l 7 i ≤ f + 1) (w0 : World) (h0 : View) (hv : VLe h0 (Full w0)) (hno : h0 b = none) (hl : SlC 50 4 (flatR tokC) h0 (.slice ad l.length cap) l)
    (hbl : w0.heap[b]? = some (.cells (rdC ad l.length cap (i : Int) bad).toArray 77 (0, 0))) :
    Calls Tryd.prog 60 #[.pointer (some ⟨b, 0, none⟩)] w0 (RetV [b] w0 h0 fun u w' hh => RdP b ad l.length cap (atomS (rdF l f 0) l i bad) u w' hh) := by
  have hns : (nowS l i bad).s.length ≤ 1000000 := by
    unfold nowS
    split
    · decide
    · rcases Nat.lt_or_ge i l.length with h | h
      · rw [getD_lt l i t0 h]; exact hTs _ (List.getElem_mem h)
      · simp only [List.getD, List.getElem?_eq_none h]; decide
  have hlt := fun k s => on_lt (l := l) (i := i) (bad := bad) (k := k) (s := s)
  have hge := fun (h : i + 1 ≤ l.length) => rd_ge l f 0 (i + 1) bad h
  have hnl := fun (h : (nowS l i bad).k ≠ 0) => now_lt h
  refine entW (args := [.pointer (some ⟨b, 0, none⟩)]) TT_ok [] [] [.o 900 0] Tryd.func60 rfl Tryd.ntmps60 rfl rfl hv hbl hno rfl (fun x => xl_m x _) ?_
  intro b2
  refine cM TT_ok 900 (fun w v h1 h2 h3 h4 h5 => c_on b ad cap l i bad 4 [40] (by omega) w v h3 h4 (Mono.slF _ _ h1 hl) h5) ?_
  refine cnd (fun h => ?_) (fun h => ?_)
  · have hlt := (hlt 4 [40] h (by decide)).1
    have ea : atomS (rdF l f 0) l i bad = ((rdF l f 0 (i + 1) bad).1, mustS l (rdF l f 0 (i + 1) bad).2 4 [41]) := if_pos h
    rw [ea, if_pos h]
    have g1 := hge hlt
    refine cV TT_ok 900 (fun w v h1 h2 h3 h4 h5 => ih 0 (i + 1) bad (by omega) hlt (by unfold needS at hf ⊢; omega) w v h3 h4 (Mono.slF _ _ h1 hl) h5) (fun x => xl_m x _) (fun x1 => ?_)
    generalize rdF l f 0 (i + 1) bad = r1 at g1 ⊢
    intro b3
    refine cM TT_ok 900 (fun w v h1 h2 h3 h4 h5 => c_mustS b ad cap l r1.2 4 [41] (by have := g1.2; omega) w v h3 h4 (Mono.slF _ _ h1 hl) h5) ?_
    exact ⟨x1, rfl, rfl, fun v _ hF => hF.2⟩
  · rw [if_neg (by rw [h]; decide)]
    have ea : atomS (rdF l f 0) l i bad = _ := if_neg (by rw [h]; decide)
    rw [ea]
    clear ea hlt
    refine cM TT_ok 900 (fun w v h1 h2 h3 h4 h5 => c_now b ad cap l i bad w v h3 h4 (Mono.slF _ _ h1 hl) h5) ?_
    generalize nowS l i bad = t at hns hnl ⊢
    intro b4
    intro b5
    refine cnd (fun h1 => ?_) (fun h1 => ?_)
    · rw [if_pos h1]
      have := (hnl (by rw [h1]; decide)).1
      refine wi ?_
      exact ⟨(none, 0), rfl, rfl, fun v _ _ => xl_nil v⟩
    rw [if_neg h1]
    refine cnd (fun h2 => ?_) (fun h2 => ?_)
    · rw [if_pos h2]
      have := (hnl (by rw [h2]; decide)).1
      refine wi ?_
      exact ⟨(none, 0), rfl, rfl, fun v _ _ => xl_nil v⟩
    rw [if_neg h2]
    refine cnd (fun h3 => ?_) (fun h3 => ?_)
    · rw [if_pos h3]
      have := (hnl (by rw [h3]; decide)).1
      refine cl (c_syWord2 t.s) ?_
      intro b6
      refine clg (fun _ => c_Name t.s hns) ?_
      refine cnd (fun h4 => ?_) (fun h4 => ?_)
      · rw [if_neg (by rw [h4.1]; decide), if_neg (by rw [h4.2]; decide)]
        exact ⟨(none, 0), rfl, rfl, fun v _ _ => xl_nil v⟩
      · refine cnd (fun h5 => ?_) (fun h5 => ?_)
        · have h6 : nameOk t.s = true := by
            rcases h4 with h4 | h4
            · rw [h5] at h4; cases h4
            · exact h4
          rw [if_neg (by rw [h5]; decide), if_pos h6]
          refine wi ?_
          exact ⟨(none, 0), rfl, rfl, fun v _ _ => xl_nil v⟩
        · rw [if_pos h5]
          refine wi ?_
          exact ⟨(none, 0), rfl, rfl, fun v _ _ => xl_nil v⟩
    · rw [if_neg h3]
      exact ⟨(none, 0), rfl, rfl, fun v _ _ => xl_nil v⟩
theorem need_pos (l : List Tok) {lev i : Nat} (h : lev ≤ 7) : 2 ≤ needS l lev i := by unfold needS; omega
theorem c_read (hT : TokN l) (hTs : ∀ t ∈ l, t.s.length ≤ 1000000) (hn : l.length ≤ 999999) : ∀ f, RdC b ad cap l f
  | 0 => fun lev i bad h7 _ hf => absurd hf (by have := need_pos l (i := i) h7; omega)
  | f + 1 => by
    intro lev i bad h7 hi hf w0 h0 hv hno hl hbl
    have ih := c_read hT hTs hn f
    have hge := fun lev i bad h => rd_ge l f lev i bad h
    have hnd := fun lev i bad => rd_nd hT f lev i bad
    have hR : rdF l (f + 1) lev i bad = _ := rdF.eq_2 l lev i bad f
    generalize rdF l (f + 1) lev i bad = R at hR ⊢
    refine entW (args := [.pointer (some ⟨b, 0, none⟩), .int .i64 (lev : Int)]) TT_ok [3000000, 4000018, 4000032, 37, 60, 1000015] [12] [.o 900 0, .v (.int .i64 (lev : Int))] Tryd.func35 rfl Tryd.ntmps35 rfl rfl hv hbl hno rfl (fun x => xl_m x _) ?_
    intro b4
    refine w_jumps TT_ok 0 (fun _ => [(5, .o 5 0)]) (fun x : Nat × Ex × (Option Addr × Nat) × Nat × Bool => [(5, .c x.1 29 (exC x.2.1.op x.2.1.v x.2.1.s (.slice x.2.2.1.1 x.2.1.l.length x.2.2.1.2))), (4, .c b4 29 (exC 0 v0 [] (.slice none 0 0))), (900, .c b 77 (rdC ad l.length cap ((x.2.2.2.1 : Nat) : Int) x.2.2.2.2))])
      (fun x h => XL h x.2.2.1.1 x.2.2.1.2 x.2.1.l) (fun x => lev < 6 ∧ x.2.2.2.1 ≤ l.length ∧ i ≤ x.2.2.2.1 ∧ Nd x.2.1 ∧ ∃ n, l.length - x.2.2.2.1 < n ∧ loopS (rdF l f (lev + 1)) l lev n x.2.1 x.2.2.2.1 x.2.2.2.2 = R) (fun x => l.length - x.2.2.2.1) (fun x => xl_m x.2.2.1 _) ?_ rfl
    refine ⟨fun x hI => ofV TT_ok ?_, fun hk => ofV TT_ok ?_⟩
    · obtain ⟨b5, e, x, i', bad'⟩ := x
      obtain ⟨hlev, hi', hii, hNd, n, hn1, hR'⟩ := hI
      simp only at hlev hi' hii hNd hn1 hR'
      refine cM TT_ok 900 (fun w v h1 h2 h3 h4 h5 => c_binary b ad cap l i' bad' lev (by omega) w v h3 h4 (Mono.slF _ _ h1 hl) h5) ?_
      obtain ⟨n, rfl⟩ : ∃ m, n = m + 1 := ⟨n - 1, by omega⟩
      rw [loopS] at hR'
      refine cnd (fun h => ?_) (fun h => ?_)
      · rw [if_pos h] at hR' ⊢
        rw [← hR']
        exact ⟨x, rfl, rfl, fun v _ hF => hF⟩
      · rw [if_neg h] at hR' ⊢
        obtain ⟨hlt, rfl⟩ := op_lt h
        have g1 := hge (lev + 1) (i' + 1) false hlt
        have d1 := hnd (lev + 1) (i' + 1) false
        refine regQ TT_ok [0, 1, 2, 3, 4] [5, 6, 7, 8] [900] true ?_
        refine wi ?_
        refine cV TT_ok 900 (fun w v h1 h2 h3 h4 h5 => ih (lev + 1) (i' + 1) false (by omega) hlt (by unfold needS at hf ⊢; omega) w v h3 h4 (Mono.slF _ _ h1 hl) h5) (fun x => xl_m x _) (fun x1 => ?_)
        generalize rdF l f (lev + 1) (i' + 1) false = r1 at g1 d1 hR' ⊢
        refine kq ?_
        intro b59
        refine kq ?_
        refine shutG TT_ok 59 rfl (row_sl (g := rowC [(e, x), (r1.1, x1)]) (l := List.range 2) (sz := 6) (n := 2) (cp := 2) rfl ?_) ?_ Mono.slF rfl (.inr ⟨b, _, _, 900, rfl, by decide, rfl⟩)
        · exact rowC_len _ _
        refine kq ?_
        have hx : ∀ v, (XL v x.1 x.2 e.l ∧ XL v x1.1 x1.2 r1.1.l) ∧ SlC 29 6 (flatR (rowC [(e, x), (r1.1, x1)])) v (.slice (some ⟨b59, 0, none⟩) 2 2) (List.range 2) → XL v (some ⟨b59, 0, none⟩) 2 [e, r1.1] := fun v hF => rowC_xl [(e, x), (r1.1, x1)] hF.2 (fun i p hp => by
          match i, hp with
          | 0, hp => cases hp; exact XL.rx hF.1.1 hNd
          | 1, hp => cases hp; exact XL.rx hF.1.2 d1
          | n + 2, hp => simp at hp)
        refine cnd (fun h2 => ?_) (fun h2 => ?_)
        · rw [if_pos ⟨by omega, h2.2⟩] at hR'
          exact ⟨(b5, .mk (opS l i' false lev) v0 [] [e, r1.1], (some ⟨b59, 0, none⟩, 2), r1.2.1, r1.2.2), ⟨⟨hlev, g1.2, by have := g1.1; show i ≤ r1.2.1; omega, nd_v0 (op_i64 _ _ _ _), n, by have := g1.1; show l.length - r1.2.1 < n; omega, hR'⟩, by have := g1.1; show l.length - r1.2.1 < l.length - i'; omega⟩, gs (fv := fun v hF => hx v hF)⟩
        · rw [if_neg (fun hh => by
            rcases h2 with h2 | h2
            · exact hh.1 (by omega)
            · rw [hh.2] at h2; cases h2)] at hR'
          rw [← hR']
          exact ⟨(some ⟨b59, 0, none⟩, 2), rfl, rfl, fun v _ hF => hx v hF⟩
    · refine cnd (fun hb => ?_) (fun hb => ?_)
      · subst hb
        rw [if_pos rfl] at hR
        rw [hR]
        exact ⟨(none, 0), rfl, rfl, fun v _ _ => xl_nil v⟩
      subst hb
      rw [if_neg (by decide)] at hR
      have r_lev0 : (lev : Int) = 0 → lev = 0 := fun h => by omega
      refine cnd (fun hl0 => ?_) (fun hl0 => ?_)
      · have hl0' := r_lev0 hl0
        subst hl0'
        rw [if_pos rfl] at hR
        refine cMI TT_ok 900 (fun w v h1 h2 h3 h4 h5 => c_on b ad cap l i false 1 ifT (by omega) w v h3 h4 (Mono.slF _ _ h1 hl) h5) ?_
        refine cnd (fun h1 => ?_) (fun h1 => ?_)
        · rw [if_pos h1.2] at hR ⊢
          have hlt := (on_lt h1.2 (by decide)).1
          rw [hR]
          refine cV TT_ok 900 (fun w v h1 h2 h3 h4 h5 => c_branch ih hT hn (i + 1) false hlt (by unfold needS at hf ⊢; omega) w v h3 h4 (Mono.slF _ _ h1 hl) h5) (fun x => xl_m x _) (fun x1 => ?_)
          exact ⟨x1, rfl, rfl, fun v _ hF => hF.2⟩
        · have h2 : onS l i false 1 ifT = false := h1.resolve_left (fun hh => hh rfl)
          rw [if_neg (by rw [h2]; decide)] at hR ⊢
          rw [hR]
          refine cndT rfl ?_
          refine cV TT_ok 900 (fun w v h1 h2 h3 h4 h5 => ih 1 i false (by omega) hi (by unfold needS at hf ⊢; omega) w v h3 h4 (Mono.slF _ _ h1 hl) h5) (fun x => xl_m x _) (fun x1 => ?_)
          exact ⟨x1, rfl, rfl, fun v _ hF => hF.2⟩
      · have hl0' : lev ≠ 0 := fun h => hl0 (by omega)
        rw [if_neg hl0'] at hR
        refine ⟨.bool false, ?_⟩
        refine cndF (by rw [Bool.and_false]) ?_
        refine cndF (decide_eq_false hl0) ?_
        refine cnd (fun h6 => ?_) (fun h6 => ?_)
        · have h6' : lev = 6 := by omega
          subst h6'
          refine cMI TT_ok 900 (fun w v h1 h2 h3 h4 h5 => c_on b ad cap l i false 4 [45] (by omega) w v h3 h4 (Mono.slF _ _ h1 hl) h5) ?_
          refine cnd (fun h1 => ?_) (fun h1 => ?_)
          · rw [if_pos ⟨rfl, h1.2⟩] at hR
            rw [if_pos h1.2]
            have hlt := (on_lt h1.2 (by decide)).1
            have d1 := hnd 6 (i + 1) false
            refine cV TT_ok 900 (fun w v h1 h2 h3 h4 h5 => ih 6 (i + 1) false (by omega) hlt (by unfold needS at hf ⊢; omega) w v h3 h4 (Mono.slF _ _ h1 hl) h5) (fun x => xl_m x _) (fun x1 => ?_)
            generalize rdF l f 6 (i + 1) false = r1 at d1 hR ⊢
            rw [hR]
            intro b36
            refine shutG TT_ok 36 rfl (row_sl (g := rowC [(r1.1, x1)]) (l := List.range 1) (sz := 6) (n := 1) (cp := 1) rfl ?_) ?_ Mono.slF rfl (.inr ⟨b, _, _, 900, rfl, by decide, rfl⟩)
            · exact rowC_len _ _
            exact ⟨(some ⟨b36, 0, none⟩, 1), rfl, rfl, fun v _ hF => rowC_xl [(r1.1, x1)] hF.2 (fun i p hp => by
              match i, hp with
              | 0, hp => cases hp; exact XL.rx hF.1.2 d1
              | n + 1, hp => simp at hp)⟩
          · have h2 : onS l i false 4 [45] = false := h1.resolve_left (fun hh => hh rfl)
            rw [if_neg (fun hh => by rw [h2] at hh; cases hh.2), if_pos (by omega)] at hR
            rw [if_neg (by rw [h2]; decide)]
            rw [hR]
            refine cndT rfl ?_
            refine cV TT_ok 900 (fun w v h1 h2 h3 h4 h5 => c_atom ih hT hTs hn i false hi (by unfold needS at hf ⊢; omega) w v h3 h4 (Mono.slF _ _ h1 hl) h5) (fun x => xl_m x _) (fun x1 => ?_)
            exact ⟨x1, rfl, rfl, fun v _ hF => hF.2⟩
        · have h6' : lev ≠ 6 := fun h => h6 (by omega)
          rw [if_neg (fun hh => h6' hh.1)] at hR
          refine ⟨.bool false, ?_⟩
          refine cndF (by rw [Bool.and_false]) ?_
          refine cnd (fun h7' => ?_) (fun h7' => ?_)
          · rw [if_pos (by omega)] at hR
            rw [hR]
            refine cV TT_ok 900 (fun w v h1 h2 h3 h4 h5 => c_atom ih hT hTs hn i false hi (by unfold needS at hf ⊢; omega) w v h3 h4 (Mono.slF _ _ h1 hl) h5) (fun x => xl_m x _) (fun x1 => ?_)
            exact ⟨x1, rfl, rfl, fun v _ hF => hF.2⟩
          · rw [if_neg (by omega)] at hR
            have g1 := hge (lev + 1) i false hi
            have d1 := hnd (lev + 1) i false
            refine w_lab TT_ok hk (fun x => xl_m x.2.2.1 _) ?_
            refine wi ?_
            refine cV TT_ok 900 (fun w v h1 h2 h3 h4 h5 => ih (lev + 1) i false (by omega) hi (by unfold needS at hf ⊢; omega) w v h3 h4 (Mono.slF _ _ h1 hl) h5) (fun x => xl_m x _) (fun x1 => ?_)
            generalize rdF l f (lev + 1) i false = r1 at g1 d1 hR ⊢
            intro b5
            exact ⟨(b5, r1.1, x1, r1.2.1, r1.2.2), ⟨by show lev < 6; omega, g1.2, g1.1, d1, l.length + 1, by show l.length - r1.2.1 < l.length + 1; omega, hR.symm⟩, gs (fv := fun v hF => hF.2)⟩
end rd

end Go.Proofs.YtpcgdhhndeanoaaDoor
set_option maxRecDepth 100000
namespace Go.Proofs.YtpcgdhhndeanoaaDoor
open Go Go.Dx Go.RowKit
theorem slc_lm {α : Type} {T sz n cp : Nat} {f : View → List Value → α → Prop} {h : View} {ad : Option Addr} {l : List α} (hs : SlC T sz f h (.slice ad n cp) l) : l.length ≤ 9223372036854775807 := by
  obtain ⟨_, _, _, h1, h2⟩ := hs.parts
  simp only [maxLen] at h2
  omega
theorem c_plain (s : List UInt8) (w0 : World) (h0 : View) (hv : VLe h0 (Full w0)) : Calls Tryd.prog 72 #[vs s] w0 (Ret w0 h0 fun u _ => u = .bool (plainS s)) := by
  refine ent (args := [vs s]) TT_ok [] [] Tryd.func72 rfl Tryd.ntmps72 rfl rfl hv ?_
  refine cnd (fun h0 => ?_) (fun h0 => ?_)
  · exact congrArg Value.bool (plain_long (by omega)).symm
  refine rgS TT_ok 900 (fun b => ?_)
  refine w_loopB TT_ok (fun _ : Nat => []) (fun k => [(900, .e (some b, IterC s k))]) 0 (fun k => k ≤ s.length ∧ ∀ j, j < k → plB (s.getD j 0) = true) (fun k => s.length - k) ?_
  refine And.intro ⟨⟨Nat.zero_le _, fun j hj => absurd hj (Nat.not_lt_zero j)⟩, gs⟩ ?_
  intro k ⟨hk, hn⟩
  refine nxS TT_ok 900 (fun h => ?_) (fun h => ?_)
  · refine cndT rfl ?_
    refine cnd (fun h1 => ?_) (fun h1 => ?_)
    · exact congrArg Value.bool (plain_not (k := k) h (dec_bad h h1)).symm
    · obtain ⟨e1, e2⟩ := dec_plain (s := s) (k := k) h h1.1 h1.2
      refine ⟨k + 1, ⟨⟨by omega, fun j hj => ?_⟩, by omega⟩, gs (bl := by rw [e2]; rfl)⟩
      rcases Nat.lt_or_ge j k with h2 | h2
      · exact hn j h2
      · rw [show j = k by omega]; exact e1
  · refine cndF rfl ?_
    exact congrArg Value.bool (plain_all (by omega) (fun j hj => hn j (by omega))).symm
theorem eqV : EqT Tryd.prog 26 valC := EqT.of [(0, .i .i64), (1, .i .i64), (2, .s)] (by kernel_rfl) (by kernel_rfl) (by kernel_rfl) (by kernel_rfl)
  (fun a b s hs => by
    simp only [List.mem_cons, List.mem_nil_iff, or_false] at hs
    rcases hs with rfl | rfl | rfl
    · exact ⟨_, _, rfl, rfl, ⟨_, rfl⟩, ⟨_, rfl⟩⟩
    · exact ⟨_, _, rfl, rfl, ⟨_, rfl⟩, ⟨_, rfl⟩⟩
    · exact ⟨_, _, rfl, rfl, ⟨_, rfl⟩, ⟨_, rfl⟩⟩)
  (fun a b => by
    obtain ⟨k, n, s⟩ := a
    obtain ⟨k', n', s'⟩ := b
    simp [valC, eqC, vs, Bool.and_assoc])
theorem c_VCheck (v : Val) (hvb : valB v) (w0 : World) (h0 : View) (hv : VLe h0 (Full w0)) : Calls Tryd.prog 39 #[.agg (valC v).toArray] w0 (Ret w0 h0 fun u _ => u = .int .i64 (if valOk v then 0 else 2)) := by
  refine ent (args := [.agg (valC v).toArray]) TT_ok [] [11] Tryd.func39 rfl Tryd.ntmps39 rfl rfl hv ?_
  intro b1
  refine w_cut TT_ok (fun _ : Unit => [(3, .v (.bool (valOk v)))]) (fun _ => True) ?_
  refine And.intro ?_ ?_
  · refine cnd (fun h => ?_) (fun h => ?_)
    · refine aq eqV v v0 ?_
      exact ⟨(), trivial, gs (by rw [show valOk v = decide (v = v0) by obtain ⟨vk, vn, vt⟩ := v; simp at h; simp [valOk, v0, h]]; rfl)⟩
    refine cnd (fun h2 => ?_) (fun h2 => ?_)
    · exact ⟨(), trivial, gs (by rw [show valOk v = decide (v.s = []) by simp [valOk, h2]]; rfl)⟩
    refine cnd (fun h3 => ?_) (fun h3 => ?_)
    · refine clg (fun _ => c_plain v.s) ?_
      exact ⟨(), trivial, gs (by rw [show valOk v = (decide (v.n = 0) && plainS v.s) by simp [valOk, h3]]; rfl)⟩
    refine cnd (fun h4 => ?_) (fun h4 => ?_)
    · refine ew _ (fun _ => rfl) ?_
      have e := andnot1 (h := hvb.2) (hr := rfl)
      have e4 : valOk v = (decide (v.s = []) && decide (IntKind.i64.wrap ((BitVec.ofInt IntKind.i64.bits v.n &&& ~~~ BitVec.ofInt IntKind.i64.bits 1).toNat : Int) = 0)) := by
        rw [show decide (IntKind.i64.wrap ((BitVec.ofInt IntKind.i64.bits v.n &&& ~~~ BitVec.ofInt IntKind.i64.bits 1).toNat : Int) = 0) = decide (v.n = 0 ∨ v.n = 1) from decide_eq_decide.2 e]
        simp [valOk, h4]
      exact ⟨(), trivial, gs (by rw [e4]; rfl)⟩
    · exact ⟨(), trivial, gs (by rw [show valOk v = false by simp [valOk, h, h2, h3, h4]]; rfl)⟩
  · intro _ _
    refine cnd (fun h => ?_) (fun h => ?_)
    · show Value.int .i64 2 = _
      rw [if_neg (by rw [h]; decide)]
    · show Value.int .i64 0 = _
      rw [if_pos h]
end Go.Proofs.YtpcgdhhndeanoaaDoor
set_option maxRecDepth 100000
namespace Go.Proofs.YtpcgdhhndeanoaaDoor
open Go Go.Dx Go.RowKit
/-- a part of an expression -/
theorem ixE {c : Cx} {F : FV} {n : Nat} {ad : Option Addr} {cap : Nat} {l : List Ex} {i : Int} {X : Nat → List Value → Prop} (H : XL c.h0 ad cap l) (j : Nat)
    (k : ∀ a2 c2, XL c.h0 a2 c2 (l.getD j ex0).l → i64 (l.getD j ex0).op → valB (l.getD j ex0).v → X j (exC (l.getD j ex0).op (l.getD j ex0).v (l.getD j ex0).s (.slice a2 (l.getD j ex0).l.length c2)))
    (h : i = (j : Int) ∧ j < l.length := by omega) (hn : n = l.length := by rfl) : ∃ (j : Nat) (cs : List Value), (i = (j : Int) ∧ j < n ∧ ElC c.h0 F ad (j * 6) cs) ∧ X j cs := by
  obtain ⟨g, off, a2, c2, ha, h1, h2, h3, hc⟩ := H.at2 h.2
  subst hn
  exact ⟨j, _, ⟨h.1, h.2, fun v hv _ => ⟨by rw [ha]; rfl, fun w hw => by rw [ha]; exact hc w (hv.trans hw)⟩⟩, k a2 c2 h1 h2 h3⟩
theorem c_IndexX (ad : Option Addr) (cap : Nat) (l : List Ex) (p : Ex → Bool) (w0 : World) (h0 : View) (hv : VLe h0 (Full w0)) (hx : XL h0 ad cap l)
    (hp : ∀ j, j < l.length → ∀ a2 c2, XL h0 a2 c2 (l.getD j ex0).l → i64 (l.getD j ex0).op → valB (l.getD j ex0).v → ∀ w, VLe h0 (Full w) → Calls Tryd.prog 41 #[.agg (exC (l.getD j ex0).op (l.getD j ex0).v (l.getD j ex0).s (.slice a2 (l.getD j ex0).l.length c2)).toArray] w (Ret w h0 fun u _ => u = .bool (p (l.getD j ex0)))) :
    Calls Tryd.prog 73 #[.slice ad l.length cap, .func (.func 41) #[] #[]] w0 (Ret w0 h0 fun u _ => u = .int .i64 (idxS p l)) := by
  have hlm := hx.lm
  refine ent (args := [.slice ad l.length cap, .func (.func 41) #[] #[]]) TT_ok [] [] Tryd.func73 rfl Tryd.ntmps73 rfl rfl hv ?_
  refine w_loop TT_ok (fun k : Nat => [(8, .v (.int .i64 k))]) 0 (fun k => k ≤ l.length ∧ ∀ j, j < k → p (l.getD j ex0) = false) (fun k => l.length - k) ?_
  refine And.intro ⟨⟨Nat.zero_le _, fun j hj => absurd hj (Nat.not_lt_zero j)⟩, gs⟩ ?_
  intro k ⟨hk, hn⟩
  refine cnd (fun h => ?_) (fun h => ?_)
  · refine ixE hx k (fun a2 c2 h1 h2 h3 => ?_)
    refine cb (fun w hw => hp k (by omega) a2 c2 h1 h2 h3 w hw) ?_
    refine cnd (fun h4 => ?_) (fun h4 => ?_)
    · exact congrArg (Value.int .i64) (idx_hit ex0 (by omega) hn h4).symm
    · refine wi ?_
      exact ⟨k + 1, ⟨⟨by omega, upto_snoc hn h4⟩, by omega⟩, gs⟩
  · exact congrArg (Value.int .i64) (idx_none ex0 (fun j hj => hn j (by omega))).symm
theorem c_ContainsX (ad : Option Addr) (cap : Nat) (l : List Ex) (p : Ex → Bool) (w0 : World) (h0 : View) (hv : VLe h0 (Full w0)) (hx : XL h0 ad cap l)
    (hp : ∀ j, j < l.length → ∀ a2 c2, XL h0 a2 c2 (l.getD j ex0).l → i64 (l.getD j ex0).op → valB (l.getD j ex0).v → ∀ w, VLe h0 (Full w) → Calls Tryd.prog 41 #[.agg (exC (l.getD j ex0).op (l.getD j ex0).v (l.getD j ex0).s (.slice a2 (l.getD j ex0).l.length c2)).toArray] w (Ret w h0 fun u _ => u = .bool (p (l.getD j ex0)))) :
    Calls Tryd.prog 40 #[.slice ad l.length cap, .func (.func 41) #[] #[]] w0 (Ret w0 h0 fun u _ => u = .bool (l.any p)) := by
  refine ent (args := [.slice ad l.length cap, .func (.func 41) #[] #[]]) TT_ok [] [] Tryd.func40 rfl Tryd.ntmps40 rfl rfl hv ?_
  refine cb (fun w hw => c_IndexX ad cap l p w h0 hw hx hp) ?_
  exact congrArg Value.bool (idx_any (p := p) (l := l))
theorem any_right (l : List Ex) : (!(l.any fun y => !rightS y)) = l.all rightS := any_all rightS l
set_option maxHeartbeats 1000000 in
theorem c_right : ∀ (k : Nat) (x : Ex) (ad : Option Addr) (cap : Nat), SizeOf.sizeOf x < k → ∀ (w0 : World) (h0 : View), VLe h0 (Full w0) → GX h0 ad cap x → Calls Tryd.prog 25 #[.agg (exC x.op x.v x.s (.slice ad x.l.length cap)).toArray] w0 (Ret w0 h0 fun u _ => u = .bool (rightS x)) := by
  intro k
  induction k with
  | zero => intro x ad cap h; omega
  | succ k ih =>
    intro x ad cap hk w0 h0 hv hx
    have hsm := hx.sm.parts
    have hp : ∀ j, j < x.l.length → ∀ a2 c2, XL h0 a2 c2 (x.l.getD j ex0).l → i64 (x.l.getD j ex0).op → valB (x.l.getD j ex0).v → ∀ w, VLe h0 (Full w) → Calls Tryd.prog 41 #[.agg (exC (x.l.getD j ex0).op (x.l.getD j ex0).v (x.l.getD j ex0).s (.slice a2 (x.l.getD j ex0).l.length c2)).toArray] w (Ret w h0 fun u _ => u = .bool (!rightS (x.l.getD j ex0))) := by
      intro j hj a2 c2 g1 g2 g3 w hw
      refine ent (args := [.agg (exC (x.l.getD j ex0).op (x.l.getD j ex0).v (x.l.getD j ex0).s (.slice a2 (x.l.getD j ex0).l.length c2)).toArray]) TT_ok [] [] Tryd.func41 rfl Tryd.ntmps41 rfl rfl hw ?_
      intro b
      refine cb (fun w hw => ih _ a2 c2 (by have := Ex.lt (getD_mem x.l j ex0 hj); omega) w h0 hw ⟨g1, g2, g3, hsm.2.2.2 _ (getD_mem x.l j ex0 hj)⟩) ?_
      exact rfl
    refine ent (args := [.agg (exC x.op x.v x.s (.slice ad x.l.length cap)).toArray]) TT_ok [] [] Tryd.func25 rfl Tryd.ntmps25 rfl rfl hv ?_
    intro b1
    refine And.intro (by kernel_rfl) ?_
    refine cl (c_count x.op) ?_
    refine cnd (fun h => ?_) (fun h => ?_)
    · exact congrArg Value.bool (by rw [right_eq, decide_eq_false h, Bool.false_and])
    refine cnd (fun h1 => ?_) (fun h1 => ?_)
    · refine clg (fun _ => c_VCheck x.v hx.v) ?_
      exact congrArg Value.bool (by rw [right_eq, decide_eq_true h, if_pos h1]; simp [Bool.and_assoc])
    refine cnd (fun h2 => ?_) (fun h2 => ?_)
    · refine aq eqV x.v v0 ?_
      refine clg (fun _ => c_Name x.s (by omega)) ?_
      exact congrArg Value.bool (by rw [right_eq, decide_eq_true h, if_neg h1, if_pos h2]; simp)
    · refine aq eqV x.v v0 ?_
      refine cbg (fun _ w hw => c_ContainsX ad cap x.l (fun y => !rightS y) w h0 hw hx.xl hp) ?_
      exact congrArg Value.bool (by rw [right_eq, decide_eq_true h, if_neg h1, if_neg h2, any_right]; simp)
theorem c_Check (x : Ex) (ad : Option Addr) (cap : Nat) (w0 : World) (h0 : View) (hv : VLe h0 (Full w0)) (hx : GX h0 ad cap x) : Calls Tryd.prog 14 #[.agg (exC x.op x.v x.s (.slice ad x.l.length cap)).toArray] w0 (Ret w0 h0 fun u _ => u = .int .i64 (if rightS x then 0 else 2)) := by
  refine ent (args := [.agg (exC x.op x.v x.s (.slice ad x.l.length cap)).toArray]) TT_ok [] [] Tryd.func14 rfl Tryd.ntmps14 rfl rfl hv ?_
  intro b1
  refine cb (fun w hw => c_right _ x ad cap (Nat.lt_succ_self _) w h0 hw hx) ?_
  refine cnd (fun h => ?_) (fun h => ?_)
  · exact congrArg (Value.int .i64) (by rw [if_neg (by rw [h]; decide)])
  · exact congrArg (Value.int .i64) (by rw [if_pos h])
end Go.Proofs.YtpcgdhhndeanoaaDoor
set_option maxRecDepth 100000
namespace Go.Proofs.YtpcgdhhndeanoaaDoor
open Go Go.Dx Go.RowKit
set_option maxRecDepth 100000 in
theorem c_Read (ad : Option Addr) (cap : Nat) (l : List Tok) (hT : TokN l) (hTs : ∀ t ∈ l, t.s.length ≤ 1000000) (hn : l.length ≤ 999999) (i lev : Nat) (hi : i ≤ l.length) (hlev : lev ≤ 7) (w0 : World) (h0 : View) (hv : VLe h0 (Full w0)) (hl : SlC 50 4 (flatR tokC) h0 (.slice ad l.length cap) l) :
    Calls Tryd.prog 19 #[.slice ad l.length cap, .int .i64 (i : Int), .int .i64 (lev : Int)] w0 (Ret w0 h0 fun u hh => ∃ x : Option Addr × Nat, u = .tuple #[exV (readT l i lev).1 x, .int .i64 (((readT l i lev).2.1 : Nat) : Int), .int .i64 (readT l i lev).2.2] ∧ XL hh x.1 x.2 (readT l i lev).1.l) := by
  have g1 := rd_ge l (needS l lev i) lev i false hi
  unfold readT
  refine entA (args := [.slice ad l.length cap, .int .i64 (i : Int), .int .i64 (lev : Int)]) TT_ok [1000006, 1000007] [] Tryd.func19 rfl Tryd.ntmps19 rfl rfl hv (fun x => xl_m x _) ?_
  intro b6
  refine cndF (by simp; omega) ?_
  intro b31
  refine cV TT_ok 31 (fun w v h1 h2 h3 h4 h5 => c_read hT hTs hn (needS l lev i) lev i false hlev hi (Nat.le_refl _) w v h3 h4 (Mono.slF _ _ h1 hl) h5) (fun x => xl_m x _) (fun x1 => ?_)
  generalize rdF l (needS l lev i) lev i false = r at g1 ⊢
  intro b10
  refine cnd (fun h => ?_) (fun h => ?_)
  · rw [if_pos h]
    refine regQ TT_ok [0, 1, 2, 3, 4] [5, 6, 7] [6] false ?_
    refine kq ?_
    refine kq ?_
    refine kq ?_
    exact ⟨(none, 0), rfl, fun v _ _ => xl_nil v⟩
  · rw [if_neg (by rw [h]; decide)]
    refine regQ TT_ok [0, 1, 2, 3, 4] [5, 6, 7] [6] false ?_
    refine kq ?_
    refine kq ?_
    refine kq ?_
    exact ⟨x1, rfl, fun v _ hF => hF.2⟩
theorem mk_int (n m : Nat) : (if (n : Int) < m then (m : Int) else n) = ((max n m : Nat) : Int) := by
  rw [Nat.max_def]; split <;> split <;> omega
theorem c_Deep : ∀ (k : Nat) (x : Ex) (ad : Option Addr) (cap : Nat), SizeOf.sizeOf x < k → deepS x ≤ 1000000000 → ∀ (w0 : World) (h0 : View), VLe h0 (Full w0) → XL h0 ad cap x.l → Calls Tryd.prog 15 #[.agg (exC x.op x.v x.s (.slice ad x.l.length cap)).toArray] w0 (Ret w0 h0 fun u _ => u = .int .i64 (deepS x : Nat)) := by
  intro k
  induction k with
  | zero => intro x ad cap h; omega
  | succ k ih =>
    intro x ad cap hk hd w0 h0 hv hx
    have hlm := hx.lm
    refine ent (args := [.agg (exC x.op x.v x.s (.slice ad x.l.length cap)).toArray]) TT_ok [] [] Tryd.func15 rfl Tryd.ntmps15 rfl rfl hv ?_
    intro b1
    refine w_loop TT_ok (fun k : Nat => [(9, .v (.int .i64 k)), (3, .v (.int .i64 (deepL 0 (x.l.take k) : Nat)))]) 0 (fun k => k ≤ x.l.length) (fun k => x.l.length - k) ?_
    refine And.intro ⟨Nat.zero_le _, gs⟩ ?_
    intro k hkl
    refine cnd (fun h => ?_) (fun h => ?_)
    · have hin := getD_mem x.l k ex0 (by omega)
      have hsub := deep_sub hin
      refine ixE hx k (fun a2 c2 h1 h2 h3 => ?_)
      intro b5
      refine cb (fun w hw => ih (x.l.getD k ex0) a2 c2 (by have := Ex.lt hin; omega) (by omega) w h0 hw h1) ?_
      refine ew ((max (deepL 0 (x.l.take k)) (deepS (x.l.getD k ex0)) : Nat) : Int) (mk_int _ _) ?_
      refine wi ?_
      refine ⟨k + 1, ⟨by omega, by omega⟩, gs (sl := ?_)⟩
      rw [deepL_take x.l k (by omega)]
      rfl
    · have e : k = x.l.length := by omega
      subst e
      have hd2 := deep_eq x
      rw [List.take_length]
      refine wi ?_
      exact congrArg (Value.int .i64) (by rw [deep_eq]; omega)
theorem c_Parse (s : List UInt8) (hT : TokN (lexS s).1) (hTs : ∀ t ∈ (lexS s).1, t.s.length ≤ 1000000) (hn : (lexS s).1.length ≤ 999999) (hd : deepS (readT (lexS s).1 0 0).1 ≤ 1000000000) (hsl : s.length ≤ 9223372036854775807) (w0 : World) (h0 : View) (hv : VLe h0 (Full w0)) :
    Calls Tryd.prog 8 #[vs s] w0 (Ret w0 h0 fun u hh => ∃ x : Option Addr × Nat, u = .tuple #[exV (parseT s).1 x, .int .i64 (parseT s).2.1, .int .i64 (parseT s).2.2] ∧ XL hh x.1 x.2 (parseT s).1.l) := by
  unfold parseT
  refine entA (args := [vs s]) TT_ok [1000006] [] Tryd.func8 rfl Tryd.ntmps8 rfl rfl hv (fun x => xl_m x _) ?_
  intro b2
  refine cA TT_ok (fun w v h1 h2 h3 => c_Lex s w v h3) (fun _ => Mono.slF) (fun x => ?_)
  generalize lexS s = L at hT hTs hn hd ⊢
  obtain ⟨l, at_, e⟩ := L
  simp only at hT hTs hn hd ⊢
  refine cnd (fun h => ?_) (fun h => ?_)
  · rw [if_pos h]
    exact ⟨(none, 0), rfl, fun v _ _ => xl_nil v⟩
  rw [if_neg (fun hh => hh (by simpa using h))]
  refine cA TT_ok (fun w v h1 h2 h3 => c_Read x.1 x.2 l hT hTs hn 0 0 (Nat.zero_le _) (by omega) w v h3 h2.2) (fun x => xl_m x _) (fun x2 => ?_)
  generalize readT l 0 0 = r at hd ⊢
  obtain ⟨y, n, f⟩ := r
  simp only at hd ⊢
  intro b8
  refine cnd (fun h2 => ?_) (fun h2 => ?_)
  · rw [if_pos (by omega)]
    refine regQ TT_ok [0, 1, 2, 3, 4, 5] [6, 7, 8] [2] false ?_
    refine ixf (fun v hF => hF.1.2) n t0 ?_ (by omega)
    refine kq ?_
    refine kq ?_
    refine kq ?_
    exact ⟨(none, 0), rfl, fun v _ _ => xl_nil v⟩
  rw [if_neg (by omega)]
  refine cnd (fun h3 => ?_) (fun h3 => ?_)
  · rw [if_pos (by simpa using h3)]
    exact ⟨(none, 0), rfl, fun v _ _ => xl_nil v⟩
  rw [if_neg (by simpa using h3)]
  refine cf (fun w v h1 h2 h3 => c_Deep _ y x2.1 x2.2 (Nat.lt_succ_self _) hd w v h3 h2.2) ?_
  refine cnd (fun h4 => ?_) (fun h4 => ?_)
  · rw [if_pos (by omega)]
    exact ⟨(none, 0), rfl, fun v _ _ => xl_nil v⟩
  rw [if_neg (by omega)]
  exact ⟨x2, rfl, fun v _ hF => hF.2⟩

end Go.Proofs.YtpcgdhhndeanoaaDoor
set_option maxRecDepth 100000
namespace Go.Proofs.YtpcgdhhndeanoaaDoor
open Go Go.Dx Go.RowKit
theorem c_Rlname (s : List UInt8) (hs : s.length ≤ 1000000) (w0 : World) (h0 : View) (hv : VLe h0 (Full w0)) : Calls Tryd.prog 63 #[vs s] w0 (Ret w0 h0 fun u _ => u = resB (nameS s)) := by
  refine ent (args := [vs s]) TT_ok [] [] Tryd.func63 rfl Tryd.ntmps63 rfl rfl hv ?_
  intro b2
  refine cl (c_Rword s hs) ?_
  refine cnd (fun h => ?_) (fun h => ?_)
  · rw [nameS, if_pos (by omega)]; exact rfl
  · have := wordN_le s
    refine ixl (wordN s) ?_
    rw [nameS, if_neg (by omega)]; exact rfl
theorem numF_lt' (s : List UInt8) : ∀ (k v : Nat), k ≤ s.length → numF (s.take k) = some v → v ≤ 9223372036854775807
  | 0, v, _, h => by simp [numF] at h; omega
  | k + 1, v, hk, h => by
    rw [numF_snoc s k (by omega), numStep] at h
    cases ho : numF (s.take k) with
    | none => rw [ho] at h; cases h
    | some u =>
      rw [ho, Option.bind_some] at h
      split at h
      · cases h
      · rename_i hn
        cases h
        have := (s.getD k 0).toNat_lt
        omega
set_option maxHeartbeats 1000000 in
theorem c_Rnumber (s : List UInt8) (hs0 : 0 < s.length) (hs : s.length ≤ 1000000) (w0 : World) (h0 : View) (hv : VLe h0 (Full w0)) : Calls Tryd.prog 65 #[vs s] w0 (Ret w0 h0 fun u _ => u = resB (numS s)) := by
  refine ent (args := [vs s]) TT_ok [] [] Tryd.func65 rfl Tryd.ntmps65 rfl rfl hv ?_
  intro b2
  refine w_loop TT_ok (fun z : Nat × Nat × Bool => [(5, .v (.int .i64 z.1)), (6, .v (.int .i64 z.2.1)), (7, .v (.bool z.2.2))]) (0, 0, false) (fun z => z.1 ≤ s.length ∧ (s.take z.1).all isDig = true ∧ (z.2.2 = false → numF (s.take z.1) = some z.2.1) ∧ (z.2.2 = true → numF (s.take z.1) = none)) (fun z => s.length - z.1) ?_
  refine And.intro ⟨⟨Nat.zero_le _, by simp, fun _ => rfl, fun h => by cases h⟩, gs⟩ ?_
  rintro ⟨k, v, ov⟩ ⟨hk, ha, hn1, hn2⟩
  dsimp only at hk ha hn1 hn2 ⊢
  refine ixg k ?_
  refine clg (fun _ => c_Rdigit (s.getD k 0)) ?_
  refine cnd (fun h => ?_) (fun h => ?_)
  · have hkl : k < s.length := by omega
    have ha2 := all_snocW hkl ha h.2
    have hd := dig_b h.2
    refine ix k ?_
    generalize hdd : (s.getD k 0).toNat - 48 = d
    refine ew (d : Int) (show IntKind.u8.wrap (((s.getD k 0).toNat : Int) - 48) = _ by rw [wrap_u8 (by omega) (by omega)]; omega) ?_
    refine ew (d : Int) (wrap_i64 (by omega) (by omega)) ?_
    cases ov with
    | true =>
      have hnn := numS_none hkl (hn2 rfl)
      refine ew 0 (fun hh => absurd hh (by decide)) ?_
      refine ew 0 (fun hh => absurd hh (by decide)) ?_
      refine cndF rfl ?_
      refine wi ?_
      exact ⟨(k + 1, v, true), ⟨⟨by show k + 1 ≤ _; omega, ha2, (fun h => by cases h), fun _ => hnn⟩, by show s.length - (k + 1) < s.length - k; omega⟩, gs⟩
    | false =>
      have hnf := hn1 rfl
      have hv1 := numF_lt' s k v (by omega) hnf
      have hov := @numS_over s k v hkl hnf
      have hst := @numS_step s k v hkl hnf
      rw [hdd] at hov hst
      refine ew (9223372036854775807 - (d : Int)) (fun _ => wrap_i64 (by omega) (by omega)) ?_
      have hqw : IntKind.i64.wrap ((9223372036854775807 - (d : Int)).tdiv 10) = (((9223372036854775807 - d) / 10 : Nat) : Int) := by
        rw [Int.tdiv_eq_ediv_of_nonneg (by omega), wrap_i64 (by omega) (by omega)]; omega
      have hq10 : 10 * ((9223372036854775807 - d) / 10) + d ≤ 9223372036854775807 := by omega
      generalize (9223372036854775807 - d) / 10 = q at hov hst hqw hq10
      refine ew (q : Int) (fun _ => ⟨by decide, hqw⟩) ?_
      refine cnd (fun h3 => ?_) (fun h3 => ?_)
      · have h3 : ¬ q < v := by simp at h3; omega
        refine ew ((10 * v : Nat) : Int) (show IntKind.i64.wrap (10 * (v : Int)) = _ by rw [wrap_i64 (by omega) (by omega)]; omega) ?_
        refine ew ((10 * v + d : Nat) : Int) (show IntKind.i64.wrap (((10 * v : Nat) : Int) + d) = _ by rw [wrap_i64 (by omega) (by omega)]; omega) ?_
        refine wi ?_
        refine ⟨(k + 1, 10 * v + d, decide ((q : Int) < (v : Int))), ⟨⟨by show k + 1 ≤ _; omega, ha2, fun _ => hst h3, fun hh => ?_⟩, by show s.length - (k + 1) < s.length - k; omega⟩, gs⟩
        exfalso
        simp at hh; omega
      · have h3 : q < v := by simp at h3; omega
        refine wi ?_
        refine ⟨(k + 1, v, decide ((q : Int) < (v : Int))), ⟨⟨by show k + 1 ≤ _; omega, ha2, fun hh => ?_, fun _ => hov h3⟩, by show s.length - (k + 1) < s.length - k; omega⟩, gs⟩
        exfalso
        simp at hh; omega
  · have hkk : digN s = k := tw_len isDig s k ha hk (by
      rcases h with h | h
      · exact .inl (by omega)
      · exact .inr h)
    subst hkk
    refine ixg 0 ?_
    refine cnd (fun h1 => ?_) (fun h1 => ?_)
    · rw [numS, if_pos ⟨by omega, h1.2⟩]; exact rfl
    · rw [numS, if_neg (fun hh => by rcases h1 with h1 | h1; omega; exact h1 hh.2)]
      refine cnd (fun h2 => ?_) (fun h2 => ?_)
      · rw [hn2 h2]; exact rfl
      · rw [hn1 h2]; exact rfl
set_option maxHeartbeats 1000000 in
theorem c_Rtext (s : List UInt8) (hs : s.length ≤ 1000000) (w0 : World) (h0 : View) (hv : VLe h0 (Full w0)) : Calls Tryd.prog 66 #[vs s] w0 (Ret w0 h0 fun u _ => u = resB (textS s)) := by
  refine ent (args := [vs s]) TT_ok [] [14] Tryd.func66 rfl Tryd.ntmps66 rfl rfl hv ?_
  intro b2
  refine w_loop TT_ok (fun z : Nat × List UInt8 => [(6, .v (.int .i64 z.1)), (5, .v (vs z.2))]) (1, []) (fun z => z.2.length ≤ z.1 ∧ z.1 ≤ s.length + 1 ∧ textG s z.1 z.2 = textS s) (fun z => s.length + 1 - z.1) ?_
  refine And.intro ⟨⟨Nat.zero_le _, by show 1 ≤ _; omega, rfl⟩, gs⟩ ?_
  rintro ⟨i, b⟩ ⟨hb, hi, ht⟩
  dsimp only at hb hi ht ⊢
  refine cnd (fun h => ?_) (fun h => ?_)
  · have hil : i < s.length := by omega
    refine ix i ?_
    refine cnd (fun h1 => ?_) (fun h1 => ?_)
    · refine cnd (fun h2 => ?_) (fun h2 => ?_)
      · rw [← ht, tx_big hil h1 (by omega)]; exact rfl
      · refine wi ?_
        rw [← ht, tx_end hil h1 (by omega)]; exact rfl
    · refine w_cut TT_ok (fun j : Nat => [(6, .v (.int .i64 j))]) (fun j => j < s.length ∧ i ≤ j ∧ ((bt s j < 32 ∨ 126 < bt s j) → textG s i b = .err 11) ∧ (¬ (bt s j < 32 ∨ 126 < bt s j) → textG s (j + 1) (b ++ [s.getD j 0]) = textS s)) ?_
      refine And.intro ?_ ?_
      · refine cnd (fun h3 => ?_) (fun h3 => ?_)
        · refine wi ?_
          refine ixg (i + 1) ?_
          refine ixg (i + 1) ?_
          refine cnd (fun h4 => ?_) (fun h4 => ?_)
          · rw [← ht, tx_bad hil h1 h3 (by simp only [bt]; omega)]; exact rfl
          · have h5 : ¬ (i + 1 = s.length ∨ (bt s (i + 1) ≠ 34 ∧ bt s (i + 1) ≠ 92)) := by simp only [bt]; omega
            refine ⟨i + 1, ⟨by omega, by omega, fun h6 => ?_, fun _ => ?_⟩, gs⟩
            · exfalso; omega
            · rw [← ht, tx_esc hil h1 h3 h5]
        · refine ⟨i, ⟨by omega, Nat.le_refl _, fun h6 => tx_ctl hil h1 h3 h6, fun h6 => by rw [← ht, tx_ch hil h1 h3 h6]⟩, gs⟩
      · intro j ⟨hj, hij, hj1, hj2⟩
        refine ix j ?_
        refine ixg j ?_
        refine cnd (fun h4 => ?_) (fun h4 => ?_)
        · rw [← ht, hj1 (by simp only [bt]; omega)]; exact rfl
        · refine wi ?_
          refine sl2 j (j + 1) ?_
          have e1 : (s.drop j).take (j + 1 - j) = [s.getD j 0] := by
            rw [show j + 1 - j = 1 by omega, List.drop_eq_getElem_cons hj, getD_lt s j 0 hj]; rfl
          refine ct ?_ (by rw [e1]; show b.length + 1 ≤ _; omega)
          rw [e1]
          refine wi ?_
          exact ⟨(j + 1, b ++ [s.getD j 0]), ⟨⟨by show (b ++ [s.getD j 0]).length ≤ j + 1; rw [List.length_append]; show b.length + 1 ≤ _; omega, by show j + 1 ≤ _; omega, hj2 (by simp only [bt]; omega)⟩, by show s.length + 1 - (j + 1) < s.length + 1 - i; omega⟩, gs⟩
  · rw [← ht, tx_over (by omega)]; exact rfl
theorem c_RMarks (w0 : World) (h0 : View) (hv : VLe h0 (Full w0)) : Calls Tryd.prog 67 #[] w0 (Ret w0 h0 fun u h => ∃ b : Nat, u = .slice (some ⟨b, 0, none⟩) 16 16 ∧ SlC 9 1 (flatR fun s => [vs s]) h (.slice (some ⟨b, 0, none⟩) 16 16) marksL) := by
  refine entA (args := []) TT_ok [0] [] Tryd.func67 rfl Tryd.ntmps67 rfl rfl hv (fun _ => Mono.slF) ?_
  refine ⟨rfl, goW TT_ok ?_⟩
  intro b1
  refine shutG TT_ok (Φ := fun h => SlC 9 1 (flatR fun s => [vs s]) h (.slice (some ⟨b1, 0, none⟩) 16 16) marksL) 1 rfl (row_sl (g := fun s => [vs s]) (l := marksL) (sz := 1) (n := 16) (cp := 16) rfl) ?_ Mono.slF
  exact ⟨b1, rfl, fun v _ hF => hF.2⟩
set_option maxHeartbeats 1000000 in
theorem c_Rone (s : List UInt8) (hs0 : 0 < s.length) (hs : s.length ≤ 1000000) (w0 : World) (h0 : View) (hv : VLe h0 (Full w0)) : Calls Tryd.prog 36 #[vs s] w0 (Ret w0 h0 fun u _ => u = resB (oneS s)) := by
  refine ent (args := [vs s]) TT_ok [1000012] [] Tryd.func36 rfl Tryd.ntmps36 rfl rfl hv ?_
  intro b2
  refine ix 0 ?_
  refine cl (c_Rletter (s.getD 0 0)) ?_
  refine cnd (fun h => ?_) (fun h => ?_)
  · refine cl (c_Rlname s hs) ?_
    rw [one_let h]; exact rfl
  refine ix 0 ?_
  refine cl (c_Rdigit (s.getD 0 0)) ?_
  refine cnd (fun h2 => ?_) (fun h2 => ?_)
  · refine cl (c_Rnumber s hs0 hs) ?_
    rw [one_dig h h2]; exact rfl
  refine ix 0 ?_
  refine cnd (fun h3 => ?_) (fun h3 => ?_)
  · refine cl (c_Rtext s hs) ?_
    rw [one_txt h h2 h3]; exact rfl
  rw [one_mark h h2 h3]
  refine cA TT_ok (fun w v h1 h2 h3 => c_RMarks w v h3) (fun _ => Mono.slF) (fun b6 => ?_)
  have hml : marksL.length = 16 := rfl
  refine w_loop TT_ok (fun k : Nat => [(6, .v (.int .i64 k))]) 0 (fun k => k ≤ 16 ∧ markG s (marksL.drop k) = markG s marksL) (fun k => 16 - k) ?_
  refine And.intro ⟨⟨Nat.zero_le _, rfl⟩, gs⟩ ?_
  intro k ⟨hk, hm⟩
  refine cnd (fun h4 => ?_) (fun h4 => ?_)
  · have hk16 : k < 16 := by omega
    have hst := mark_step s k hk16
    rw [hm] at hst
    refine And.intro (by kernel_rfl) ?_
    refine ixf (l := marksL) (fun v hF => hF.2) k [] ?_ (by omega)
    refine ixfg (l := marksL) (fun v hF => hF.2) k [] ?_ (by intros; omega)
    refine kg1 ?_
    refine ⟨(marksL.getD k []).length, fun h => ⟨rfl, by simpa [bq] using h⟩, ?_⟩
    refine ixfg (l := marksL) (fun v hF => hF.2) k [] ?_ (by intros; omega)
    refine kg1 ?_
    refine cnd (fun h5 => ?_) (fun h5 => ?_)
    · have hp : pre s (marksL.getD k []) = true := by rw [pre, decide_eq_true (by omega), decide_eq_true h5.2]; rfl
      rw [hst, hp]
      refine regQ TT_ok [0, 1, 2, 3, 4, 5, 6, 7, 8, 9] [10, 11, 12] [2] false ?_
      refine ixf (l := marksL) (fun v hF => hF.2) k [] ?_ (by omega)
      refine ixf (l := marksL) (fun v hF => hF.2) k [] ?_ (by omega)
      refine kq ?_
      refine kq ?_
      refine kq ?_
      exact rfl
    · have hp : pre s (marksL.getD k []) = false := by
        rw [pre]
        rcases h5 with h5 | h5
        · rw [decide_eq_false (by omega)]; rfl
        · rw [decide_eq_false (p := s.take _ = _) h5, Bool.and_false]
      rw [hp] at hst
      refine wi ?_
      exact ⟨k + 1, ⟨⟨by omega, hst.symm⟩, by omega⟩, gs⟩
  · have e : k = 16 := by omega
    subst e
    rw [← hm]; exact rfl
theorem flatT' (l : List Tok) : (l.map tokC).flatten.length = 4 * l.length := flatC_len l
set_option maxHeartbeats 1000000 in
theorem c_RLex (s : List UInt8) (w0 : World) (h0 : View) (hv : VLe h0 (Full w0)) : Calls Tryd.prog 20 #[vs s] w0 (Ret w0 h0 fun u h => ∃ x : Option Addr × Nat, u = .tuple #[.slice x.1 (lexS s).1.length x.2, .int .i64 (lexS s).2.1, .int .i64 (lexS s).2.2] ∧ SlC 50 4 (flatR tokC) h (.slice x.1 (lexS s).1.length x.2) (lexS s).1) := by
  refine entA (args := [vs s]) TT_ok [44] [] Tryd.func20 rfl Tryd.ntmps20 rfl rfl hv (fun _ => Mono.slF) ?_
  refine cnd (fun h => ?_) (fun h => ?_)
  · rw [lexS, if_pos (by omega)]
    exact ⟨(none, 0), rfl, fun v _ _ => SlC.nil (by simp [maxLen])⟩
  have hlx : lexS s = lexG s 0 [] := by rw [lexS, if_neg (by omega)]
  refine nilC 900 50 4 ?_
  refine w_loopB TT_ok (fun z : Option Addr × Nat × Nat × Nat × List Tok => [(5, .v (.slice z.1 z.2.1 z.2.2.1)), (6, .v (.int .i64 z.2.2.2.1))]) (fun z => [(900, .e (bufE 50 4 (.slice z.1 z.2.1 z.2.2.1) (z.2.2.2.2.map tokC).flatten))]) (none, 0, 0, 0, [])
    (fun z => z.2.2.2.1 ≤ s.length ∧ z.2.1 = z.2.2.2.2.length ∧ z.2.2.2.2.length ≤ z.2.2.2.1 ∧ lexG s z.2.2.2.1 z.2.2.2.2 = lexS s) (fun z => s.length - z.2.2.2.1) ?_
  refine And.intro ⟨⟨Nat.zero_le _, rfl, Nat.zero_le _, hlx.symm⟩, gs⟩ ?_
  rintro ⟨a0, n, cp, j, out⟩ ⟨hj, hn, hb, hjt⟩
  dsimp only at hj hn hb hjt ⊢
  refine cnd (fun h2 => ?_) (fun h2 => ?_)
  · have hjl : j < s.length := by omega
    refine ix j ?_
    refine cnd (fun h1 => ?_) (fun h1 => ?_)
    · refine wi ?_
      refine ⟨(a0, n, cp, j + 1, out), ⟨⟨by show j + 1 ≤ _; omega, hn, by show out.length ≤ j + 1; omega, ?_⟩, by show s.length - (j + 1) < s.length - j; omega⟩, gs⟩
      rw [← hjt, lex_sp hjl h1]
    · have hne : ¬ bt s j = 32 := h1
      have hdl : (s.drop j).length = s.length - j := List.length_drop
      refine ixl j ?_
      rcases one_ok (s.drop j) (by omega) with ⟨e, he, h0e⟩ | ⟨t, m, he, hm, hml⟩
      · refine cl (x := resB (.err e)) (fun w h hv => by have := c_Rone (s.drop j) (by omega) (by omega) w h hv; rw [he] at this; exact this) ?_
        intro b7
        refine cndT (show (!decide (resE (.err e) = 0)) = true by rw [show resE (.err e) = e from rfl, decide_eq_false h0e]; rfl) ?_
        have e2 : lexS s = ([], (j : Int), e) := by rw [← hjt, lex_err hjl hne he]
        rw [e2]
        exact ⟨(none, 0), rfl, fun v _ _ => SlC.nil (by simp [maxLen])⟩
      · refine cl (x := resB (.ok t m)) (fun w h hv => by have := c_Rone (s.drop j) (by omega) (by omega) w h hv; rw [he] at this; exact this) ?_
        intro b7
        refine cndF rfl ?_
        intro b39
        refine ap TT_ok 900 (AppT.of (bytes := 40) (sz := 3) (by kernel_rfl) (by kernel_rfl) (by kernel_rfl)) rfl rfl rfl rfl rfl rfl rfl (by rw [flatT']; show (_ + 4) * 41 ≤ _; omega) (fun a1 n1 c1 e1 => ?_)
        refine ew ((j + m : Nat) : Int) (show IntKind.i64.wrap ((j : Int) + m) = _ by rw [wrap_i64 (by omega) (by omega)]; omega) ?_
        have hn1 : n1 = out.length + 1 := by
          rw [flatT'] at e1
          have e1 : n1 * 4 = 4 * out.length + 4 := e1
          omega
        refine ⟨(a1, n1, c1, j + m, out ++ [{ t with p := (j : Int) }]), ⟨⟨by show j + m ≤ s.length; omega, by show n1 = (out ++ [{ t with p := (j : Int) }]).length; rw [List.length_append]; exact hn1, by show (out ++ [{ t with p := (j : Int) }]).length ≤ j + m; rw [List.length_append]; show out.length + 1 ≤ j + m; omega, by rw [← hjt, lex_ok hjl hne he hm]⟩, by show s.length - (j + m) < s.length - j; omega⟩, gs rfl ?_⟩
        show [(900, OB.e (bufE 50 4 (.slice a1 n1 c1) _))] = [(900, OB.e (bufE 50 4 (.slice a1 n1 c1) _))]
        rw [List.map_append, List.flatten_append]; rfl
  · have e : lexS s = (out, 0, 0) := by rw [← hjt, lex_end (by omega)]
    subst hn
    refine And.intro rfl ?_
    refine sealW (g := tokC) (l := out) 900 rfl rfl ?_
    refine goW TT_ok ?_
    rw [e]
    exact ⟨(a0, cp), rfl, fun v _ hF => hF.2⟩

end Go.Proofs.YtpcgdhhndeanoaaDoor
set_option maxRecDepth 100000
namespace Go.Proofs.YtpcgdhhndeanoaaDoor
open Go Go.Dx Go.RowKit
def levD (op : Int) : Int := if op = 15 then 1 else if op = 14 then 2 else if 8 ≤ op ∧ op ≤ 13 then 3 else if op = 4 ∨ op = 5 then 4 else if op = 6 ∨ op = 7 then 5 else if op = 3 then 6 else if op = 1 ∨ op = 2 then 7 else 0
theorem c_Level (op : Int) (w0 : World) (h0 : View) (hv : VLe h0 (Full w0)) : Calls Tryd.prog 88 #[.int .i64 op] w0 (Ret w0 h0 fun u _ => u = .int .i64 (levD op)) := by
  refine ent (args := [.int .i64 op]) TT_ok [] [] Tryd.func88 rfl Tryd.ntmps88 rfl rfl hv ?_
  have hc : (op < 1 ∨ 15 < op) ∨ op = 1 ∨ op = 2 ∨ op = 3 ∨ op = 4 ∨ op = 5 ∨ op = 6 ∨ op = 7 ∨ op = 8 ∨ op = 9 ∨ op = 10 ∨ op = 11 ∨ op = 12 ∨ op = 13 ∨ op = 14 ∨ op = 15 := by omega
  rcases hc with hc | hc
  · have e : levD op = 0 := by
      unfold levD
      rw [if_neg (by omega), if_neg (by omega), if_neg (by omega), if_neg (by omega), if_neg (by omega), if_neg (by omega), if_neg (by omega)]
    rw [e]
    repeat refine cndF (decide_eq_false (by omega)) ?_
    exact rfl
  · rcases hc with rfl | rfl | rfl | rfl | rfl | rfl | rfl | rfl | rfl | rfl | rfl | rfl | rfl | rfl | rfl
    all_goals
      repeat (first | refine cndF (by decide) ?_ | refine cndT (by decide) ?_)
      exact rfl
theorem bin_k : ∀ k, k < 12 → (binL.getD k (0, [], 0)).1 = ((k + 4 : Nat) : Int) ∧ findS ((k + 4 : Nat) : Int) = binL.getD k (0, [], 0) ∧ levD ((k + 4 : Nat) : Int) = (binL.getD k (0, [], 0)).2.2 ∧ (if (k = 10 ∨ k = 11) then (1 : Int) else 4) = kindB (binL.getD k (0, [], 0))
  | 0, _ | 1, _ | 2, _ | 3, _ | 4, _ | 5, _ | 6, _ | 7, _ | 8, _ | 9, _ | 10, _ | 11, _ => by decide
  | n + 12, h => by omega
def rrC (ad : Option Addr) (n cap : Nat) (at_ : Int) (bad : Bool) : List Value := [.slice ad n cap, .int .i64 at_, .bool bad]
section rr
variable (b : Nat) (ad : Option Addr) (cap : Nat) (l : List Tok)
theorem c_Ris (i : Nat) (bad : Bool) (k : Int) (s : List UInt8) (hk : k ≠ 0) (hi : i ≤ 1000000) (w0 : World) (h0 : View) (hv : VLe h0 (Full w0)) (hno : h0 b = none) (hl : SlC 50 4 (flatR tokC) h0 (.slice ad l.length cap) l)
    (hbl : w0.heap[b]? = some (.cells (rrC ad l.length cap i bad).toArray 83 (0, 0))) :
    Calls Tryd.prog 69 #[.pointer (some ⟨b, 0, none⟩), .int .i64 k, vs s] w0 (RetM [b] w0 fun u w' => u = .bool (onS l i false k s) ∧ w'.heap[b]? = some (.cells (rrC ad l.length cap i bad).toArray 83 (0, 0))) := by
  refine entM (args := [.pointer (some ⟨b, 0, none⟩), .int .i64 k, vs s]) TT_ok [] [] [.o 900 0, .v (.int .i64 k), .v (vs s)] Tryd.func69 rfl Tryd.ntmps69 rfl rfl hv hbl hno rfl ?_
  refine And.intro (by kernel_rfl) ?_
  refine ixsg hl i t0 ?_ (by intros; omega)
  refine kg1 ?_
  refine ixsg hl i t0 ?_ (fun h => by simp at h; omega)
  refine kg1 ?_
  refine ⟨?_, rfl⟩
  refine congrArg Value.bool ?_
  by_cases h : i < l.length
  · rw [onS, nowS]
    simp [h]
  · have e : onS l i false k s = false := by
      cases ho : onS l i false k s with
      | false => rfl
      | true => exact absurd (on_lt ho hk).1 h
    rw [e]
    simp [h]
theorem c_Rtake (p : Nat × Bool) (k : Int) (s : List UInt8) (hk : k ≠ 0) (hi : p.1 ≤ 1000000) (w0 : World) (h0 : View) (hv : VLe h0 (Full w0)) (hno : h0 b = none) (hl : SlC 50 4 (flatR tokC) h0 (.slice ad l.length cap) l)
    (hbl : w0.heap[b]? = some (.cells (rrC ad l.length cap ((p.1 : Nat) : Int) p.2).toArray 83 (0, 0))) :
    Calls Tryd.prog 70 #[.pointer (some ⟨b, 0, none⟩), .int .i64 k, vs s] w0 (RetM [b] w0 fun u w' => u = .tuple #[] ∧ w'.heap[b]? = some (.cells (rrC ad l.length cap (((mustS l p k s).1 : Nat) : Int) (mustS l p k s).2).toArray 83 (0, 0))) := by
  obtain ⟨i, bad⟩ := p
  refine entM (args := [.pointer (some ⟨b, 0, none⟩), .int .i64 k, vs s]) TT_ok [] [] [.o 900 0, .v (.int .i64 k), .v (vs s)] Tryd.func70 rfl Tryd.ntmps70 rfl rfl hv hbl hno rfl ?_
  refine cnd (fun h => ?_) (fun h => ?_)
  · have h : bad = true := h
    subst h
    have e : onS l i true k s = false := by
      cases ho : onS l i true k s with
      | false => rfl
      | true => exact absurd (on_lt ho hk).2 (by decide)
    have e1 : mustS l (i, true) k s = (i, true) := by unfold mustS; rw [if_neg (by rw [e]; decide)]; rfl
    rw [e1]
    exact ⟨rfl, rfl⟩
  · have h : bad = false := h
    subst h
    refine cM TT_ok 900 (fun w v h1 h2 h3 h4 h5 => c_Ris b ad cap l i false k s hk hi w v h3 h4 (Mono.slF _ _ h1 hl) h5) ?_
    refine cnd (fun h => ?_) (fun h => ?_)
    · have e1 : mustS l (i, false) k s = (i + 1, false) := by unfold mustS; rw [if_pos h, h]; rfl
      rw [e1]
      refine wi ?_
      exact ⟨rfl, rfl⟩
    · have e1 : mustS l (i, false) k s = (i, true) := by unfold mustS; rw [if_neg (by rw [h]; decide), h]; rfl
      rw [e1]
      exact ⟨rfl, rfl⟩
theorem c_Rop (i lev : Nat) (hi : i ≤ 1000000) (w0 : World) (h0 : View) (hv : VLe h0 (Full w0)) (hno : h0 b = none) (hl : SlC 50 4 (flatR tokC) h0 (.slice ad l.length cap) l)
    (hbl : w0.heap[b]? = some (.cells (rrC ad l.length cap (i : Int) false).toArray 83 (0, 0))) :
    Calls Tryd.prog 71 #[.pointer (some ⟨b, 0, none⟩), .int .i64 (lev : Int)] w0 (RetM [b] w0 fun u w' => u = .int .i64 (opS l i false lev) ∧ w'.heap[b]? = some (.cells (rrC ad l.length cap (i : Int) false).toArray 83 (0, 0))) := by
  refine entM (args := [.pointer (some ⟨b, 0, none⟩), .int .i64 (lev : Int)]) TT_ok [4000026] [7] [.o 900 0, .v (.int .i64 (lev : Int))] Tryd.func71 rfl Tryd.ntmps71 rfl rfl hv hbl hno rfl ?_
  refine w_loop TT_ok (fun k : Nat => [(5, .v (.int .i64 ((k + 4 : Nat) : Int)))]) 0 (fun k => k ≤ 12 ∧ ∀ j, j < k → hitB l i false lev (binL.getD j (0, [], 0)) = false) (fun k => 12 - k) ?_
  refine And.intro ⟨⟨Nat.zero_le _, fun j hj => absurd hj (Nat.not_lt_zero j)⟩, gs⟩ ?_
  intro k ⟨hk, hn⟩
  have hlen : binL.length = 12 := rfl
  refine cnd (fun h => ?_) (fun h => ?_)
  · have hk12 : k < 12 := by omega
    obtain ⟨e1, e2, e3, e4⟩ := bin_k k hk12
    have hhit := op_hit l i false lev k hk12 hn
    have hmiss : hitB l i false lev (binL.getD k (0, [], 0)) = false → ∀ j, j < k + 1 → hitB l i false lev (binL.getD j (0, [], 0)) = false := fun hh j hj => by
      by_cases hjk : j = k
      · rw [hjk]; exact hh
      · exact hn j (by omega)
    refine w_cut TT_ok (fun kd : Int => [(6, .v (.int .i64 kd))]) (fun kd => kd = kindB (binL.getD k (0, [], 0)) ∧ kd ≠ 0) ?_
    refine And.intro ?_ ?_
    · refine cnd (fun h1 => ?_) (fun h1 => ?_)
      · exact ⟨1, ⟨by rw [← e4, if_pos (by omega)], by decide⟩, gs⟩
      · exact ⟨4, ⟨by rw [← e4, if_neg (by omega)], by decide⟩, gs⟩
    · intro kd ⟨hkd, hkd0⟩
      have hb : hitB l i false lev (binL.getD k (0, [], 0)) = (decide ((binL.getD k (0, [], 0)).2.2 = lev) && onS l i false kd (binL.getD k (0, [], 0)).2.1) := by rw [hkd]; rfl
      refine cl (c_Level _) ?_
      rw [e3]
      refine clg (fun _ => c_sign _) ?_
      rw [e2]
      generalize binL.getD k (0, [], 0) = bb at e1 hb hhit hmiss ⊢
      obtain ⟨op, sg, lv⟩ := bb
      refine cnd (fun h4 => ?_) (fun h4 => ?_)
      · refine cMI TT_ok 900 (fun w v h1 h2 h3 h4 h5 => c_Ris b ad cap l i false kd sg hkd0 hi w v h3 h4 (Mono.slF _ _ h1 hl) h5) ?_
        refine cnd (fun h5 => ?_) (fun h5 => ?_)
        · refine ⟨?_, rfl⟩
          rw [hhit (by rw [hb, h5.2, decide_eq_true h4]; rfl), e1]; rfl
        · have h6 : onS l i false kd sg = false := h5.resolve_left (fun hh => hh h4)
          refine wi ?_
          exact ⟨k + 1, ⟨⟨by omega, hmiss (by rw [hb, h6, Bool.and_false])⟩, by omega⟩, gs⟩
      · refine ⟨.bool false, ?_⟩
        refine cndF (by rw [Bool.and_false]) ?_
        refine wi ?_
        exact ⟨k + 1, ⟨⟨by omega, hmiss (by rw [hb, decide_eq_false h4, Bool.false_and])⟩, by omega⟩, gs⟩
  · have e : opS l i false lev = 0 := op_none l i false lev fun j hj => hn j (by omega)
    rw [e]
    exact ⟨rfl, rfl⟩
end rr

end Go.Proofs.YtpcgdhhndeanoaaDoor
set_option maxRecDepth 100000
namespace Go.Proofs.YtpcgdhhndeanoaaDoor
open Go Go.Dx Go.RowKit
theorem op_bad (l : List Tok) (i : Nat) (lev : Int) : opS l i true lev = 0 := by
  by_cases h : opS l i true lev = 0
  · exact h
  · exact absurd (op_lt h).2 (by decide)
theorem atom_end {rd : Nat → Bool → RdR} {l : List Tok} {i : Nat} {bad : Bool} (h : bad = true ∨ l.length ≤ i) : atomS rd l i bad = (ex0, i, true) := by
  have hn : nowS l i bad = t0 := by
    unfold nowS
    split
    · rfl
    · rcases h with h | h
      · exact absurd h (by assumption)
      · simp [List.getD, List.getElem?_eq_none h]
  unfold atomS onS
  rw [hn]
  rfl
theorem loop_bad (rd : Nat → Bool → RdR) (l : List Tok) (lev n : Nat) (x : Ex) (i : Nat) : loopS rd l lev (n + 1) x i true = (x, i, true) := by
  unfold loopS
  rw [if_pos (op_bad l i lev)]
def RrP (b : Nat) (ad : Option Addr) (n cap : Nat) (r : RdR) (u : Value) (w' : World) (hh : View) : Prop := ∃ x : Option Addr × Nat, u = exV r.1 x ∧ w'.heap[b]? = some (.cells (rrC ad n cap ((r.2.1 : Nat) : Int) r.2.2).toArray 83 (0, 0)) ∧ XL hh x.1 x.2 r.1.l
section rf
variable (b : Nat) (ad : Option Addr) (cap : Nat) (l : List Tok)
def RrC (f : Nat) : Prop := ∀ (lev i : Nat) (bad : Bool), lev ≤ 7 → i ≤ l.length → needS l lev i ≤ f → ∀ (w0 : World) (h0 : View), VLe h0 (Full w0) → h0 b = none → SlC 50 4 (flatR tokC) h0 (.slice ad l.length cap) l →
    w0.heap[b]? = some (.cells (rrC ad l.length cap (i : Int) bad).toArray 83 (0, 0)) → Calls Tryd.prog 37 #[.pointer (some ⟨b, 0, none⟩), .int .i64 (lev : Int)] w0 (RetV [b] w0 h0 fun u w' hh => RrP b ad l.length cap (rdN l lev i bad) u w' hh)
variable {b ad cap l}
theorem c_Rfirst {f : Nat} (ih : RrC b ad cap l f) (hTs : ∀ t ∈ l, t.s.length ≤ 1000000) (hn : l.length ≤ 999999) (i : Nat) (bad : Bool) (hi : i ≤ l.length) (hf : needS l 7 i ≤ f + 1) (w0 : World) (h0 : View) (hv : VLe h0 (Full w0)) (hno : h0 b = none) (hl : SlC 50 4 (flatR tokC) h0 (.slice ad l.length cap) l)
    (hbl : w0.heap[b]? = some (.cells (rrC ad l.length cap (i : Int) bad).toArray 83 (0, 0))) :
    Calls Tryd.prog 68 #[.pointer (some ⟨b, 0, none⟩)] w0 (RetV [b] w0 h0 fun u w' hh => RrP b ad l.length cap (atomS (rdN l 0) l i bad) u w' hh) := by
  refine entW (args := [.pointer (some ⟨b, 0, none⟩)]) TT_ok [1000004] [] [.o 900 0] Tryd.func68 rfl Tryd.ntmps68 rfl rfl hv hbl hno rfl (fun x => xl_m x _) ?_
  intro b2
  refine And.intro (by kernel_rfl) ?_
  refine cnd (fun h => ?_) (fun h => ?_)
  · rw [atom_end (h.imp id fun h => by omega)]
    exact ⟨(none, 0), rfl, rfl, fun v _ _ => xl_nil v⟩
  have hb : bad = false := h.1
  subst hb
  have hlt : i < l.length := by have := h.2; omega
  have hnow : nowS l i false = l.getD i t0 := rfl
  have hon : ∀ k s, onS l i false k s = (decide ((l.getD i t0).k = k) && decide ((l.getD i t0).s = s)) := fun k s => rfl
  have hts : (l.getD i t0).s.length ≤ 1000000 := hTs _ (getD_mem l i t0 hlt)
  have g1 := rdN_ge l 0 (i + 1) false hlt
  refine regQ TT_ok [0, 1, 2, 3, 4, 5, 6, 7, 8, 9] [10, 11] [] false ?_
  refine ixs hl i t0 ?_ (by omega)
  intro b3
  refine kq ?_
  refine kq ?_
  generalize l.getD i t0 = t at hnow hon hts ⊢
  intro b4
  refine cnd (fun h1 => ?_) (fun h1 => ?_)
  · have ea : atomS (rdN l 0) l i false = (.mk 1 ⟨1, t.n, []⟩ [] [], i + 1, false) := by
      unfold atomS
      rw [hon, hnow, if_neg (by rw [h1]; simp), if_pos h1]
    rw [ea]
    refine wi ?_
    exact ⟨(none, 0), rfl, rfl, fun v _ _ => xl_nil v⟩
  refine cnd (fun h2 => ?_) (fun h2 => ?_)
  · have ea : atomS (rdN l 0) l i false = (.mk 1 ⟨2, 0, t.s⟩ [] [], i + 1, false) := by
      unfold atomS
      rw [hon, hnow, if_neg (by rw [h2]; simp), if_neg h1, if_pos h2]
    rw [ea]
    refine wi ?_
    exact ⟨(none, 0), rfl, rfl, fun v _ _ => xl_nil v⟩
  have hwd : ∀ s v, wordV s = some v → onS l i false 1 s = true → atomS (rdN l 0) l i false = (.mk 1 v [] [], i + 1, false) := fun s v hv ho => by
    rw [hon] at ho
    simp only [Bool.and_eq_true, decide_eq_true_eq] at ho
    unfold atomS
    rw [hon, hnow, if_neg (by rw [ho.1]; simp), if_neg h1, if_neg h2, if_pos ho.1, ho.2, hv]
    rfl
  refine cM TT_ok 900 (fun w v h1 h2 h3 h4 h5 => c_Ris b ad cap l i false 1 [110, 117, 108, 108] (by decide) (by omega) w v h3 h4 (Mono.slF _ _ h1 hl) h5) ?_
  refine cnd (fun h3 => ?_) (fun h3 => ?_)
  · rw [hwd _ v0 rfl h3]
    refine wi ?_
    exact ⟨(none, 0), rfl, rfl, fun v _ _ => xl_nil v⟩
  refine cM TT_ok 900 (fun w v h1 h2 h3 h4 h5 => c_Ris b ad cap l i false 1 [116, 114, 117, 101] (by decide) (by omega) w v h3 h4 (Mono.slF _ _ h1 hl) h5) ?_
  refine cnd (fun h4 => ?_) (fun h4 => ?_)
  · rw [hwd _ ⟨3, 1, []⟩ (by decide) h4]
    refine wi ?_
    exact ⟨(none, 0), rfl, rfl, fun v _ _ => xl_nil v⟩
  refine cM TT_ok 900 (fun w v h1 h2 h3 h4 h5 => c_Ris b ad cap l i false 1 [102, 97, 108, 115, 101] (by decide) (by omega) w v h3 h4 (Mono.slF _ _ h1 hl) h5) ?_
  refine cnd (fun h5 => ?_) (fun h5 => ?_)
  · rw [hwd _ ⟨3, 0, []⟩ (by decide) h5]
    refine wi ?_
    exact ⟨(none, 0), rfl, rfl, fun v _ _ => xl_nil v⟩
  have hnw : t.k = 1 → ¬ (wordV t.s).isSome = true := fun hk => by
    have e : ∀ s, onS l i false 1 s = false → ¬ t.s = s := fun s ho => by
      rw [hon, decide_eq_true hk, Bool.true_and] at ho
      exact of_decide_eq_false ho
    unfold wordV
    rw [if_neg (e _ h3), if_neg (e _ h5), if_neg (e _ h4)]
    decide
  refine clg (fun _ => c_RName t.s hts) ?_
  refine cnd (fun h6 => ?_) (fun h6 => ?_)
  · have ea : atomS (rdN l 0) l i false = (.mk 2 v0 t.s [], i + 1, false) := by
      unfold atomS
      rw [hon, hnow, if_neg (by rw [h6.1]; simp), if_neg h1, if_neg h2, if_pos h6.1, if_neg (hnw h6.1), if_pos h6.2]
    rw [ea]
    refine wi ?_
    exact ⟨(none, 0), rfl, rfl, fun v _ _ => xl_nil v⟩
  refine cM TT_ok 900 (fun w v h1 h2 h3 h4 h5 => c_Ris b ad cap l i false 4 [40] (by decide) (by omega) w v h3 h4 (Mono.slF _ _ h1 hl) h5) ?_
  refine cnd (fun h7 => ?_) (fun h7 => ?_)
  · have ea : atomS (rdN l 0) l i false = ((rdN l 0 (i + 1) false).1, mustS l (rdN l 0 (i + 1) false).2 4 [41]) := if_pos h7
    rw [ea]
    refine wi ?_
    refine cV TT_ok 900 (fun w v h1 h2 h3 h4 h5 => ih 0 (i + 1) false (by omega) hlt (by unfold needS at hf ⊢; omega) w v h3 h4 (Mono.slF _ _ h1 hl) h5) (fun x => xl_m x _) (fun x1 => ?_)
    generalize rdN l 0 (i + 1) false = r1 at g1 ⊢
    refine cM TT_ok 900 (fun w v h1 h2 h3 h4 h5 => c_Rtake b ad cap l r1.2 4 [41] (by decide) (by have := g1.2; omega) w v h3 h4 (Mono.slF _ _ h1 hl) h5) ?_
    exact ⟨x1, rfl, rfl, fun v _ hF => hF.2⟩
  · have ea : atomS (rdN l 0) l i false = (ex0, i, true) := by
      unfold atomS
      rw [h7, hnow, if_neg (by decide), if_neg h1, if_neg h2]
      by_cases hk : t.k = 1
      · rw [if_pos hk, if_neg (hnw hk), if_neg (fun hh => by rcases h6 with h6 | h6; exact h6 hk; rw [hh] at h6; cases h6)]
      · rw [if_neg hk]
    rw [ea]
    exact ⟨(none, 0), rfl, rfl, fun v _ _ => xl_nil v⟩
theorem c_Rread (hT : TokN l) (hTs : ∀ t ∈ l, t.s.length ≤ 1000000) (hn : l.length ≤ 999999) : ∀ f, RrC b ad cap l f
  | 0 => fun lev i bad h7 _ hf => absurd hf (by have := need_pos l (i := i) h7; omega)
  | f + 1 => by
    intro lev i bad h7 hi hf w0 h0 hv hno hl hbl
    have ih := c_Rread hT hTs hn f
    have hge := fun lev i bad h => rdN_ge l lev i bad h
    have hnd := fun lev i bad => rdN_nd hT lev i bad
    have hR := rdN_eq l lev i bad h7 hi
    have hR7 : lev < 7 → rdN l 7 i bad = _ := fun _ => rdN_eq l 7 i bad (Nat.le_refl _) hi
    generalize hRR : rdN l lev i bad = R at hR ⊢
    refine entW (args := [.pointer (some ⟨b, 0, none⟩), .int .i64 (lev : Int)]) TT_ok [4000026, 4000055, 49, 67, 108, 1000022] [] [.o 900 0, .v (.int .i64 (lev : Int))] Tryd.func37 rfl Tryd.ntmps37 rfl rfl hv hbl hno rfl (fun x => xl_m x _) ?_
    intro b4
    refine cnd (fun hA => ?_) (fun hA => ?_)
    · have e : R = atomS (rdN l 0) l i bad := by
        rw [hR]
        by_cases hb : bad = true
        · rw [if_pos hb, atom_end (.inl hb), hb]
        · have h7' : lev = 7 := by rcases hA with hA | hA; exact absurd hA hb; omega
          rw [if_neg hb, if_neg (by omega), if_neg (by omega), if_pos (by omega)]
      rw [e]
      refine cV TT_ok 900 (fun w v h1 h2 h3 h4 h5 => c_Rfirst ih hTs hn i bad hi (by unfold needS at hf ⊢; omega) w v h3 h4 (Mono.slF _ _ h1 hl) h5) (fun x => xl_m x _) (fun x1 => ?_)
      exact ⟨x1, rfl, rfl, fun v _ hF => hF.2⟩
    have hb : bad = false := hA.1
    have hl7 : lev < 7 := by have := hA.2; omega
    subst hb
    rw [if_neg (by decide)] at hR
    refine cnd (fun hl0 => ?_) (fun hl0 => ?_)
    · have hl0' : lev = 0 := by omega
      subst hl0'
      rw [if_pos rfl] at hR
      refine cMI TT_ok 900 (fun w v h1 h2 h3 h4 h5 => c_Ris b ad cap l i false 1 ifT (by decide) (by omega) w v h3 h4 (Mono.slF _ _ h1 hl) h5) ?_
      refine cnd (fun h1 => ?_) (fun h1 => ?_)
      · rw [if_pos h1.2] at hR
        have hlt := (on_lt h1.2 (by decide)).1
        rw [hR]
        have g1 := hge 0 (i + 1) false hlt
        have d1 := hnd 0 (i + 1) false
        unfold branchS
        refine wi ?_
        refine cV TT_ok 900 (fun w v h1 h2 h3 h4 h5 => ih 0 (i + 1) false (by omega) hlt (by unfold needS at hf ⊢; omega) w v h3 h4 (Mono.slF _ _ h1 hl) h5) (fun x => xl_m x _) (fun x1 => ?_)
        have m1 := must_ge (l := l) (p := (rdN l 0 (i + 1) false).2) (k := 1) (s := thenT) (by decide) g1.2
        generalize rdN l 0 (i + 1) false = r1 at g1 d1 m1 ⊢
        intro b5
        refine cM TT_ok 900 (fun w v h1 h2 h3 h4 h5 => c_Rtake b ad cap l r1.2 1 thenT (by decide) (by have := g1.2; omega) w v h3 h4 (Mono.slF _ _ h1 hl) h5) ?_
        generalize mustS l r1.2 1 thenT = p1 at m1 ⊢
        have g2 := hge 0 p1.1 p1.2 m1.2
        have d2 := hnd 0 p1.1 p1.2
        have f2 : needS l 0 p1.1 ≤ f := by have := g1.1; have := m1.1; unfold needS at hf ⊢; omega
        refine cV TT_ok 900 (fun w v h1 h2 h3 h4 h5 => ih 0 p1.1 p1.2 (by omega) m1.2 f2 w v h3 h4 (Mono.slF _ _ h1 hl) h5) (fun x => xl_m x _) (fun x2 => ?_)
        have m2 := must_ge (l := l) (p := (rdN l 0 p1.1 p1.2).2) (k := 1) (s := elseT) (by decide) g2.2
        generalize rdN l 0 p1.1 p1.2 = r2 at g2 d2 m2 ⊢
        intro b6
        refine cM TT_ok 900 (fun w v h1 h2 h3 h4 h5 => c_Rtake b ad cap l r2.2 1 elseT (by decide) (by have := g2.2; omega) w v h3 h4 (Mono.slF _ _ h1 hl) h5) ?_
        generalize mustS l r2.2 1 elseT = p2 at m2 ⊢
        have g3 := hge 0 p2.1 p2.2 m2.2
        have d3 := hnd 0 p2.1 p2.2
        have f3 : needS l 0 p2.1 ≤ f := by have := g2.1; have := m2.1; unfold needS at f2 ⊢; omega
        refine cV TT_ok 900 (fun w v h1 h2 h3 h4 h5 => ih 0 p2.1 p2.2 (by omega) m2.2 f3 w v h3 h4 (Mono.slF _ _ h1 hl) h5) (fun x => xl_m x _) (fun x3 => ?_)
        generalize rdN l 0 p2.1 p2.2 = r3 at g3 d3 ⊢
        intro b7
        intro b48
        refine shutG TT_ok 48 rfl (row_sl (g := rowC [(r1.1, x1), (r2.1, x2), (r3.1, x3)]) (l := List.range 3) (sz := 6) (n := 3) (cp := 3) rfl ?_) ?_ Mono.slF rfl (.inr ⟨b, _, _, 900, rfl, by decide, rfl⟩)
        · exact rowC_len _ _
        exact ⟨(some ⟨b48, 0, none⟩, 3), rfl, rfl, fun v _ hF => rowC_xl [(r1.1, x1), (r2.1, x2), (r3.1, x3)] hF.2 (fun i p hp => by
          match i, hp with
          | 0, hp => cases hp; exact XL.rx hF.1.1.1.2 d1
          | 1, hp => cases hp; exact XL.rx hF.1.1.2 d2
          | 2, hp => cases hp; exact XL.rx hF.1.2 d3
          | n + 3, hp => simp at hp)⟩
      · have h2 : onS l i false 1 ifT = false := h1.resolve_left (fun hh => hh rfl)
        rw [if_neg (by rw [h2]; decide)] at hR
        rw [hR]
        refine cndF (by decide) ⟨.bool false, ?_⟩
        refine cndF rfl ?_
        refine cndT rfl ?_
        refine wi ?_
        refine cV TT_ok 900 (fun w v h1 h2 h3 h4 h5 => ih 1 i false (by omega) hi (by unfold needS at hf ⊢; omega) w v h3 h4 (Mono.slF _ _ h1 hl) h5) (fun x => xl_m x _) (fun x1 => ?_)
        exact ⟨x1, rfl, rfl, fun v _ hF => hF.2⟩
    · have hl0' : lev ≠ 0 := fun h => hl0 (by omega)
      rw [if_neg hl0'] at hR
      refine ⟨.bool false, ?_⟩
      refine cndF (by rw [Bool.and_false]) ?_
      refine cnd (fun h6 => ?_) (fun h6 => ?_)
      · have h6' : lev = 6 := by omega
        subst h6'
        refine cMI TT_ok 900 (fun w v h1 h2 h3 h4 h5 => c_Ris b ad cap l i false 4 [45] (by decide) (by omega) w v h3 h4 (Mono.slF _ _ h1 hl) h5) ?_
        refine cnd (fun h1 => ?_) (fun h1 => ?_)
        · rw [if_pos ⟨rfl, h1.2⟩] at hR
          have hlt := (on_lt h1.2 (by decide)).1
          have d1 := hnd 6 (i + 1) false
          refine wi ?_
          refine cV TT_ok 900 (fun w v h1 h2 h3 h4 h5 => ih 6 (i + 1) false (by omega) hlt (by unfold needS at hf ⊢; omega) w v h3 h4 (Mono.slF _ _ h1 hl) h5) (fun x => xl_m x _) (fun x1 => ?_)
          generalize rdN l 6 (i + 1) false = r1 at d1 hR ⊢
          rw [hR]
          intro b66
          refine shutG TT_ok 66 rfl (row_sl (g := rowC [(r1.1, x1)]) (l := List.range 1) (sz := 6) (n := 1) (cp := 1) rfl ?_) ?_ Mono.slF rfl (.inr ⟨b, _, _, 900, rfl, by decide, rfl⟩)
          · exact rowC_len _ _
          exact ⟨(some ⟨b66, 0, none⟩, 1), rfl, rfl, fun v _ hF => rowC_xl [(r1.1, x1)] hF.2 (fun i p hp => by
            match i, hp with
            | 0, hp => cases hp; exact XL.rx hF.1.2 d1
            | n + 1, hp => simp at hp)⟩
        · have h2 : onS l i false 4 [45] = false := h1.resolve_left (fun hh => hh rfl)
          rw [if_neg (fun hh => by rw [h2] at hh; cases hh.2), if_pos (by omega)] at hR
          have e7 : R = rdN l 7 i false := by
            rw [hR, hR7 (by omega), if_neg (by decide), if_neg (by omega), if_neg (by omega), if_pos (by omega)]
          rw [e7]
          refine cndT rfl ?_
          refine wi ?_
          refine cV TT_ok 900 (fun w v h1 h2 h3 h4 h5 => ih 7 i false (by omega) hi (by unfold needS at hf ⊢; omega) w v h3 h4 (Mono.slF _ _ h1 hl) h5) (fun x => xl_m x _) (fun x1 => ?_)
          exact ⟨x1, rfl, rfl, fun v _ hF => hF.2⟩
      · have h6' : lev ≠ 6 := fun h => h6 (by omega)
        rw [if_neg (fun hh => h6' hh.1), if_neg (by omega)] at hR
        refine ⟨.bool false, ?_⟩
        refine cndF (by rw [Bool.and_false]) ?_
        refine cndF (by simp; omega) ?_
        have g1 := hge (lev + 1) i false hi
        have d1 := hnd (lev + 1) i false
        refine wi ?_
        refine cV TT_ok 900 (fun w v h1 h2 h3 h4 h5 => ih (lev + 1) i false (by omega) hi (by unfold needS at hf ⊢; omega) w v h3 h4 (Mono.slF _ _ h1 hl) h5) (fun x => xl_m x _) (fun x1 => ?_)
        generalize rdN l (lev + 1) i false = r1 at g1 d1 hR ⊢
        intro b8
        refine w_loopF TT_ok (fun _ => []) (fun x : Ex × (Option Addr × Nat) × Nat × Bool => [(8, .c b8 29 (exC x.1.op x.1.v x.1.s (.slice x.2.1.1 x.1.l.length x.2.1.2))), (4, .c b4 29 (exC 0 v0 [] (.slice none 0 0))), (900, .c b 83 (rrC ad l.length cap ((x.2.2.1 : Nat) : Int) x.2.2.2))])
          (fun x h => XL h x.2.1.1 x.2.1.2 x.1.l) (r1.1, x1, r1.2.1, r1.2.2) (fun x => x.2.2.1 ≤ l.length ∧ i ≤ x.2.2.1 ∧ Nd x.1 ∧ ∃ n, l.length - x.2.2.1 < n ∧ loopS (rdN l (lev + 1)) l lev n x.1 x.2.2.1 x.2.2.2 = R) (fun x => l.length - x.2.2.1) (fun x => xl_m x.2.1 _) ?_
        refine And.intro ⟨⟨g1.2, g1.1, d1, l.length + 1, by show l.length - r1.2.1 < l.length + 1; omega, hR.symm⟩, gs (fv := fun v hF => hF.2)⟩ ?_
        rintro ⟨e, x, i', bad'⟩ ⟨hi', hii, hNd, n, hn1, hR'⟩
        simp only at hi' hii hNd hn1 hR'
        obtain ⟨n, rfl⟩ : ∃ m, n = m + 1 := ⟨n - 1, by omega⟩
        refine cnd (fun hb => ?_) (fun hb => ?_)
        · have hb : bad' = false := hb
          subst hb
          rw [loopS] at hR'
          refine cM TT_ok 900 (fun w v h1 h2 h3 h4 h5 => c_Rop b ad cap l i' lev (by omega) w v h3 h4 (Mono.slF _ _ h1 hl) h5) ?_
          refine cnd (fun h => ?_) (fun h => ?_)
          · rw [if_pos h] at hR'
            rw [← hR']
            exact ⟨x, rfl, rfl, fun v _ hF => hF⟩
          · rw [if_neg h] at hR'
            obtain ⟨hlt, _⟩ := op_lt h
            have g1 := hge (lev + 1) (i' + 1) false hlt
            have d1 := hnd (lev + 1) (i' + 1) false
            refine wi ?_
            refine regQ TT_ok [0, 1, 2, 3, 4] [5, 6, 7, 8] [900] true ?_
            refine wi ?_
            refine cV TT_ok 900 (fun w v h1 h2 h3 h4 h5 => ih (lev + 1) (i' + 1) false (by omega) hlt (by unfold needS at hf ⊢; omega) w v h3 h4 (Mono.slF _ _ h1 hl) h5) (fun x => xl_m x _) (fun x1 => ?_)
            have hlb := fun n => loop_bad (rdN l (lev + 1)) l lev n
            generalize rdN l (lev + 1) (i' + 1) false = r1 at g1 d1 hR' ⊢
            refine kq ?_
            intro b107
            refine kq ?_
            refine shutG TT_ok 107 rfl (row_sl (g := rowC [(e, x), (r1.1, x1)]) (l := List.range 2) (sz := 6) (n := 2) (cp := 2) rfl ?_) ?_ Mono.slF rfl (.inr ⟨b, _, _, 900, rfl, by decide, rfl⟩)
            · exact rowC_len _ _
            refine kq ?_
            have hx : ∀ v, (XL v x.1 x.2 e.l ∧ XL v x1.1 x1.2 r1.1.l) ∧ SlC 29 6 (flatR (rowC [(e, x), (r1.1, x1)])) v (.slice (some ⟨b107, 0, none⟩) 2 2) (List.range 2) → XL v (some ⟨b107, 0, none⟩) 2 [e, r1.1] := fun v hF => rowC_xl [(e, x), (r1.1, x1)] hF.2 (fun i p hp => by
              match i, hp with
              | 0, hp => cases hp; exact XL.rx hF.1.1 hNd
              | 1, hp => cases hp; exact XL.rx hF.1.2 d1
              | n + 2, hp => simp at hp)
            refine cnd (fun h2 => ?_) (fun h2 => ?_)
            · rw [if_neg (fun hh => hh.1 (by omega))] at hR'
              rw [← hR']
              exact ⟨(some ⟨b107, 0, none⟩, 2), rfl, rfl, fun v _ hF => hx v hF⟩
            · have hR2 : ∃ n', l.length - r1.2.1 < n' ∧ loopS (rdN l (lev + 1)) l lev n' (.mk (opS l i' false lev) v0 [] [e, r1.1]) r1.2.1 r1.2.2 = R := by
                cases hb : r1.2.2 with
                | false =>
                  rw [if_pos ⟨by omega, hb⟩, hb] at hR'
                  exact ⟨n, by have := g1.1; omega, hR'⟩
                | true =>
                  rw [if_neg (fun hh => by rw [hb] at hh; cases hh.2)] at hR'
                  refine ⟨l.length + 1, by omega, ?_⟩
                  rw [hlb, ← hR', ← hb]
              exact ⟨(.mk (opS l i' false lev) v0 [] [e, r1.1], (some ⟨b107, 0, none⟩, 2), r1.2.1, r1.2.2), ⟨⟨g1.2, by have := g1.1; show i ≤ r1.2.1; omega, nd_v0 (op_i64 _ _ _ _), hR2⟩, by have := g1.1; show l.length - r1.2.1 < l.length - i'; omega⟩, gs (fv := fun v hF => hx v hF)⟩
        · have hb : bad' = true := by simpa using hb
          subst hb
          rw [loop_bad] at hR'
          rw [← hR']
          exact ⟨x, rfl, rfl, fun v _ hF => hF⟩
end rf
theorem c_RRead (ad : Option Addr) (cap : Nat) (l : List Tok) (hT : TokN l) (hTs : ∀ t ∈ l, t.s.length ≤ 1000000) (hn : l.length ≤ 999999) (i lev : Nat) (hi : i ≤ l.length) (hlev : lev ≤ 7) (w0 : World) (h0 : View) (hv : VLe h0 (Full w0)) (hl : SlC 50 4 (flatR tokC) h0 (.slice ad l.length cap) l) :
    Calls Tryd.prog 21 #[.slice ad l.length cap, .int .i64 (i : Int), .int .i64 (lev : Int)] w0 (Ret w0 h0 fun u hh => ∃ x : Option Addr × Nat, u = .tuple #[exV (readT l i lev).1 x, .int .i64 (((readT l i lev).2.1 : Nat) : Int), .int .i64 (readT l i lev).2.2] ∧ XL hh x.1 x.2 (readT l i lev).1.l) := by
  have g1 := rdN_ge l lev i false hi
  unfold readT
  refine entA (args := [.slice ad l.length cap, .int .i64 (i : Int), .int .i64 (lev : Int)]) TT_ok [1000006, 1000007] [] Tryd.func21 rfl Tryd.ntmps21 rfl rfl hv (fun x => xl_m x _) ?_
  intro b6
  refine cndF (by simp; omega) ?_
  intro b31
  refine cV TT_ok 31 (fun w v h1 h2 h3 h4 h5 => c_Rread hT hTs hn (needS l lev i) lev i false hlev hi (Nat.le_refl _) w v h3 h4 (Mono.slF _ _ h1 hl) h5) (fun x => xl_m x _) (fun x1 => ?_)
  show _
  unfold rdN at g1 ⊢
  generalize rdF l (needS l lev i) lev i false = r at g1 ⊢
  intro b10
  refine cnd (fun h => ?_) (fun h => ?_)
  · rw [if_pos h]
    refine regQ TT_ok [0, 1, 2, 3, 4] [5, 6, 7] [6] false ?_
    refine kq ?_
    refine kq ?_
    refine kq ?_
    exact ⟨(none, 0), rfl, fun v _ _ => xl_nil v⟩
  · rw [if_neg (by rw [h]; decide)]
    refine regQ TT_ok [0, 1, 2, 3, 4] [5, 6, 7] [6] false ?_
    refine kq ?_
    refine kq ?_
    refine kq ?_
    exact ⟨x1, rfl, fun v _ hF => hF.2⟩

end Go.Proofs.YtpcgdhhndeanoaaDoor
set_option maxRecDepth 100000
namespace Go.Proofs.YtpcgdhhndeanoaaDoor
open Go Go.Dx Go.RowKit
/-- a builder of one's own: whether it was written, its buffer, its bytes, whether its text was taken -/
structure Bld where
  used : Bool
  a : Option Addr
  n : Nat
  cp : Nat
  bs : List UInt8
  fz : Bool
def bldC (b : Nat) (s : Bld) : List Value := [.pointer (if s.used then some ⟨b, 0, none⟩ else none), .slice s.a s.n s.cp]
def bldJ (T b : Nat) (s : Bld) : BL := [(900, .c b T (bldC b s)), (901, .e (bif s.fz then (s.a.map (·.block), fun _ => True) else bufE 5 1 (.slice s.a s.n s.cp) (s.bs.map v8)))]
theorem c_copyCheck {T : Nat} (hT : liesAt Tryd.prog Tryd.prog.depth T (2 / Tryd.prog.cellsOf T) 0 60 1 = true) (b : Nat) (s : Bld) (hfz : s.fz = false) (w0 : World) (h0 : View) (hv : VLe h0 (Full w0)) (hno : ∀ k ∈ ids (oes (bldJ T b s)), h0 k = none) (ho : OwnJ w0 (oes (bldJ T b s))) :
    Calls Tryd.prog 74 #[.pointer (some ⟨b, 0, none⟩)] w0 (RetJ (bldJ T b) s w0 fun u s' => u = .tuple #[] ∧ s' = { s with used := true }) := by
  obtain ⟨us, a, n, cp, bs, fz⟩ := s
  have hfz : fz = false := hfz
  subst hfz
  cases us with
  | false =>
    refine entJ (bldJ T b) _ (g := fun _ => .tuple #[]) (args := [.pointer (some ⟨b, 0, none⟩)]) TT_ok [6, 9, 10, 11] [] [.o 900 0] Tryd.func74 rfl Tryd.ntmps74 rfl rfl hv hno ho rfl ?_
    refine goPu TT_ok (.bool true) (fun w hS => pu_pnil (p := none) (e := 60) (by kernel_rfl) (ev_sl rfl rfl) rfl) ?_
    refine cndT rfl ?_
    refine goPu TT_ok (.pointer (some ⟨b, 0, none⟩)) (fun w hS => ?_) ?_
    · obtain ⟨j, hj, hjs⟩ := (SzIs.of (by kernel_rfl) : SzIs Tryd.prog 60 2)
      have hb := hS.wok.own 900 _ _ _ rfl
      exact pu_tounsafe (tt := 60) (e := T) (cells := 2) (by kernel_rfl) (by kernel_rfl) hj (by omega) (by simp [World.shape?, hb, bldC]) (by show 0 < 2; decide) (ev_sl (v := .pointer (some ⟨b, 0, none⟩)) rfl rfl)
    refine goPu TT_ok (.pointer (some ⟨b, 0, none⟩)) (fun w hS => pu_noesc Tryd.func90 (by kernel_rfl) (by kernel_rfl) (by kernel_rfl) (by kernel_rfl) (ev_sl rfl rfl)) ?_
    refine goPu TT_ok (.pointer (some ⟨b, 0, none⟩)) (fun w hS => ?_) ?_
    · obtain ⟨j, hj, hjs⟩ := (SzIs.of (by kernel_rfl) : SzIs Tryd.prog 60 2)
      have hb := hS.wok.own 900 _ _ _ rfl
      exact pu_fromunsafe (u := 60) (e := T) (cells := 2) (by kernel_rfl) (by kernel_rfl) hj (by simp [World.shape?, hb, bldC]) hT (ev_sl (v := .pointer (some ⟨b, 0, none⟩)) rfl rfl)
    exact ⟨_, rfl, rfl, rfl, rfl, rfl, trivial⟩
  | true =>
    refine entJ (bldJ T b) _ (g := fun _ => .tuple #[]) (args := [.pointer (some ⟨b, 0, none⟩)]) TT_ok [6, 19] [] [.o 900 0] Tryd.func74 rfl Tryd.ntmps74 rfl rfl hv hno ho rfl ?_
    refine goPu TT_ok (.bool false) (fun w hS => pu_pnil (p := some ⟨b, 0, none⟩) (e := 60) (by kernel_rfl) (ev_sl rfl rfl) rfl) ?_
    refine cndF rfl ?_
    refine goPu TT_ok (.bool false) (fun w hS => ?_) ?_
    · obtain ⟨j, hj, hjs⟩ := (SzIs.of (by kernel_rfl) : SzIs Tryd.prog 60 2)
      exact pu_psame (a := ⟨b, 0, none⟩) (e := 60) (by kernel_rfl) hj (ev_sl rfl rfl) (ev_sl (v := .pointer (some ⟨b, 0, none⟩)) rfl rfl)
    refine cndF rfl ?_
    exact ⟨_, rfl, rfl, rfl, rfl, rfl, trivial⟩
/-- what stands behind a writing -/
def BldW (s : Bld) (t : List UInt8) (s' : Bld) : Prop := s'.bs = s.bs ++ t ∧ s'.fz = false ∧ s'.n = s'.bs.length
theorem bufm (a : Option Addr) (n cp : Nat) (x y : List UInt8) : OB.e (bufE 5 1 (.slice a n cp) (x.map v8 ++ y.map v8)) = OB.e (bufE 5 1 (.slice a n cp) ((x ++ y).map v8)) := by rw [List.map_append]
theorem c_WriteString {T : Nat} (hT : liesAt Tryd.prog Tryd.prog.depth T (2 / Tryd.prog.cellsOf T) 0 60 1 = true) (b : Nat) (s : Bld) (t : List UInt8) (hfz : s.fz = false) (hn : s.n = s.bs.length) (hl : s.bs.length + t.length ≤ 1000000000000) (w0 : World) (h0 : View) (hv : VLe h0 (Full w0)) (hno : ∀ k ∈ ids (oes (bldJ T b s)), h0 k = none) (ho : OwnJ w0 (oes (bldJ T b s))) :
    Calls Tryd.prog 45 #[.pointer (some ⟨b, 0, none⟩), vs t] w0 (RetJ (bldJ T b) s w0 fun u s' => u = .tuple #[.int .i64 t.length, .nilIface] ∧ BldW s t s') := by
  obtain ⟨us, a, n, cp, bs, fz⟩ := s
  have hfz : fz = false := hfz
  subst hfz
  have hn : n = bs.length := hn
  have hl : bs.length + t.length ≤ 1000000000000 := hl
  refine entJ (bldJ T b) _ (g := fun _ => .tuple #[.int .i64 t.length, .nilIface]) (args := [.pointer (some ⟨b, 0, none⟩), vs t]) TT_ok [14] [] [.o 900 0, .v (vs t)] Tryd.func45 rfl Tryd.ntmps45 rfl rfl hv hno ho rfl ?_
  refine cJ TT_ok (bldJ T b) ⟨us, a, n, cp, bs, false⟩ (g := fun _ => .tuple #[]) (fun w v h1 h2 h3 h4 h5 => c_copyCheck hT b _ rfl w v h3 h4 h5) ?_
  rintro s' rfl
  refine apS TT_ok 901 (AppT.of (bytes := 1) (sz := 0) (by kernel_rfl) (by kernel_rfl) (by kernel_rfl)) rfl rfl rfl rfl (by rw [List.length_map]; show (bs.length + t.length) * 2 ≤ 140737488355328; omega) (fun a0 nn cp' hnn => ?_)
  rw [List.length_map] at hnn
  refine ⟨⟨true, a0, nn, cp', bs ++ t, false⟩, rfl, ⟨rfl, rfl, ?_⟩, rfl, rfl, ?_, trivial⟩
  · show nn = (bs ++ t).length
    rw [List.length_append]; exact hnn
  · exact congrArg some (bufm a0 nn cp' bs t)
theorem c_WriteByte {T : Nat} (hT : liesAt Tryd.prog Tryd.prog.depth T (2 / Tryd.prog.cellsOf T) 0 60 1 = true) (b : Nat) (s : Bld) (t : UInt8) (hfz : s.fz = false) (hn : s.n = s.bs.length) (hl : s.bs.length + 1 ≤ 1000000000000) (w0 : World) (h0 : View) (hv : VLe h0 (Full w0)) (hno : ∀ k ∈ ids (oes (bldJ T b s)), h0 k = none) (ho : OwnJ w0 (oes (bldJ T b s))) :
    Calls Tryd.prog 43 #[.pointer (some ⟨b, 0, none⟩), v8 t] w0 (RetJ (bldJ T b) s w0 fun u s' => u = .nilIface ∧ BldW s [t] s') := by
  obtain ⟨us, a, n, cp, bs, fz⟩ := s
  have hfz : fz = false := hfz
  subst hfz
  have hn : n = bs.length := hn
  have hl : bs.length + 1 ≤ 1000000000000 := hl
  refine entJ (bldJ T b) _ (g := fun _ => .nilIface) (args := [.pointer (some ⟨b, 0, none⟩), v8 t]) TT_ok [14] [] [.o 900 0, .v (v8 t)] Tryd.func43 rfl Tryd.ntmps43 rfl rfl hv hno ho rfl ?_
  refine cJ TT_ok (bldJ T b) ⟨us, a, n, cp, bs, false⟩ (g := fun _ => .tuple #[]) (fun w v h1 h2 h3 h4 h5 => c_copyCheck hT b _ rfl w v h3 h4 h5) ?_
  rintro s' rfl
  intro b13
  refine ap TT_ok 901 (AppT.of (bytes := 1) (sz := 0) (by kernel_rfl) (by kernel_rfl) (by kernel_rfl)) rfl rfl rfl rfl rfl rfl rfl (by rw [List.length_map]; show (bs.length + 1) * 2 ≤ 140737488355328; omega) (fun a0 nn cp' hnn => ?_)
  rw [List.length_map] at hnn
  refine ⟨⟨true, a0, nn, cp', bs ++ [t], false⟩, rfl, ⟨rfl, rfl, ?_⟩, rfl, rfl, ?_, trivial⟩
  · show nn = (bs ++ [t]).length
    rw [List.length_append]
    have hnn : nn * 1 = bs.length + 1 := hnn
    show nn = bs.length + 1
    omega
  · exact congrArg some (bufm a0 nn cp' bs [t])
theorem c_BLen {T : Nat} (hT : liesAt Tryd.prog Tryd.prog.depth T (2 / Tryd.prog.cellsOf T) 0 60 1 = true) (b : Nat) (s : Bld) (hfz : s.fz = false) (hn : s.n = s.bs.length) (w0 : World) (h0 : View) (hv : VLe h0 (Full w0)) (hno : ∀ k ∈ ids (oes (bldJ T b s)), h0 k = none) (ho : OwnJ w0 (oes (bldJ T b s))) :
    Calls Tryd.prog 27 #[.pointer (some ⟨b, 0, none⟩)] w0 (RetJ (bldJ T b) s w0 fun u s' => u = .int .i64 s.bs.length ∧ s' = s) := by
  obtain ⟨us, a, n, cp, bs, fz⟩ := s
  have hfz : fz = false := hfz
  subst hfz
  have hn : n = bs.length := hn
  subst hn
  refine entJ (bldJ T b) _ (g := fun _ => .int .i64 bs.length) (args := [.pointer (some ⟨b, 0, none⟩)]) TT_ok [] [] [.o 900 0] Tryd.func27 rfl Tryd.ntmps27 rfl rfl hv hno ho rfl ?_
  exact ⟨_, rfl, rfl, rfl, rfl, rfl, trivial⟩
theorem c_BString {T : Nat} (hT : liesAt Tryd.prog Tryd.prog.depth T (2 / Tryd.prog.cellsOf T) 0 60 1 = true) (b : Nat) (s : Bld) (hfz : s.fz = false) (hn : s.n = s.bs.length) (hne : s.bs ≠ []) (w0 : World) (h0 : View) (hv : VLe h0 (Full w0)) (hno : ∀ k ∈ ids (oes (bldJ T b s)), h0 k = none) (ho : OwnJ w0 (oes (bldJ T b s))) :
    Calls Tryd.prog 28 #[.pointer (some ⟨b, 0, none⟩)] w0 (RetJ (bldJ T b) s w0 fun u s' => u = vs s.bs ∧ s' = { s with fz := true }) := by
  obtain ⟨us, a, n, cp, bs, fz⟩ := s
  have hfz : fz = false := hfz
  subst hfz
  have hn : n = bs.length := hn
  subst hn
  have hne : bs ≠ [] := hne
  have hlen : 0 < bs.length := List.length_pos_iff.2 hne
  have hA : ∃ ad, a = some ad ∧ cp ≠ 0 := by
    have := ho.own (bufE 5 1 (.slice a bs.length cp) (bs.map v8)) (by simp [bldJ, oes, oeOf])
    rcases this with ⟨h1, _⟩ | ⟨g, off, n', cap, cur, fz, h1, _, _, _, hnc, _⟩
    · simp only [Value.slice.injEq] at h1; omega
    · simp only [Value.slice.injEq] at h1
      exact ⟨_, h1.1, by omega⟩
  obtain ⟨ad, rfl, hcp⟩ := hA
  refine entJ (bldJ T b) _ (g := fun _ => vs bs) (args := [.pointer (some ⟨b, 0, none⟩)]) TT_ok [7, 13, 1000001] [] [.o 900 0] Tryd.func28 rfl Tryd.ntmps28 rfl rfl hv hno ho rfl ?_
  refine regQ TT_ok [0, 1, 2, 3, 5, 6, 7, 8, 9] [4, 10, 11] [] true ?_
  refine goPu TT_ok (.pointer (some ad)) (fun w hS => pu_sliceData hcp (ev_sl rfl rfl)) ?_
  refine kq ?_
  refine usS TT_ok bs 901 rfl (by kernel_rfl) (by kernel_rfl) hne rfl rfl ?_
  refine kq ?_
  exact ⟨⟨us, some ad, bs.length, cp, bs, true⟩, rfl, rfl, rfl, rfl, rfl, trivial⟩

end Go.Proofs.YtpcgdhhndeanoaaDoor
/-
  DERIVED: THE SHELF's CONTRACTS AT THIS DUMP, IN PLAIN WORDS (tools/lay-plain.mjs out of 'TrydShelf.lean', which tools/lay-shelf.mjs wrote): THE SAME DECLARATIONS UNDER THE SAME NAMES: 'import', 'namespace', 'open', 'def', 'theorem' AND NOTHING ELSE: no command of the shelf's: FOR A HAND-IN. Each laying: the table of numbers ('.._ren') and one theorem, a field a fact of the dump's own or the kernel's comparison; each contract: ONE APPLICATION.
-/
namespace Go.Proofs
open Go.Shelf
def Tryd.lays170_ren : Go.Shelf.Ren := ⟨fun | 170 => 27 | n => n, fun | 70 => 57 | 3 => 3 | 0 => 0 | 72 => 60 | 37 => 58 | 5 => 5 | n => n, fun | n => n⟩
theorem Tryd.lays170 : Go.Proofs.Lays.n170 Tryd.prog Tryd.lays170_ren := {
  mixed := by kernel_rfl
  f170 := Tryd.func27.trans (congrArg some (by kernel_rfl))
  t0 := Tryd.underlying0
  a0 := Tryd.isAgg0
  z0 := Tryd.sizeOf0
  v0 := Tryd.zeroValue0
  t3 := Tryd.underlying3
  a3 := Tryd.isAgg3
  z3 := Tryd.sizeOf3
  v3 := Tryd.zeroValue3
  t37 := Tryd.underlying58
  a37 := Tryd.isAgg58
  z37 := Tryd.sizeOf58
  v37 := Tryd.zeroValue58
  t70 := Tryd.underlying57
  a70 := Tryd.isAgg57
  z70 := Tryd.sizeOf57
  v70 := Tryd.zeroValue57
  t72 := Tryd.underlying60
  a72 := Tryd.isAgg60
  z72 := Tryd.sizeOf60
  v72 := Tryd.zeroValue60 }
open Go.RowKit in
/-- (*strings.Builder).Len: "Len returns the number of accumulated bytes; b.Len() == len(b.String()).": the world is as it was. (LAID: no walk: one application.) -/
theorem Tryd.Builder_Len (B b : Nat) (bs : List Value) (w : World) (h : Lib.IsBuilder 60 5 B b bs w) :
    Calls Tryd.prog 27 #[.pointer (some ⟨b, 0, none⟩)] w fun e w' => e = .returned (.int .i64 bs.length) ∧ w' = w := Any.Builder_Len Tryd.lays170 B b bs w h
def Tryd.lays169_ren : Go.Shelf.Ren := ⟨fun | 169 => 28 | n => n, fun | 70 => 57 | 9 => 9 | 0 => 0 | 72 => 60 | 37 => 58 | 127 => 97 | 3 => 3 | 5 => 5 | n => n, fun | n => n⟩
theorem Tryd.lays169 : Go.Proofs.Lays.n169 Tryd.prog Tryd.lays169_ren := {
  mixed := by kernel_rfl
  f169 := Tryd.func28.trans (congrArg some (by kernel_rfl))
  t0 := Tryd.underlying0
  a0 := Tryd.isAgg0
  z0 := Tryd.sizeOf0
  v0 := Tryd.zeroValue0
  t3 := Tryd.underlying3
  a3 := Tryd.isAgg3
  z3 := Tryd.sizeOf3
  v3 := Tryd.zeroValue3
  t9 := Tryd.underlying9
  a9 := Tryd.isAgg9
  z9 := Tryd.sizeOf9
  v9 := Tryd.zeroValue9
  t37 := Tryd.underlying58
  a37 := Tryd.isAgg58
  z37 := Tryd.sizeOf58
  v37 := Tryd.zeroValue58
  t70 := Tryd.underlying57
  a70 := Tryd.isAgg57
  z70 := Tryd.sizeOf57
  v70 := Tryd.zeroValue57
  t72 := Tryd.underlying60
  a72 := Tryd.isAgg60
  z72 := Tryd.sizeOf60
  v72 := Tryd.zeroValue60
  t127 := Tryd.underlying97
  a127 := Tryd.isAgg97
  z127 := Tryd.sizeOf97
  v127 := Tryd.zeroValue97 }
theorem Tryd.Builder_Extra_169 : Builder.Extra Tryd.prog Tryd.lays169_ren := {
  sizeBuilder := by kernel_rfl
  liesBuilder := by kernel_rfl
  t5 := Tryd.underlying5
  a5 := Tryd.isAgg5
  z5 := Tryd.sizeOf5
  v5 := Tryd.zeroValue5
  infoByte := by kernel_rfl
  cellsByte := by kernel_rfl
  sizeByte := by kernel_rfl
  neB5 := by decide }
open Go.RowKit in
/-- (*strings.Builder).String: "String returns the accumulated string.": OF A BUILDER THAT HOLDS AT LEAST ONE BYTE. ✋ THE MODEL FREEZES THOSE BYTES IN THE BUFFER (unsafe.String): a later write INTO them ends the model's run without an answer; a later append BEHIND them goes on. The statement's order of evaluation is drawn: one draw. (LAID: no walk: one application.) -/
theorem Tryd.Builder_String (B b : Nat) (l : List UInt8) (w : World) (h : Lib.IsBuilder 60 5 B b (Lib.byteCells l) w) (h0 : l ≠ []) :
    Calls Tryd.prog 28 #[.pointer (some ⟨b, 0, none⟩)] w fun e w' => e = .returned (.string ⟨l.toArray⟩) ∧ Below B w w' := Any.Builder_String Tryd.lays169 Tryd.Builder_Extra_169 B b l w h h0
open Go.RowKit in
/-- (*strings.Builder).String OF A BUILDER THAT HOLDS NO BYTE: the empty string. (Its buffer is nil, or a row of which it has taken nothing yet; where that row has NO capacity the model lays one new block for unsafe.SliceData's 'some address'.) One draw. (LAID: no walk: one application.) -/
theorem Tryd.Builder_String_empty (B b : Nat) (w : World) (h : Lib.IsBuilder 60 5 B b [] w) (hBw : B ≤ w.heap.size) :
    Calls Tryd.prog 28 #[.pointer (some ⟨b, 0, none⟩)] w fun e w' => e = .returned (.string ⟨#[]⟩) ∧ Below B w w' := Any.Builder_String_empty Tryd.lays169 Tryd.Builder_Extra_169 B b w h hBw
open Go.RowKit in
/-- (*strings.Builder).String: "String returns the accumulated string.": WHATEVER THE BUILDER HOLDS. (LAID: no walk: one application.) -/
theorem Tryd.Builder_String_any (B b : Nat) (l : List UInt8) (w : World) (h : Lib.IsBuilder 60 5 B b (Lib.byteCells l) w) (hBw : B ≤ w.heap.size) :
    Calls Tryd.prog 28 #[.pointer (some ⟨b, 0, none⟩)] w fun e w' => e = .returned (.string ⟨l.toArray⟩) ∧ Below B w w' := Any.Builder_String_any Tryd.lays169 Tryd.Builder_Extra_169 B b l w h hBw
def Tryd.lays129_ren : Go.Shelf.Ren := ⟨fun | 129 => 104 | n => n, fun | 53 => 125 | 3 => 3 | 4 => 4 | 46 => 136 | 5 => 5 | 9 => 9 | n => n, fun | n => n⟩
theorem Tryd.lays129 : Go.Proofs.Lays.n129 Tryd.prog Tryd.lays129_ren := {
  mixed := by kernel_rfl
  f129 := Tryd.func104.trans (congrArg some (by kernel_rfl))
  t3 := Tryd.underlying3
  a3 := Tryd.isAgg3
  z3 := Tryd.sizeOf3
  v3 := Tryd.zeroValue3
  t4 := Tryd.underlying4
  a4 := Tryd.isAgg4
  z4 := Tryd.sizeOf4
  v4 := Tryd.zeroValue4
  t5 := Tryd.underlying5
  a5 := Tryd.isAgg5
  z5 := Tryd.sizeOf5
  v5 := Tryd.zeroValue5
  t9 := Tryd.underlying9
  a9 := Tryd.isAgg9
  z9 := Tryd.sizeOf9
  v9 := Tryd.zeroValue9
  t46 := Tryd.underlying136
  a46 := Tryd.isAgg136
  z46 := Tryd.sizeOf136
  v46 := Tryd.zeroValue136
  t53 := Tryd.underlying125
  a53 := Tryd.isAgg125
  z53 := Tryd.sizeOf125
  v53 := Tryd.zeroValue125 }
/-- bits.Len64: "Len64 returns the minimum number of bits required to represent x; the result is 0 for x == 0.": IT RETURNS 'Lib.bitLen x'; the world is as it was. ('h0', 'h1': x is a uint64.) (LAID: no walk: one application.) -/
theorem Tryd.bits_Len64 (x : Int) (w : World) (h0 : 0 ≤ x) (h1 : x ≤ 18446744073709551615) :
    Calls Tryd.prog 104 #[.int .u64 x] w fun e w' => e = .returned (.int .i64 (Lib.bitLen x.toNat)) ∧ w' = w := Any.bits_Len64 Tryd.lays129 x w h0 h1
def Tryd.lays317_ren : Go.Shelf.Ren := ⟨fun | 317 => 103 | n => n, fun | 3 => 3 | 46 => 136 | n => n, fun | n => n⟩
theorem Tryd.lays317 : Go.Proofs.Lays.n317 Tryd.prog Tryd.lays317_ren := {
  mixed := by kernel_rfl
  f317 := Tryd.func103.trans (congrArg some (by kernel_rfl))
  t3 := Tryd.underlying3
  a3 := Tryd.isAgg3
  z3 := Tryd.sizeOf3
  v3 := Tryd.zeroValue3
  t46 := Tryd.underlying136
  a46 := Tryd.isAgg136
  z46 := Tryd.sizeOf136
  v46 := Tryd.zeroValue136 }
open Go.Lib in
/-- internal/strconv.log10Pow2: "log10Pow2(x) returns ⌊log₁₀ 2**x⌋ = ⌊x * log₁₀ 2⌋.": '(x * 78913) >> 18', at an x up to 64 (a length in bits). The world is as it was. (LAID: no walk: one application.) -/
theorem Tryd.internal_strconv_log10Pow2 (x : Nat) (h : x ≤ 64) (w : World) :
    Calls Tryd.prog 103 #[.int .i64 x] w fun e w' => e = .returned (.int .i64 (Lib.l10 x)) ∧ w' = w := Any.internal_strconv_log10Pow2 Tryd.lays317 x h w
def Tryd.lays318_ren : Go.Shelf.Ren := ⟨fun | 318 => 105 | n => n, fun | 3 => 3 | 4 => 4 | n => n, fun | n => n⟩
theorem Tryd.lays318 : Go.Proofs.Lays.n318 Tryd.prog Tryd.lays318_ren := {
  mixed := by kernel_rfl
  f318 := Tryd.func105.trans (congrArg some (by kernel_rfl))
  t3 := Tryd.underlying3
  a3 := Tryd.isAgg3
  z3 := Tryd.sizeOf3
  v3 := Tryd.zeroValue3
  t4 := Tryd.underlying4
  a4 := Tryd.isAgg4
  z4 := Tryd.sizeOf4
  v4 := Tryd.zeroValue4 }
open Go.Lib in
/-- internal/strconv.bool2: "bool2 converts b to an integer: 1 for true, 0 for false." The world is as it was. (LAID: no walk: one application.) -/
theorem Tryd.internal_strconv_bool2_int (b : Bool) (w : World) :
    Calls Tryd.prog 105 #[.bool b] w fun e w' => e = .returned (.int .i64 (if b then 1 else 0)) ∧ w' = w := Any.internal_strconv_bool2_int Tryd.lays318 b w
def Tryd.lays283_ren : Go.Shelf.Ren := ⟨fun | 283 => 98 | n => n, fun | 3 => 3 | 9 => 9 | 4 => 4 | n => n, fun | n => n⟩
theorem Tryd.lays283 : Go.Proofs.Lays.n283 Tryd.prog Tryd.lays283_ren := {
  mixed := by kernel_rfl
  f283 := Tryd.func98.trans (congrArg some (by kernel_rfl))
  t3 := Tryd.underlying3
  a3 := Tryd.isAgg3
  z3 := Tryd.sizeOf3
  v3 := Tryd.zeroValue3
  t4 := Tryd.underlying4
  a4 := Tryd.isAgg4
  z4 := Tryd.sizeOf4
  v4 := Tryd.zeroValue4
  t9 := Tryd.underlying9
  a9 := Tryd.isAgg9
  z9 := Tryd.sizeOf9
  v9 := Tryd.zeroValue9 }
open Go.Lib in
/-- internal/strconv.small: "small returns the string for an i with 0 <= i < nSmalls.": i's decimal numeral. The world is as it was. (LAID: no walk: one application.) -/
theorem Tryd.internal_strconv_small (i : Nat) (h : i < 100) (w : World) :
    Calls Tryd.prog 98 #[.int .i64 i] w fun e w' => e = .returned (.string ⟨(Lib.decDigits i).toArray⟩) ∧ w' = w := Any.internal_strconv_small Tryd.lays283 i h w
def Tryd.laysM284_ren : Go.Shelf.Ren := ⟨fun | 284 => 99 | 129 => 104 | 317 => 103 | 318 => 105 | n => n, fun | 53 => 125 | 3 => 3 | 212 => 133 | 0 => 0 | 4 => 4 | 46 => 136 | 5 => 5 | 9 => 9 | n => n, fun | 17 => 0 | n => n⟩
theorem Tryd.laysM284 : Go.Proofs.LaysM.n284 Tryd.prog Tryd.laysM284_ren := {
  mixed := by kernel_rfl
  f129 := Tryd.func104.trans (congrArg some (by kernel_rfl))
  f284 := Tryd.func99.trans (congrArg some (by kernel_rfl))
  f317 := Tryd.func103.trans (congrArg some (by kernel_rfl))
  f318 := Tryd.func105.trans (congrArg some (by kernel_rfl))
  t0 := Tryd.underlying0
  a0 := Tryd.isAgg0
  z0 := Tryd.sizeOf0
  v0 := Tryd.zeroValue0
  t3 := Tryd.underlying3
  a3 := Tryd.isAgg3
  z3 := Tryd.sizeOf3
  v3 := Tryd.zeroValue3
  t4 := Tryd.underlying4
  a4 := Tryd.isAgg4
  z4 := Tryd.sizeOf4
  v4 := Tryd.zeroValue4
  t5 := Tryd.underlying5
  a5 := Tryd.isAgg5
  z5 := Tryd.sizeOf5
  v5 := Tryd.zeroValue5
  t9 := Tryd.underlying9
  a9 := Tryd.isAgg9
  z9 := Tryd.sizeOf9
  v9 := Tryd.zeroValue9
  t46 := Tryd.underlying136
  a46 := Tryd.isAgg136
  z46 := Tryd.sizeOf136
  v46 := Tryd.zeroValue136
  t53 := Tryd.underlying125
  a53 := Tryd.isAgg125
  z53 := Tryd.sizeOf125
  v53 := Tryd.zeroValue125
  t212 := Tryd.underlying133
  a212 := Tryd.isAgg133
  z212 := Tryd.sizeOf133
  v212 := Tryd.zeroValue133
  g17 := by kernel_rfl
  i0 := by kernel_rfl
  i3 := by kernel_rfl
  i4 := by kernel_rfl
  i5 := by kernel_rfl
  i9 := by kernel_rfl
  i46 := by kernel_rfl
  i53 := by kernel_rfl
  i212 := by kernel_rfl
  m17 := by kernel_rfl }
open Go.Lib in
/-- internal/strconv.numDigits, at a d that is not 0: THE NUMBER OF d's DECIMAL DIGITS. The world is as it was. (LAID: no walk: one application.) -/
theorem Tryd.internal_strconv_numDigits (u : Nat) (h1 : 1 ≤ u) (h2 : u < 18446744073709551616) (w : World) (htab : Lib.TabIs Tryd.prog w "internal/strconv.uint64pow10" .u64 Lib.pow10Tab) :
    Calls Tryd.prog 99 #[.int .u64 u] w fun e w' => e = .returned (.int .i64 (Lib.nDigits u)) ∧ w' = w := Any.internal_strconv_numDigits Tryd.laysM284 u h1 h2 w htab
def Tryd.lays285_ren : Go.Shelf.Ren := ⟨fun | 285 => 100 | n => n, fun | 37 => 58 | 53 => 125 | 3 => 3 | 4 => 4 | 51 => 130 | 9 => 9 | 5 => 5 | 0 => 0 | n => n, fun | n => n⟩
theorem Tryd.lays285 : Go.Proofs.Lays.n285 Tryd.prog Tryd.lays285_ren := {
  mixed := by kernel_rfl
  f285 := Tryd.func100.trans (congrArg some (by kernel_rfl))
  t0 := Tryd.underlying0
  a0 := Tryd.isAgg0
  z0 := Tryd.sizeOf0
  v0 := Tryd.zeroValue0
  t3 := Tryd.underlying3
  a3 := Tryd.isAgg3
  z3 := Tryd.sizeOf3
  v3 := Tryd.zeroValue3
  t4 := Tryd.underlying4
  a4 := Tryd.isAgg4
  z4 := Tryd.sizeOf4
  v4 := Tryd.zeroValue4
  t5 := Tryd.underlying5
  a5 := Tryd.isAgg5
  z5 := Tryd.sizeOf5
  v5 := Tryd.zeroValue5
  t9 := Tryd.underlying9
  a9 := Tryd.isAgg9
  z9 := Tryd.sizeOf9
  v9 := Tryd.zeroValue9
  t37 := Tryd.underlying58
  a37 := Tryd.isAgg58
  z37 := Tryd.sizeOf58
  v37 := Tryd.zeroValue58
  t51 := Tryd.underlying130
  a51 := Tryd.isAgg130
  z51 := Tryd.sizeOf130
  v51 := Tryd.zeroValue130
  t53 := Tryd.underlying125
  a53 := Tryd.isAgg125
  z53 := Tryd.sizeOf125
  v53 := Tryd.zeroValue125 }
open Go.RowKit Go.Sort Go.Lib in
/-- internal/strconv.formatBase10: "formatBase10 formats the decimal representation of u into a. The caller is responsible for ensuring that a is big enough to hold u. If a is too big, leading zeros will be filled in as needed.": THE ROW HOLDS u's DIGITS ('FmtInv .. 0 ..': every place t holds 'dg u (len - 1 - t)'); all else is as it was but for the count of draws. (LAID: no walk: one application.) -/
theorem Tryd.internal_strconv_formatBase10 (blk off cap : Nat) (u : Nat) (d : Array UInt8) (w : World) (hH : Holds (fun (b : UInt8) => Value.int .u8 (b.toNat : Int)) w blk off d) (hu : u < 10 ^ d.size) (hu64 : u < 18446744073709551616) (hsz : d.size < 4611686018427387904) :
    Calls Tryd.prog 100 #[.slice (some ⟨blk, off, none⟩) d.size cap, .int .u64 u] w fun e w' =>
      e = .returned (.tuple #[]) ∧ ∃ (n v' : Nat) (dk : Array UInt8), w' = (putRow (fun (b : UInt8) => Value.int .u8 (b.toNat : Int)) w blk off dk).drewN n ∧ FmtInv d.size u 0 v' dk := Any.internal_strconv_formatBase10 Tryd.lays285 blk off cap u d w hH hu hu64 hsz
def Tryd.laysM246_ren : Go.Shelf.Ren := ⟨fun | 246 => 96 | 283 => 98 | 284 => 99 | 285 => 100 | 286 => 101 | 129 => 104 | 317 => 103 | 318 => 105 | 319 => 106 | 320 => 107 | 337 => 108 | 338 => 109 | n => n, fun | 2 => 2 | 3 => 3 | 9 => 9 | 4 => 4 | 171 => 124 | 0 => 0 | 53 => 125 | 37 => 58 | 5 => 5 | 173 => 128 | 212 => 133 | 51 => 130 | 20 => 20 | 213 => 134 | 46 => 136 | 232 => 139 | 233 => 140 | n => n, fun | 17 => 0 | 18 => 1 | 19 => 2 | n => n⟩
theorem Tryd.laysM246 : Go.Proofs.LaysM.n246 Tryd.prog Tryd.laysM246_ren := {
  mixed := by kernel_rfl
  f129 := Tryd.func104.trans (congrArg some (by kernel_rfl))
  f246 := Tryd.func96.trans (congrArg some (by kernel_rfl))
  f283 := Tryd.func98.trans (congrArg some (by kernel_rfl))
  f284 := Tryd.func99.trans (congrArg some (by kernel_rfl))
  f285 := Tryd.func100.trans (congrArg some (by kernel_rfl))
  f286 := Tryd.func101.trans (congrArg some (by kernel_rfl))
  f317 := Tryd.func103.trans (congrArg some (by kernel_rfl))
  f318 := Tryd.func105.trans (congrArg some (by kernel_rfl))
  f319 := Tryd.func106.trans (congrArg some (by kernel_rfl))
  f320 := Tryd.func107.trans (congrArg some (by kernel_rfl))
  f337 := Tryd.func108.trans (congrArg some (by kernel_rfl))
  f338 := Tryd.func109.trans (congrArg some (by kernel_rfl))
  t0 := Tryd.underlying0
  a0 := Tryd.isAgg0
  z0 := Tryd.sizeOf0
  v0 := Tryd.zeroValue0
  t2 := Tryd.underlying2
  a2 := Tryd.isAgg2
  z2 := Tryd.sizeOf2
  v2 := Tryd.zeroValue2
  t3 := Tryd.underlying3
  a3 := Tryd.isAgg3
  z3 := Tryd.sizeOf3
  v3 := Tryd.zeroValue3
  t4 := Tryd.underlying4
  a4 := Tryd.isAgg4
  z4 := Tryd.sizeOf4
  v4 := Tryd.zeroValue4
  t5 := Tryd.underlying5
  a5 := Tryd.isAgg5
  z5 := Tryd.sizeOf5
  v5 := Tryd.zeroValue5
  t9 := Tryd.underlying9
  a9 := Tryd.isAgg9
  z9 := Tryd.sizeOf9
  v9 := Tryd.zeroValue9
  t20 := Tryd.underlying20
  a20 := Tryd.isAgg20
  z20 := Tryd.sizeOf20
  v20 := Tryd.zeroValue20
  t37 := Tryd.underlying58
  a37 := Tryd.isAgg58
  z37 := Tryd.sizeOf58
  v37 := Tryd.zeroValue58
  t46 := Tryd.underlying136
  a46 := Tryd.isAgg136
  z46 := Tryd.sizeOf136
  v46 := Tryd.zeroValue136
  t51 := Tryd.underlying130
  a51 := Tryd.isAgg130
  z51 := Tryd.sizeOf130
  v51 := Tryd.zeroValue130
  t53 := Tryd.underlying125
  a53 := Tryd.isAgg125
  z53 := Tryd.sizeOf125
  v53 := Tryd.zeroValue125
  t171 := Tryd.underlying124
  a171 := Tryd.isAgg124
  z171 := Tryd.sizeOf124
  v171 := Tryd.zeroValue124
  t173 := Tryd.underlying128
  a173 := Tryd.isAgg128
  z173 := Tryd.sizeOf128
  v173 := Tryd.zeroValue128
  t212 := Tryd.underlying133
  a212 := Tryd.isAgg133
  z212 := Tryd.sizeOf133
  v212 := Tryd.zeroValue133
  t213 := Tryd.underlying134
  a213 := Tryd.isAgg134
  z213 := Tryd.sizeOf134
  t232 := Tryd.underlying139
  a232 := Tryd.isAgg139
  z232 := Tryd.sizeOf139
  v232 := Tryd.zeroValue139
  t233 := Tryd.underlying140
  a233 := Tryd.isAgg140
  z233 := Tryd.sizeOf140
  v233 := Tryd.zeroValue140
  g17 := by kernel_rfl
  g18 := by kernel_rfl
  g19 := by kernel_rfl
  i0 := by kernel_rfl
  i2 := by kernel_rfl
  i3 := by kernel_rfl
  i4 := by kernel_rfl
  i5 := by kernel_rfl
  i9 := by kernel_rfl
  i20 := by kernel_rfl
  i37 := by kernel_rfl
  i46 := by kernel_rfl
  i51 := by kernel_rfl
  i53 := by kernel_rfl
  i171 := by kernel_rfl
  i173 := by kernel_rfl
  i212 := by kernel_rfl
  i232 := by kernel_rfl
  i233 := by kernel_rfl
  m17 := by kernel_rfl
  m18 := by kernel_rfl
  m19 := by kernel_rfl }
open Go.RowKit Go.Sort Go.Lib in
/-- internal/strconv.FormatInt: "FormatInt returns the string representation of i in the given base": AT BASE 10: i's decimal numeral, for every int64. The world behind the call: the world before it, new blocks behind the heap, draws. (LAID: no walk: one application.) -/
theorem Tryd.internal_strconv_FormatInt_10 (n : Int) (h0 : -9223372036854775808 ≤ n) (h1 : n ≤ 9223372036854775807) (w : World) (htab : Lib.TabIs Tryd.prog w "internal/strconv.uint64pow10" .u64 Lib.pow10Tab) :
    Calls Tryd.prog 96 #[.int .i64 n, .int .i64 10] w fun e w' => e = .returned (.string ⟨(Lib.itoa n).toArray⟩) ∧ ∃ k os, w' = grow (w.drewN k) os := Any.internal_strconv_FormatInt_10 Tryd.laysM246 n h0 h1 w htab
def Tryd.lays246_ren : Go.Shelf.Ren := ⟨fun | 246 => 96 | 283 => 98 | 284 => 99 | 285 => 100 | 286 => 101 | 129 => 104 | 317 => 103 | 318 => 105 | 319 => 106 | 320 => 107 | 337 => 108 | 338 => 109 | n => n, fun | 2 => 2 | 3 => 3 | 9 => 9 | 4 => 4 | 171 => 124 | 0 => 0 | 53 => 125 | 37 => 58 | 5 => 5 | 173 => 128 | 212 => 133 | 51 => 130 | 20 => 20 | 213 => 134 | 46 => 136 | 232 => 139 | 233 => 140 | n => n, fun | 17 => 0 | 18 => 1 | 19 => 2 | n => n⟩
theorem Tryd.lays246 : Go.Proofs.Lays.n246 Tryd.prog Tryd.lays246_ren := {
  mixed := by kernel_rfl
  f129 := Tryd.func104.trans (congrArg some (by kernel_rfl))
  f246 := Tryd.func96.trans (congrArg some (by kernel_rfl))
  f283 := Tryd.func98.trans (congrArg some (by kernel_rfl))
  f284 := Tryd.func99.trans (congrArg some (by kernel_rfl))
  f285 := Tryd.func100.trans (congrArg some (by kernel_rfl))
  f286 := Tryd.func101.trans (congrArg some (by kernel_rfl))
  f317 := Tryd.func103.trans (congrArg some (by kernel_rfl))
  f318 := Tryd.func105.trans (congrArg some (by kernel_rfl))
  f319 := Tryd.func106.trans (congrArg some (by kernel_rfl))
  f320 := Tryd.func107.trans (congrArg some (by kernel_rfl))
  f337 := Tryd.func108.trans (congrArg some (by kernel_rfl))
  f338 := Tryd.func109.trans (congrArg some (by kernel_rfl))
  t0 := Tryd.underlying0
  a0 := Tryd.isAgg0
  z0 := Tryd.sizeOf0
  v0 := Tryd.zeroValue0
  t2 := Tryd.underlying2
  a2 := Tryd.isAgg2
  z2 := Tryd.sizeOf2
  v2 := Tryd.zeroValue2
  t3 := Tryd.underlying3
  a3 := Tryd.isAgg3
  z3 := Tryd.sizeOf3
  v3 := Tryd.zeroValue3
  t4 := Tryd.underlying4
  a4 := Tryd.isAgg4
  z4 := Tryd.sizeOf4
  v4 := Tryd.zeroValue4
  t5 := Tryd.underlying5
  a5 := Tryd.isAgg5
  z5 := Tryd.sizeOf5
  v5 := Tryd.zeroValue5
  t9 := Tryd.underlying9
  a9 := Tryd.isAgg9
  z9 := Tryd.sizeOf9
  v9 := Tryd.zeroValue9
  t20 := Tryd.underlying20
  a20 := Tryd.isAgg20
  z20 := Tryd.sizeOf20
  v20 := Tryd.zeroValue20
  t37 := Tryd.underlying58
  a37 := Tryd.isAgg58
  z37 := Tryd.sizeOf58
  v37 := Tryd.zeroValue58
  t46 := Tryd.underlying136
  a46 := Tryd.isAgg136
  z46 := Tryd.sizeOf136
  v46 := Tryd.zeroValue136
  t51 := Tryd.underlying130
  a51 := Tryd.isAgg130
  z51 := Tryd.sizeOf130
  v51 := Tryd.zeroValue130
  t53 := Tryd.underlying125
  a53 := Tryd.isAgg125
  z53 := Tryd.sizeOf125
  v53 := Tryd.zeroValue125
  t171 := Tryd.underlying124
  a171 := Tryd.isAgg124
  z171 := Tryd.sizeOf124
  v171 := Tryd.zeroValue124
  t173 := Tryd.underlying128
  a173 := Tryd.isAgg128
  z173 := Tryd.sizeOf128
  v173 := Tryd.zeroValue128
  t212 := Tryd.underlying133
  a212 := Tryd.isAgg133
  z212 := Tryd.sizeOf133
  v212 := Tryd.zeroValue133
  t213 := Tryd.underlying134
  a213 := Tryd.isAgg134
  z213 := Tryd.sizeOf134
  t232 := Tryd.underlying139
  a232 := Tryd.isAgg139
  z232 := Tryd.sizeOf139
  v232 := Tryd.zeroValue139
  t233 := Tryd.underlying140
  a233 := Tryd.isAgg140
  z233 := Tryd.sizeOf140
  v233 := Tryd.zeroValue140
  g17 := by kernel_rfl
  g18 := by kernel_rfl
  g19 := by kernel_rfl }
open Go.RowKit Go.Sort Go.Lib in
/-- THE ROAD WITHOUT THE TABLE: 0 <= i < 100: two constants are read, nothing is laid: no premise on the world, and the world is as it was. (LAID: no walk: one application.) -/
theorem Tryd.internal_strconv_FormatInt_10_small (i : Nat) (hi : i < 100) (w : World) :
    Calls Tryd.prog 96 #[.int .i64 i, .int .i64 10] w fun e w' => e = .returned (.string ⟨(Lib.decDigits i).toArray⟩) ∧ w' = w := Any.internal_strconv_FormatInt_10_small Tryd.lays246 i hi w
def Tryd.laysM243_ren : Go.Shelf.Ren := ⟨fun | 243 => 91 | 246 => 96 | 283 => 98 | 284 => 99 | 285 => 100 | 286 => 101 | 129 => 104 | 317 => 103 | 318 => 105 | 319 => 106 | 320 => 107 | 337 => 108 | 338 => 109 | n => n, fun | 3 => 3 | 9 => 9 | 2 => 2 | 4 => 4 | 171 => 124 | 0 => 0 | 53 => 125 | 37 => 58 | 5 => 5 | 173 => 128 | 212 => 133 | 51 => 130 | 20 => 20 | 213 => 134 | 46 => 136 | 232 => 139 | 233 => 140 | n => n, fun | 17 => 0 | 18 => 1 | 19 => 2 | n => n⟩
theorem Tryd.laysM243 : Go.Proofs.LaysM.n243 Tryd.prog Tryd.laysM243_ren := {
  mixed := by kernel_rfl
  f129 := Tryd.func104.trans (congrArg some (by kernel_rfl))
  f243 := Tryd.func91.trans (congrArg some (by kernel_rfl))
  f246 := Tryd.func96.trans (congrArg some (by kernel_rfl))
  f283 := Tryd.func98.trans (congrArg some (by kernel_rfl))
  f284 := Tryd.func99.trans (congrArg some (by kernel_rfl))
  f285 := Tryd.func100.trans (congrArg some (by kernel_rfl))
  f286 := Tryd.func101.trans (congrArg some (by kernel_rfl))
  f317 := Tryd.func103.trans (congrArg some (by kernel_rfl))
  f318 := Tryd.func105.trans (congrArg some (by kernel_rfl))
  f319 := Tryd.func106.trans (congrArg some (by kernel_rfl))
  f320 := Tryd.func107.trans (congrArg some (by kernel_rfl))
  f337 := Tryd.func108.trans (congrArg some (by kernel_rfl))
  f338 := Tryd.func109.trans (congrArg some (by kernel_rfl))
  t0 := Tryd.underlying0
  a0 := Tryd.isAgg0
  z0 := Tryd.sizeOf0
  v0 := Tryd.zeroValue0
  t2 := Tryd.underlying2
  a2 := Tryd.isAgg2
  z2 := Tryd.sizeOf2
  v2 := Tryd.zeroValue2
  t3 := Tryd.underlying3
  a3 := Tryd.isAgg3
  z3 := Tryd.sizeOf3
  v3 := Tryd.zeroValue3
  t4 := Tryd.underlying4
  a4 := Tryd.isAgg4
  z4 := Tryd.sizeOf4
  v4 := Tryd.zeroValue4
  t5 := Tryd.underlying5
  a5 := Tryd.isAgg5
  z5 := Tryd.sizeOf5
  v5 := Tryd.zeroValue5
  t9 := Tryd.underlying9
  a9 := Tryd.isAgg9
  z9 := Tryd.sizeOf9
  v9 := Tryd.zeroValue9
  t20 := Tryd.underlying20
  a20 := Tryd.isAgg20
  z20 := Tryd.sizeOf20
  v20 := Tryd.zeroValue20
  t37 := Tryd.underlying58
  a37 := Tryd.isAgg58
  z37 := Tryd.sizeOf58
  v37 := Tryd.zeroValue58
  t46 := Tryd.underlying136
  a46 := Tryd.isAgg136
  z46 := Tryd.sizeOf136
  v46 := Tryd.zeroValue136
  t51 := Tryd.underlying130
  a51 := Tryd.isAgg130
  z51 := Tryd.sizeOf130
  v51 := Tryd.zeroValue130
  t53 := Tryd.underlying125
  a53 := Tryd.isAgg125
  z53 := Tryd.sizeOf125
  v53 := Tryd.zeroValue125
  t171 := Tryd.underlying124
  a171 := Tryd.isAgg124
  z171 := Tryd.sizeOf124
  v171 := Tryd.zeroValue124
  t173 := Tryd.underlying128
  a173 := Tryd.isAgg128
  z173 := Tryd.sizeOf128
  v173 := Tryd.zeroValue128
  t212 := Tryd.underlying133
  a212 := Tryd.isAgg133
  z212 := Tryd.sizeOf133
  v212 := Tryd.zeroValue133
  t213 := Tryd.underlying134
  a213 := Tryd.isAgg134
  z213 := Tryd.sizeOf134
  t232 := Tryd.underlying139
  a232 := Tryd.isAgg139
  z232 := Tryd.sizeOf139
  v232 := Tryd.zeroValue139
  t233 := Tryd.underlying140
  a233 := Tryd.isAgg140
  z233 := Tryd.sizeOf140
  v233 := Tryd.zeroValue140
  g17 := by kernel_rfl
  g18 := by kernel_rfl
  g19 := by kernel_rfl
  i0 := by kernel_rfl
  i2 := by kernel_rfl
  i3 := by kernel_rfl
  i4 := by kernel_rfl
  i5 := by kernel_rfl
  i9 := by kernel_rfl
  i20 := by kernel_rfl
  i37 := by kernel_rfl
  i46 := by kernel_rfl
  i51 := by kernel_rfl
  i53 := by kernel_rfl
  i171 := by kernel_rfl
  i173 := by kernel_rfl
  i212 := by kernel_rfl
  i232 := by kernel_rfl
  i233 := by kernel_rfl
  m17 := by kernel_rfl
  m18 := by kernel_rfl
  m19 := by kernel_rfl }
open Go.RowKit Go.Sort Go.Lib in
/-- internal/strconv.Itoa: "Itoa is equivalent to FormatInt(int64(i), 10).": i's decimal numeral, for every int. (LAID: no walk: one application.) -/
theorem Tryd.internal_strconv_Itoa (n : Int) (h0 : -9223372036854775808 ≤ n) (h1 : n ≤ 9223372036854775807) (w : World) (htab : Lib.TabIs Tryd.prog w "internal/strconv.uint64pow10" .u64 Lib.pow10Tab) :
    Calls Tryd.prog 91 #[.int .i64 n] w fun e w' => e = .returned (.string ⟨(Lib.itoa n).toArray⟩) ∧ ∃ k os, w' = grow (w.drewN k) os := Any.internal_strconv_Itoa Tryd.laysM243 n h0 h1 w htab
def Tryd.lays243_ren : Go.Shelf.Ren := ⟨fun | 243 => 91 | 246 => 96 | 283 => 98 | 284 => 99 | 285 => 100 | 286 => 101 | 129 => 104 | 317 => 103 | 318 => 105 | 319 => 106 | 320 => 107 | 337 => 108 | 338 => 109 | n => n, fun | 3 => 3 | 9 => 9 | 2 => 2 | 4 => 4 | 171 => 124 | 0 => 0 | 53 => 125 | 37 => 58 | 5 => 5 | 173 => 128 | 212 => 133 | 51 => 130 | 20 => 20 | 213 => 134 | 46 => 136 | 232 => 139 | 233 => 140 | n => n, fun | 17 => 0 | 18 => 1 | 19 => 2 | n => n⟩
theorem Tryd.lays243 : Go.Proofs.Lays.n243 Tryd.prog Tryd.lays243_ren := {
  mixed := by kernel_rfl
  f129 := Tryd.func104.trans (congrArg some (by kernel_rfl))
  f243 := Tryd.func91.trans (congrArg some (by kernel_rfl))
  f246 := Tryd.func96.trans (congrArg some (by kernel_rfl))
  f283 := Tryd.func98.trans (congrArg some (by kernel_rfl))
  f284 := Tryd.func99.trans (congrArg some (by kernel_rfl))
  f285 := Tryd.func100.trans (congrArg some (by kernel_rfl))
  f286 := Tryd.func101.trans (congrArg some (by kernel_rfl))
  f317 := Tryd.func103.trans (congrArg some (by kernel_rfl))
  f318 := Tryd.func105.trans (congrArg some (by kernel_rfl))
  f319 := Tryd.func106.trans (congrArg some (by kernel_rfl))
  f320 := Tryd.func107.trans (congrArg some (by kernel_rfl))
  f337 := Tryd.func108.trans (congrArg some (by kernel_rfl))
  f338 := Tryd.func109.trans (congrArg some (by kernel_rfl))
  t0 := Tryd.underlying0
  a0 := Tryd.isAgg0
  z0 := Tryd.sizeOf0
  v0 := Tryd.zeroValue0
  t2 := Tryd.underlying2
  a2 := Tryd.isAgg2
  z2 := Tryd.sizeOf2
  v2 := Tryd.zeroValue2
  t3 := Tryd.underlying3
  a3 := Tryd.isAgg3
  z3 := Tryd.sizeOf3
  v3 := Tryd.zeroValue3
  t4 := Tryd.underlying4
  a4 := Tryd.isAgg4
  z4 := Tryd.sizeOf4
  v4 := Tryd.zeroValue4
  t5 := Tryd.underlying5
  a5 := Tryd.isAgg5
  z5 := Tryd.sizeOf5
  v5 := Tryd.zeroValue5
  t9 := Tryd.underlying9
  a9 := Tryd.isAgg9
  z9 := Tryd.sizeOf9
  v9 := Tryd.zeroValue9
  t20 := Tryd.underlying20
  a20 := Tryd.isAgg20
  z20 := Tryd.sizeOf20
  v20 := Tryd.zeroValue20
  t37 := Tryd.underlying58
  a37 := Tryd.isAgg58
  z37 := Tryd.sizeOf58
  v37 := Tryd.zeroValue58
  t46 := Tryd.underlying136
  a46 := Tryd.isAgg136
  z46 := Tryd.sizeOf136
  v46 := Tryd.zeroValue136
  t51 := Tryd.underlying130
  a51 := Tryd.isAgg130
  z51 := Tryd.sizeOf130
  v51 := Tryd.zeroValue130
  t53 := Tryd.underlying125
  a53 := Tryd.isAgg125
  z53 := Tryd.sizeOf125
  v53 := Tryd.zeroValue125
  t171 := Tryd.underlying124
  a171 := Tryd.isAgg124
  z171 := Tryd.sizeOf124
  v171 := Tryd.zeroValue124
  t173 := Tryd.underlying128
  a173 := Tryd.isAgg128
  z173 := Tryd.sizeOf128
  v173 := Tryd.zeroValue128
  t212 := Tryd.underlying133
  a212 := Tryd.isAgg133
  z212 := Tryd.sizeOf133
  v212 := Tryd.zeroValue133
  t213 := Tryd.underlying134
  a213 := Tryd.isAgg134
  z213 := Tryd.sizeOf134
  t232 := Tryd.underlying139
  a232 := Tryd.isAgg139
  z232 := Tryd.sizeOf139
  v232 := Tryd.zeroValue139
  t233 := Tryd.underlying140
  a233 := Tryd.isAgg140
  z233 := Tryd.sizeOf140
  v233 := Tryd.zeroValue140
  g17 := by kernel_rfl
  g18 := by kernel_rfl
  g19 := by kernel_rfl }
open Go.RowKit Go.Sort Go.Lib in
/-- THE ROAD WITHOUT THE TABLE: 0 <= i < 100. (LAID: no walk: one application.) -/
theorem Tryd.internal_strconv_Itoa_small (i : Nat) (hi : i < 100) (w : World) :
    Calls Tryd.prog 91 #[.int .i64 i] w fun e w' => e = .returned (.string ⟨(Lib.decDigits i).toArray⟩) ∧ w' = w := Any.internal_strconv_Itoa_small Tryd.lays243 i hi w
def Tryd.laysM171_ren : Go.Shelf.Ren := ⟨fun | 171 => 75 | 243 => 91 | 246 => 96 | 283 => 98 | 284 => 99 | 285 => 100 | 286 => 101 | 129 => 104 | 317 => 103 | 318 => 105 | 319 => 106 | 320 => 107 | 337 => 108 | 338 => 109 | n => n, fun | 3 => 3 | 9 => 9 | 2 => 2 | 4 => 4 | 171 => 124 | 0 => 0 | 53 => 125 | 37 => 58 | 5 => 5 | 173 => 128 | 212 => 133 | 51 => 130 | 20 => 20 | 213 => 134 | 46 => 136 | 232 => 139 | 233 => 140 | n => n, fun | 17 => 0 | 18 => 1 | 19 => 2 | n => n⟩
theorem Tryd.laysM171 : Go.Proofs.LaysM.n171 Tryd.prog Tryd.laysM171_ren := {
  mixed := by kernel_rfl
  f129 := Tryd.func104.trans (congrArg some (by kernel_rfl))
  f171 := Tryd.func75.trans (congrArg some (by kernel_rfl))
  f243 := Tryd.func91.trans (congrArg some (by kernel_rfl))
  f246 := Tryd.func96.trans (congrArg some (by kernel_rfl))
  f283 := Tryd.func98.trans (congrArg some (by kernel_rfl))
  f284 := Tryd.func99.trans (congrArg some (by kernel_rfl))
  f285 := Tryd.func100.trans (congrArg some (by kernel_rfl))
  f286 := Tryd.func101.trans (congrArg some (by kernel_rfl))
  f317 := Tryd.func103.trans (congrArg some (by kernel_rfl))
  f318 := Tryd.func105.trans (congrArg some (by kernel_rfl))
  f319 := Tryd.func106.trans (congrArg some (by kernel_rfl))
  f320 := Tryd.func107.trans (congrArg some (by kernel_rfl))
  f337 := Tryd.func108.trans (congrArg some (by kernel_rfl))
  f338 := Tryd.func109.trans (congrArg some (by kernel_rfl))
  t0 := Tryd.underlying0
  a0 := Tryd.isAgg0
  z0 := Tryd.sizeOf0
  v0 := Tryd.zeroValue0
  t2 := Tryd.underlying2
  a2 := Tryd.isAgg2
  z2 := Tryd.sizeOf2
  v2 := Tryd.zeroValue2
  t3 := Tryd.underlying3
  a3 := Tryd.isAgg3
  z3 := Tryd.sizeOf3
  v3 := Tryd.zeroValue3
  t4 := Tryd.underlying4
  a4 := Tryd.isAgg4
  z4 := Tryd.sizeOf4
  v4 := Tryd.zeroValue4
  t5 := Tryd.underlying5
  a5 := Tryd.isAgg5
  z5 := Tryd.sizeOf5
  v5 := Tryd.zeroValue5
  t9 := Tryd.underlying9
  a9 := Tryd.isAgg9
  z9 := Tryd.sizeOf9
  v9 := Tryd.zeroValue9
  t20 := Tryd.underlying20
  a20 := Tryd.isAgg20
  z20 := Tryd.sizeOf20
  v20 := Tryd.zeroValue20
  t37 := Tryd.underlying58
  a37 := Tryd.isAgg58
  z37 := Tryd.sizeOf58
  v37 := Tryd.zeroValue58
  t46 := Tryd.underlying136
  a46 := Tryd.isAgg136
  z46 := Tryd.sizeOf136
  v46 := Tryd.zeroValue136
  t51 := Tryd.underlying130
  a51 := Tryd.isAgg130
  z51 := Tryd.sizeOf130
  v51 := Tryd.zeroValue130
  t53 := Tryd.underlying125
  a53 := Tryd.isAgg125
  z53 := Tryd.sizeOf125
  v53 := Tryd.zeroValue125
  t171 := Tryd.underlying124
  a171 := Tryd.isAgg124
  z171 := Tryd.sizeOf124
  v171 := Tryd.zeroValue124
  t173 := Tryd.underlying128
  a173 := Tryd.isAgg128
  z173 := Tryd.sizeOf128
  v173 := Tryd.zeroValue128
  t212 := Tryd.underlying133
  a212 := Tryd.isAgg133
  z212 := Tryd.sizeOf133
  v212 := Tryd.zeroValue133
  t213 := Tryd.underlying134
  a213 := Tryd.isAgg134
  z213 := Tryd.sizeOf134
  t232 := Tryd.underlying139
  a232 := Tryd.isAgg139
  z232 := Tryd.sizeOf139
  v232 := Tryd.zeroValue139
  t233 := Tryd.underlying140
  a233 := Tryd.isAgg140
  z233 := Tryd.sizeOf140
  v233 := Tryd.zeroValue140
  g17 := by kernel_rfl
  g18 := by kernel_rfl
  g19 := by kernel_rfl
  i0 := by kernel_rfl
  i2 := by kernel_rfl
  i3 := by kernel_rfl
  i4 := by kernel_rfl
  i5 := by kernel_rfl
  i9 := by kernel_rfl
  i20 := by kernel_rfl
  i37 := by kernel_rfl
  i46 := by kernel_rfl
  i51 := by kernel_rfl
  i53 := by kernel_rfl
  i171 := by kernel_rfl
  i173 := by kernel_rfl
  i212 := by kernel_rfl
  i232 := by kernel_rfl
  i233 := by kernel_rfl
  m17 := by kernel_rfl
  m18 := by kernel_rfl
  m19 := by kernel_rfl }
open Go.RowKit Go.Sort Go.Lib in
/-- strconv.Itoa: "Itoa is equivalent to FormatInt(int64(i), 10).": i's DECIMAL NUMERAL ('Lib.itoa': a '-' where i is negative, then the digits), FOR EVERY int. The world behind the call: the world before it, new blocks behind the heap (the library's 'var a [24]byte'), draws. (LAID: no walk: one application.) -/
theorem Tryd.strconv_Itoa (n : Int) (h0 : -9223372036854775808 ≤ n) (h1 : n ≤ 9223372036854775807) (w : World) (htab : Lib.TabIs Tryd.prog w "internal/strconv.uint64pow10" .u64 Lib.pow10Tab) :
    Calls Tryd.prog 75 #[.int .i64 n] w fun e w' => e = .returned (.string ⟨(Lib.itoa n).toArray⟩) ∧ ∃ k os, w' = grow (w.drewN k) os := Any.strconv_Itoa Tryd.laysM171 n h0 h1 w htab
def Tryd.lays171_ren : Go.Shelf.Ren := ⟨fun | 171 => 75 | 243 => 91 | 246 => 96 | 283 => 98 | 284 => 99 | 285 => 100 | 286 => 101 | 129 => 104 | 317 => 103 | 318 => 105 | 319 => 106 | 320 => 107 | 337 => 108 | 338 => 109 | n => n, fun | 3 => 3 | 9 => 9 | 2 => 2 | 4 => 4 | 171 => 124 | 0 => 0 | 53 => 125 | 37 => 58 | 5 => 5 | 173 => 128 | 212 => 133 | 51 => 130 | 20 => 20 | 213 => 134 | 46 => 136 | 232 => 139 | 233 => 140 | n => n, fun | 17 => 0 | 18 => 1 | 19 => 2 | n => n⟩
theorem Tryd.lays171 : Go.Proofs.Lays.n171 Tryd.prog Tryd.lays171_ren := {
  mixed := by kernel_rfl
  f129 := Tryd.func104.trans (congrArg some (by kernel_rfl))
  f171 := Tryd.func75.trans (congrArg some (by kernel_rfl))
  f243 := Tryd.func91.trans (congrArg some (by kernel_rfl))
  f246 := Tryd.func96.trans (congrArg some (by kernel_rfl))
  f283 := Tryd.func98.trans (congrArg some (by kernel_rfl))
  f284 := Tryd.func99.trans (congrArg some (by kernel_rfl))
  f285 := Tryd.func100.trans (congrArg some (by kernel_rfl))
  f286 := Tryd.func101.trans (congrArg some (by kernel_rfl))
  f317 := Tryd.func103.trans (congrArg some (by kernel_rfl))
  f318 := Tryd.func105.trans (congrArg some (by kernel_rfl))
  f319 := Tryd.func106.trans (congrArg some (by kernel_rfl))
  f320 := Tryd.func107.trans (congrArg some (by kernel_rfl))
  f337 := Tryd.func108.trans (congrArg some (by kernel_rfl))
  f338 := Tryd.func109.trans (congrArg some (by kernel_rfl))
  t0 := Tryd.underlying0
  a0 := Tryd.isAgg0
  z0 := Tryd.sizeOf0
  v0 := Tryd.zeroValue0
  t2 := Tryd.underlying2
  a2 := Tryd.isAgg2
  z2 := Tryd.sizeOf2
  v2 := Tryd.zeroValue2
  t3 := Tryd.underlying3
  a3 := Tryd.isAgg3
  z3 := Tryd.sizeOf3
  v3 := Tryd.zeroValue3
  t4 := Tryd.underlying4
  a4 := Tryd.isAgg4
  z4 := Tryd.sizeOf4
  v4 := Tryd.zeroValue4
  t5 := Tryd.underlying5
  a5 := Tryd.isAgg5
  z5 := Tryd.sizeOf5
  v5 := Tryd.zeroValue5
  t9 := Tryd.underlying9
  a9 := Tryd.isAgg9
  z9 := Tryd.sizeOf9
  v9 := Tryd.zeroValue9
  t20 := Tryd.underlying20
  a20 := Tryd.isAgg20
  z20 := Tryd.sizeOf20
  v20 := Tryd.zeroValue20
  t37 := Tryd.underlying58
  a37 := Tryd.isAgg58
  z37 := Tryd.sizeOf58
  v37 := Tryd.zeroValue58
  t46 := Tryd.underlying136
  a46 := Tryd.isAgg136
  z46 := Tryd.sizeOf136
  v46 := Tryd.zeroValue136
  t51 := Tryd.underlying130
  a51 := Tryd.isAgg130
  z51 := Tryd.sizeOf130
  v51 := Tryd.zeroValue130
  t53 := Tryd.underlying125
  a53 := Tryd.isAgg125
  z53 := Tryd.sizeOf125
  v53 := Tryd.zeroValue125
  t171 := Tryd.underlying124
  a171 := Tryd.isAgg124
  z171 := Tryd.sizeOf124
  v171 := Tryd.zeroValue124
  t173 := Tryd.underlying128
  a173 := Tryd.isAgg128
  z173 := Tryd.sizeOf128
  v173 := Tryd.zeroValue128
  t212 := Tryd.underlying133
  a212 := Tryd.isAgg133
  z212 := Tryd.sizeOf133
  v212 := Tryd.zeroValue133
  t213 := Tryd.underlying134
  a213 := Tryd.isAgg134
  z213 := Tryd.sizeOf134
  t232 := Tryd.underlying139
  a232 := Tryd.isAgg139
  z232 := Tryd.sizeOf139
  v232 := Tryd.zeroValue139
  t233 := Tryd.underlying140
  a233 := Tryd.isAgg140
  z233 := Tryd.sizeOf140
  v233 := Tryd.zeroValue140
  g17 := by kernel_rfl
  g18 := by kernel_rfl
  g19 := by kernel_rfl }
open Go.RowKit Go.Sort Go.Lib in
/-- THE ROAD WITHOUT THE TABLE: 0 <= i < 100: NO PREMISE ON THE WORLD, AND THE WORLD IS AS IT WAS: a row that keeps its argument in that range need list no table ('laid = []'). (LAID: no walk: one application.) -/
theorem Tryd.strconv_Itoa_small (i : Nat) (hi : i < 100) (w : World) :
    Calls Tryd.prog 75 #[.int .i64 i] w fun e w' => e = .returned (.string ⟨(Lib.decDigits i).toArray⟩) ∧ w' = w := Any.strconv_Itoa_small Tryd.lays171 i hi w
end Go.Proofs
set_option maxRecDepth 100000
namespace Go.Proofs.YtpcgdhhndeanoaaDoor
open Go Go.Dx Go.RowKit
/-- a builder under a name of one's own -/
def bldK (k T b : Nat) (s : Bld) : BL := [(k, .c b T (bldC b s)), (901, .e (bif s.fz then (s.a.map (·.block), fun _ => True) else bufE 5 1 (.slice s.a s.n s.cp) (s.bs.map v8)))]
/-- the buffer alone -/
def bufJ (s : Bld) : BL := [(901, .e (bufE 5 1 (.slice s.a s.n s.cp) (s.bs.map v8)))]
theorem c_AppendRune (s : Bld) (t : UInt8) (ht : t.toNat < 128) (hl : s.bs.length + 1 ≤ 1000000000000) (w0 : World) (h0 : View) (hv : VLe h0 (Full w0)) (hno : ∀ k ∈ ids (oes (bufJ s)), h0 k = none) (ho : OwnJ w0 (oes (bufJ s))) :
    Calls Tryd.prog 97 #[.slice s.a s.n s.cp, .int .i32 t.toNat] w0 (RetJ bufJ s w0 fun u s' => u = .slice s'.a s'.n s'.cp ∧ s'.bs = s.bs ++ [t] ∧ s'.fz = s.fz ∧ s'.used = s.used ∧ s'.n = s'.bs.length) := by
  obtain ⟨us, a, n, cp, bs, fz⟩ := s
  have hl : bs.length + 1 ≤ 1000000000000 := hl
  refine entJ bufJ _ (g := fun s' => .slice s'.a s'.n s'.cp) (args := [.slice a n cp, .int .i32 t.toNat]) TT_ok [] [] [.v (.slice a n cp), .v (.int .i32 t.toNat)] Tryd.func97 rfl Tryd.ntmps97 rfl rfl hv hno ho rfl ?_
  refine ew (t.toNat : Int) (wrap_u32 (by omega) (by omega)) ?_
  refine cndT (decide_eq_true (show (t.toNat : Int) ≤ 127 by omega)) ?_
  refine ew (t.toNat : Int) (wrap_u8 (by omega) (by omega)) ?_
  intro b13
  refine ap TT_ok 901 (AppT.of (bytes := 1) (sz := 0) (by kernel_rfl) (by kernel_rfl) (by kernel_rfl)) rfl rfl rfl rfl rfl rfl rfl (by rw [List.length_map]; show (bs.length + 1) * 2 ≤ 140737488355328; omega) (fun a0 nn cp' hnn => ?_)
  rw [List.length_map] at hnn
  refine ⟨⟨us, a0, nn, cp', bs ++ [t], fz⟩, rfl, ⟨rfl, rfl, rfl, ?_⟩, rfl, ?_, trivial⟩
  · show nn = (bs ++ [t]).length
    rw [List.length_append]
    have hnn : nn * 1 = bs.length + 1 := hnn
    show nn = bs.length + 1
    omega
  · exact congrArg some (bufm a0 nn cp' bs [t])
theorem c_WriteRune {T : Nat} (hT : liesAt Tryd.prog Tryd.prog.depth T (2 / Tryd.prog.cellsOf T) 0 60 1 = true) (b : Nat) (s : Bld) (t : UInt8) (ht : t.toNat < 128) (hfz : s.fz = false) (hn : s.n = s.bs.length) (hl : s.bs.length + 1 ≤ 1000000000000) (w0 : World) (h0 : View) (hv : VLe h0 (Full w0)) (hno : ∀ k ∈ ids (oes (bldJ T b s)), h0 k = none) (ho : OwnJ w0 (oes (bldJ T b s))) :
    Calls Tryd.prog 92 #[.pointer (some ⟨b, 0, none⟩), .int .i32 t.toNat] w0 (RetJ (bldJ T b) s w0 fun u s' => u = .tuple #[.int .i64 1, .nilIface] ∧ BldW s [t] s') := by
  obtain ⟨us, a, n, cp, bs, fz⟩ := s
  have hfz : fz = false := hfz
  subst hfz
  have hn : n = bs.length := hn
  have hl : bs.length + 1 ≤ 1000000000000 := hl
  refine entJ (bldJ T b) _ (g := fun _ => .tuple #[.int .i64 1, .nilIface]) (args := [.pointer (some ⟨b, 0, none⟩), .int .i32 t.toNat]) TT_ok [] [] [.o 900 0, .v (.int .i32 t.toNat)] Tryd.func92 rfl Tryd.ntmps92 rfl rfl hv hno ho rfl ?_
  refine cJ TT_ok (bldJ T b) ⟨us, a, n, cp, bs, false⟩ (g := fun _ => .tuple #[]) (fun w v h1 h2 h3 h4 h5 => c_copyCheck hT b _ rfl w v h3 h4 h5) ?_
  rintro s' rfl
  refine cJ TT_ok bufJ ⟨true, a, n, cp, bs, false⟩ (g := fun s' => .slice s'.a s'.n s'.cp) (fun w v h1 h2 h3 h4 h5 => c_AppendRune _ t ht hl w v h3 h4 h5) ?_ (hl := ⟨rfl, trivial⟩)
  rintro ⟨us', a', n', cp', bs', fz'⟩ ⟨e1, e2, e3, e4⟩
  have q1 : bs' = bs ++ [t] := e1
  have q2 : fz' = false := e2
  have q4 : n' = bs'.length := e4
  clear e1 e2 e3 e4
  subst q1; subst q2
  have hn1 : (n' : Int) - n = 1 := by rw [q4, hn, List.length_append]; simp; omega
  refine wi ?_ (by show _ ≤ (n' : Int) - (n : Int) ∧ (n' : Int) - (n : Int) ≤ _; omega)
  exact ⟨⟨true, a', n', cp', bs ++ [t], false⟩, congrArg (fun z => Value.tuple #[.int .i64 z, .nilIface]) hn1, ⟨rfl, rfl, q4⟩, rfl, rfl, rfl, trivial⟩
theorem u8i {b : UInt8} {m : Nat} (hm : m < 256) : ((b.toNat : Int) = (m : Int)) ↔ b = UInt8.ofNat m :=
  ⟨fun h => UInt8.toNat_inj.1 (by rw [byte_lo hm]; omega), fun h => by rw [h, byte_lo hm]⟩
theorem bld_lies : liesAt Tryd.prog Tryd.prog.depth 60 (2 / Tryd.prog.cellsOf 60) 0 60 1 = true := by kernel_rfl
theorem plain_128 {s : List UInt8} (hp : plainS s = true) : ∀ b ∈ s, b.toNat < 128 := by
  intro b hb
  simp only [plainS, Bool.and_eq_true, List.all_eq_true, decide_eq_true_eq] at hp
  have := (hp.2 b hb).2
  omega
theorem c_quote (s : List UInt8) (hp : plainS s = true) (w0 : World) (h0 : View) (hv : VLe h0 (Full w0)) : Calls Tryd.prog 76 #[vs s] w0 (Ret w0 h0 fun u _ => u = vs (quS s)) := by
  have h4 := plain_40 hp
  have hfl : ∀ k : Nat, ((s.take k).flatMap qB).length ≤ 80 := fun k => Nat.le_trans (flat_len _) (by rw [List.length_take]; omega)
  refine ent (args := [vs s]) TT_ok [6] [10] Tryd.func76 rfl Tryd.ntmps76 rfl rfl hv ?_
  intro b
  refine ⟨rfl, nilW 901 5 1 (goW TT_ok ?_)⟩
  refine cJ TT_ok (bldK 3 60 b) ⟨false, none, 0, 0, [], false⟩ (g := fun _ => .nilIface) (fun w v h1 h2 h3 h4 h5 => c_WriteByte bld_lies b _ 34 rfl rfl (by decide) w v h3 h4 h5) ?_
  rintro x0 ⟨e1, e2, e3⟩
  refine rgS TT_ok 902 (fun ib => ?_)
  refine w_loopB TT_ok (fun _ : Nat × Bld => []) (fun z => bldK 3 60 b z.2 ++ [(902, .e (some ib, IterC s z.1))]) (0, x0) (fun z => z.1 ≤ s.length ∧ z.2.bs = 34 :: (s.take z.1).flatMap qB ∧ z.2.fz = false ∧ z.2.n = z.2.bs.length) (fun z => s.length - z.1) ?_
  refine And.intro ⟨⟨Nat.zero_le _, e1, e2, e3⟩, gsJ ⟨rfl, rfl, rfl, trivial⟩⟩ ?_
  rintro ⟨k, x⟩ ⟨hk, e1, e2, e3⟩
  have e1 : x.bs = 34 :: (s.take k).flatMap qB := e1
  have e2 : x.fz = false := e2
  have e3 : x.n = x.bs.length := e3
  have hk : k ≤ s.length := hk
  have hxl : x.bs.length ≤ 81 := by rw [e1, List.length_cons]; have := hfl k; omega
  refine nxS TT_ok 902 (fun h => ?_) (fun h => ?_)
  · have hb := plain_128 hp _ (getD_mem s k 0 h)
    have ed := decode_lo h hb
    have hsn := flat_snoc s k h
    have q34 : ((s.getD k 0).toNat : Int) = 34 ↔ s.getD k 0 = 34 := u8i (m := 34) (by decide)
    have q92 : ((s.getD k 0).toNat : Int) = 92 ↔ s.getD k 0 = 92 := u8i (m := 92) (by decide)
    rw [ed]
    refine cndT rfl ?_
    have esc : ∀ y : Bld, (s.getD k 0 = 34 ∨ s.getD k 0 = 92) → BldW x [92] y → y.bs ++ [s.getD k 0] = 34 :: (s.take (k + 1)).flatMap qB ∧ y.fz = false ∧ y.n = y.bs.length := fun y hq ⟨f1, f2, f3⟩ =>
      ⟨by rw [f1, e1, hsn, qB, if_pos hq]; simp, f2, f3⟩
    refine w_cutB TT_ok (fun _ : Bld => []) (fun y => bldK 3 60 b y ++ [(902, .e (some ib, IterC s (k + 1)))]) (fun y => y.bs ++ [s.getD k 0] = 34 :: (s.take (k + 1)).flatMap qB ∧ y.fz = false ∧ y.n = y.bs.length) ?_
    refine And.intro ?_ ?_
    · refine cnd (fun h1 => ?_) (fun h1 => ?_)
      · refine cJ TT_ok (bldK 3 60 b) x (g := fun _ => .nilIface) (fun w v h1 h2 h3 h4 h5 => c_WriteByte bld_lies b _ 92 e2 e3 (by omega) w v h3 h4 h5) ?_
        intro y hy
        exact ⟨y, esc y (.inl (q34.1 h1)) hy, gsJ ⟨rfl, rfl, rfl, trivial⟩⟩
      · refine cnd (fun h2 => ?_) (fun h2 => ?_)
        · refine cJ TT_ok (bldK 3 60 b) x (g := fun _ => .nilIface) (fun w v h1 h2 h3 h4 h5 => c_WriteByte bld_lies b _ 92 e2 e3 (by omega) w v h3 h4 h5) ?_
          intro y hy
          exact ⟨y, esc y (.inr (q92.1 h2)) hy, gsJ ⟨rfl, rfl, rfl, trivial⟩⟩
        · exact ⟨x, ⟨by rw [e1, hsn, qB, if_neg (fun hq => hq.elim (fun q => h1 (q34.2 q)) fun q => h2 (q92.2 q))]; simp, e2, e3⟩, gsJ ⟨rfl, rfl, rfl, trivial⟩⟩
    · rintro y ⟨f1, f2, f3⟩
      have hl : y.bs.length + 1 ≤ 1000000000000 := by
        have := congrArg List.length f1
        have := hfl (k + 1)
        simp only [List.length_append, List.length_cons, List.length_nil] at *; omega
      refine cJ TT_ok (bldK 3 60 b) y (g := fun _ => .tuple #[.int .i64 1, .nilIface]) (fun w v h1 h2 h3 h4 h5 => c_WriteRune bld_lies b _ (s.getD k 0) hb f2 f3 hl w v h3 h4 h5) ?_
      rintro z ⟨g1, g2, g3⟩
      exact ⟨(k + 1, z), ⟨⟨by show k + 1 ≤ _; omega, by rw [g1, f1], g2, g3⟩, by show s.length - (k + 1) < s.length - k; omega⟩, gsJ ⟨rfl, rfl, rfl, trivial⟩⟩
  · refine cndF rfl ?_
    refine cJ TT_ok (bldK 3 60 b) x (g := fun _ => .nilIface) (fun w v h1 h2 h3 h4 h5 => c_WriteByte bld_lies b _ 34 e2 e3 (by omega) w v h3 h4 h5) ?_
    rintro y ⟨f1, f2, f3⟩
    have ey : y.bs = quS s := by
      rw [f1, e1, List.take_of_length_le (by omega), quS_eq]
    refine cJ TT_ok (bldK 3 60 b) y (g := fun _ => vs (quS s)) (fun w v h1 h2 h3 h4 h5 => by rw [← ey]; exact c_BString bld_lies b _ f2 f3 (by rw [ey]; exact List.cons_ne_nil _ _) w v h3 h4 h5) ?_
    intro z _
    exact rfl
/-- the table of powers of ten, as it was laid -/
noncomputable def powG : Nat := (Tryd.prog.globalNamed "internal/strconv.uint64pow10").getD 0
def PowV (h : View) : Prop := ∃ (T : TypeId) (fz : Nat × Nat), h powG = some (.cells (Lib.pow10Tab.map fun z => Value.int .u64 z).toArray T fz)
theorem pow_tab {h : View} {w : World} (hp : PowV h) (hv : VLe h (Full w)) : Lib.TabIs Tryd.prog w "internal/strconv.uint64pow10" .u64 Lib.pow10Tab := by
  obtain ⟨T, fz, hg⟩ := hp
  have hw : w.heap[powG]? = _ := hv _ _ hg
  have hn : Tryd.prog.globalNamed "internal/strconv.uint64pow10" = some powG := by kernel_rfl
  unfold Lib.TabIs World.var?
  rw [hn, Option.bind_some, hw]
theorem c_Itoa (n : Int) (hn : I64 n) (w0 : World) (h0 : View) (hv : VLe h0 (Full w0)) (hp : PowV h0) : Calls Tryd.prog 75 #[.int .i64 n] w0 (Ret w0 h0 fun u _ => u = vs (Lib.itoa n)) := by
  refine calls_below ((Tryd.strconv_Itoa n hn.1 hn.2 w0 (pow_tab hp hv)).mono ?_)
  rintro e w' ⟨rfl, k, os, rfl⟩
  exact ⟨rfl, Lib.below_grow _ _ (Nat.le_refl _) k os⟩
theorem c_FB (b : Bool) (w0 : World) (h0 : View) (hv : VLe h0 (Full w0)) : Calls Tryd.prog 93 #[.bool b] w0 (Ret w0 h0 fun u _ => u = vs (boolS b)) := by
  refine ent (args := [.bool b]) TT_ok [] [] Tryd.func93 rfl Tryd.ntmps93 rfl rfl hv ?_
  refine cnd (fun h => ?_) (fun h => ?_)
  · rw [h]; exact rfl
  · rw [h]; exact rfl
theorem c_FormatBool (b : Bool) (w0 : World) (h0 : View) (hv : VLe h0 (Full w0)) : Calls Tryd.prog 77 #[.bool b] w0 (Ret w0 h0 fun u _ => u = vs (boolS b)) := by
  refine ent (args := [.bool b]) TT_ok [] [] Tryd.func77 rfl Tryd.ntmps77 rfl rfl hv ?_
  refine cl (c_FB b) ?_
  exact rfl
theorem itoa_len' {n : Int} (h : I64 n) : (Lib.itoa n).length ≤ 21 := Lib.itoa_length_le n h.1 h.2
theorem c_VText (v : Val) (hvb : valB v) (w0 : World) (h0 : View) (hv : VLe h0 (Full w0)) (hp : PowV h0) : Calls Tryd.prog 44 #[.agg (valC v).toArray] w0 (Ret w0 h0 fun u _ => u = tsV (txR v)) := by
  refine ent (args := [.agg (valC v).toArray]) TT_ok [] [] Tryd.func44 rfl Tryd.ntmps44 rfl rfl hv ?_
  intro b
  refine cl (c_VCheck v hvb) ?_
  refine cnd (fun h => ?_) (fun h => ?_)
  · have h2 : valOk v = false := by
      cases h3 : valOk v
      · rfl
      · rw [h3] at h; exact absurd rfl h
    have e : txR v = ([], 2) := by rw [txR, h2]; rfl
    rw [e, h2]; exact rfl
  · have hok : valOk v = true := by
      cases h3 : valOk v
      · rw [h3] at h; exact absurd h (by decide)
      · rfl
    rw [show txR v = (txS v, 0) by rw [txR, if_pos hok]]
    refine cnd (fun h1 => ?_) (fun h1 => ?_)
    · refine cb (fun w hw => c_Itoa v.n hvb.2 w h0 hw hp) ?_
      rw [txS, if_pos h1]; exact rfl
    · refine cnd (fun h2 => ?_) (fun h2 => ?_)
      · have hpl : plainS v.s = true := by
          rcases valOk_cases hok with ⟨q, _⟩ | ⟨q, _⟩ | ⟨_, _, q⟩ | ⟨q, _⟩ <;> first | exact q | omega
        refine cl (c_quote v.s hpl) ?_
        rw [txS, if_neg h1, if_pos h2]; exact rfl
      · refine cnd (fun h3 => ?_) (fun h3 => ?_)
        · refine cl (c_FormatBool (decide (v.n = 1))) ?_
          rw [txS, if_neg h1, if_neg h2, if_pos h3]; exact rfl
        · rw [txS, if_neg h1, if_neg h2, if_neg h3]; exact rfl

end Go.Proofs.YtpcgdhhndeanoaaDoor
set_option maxRecDepth 100000
namespace Go.Proofs.YtpcgdhhndeanoaaDoor
open Go Go.Dx Go.RowKit
theorem c_level (x : Ex) (ad : Option Addr) (cap : Nat) (w0 : World) (h0 : View) (hv : VLe h0 (Full w0)) : Calls Tryd.prog 42 #[.agg (exC x.op x.v x.s (.slice ad x.l.length cap)).toArray] w0 (Ret w0 h0 fun u _ => u = .int .i64 (levS x.op)) := by
  refine ent (args := [.agg (exC x.op x.v x.s (.slice ad x.l.length cap)).toArray]) TT_ok [] [] Tryd.func42 rfl Tryd.ntmps42 rfl rfl hv ?_
  intro b1
  refine cnd (fun h => ?_) (fun h => ?_)
  · exact congrArg (Value.int .i64) (by rw [levS, if_pos h])
  refine cnd (fun h2 => ?_) (fun h2 => ?_)
  · exact congrArg (Value.int .i64) (by rw [levS, if_neg h, if_pos h2])
  refine cnd (fun h3 => ?_) (fun h3 => ?_)
  · refine cndT (decide_eq_true h3) ?_
    exact congrArg (Value.int .i64) (by rw [levS, if_neg h, if_neg h2, if_pos (.inl h3)])
  refine cnd (fun h4 => ?_) (fun h4 => ?_)
  · exact congrArg (Value.int .i64) (by rw [levS, if_neg h, if_neg h2, if_pos (.inr h4)])
  refine cl (c_find x.op) ?_
  show Value.int .i64 (findS x.op).2.2 = _
  rw [levS, if_neg h, if_neg h2, if_neg (fun q => q.elim h3 h4)]
theorem wr_lies : liesAt Tryd.prog Tryd.prog.depth 62 (2 / Tryd.prog.cellsOf 62) 0 60 1 = true := by kernel_rfl
theorem bw_nil {s s' : Bld} {t u : List UInt8} (h : BldW s t s') (e : t = u) : BldW s u s' := e ▸ h
theorem bw_cat {s s1 s2 : Bld} {t u : List UInt8} (h : BldW s t s1) (h2 : BldW s1 u s2) : BldW s (t ++ u) s2 := ⟨by rw [h2.1, h.1, List.append_assoc], h2.2.1, h2.2.2⟩
theorem bw_len {s s1 : Bld} {t : List UInt8} (h : BldW s t s1) : s1.bs.length = s.bs.length + t.length := by rw [h.1, List.length_append]
theorem ar_if : ArrB Tryd.prog 93 [(0, 1), (1, 1), (2, 1)] [vs [], vs [], vs []] := ArrB.of (m := 3) (e := 9) (sz := 1) (by kernel_rfl) (by kernel_rfl) (by kernel_rfl) (by decide)
theorem pow_m {h h' : View} (hle : VLe h h') (hp : PowV h) : PowV h' := by
  obtain ⟨T, fz, hg⟩ := hp
  exact ⟨T, fz, hle _ _ hg⟩
noncomputable def mzS (x : Ex) (m : Int) : Nat := 2 * SizeOf.sizeOf x + if levS x.op < m then 1 else 0
set_option maxHeartbeats 2000000 in
theorem c_put : ∀ (k : Nat) (x : Ex) (ad : Option Addr) (cap : Nat) (m : Int), mzS x m < k → -1000 ≤ m ∧ m ≤ 1000 → rightS x = true → ∀ (b : Nat) (s : Bld), s.fz = false → s.n = s.bs.length → s.bs.length + (putS x m).length ≤ 1000000000000 →
    ∀ (w0 : World) (h0 : View), VLe h0 (Full w0) → (∀ k ∈ ids (oes (bldJ 62 b s)), h0 k = none) → OwnJ w0 (oes (bldJ 62 b s)) → GX h0 ad cap x → PowV h0 →
    Calls Tryd.prog 26 #[.pointer (some ⟨b, 0, none⟩), .agg (exC x.op x.v x.s (.slice ad x.l.length cap)).toArray, .int .i64 m] w0 (RetJ (bldJ 62 b) s w0 fun u s' => u = .tuple #[] ∧ BldW s (putS x m) s') := by
  intro k
  induction k with
  | zero => intro x ad cap m h; omega
  | succ k ih =>
  intro x ad cap m hk hm hr b s hfz hn hl w0 h0 hv hno ho hx hp
  have hsm := hx.sm.parts
  have hlm := hx.xl.lm
  have hre := hr
  rw [right_eq] at hre
  simp only [Bool.and_eq_true, decide_eq_true_eq] at hre
  refine entJ (bldJ 62 b) _ (g := fun _ => .tuple #[]) (args := [.pointer (some ⟨b, 0, none⟩), .agg (exC x.op x.v x.s (.slice ad x.l.length cap)).toArray, .int .i64 m]) TT_ok [97, 101, 1000017, 1000011, 1000012] [10] [.o 900 0, .v (.agg (exC x.op x.v x.s (.slice ad x.l.length cap)).toArray), .v (.int .i64 m)] Tryd.func26 rfl Tryd.ntmps26 rfl rfl hv hno ho rfl ?_
  intro b4
  refine cl (c_level x ad cap) ?_
  refine cnd (fun h => ?_) (fun h => ?_)
  · have e0 := bodyX_0 x
    have e1 : putS x m = [40] ++ putS x 0 ++ [41] := by rw [put_eq, if_pos h, e0]; rfl
    rw [e1] at hl
    simp only [List.length_append, List.length_cons, List.length_nil] at hl
    refine cJ TT_ok (bldJ 62 b) s (g := fun _ => .nilIface) (fun w v h1 h2 h3 h4 h5 => c_WriteByte wr_lies b _ 40 hfz hn (by omega) w v h3 h4 h5) ?_
    intro s1 g1
    have n1 := bw_len g1
    simp only [List.length_cons, List.length_nil] at n1
    refine cJ TT_ok (bldJ 62 b) s1 (g := fun _ => .tuple #[]) (fun w v h1 h2 h3 h4 h5 => ih x ad cap 0 (by have := lev_lo x.op; unfold mzS at hk ⊢; rw [if_pos h] at hk; rw [if_neg (by omega)]; omega) (by omega) hr b s1 g1.2.1 g1.2.2 (by omega) w v h3 h4 h5 (hx.mono h1) (pow_m h1 hp)) ?_
    intro s2 g2
    have n2 := bw_len g2
    refine cJ TT_ok (bldJ 62 b) s2 (g := fun _ => .nilIface) (fun w v h1 h2 h3 h4 h5 => c_WriteByte wr_lies b _ 41 g2.2.1 g2.2.2 (by omega) w v h3 h4 h5) ?_
    intro s3 g3
    exact ⟨s3, rfl, by rw [e1]; exact bw_cat (bw_cat g1 g2) g3, rfl, rfl, rfl, trivial⟩
  have eb := put_lv h
  rw [eb] at hl ⊢
  have ebb : bodyX x = bodyS x.op x.v x.s (putL x.l (msS x.op)) := rfl
  have kz : ∀ (j : Nat) (m' : Int), j < x.l.length → mzS (x.l.getD j ex0) m' < k := fun j m' hj => by
    have := Ex.lt (getD_mem x.l j ex0 hj)
    unfold mzS at hk ⊢
    rw [if_neg h] at hk
    split <;> omega
  have kr : ¬ x.op = 1 → ¬ x.op = 2 → ∀ j, j < x.l.length → rightS (x.l.getD j ex0) = true := fun n1 n2 j hj => by
    have := hre.2
    rw [if_neg n1, if_neg n2] at this
    simp only [Bool.and_eq_true, List.all_eq_true] at this
    exact this.2 _ (getD_mem x.l j ex0 hj)
  have kx : ∀ j, j < x.l.length → ∀ v a2 c2, VLe h0 v → XL h0 a2 c2 (x.l.getD j ex0).l → i64 (x.l.getD j ex0).op → valB (x.l.getD j ex0).v → GX v a2 c2 (x.l.getD j ex0) := fun j hj v a2 c2 h1 g1 g2 g3 => (⟨g1, g2, g3, hsm.2.2.2 _ (getD_mem x.l j ex0 hj)⟩ : GX h0 a2 c2 (x.l.getD j ex0)).mono h1
  refine cnd (fun h1 => ?_) (fun h1 => ?_)
  · rw [bodyS, if_pos h1] at ebb
    rw [ebb] at hl ⊢
    refine cb (fun w hw => c_VText x.v hx.v w h0 hw hp) ?_
    refine cJ TT_ok (bldJ 62 b) s (g := fun _ => .tuple #[.int .i64 (txR x.v).1.length, .nilIface]) (fun w v h1 h2 h3 h4 h5 => c_WriteString wr_lies b _ _ hfz hn hl w v h3 h4 h5) ?_
    intro s1 g1
    exact ⟨s1, rfl, g1, rfl, rfl, rfl, trivial⟩
  refine cnd (fun h2 => ?_) (fun h2 => ?_)
  · rw [bodyS, if_neg h1, if_pos h2] at ebb
    rw [ebb] at hl ⊢
    refine regQ TT_ok [0, 1, 2, 3, 4] [5] [900, 901] true ?_
    refine cJ TT_ok (bldJ 62 b) s (g := fun _ => .tuple #[.int .i64 x.s.length, .nilIface]) (fun w v h1 h2 h3 h4 h5 => c_WriteString wr_lies b _ _ hfz hn hl w v h3 h4 h5) ?_
    intro s1 g1
    exact ⟨s1, rfl, g1, rfl, rfl, rfl, trivial⟩
  refine cnd (fun h3 => ?_) (fun h3 => ?_)
  · have hc : x.l.length = 1 := by have := hre.1; rw [h3] at this; simp [cntS] at this; omega
    rw [bodyS, if_neg h1, if_neg h2, if_pos h3, putL_get _ _ 0 (by omega) (by rw [msS, if_pos h3]; decide), show (msS x.op).getD 0 0 = 6 by rw [msS, if_pos h3]; rfl] at ebb
    rw [ebb] at hl ⊢
    simp only [List.length_cons] at hl
    refine cJ TT_ok (bldJ 62 b) s (g := fun _ => .nilIface) (fun w v h1 h2 h3 h4 h5 => c_WriteByte wr_lies b _ 45 hfz hn (by omega) w v h3 h4 h5) ?_
    intro s1 g1
    have n1 := bw_len g1
    simp only [List.length_cons, List.length_nil] at n1
    refine ixE hx.xl 0 (fun a2 c2 q1 q2 q3 => ?_)
    refine cJ TT_ok (bldJ 62 b) s1 (g := fun _ => .tuple #[]) (fun w v h6 _ h8 h9 h10 => ih _ a2 c2 6 (kz 0 6 (by omega)) (by omega) (kr h1 h2 0 (by omega)) b s1 g1.2.1 g1.2.2 (by omega) w v h8 h9 h10 (kx 0 (by omega) v a2 c2 h6 q1 q2 q3) (pow_m h6 hp)) ?_
    intro s2 g2
    exact ⟨s2, rfl, bw_cat g1 g2, rfl, rfl, rfl, trivial⟩
  refine cnd (fun h4 => ?_) (fun h4 => ?_)
  · have hc : x.l.length = 3 := by have := hre.1; rw [h4] at this; simp [cntS] at this; omega
    have em : msS x.op = [0, 0, 0] := by rw [msS, if_neg h3, if_pos h4]
    have c0 : (putL x.l (msS x.op)).getD 0 [] = putS (x.l.getD 0 ex0) 0 := by rw [putL_get _ _ 0 (by omega) (by rw [em]; decide), em]; rfl
    have c1 : (putL x.l (msS x.op)).getD 1 [] = putS (x.l.getD 1 ex0) 0 := by rw [putL_get _ _ 1 (by omega) (by rw [em]; decide), em]; rfl
    have c2 : (putL x.l (msS x.op)).getD 2 [] = putS (x.l.getD 2 ex0) 0 := by rw [putL_get _ _ 2 (by omega) (by rw [em]; decide), em]; rfl
    rw [bodyS, if_neg h1, if_neg h2, if_neg h3, if_pos h4, c0, c1, c2] at ebb
    have eb2 : bodyX x = (ifW ++ putS (x.l.getD 0 ex0) 0) ++ (thenW ++ putS (x.l.getD 1 ex0) 0) ++ (elseW ++ putS (x.l.getD 2 ex0) 0) := by rw [ebb]; simp only [List.append_assoc]
    rw [eb2] at hl ⊢
    simp only [List.length_append] at hl
    let pt : Nat → List UInt8 := fun k => match k with
      | 0 => []
      | 1 => ifW ++ putS (x.l.getD 0 ex0) 0
      | 2 => (ifW ++ putS (x.l.getD 0 ex0) 0) ++ (thenW ++ putS (x.l.getD 1 ex0) 0)
      | _ => (ifW ++ putS (x.l.getD 0 ex0) 0) ++ (thenW ++ putS (x.l.getD 1 ex0) 0) ++ (elseW ++ putS (x.l.getD 2 ex0) 0)
    refine goPu TT_ok (.agg (List.toArray [vs ifW, vs thenW, vs elseW])) (fun w hS => pu_build_ar (vsl := [vs ifW, vs thenW, vs elseW]) ar_if rfl rfl) ?_
    refine w_loopB TT_ok (fun z : Nat × Bld => [(98, .v (.int .i64 z.1))]) (fun z => bldJ 62 b z.2 ++ [(4, .c b4 29 (exC x.op x.v x.s (.slice ad x.l.length cap)))]) (0, s) (fun z => z.1 ≤ 3 ∧ BldW s (pt z.1) z.2) (fun z => 3 - z.1) ?_
    refine And.intro ⟨⟨Nat.zero_le _, by show s.bs = s.bs ++ []; rw [List.append_nil], hfz, hn⟩, gsJ ⟨rfl, rfl, rfl, trivial⟩⟩ ?_
    rintro ⟨j, y⟩ ⟨hj, hy⟩
    have hj : j ≤ 3 := hj
    have hj4 : j = 0 ∨ j = 1 ∨ j = 2 ∨ j = 3 := by omega
    rcases hj4 with rfl | rfl | rfl | rfl
    · have hy : BldW s [] y := hy
      have n1 := bw_len hy
      simp only [List.length_nil, List.length_append] at n1
      refine cndT rfl ?_
      refine goPu TT_ok (vs ifW) (fun w hS => pu_index_ar (e := 9) (nn := 3) (i := 0) (cs := [vs ifW, vs thenW, vs elseW]) ⟨by kernel_rfl, SzIs.of (by kernel_rfl)⟩ (OneT.of (by kernel_rfl)) rfl rfl (by decide) (by decide) rfl) ?_
      refine cJ TT_ok (bldJ 62 b) y (g := fun _ => .tuple #[.int .i64 ifW.length, .nilIface]) (fun w v h1 h2 h3 h4 h5 => c_WriteString wr_lies b _ ifW hy.2.1 hy.2.2 (by omega) w v h3 h4 h5) ?_
      intro s1 g1
      have n2 := bw_len g1
      refine ixE hx.xl 0 (fun a2 c2 q1 q2 q3 => ?_)
      refine cJ TT_ok (bldJ 62 b) s1 (g := fun _ => .tuple #[]) (fun w v h6 _ h8 h9 h10 => ih _ a2 c2 0 (kz 0 0 (by omega)) (by omega) (kr h1 h2 0 (by omega)) b s1 g1.2.1 g1.2.2 (by omega) w v h8 h9 h10 (kx 0 (by omega) v a2 c2 h6 q1 q2 q3) (pow_m h6 hp)) ?_
      intro s2 g2
      refine wi ?_ (by show _ ≤ ((0 : Nat) : Int) + 1 ∧ ((0 : Nat) : Int) + 1 ≤ _; decide)
      exact ⟨(1, s2), ⟨⟨(by show (1 : Nat) ≤ 3; decide), bw_nil (bw_cat (bw_cat hy g1) g2) (by simp only [List.append_assoc, List.nil_append]; rfl)⟩, (by show 3 - 1 < 3 - 0; decide)⟩, gsJ ⟨rfl, rfl, rfl, trivial⟩⟩
    · have hy : BldW s (ifW ++ putS (x.l.getD 0 ex0) 0) y := hy
      have n1 := bw_len hy
      simp only [List.length_nil, List.length_append] at n1
      refine cndT rfl ?_
      refine goPu TT_ok (vs thenW) (fun w hS => pu_index_ar (e := 9) (nn := 3) (i := 1) (cs := [vs ifW, vs thenW, vs elseW]) ⟨by kernel_rfl, SzIs.of (by kernel_rfl)⟩ (OneT.of (by kernel_rfl)) rfl rfl (by decide) (by decide) rfl) ?_
      refine cJ TT_ok (bldJ 62 b) y (g := fun _ => .tuple #[.int .i64 thenW.length, .nilIface]) (fun w v h1 h2 h3 h4 h5 => c_WriteString wr_lies b _ thenW hy.2.1 hy.2.2 (by omega) w v h3 h4 h5) ?_
      intro s1 g1
      have n2 := bw_len g1
      refine ixE hx.xl 1 (fun a2 c2 q1 q2 q3 => ?_)
      refine cJ TT_ok (bldJ 62 b) s1 (g := fun _ => .tuple #[]) (fun w v h6 _ h8 h9 h10 => ih _ a2 c2 0 (kz 1 0 (by omega)) (by omega) (kr h1 h2 1 (by omega)) b s1 g1.2.1 g1.2.2 (by omega) w v h8 h9 h10 (kx 1 (by omega) v a2 c2 h6 q1 q2 q3) (pow_m h6 hp)) ?_
      intro s2 g2
      refine wi ?_ (by show _ ≤ ((1 : Nat) : Int) + 1 ∧ ((1 : Nat) : Int) + 1 ≤ _; decide)
      exact ⟨(2, s2), ⟨⟨(by show (2 : Nat) ≤ 3; decide), bw_nil (bw_cat (bw_cat hy g1) g2) (by simp only [List.append_assoc]; show _ = _ ++ _; simp only [List.append_assoc])⟩, (by show 3 - 2 < 3 - 1; decide)⟩, gsJ ⟨rfl, rfl, rfl, trivial⟩⟩
    · have hy : BldW s ((ifW ++ putS (x.l.getD 0 ex0) 0) ++ (thenW ++ putS (x.l.getD 1 ex0) 0)) y := hy
      have n1 := bw_len hy
      simp only [List.length_nil, List.length_append] at n1
      refine cndT rfl ?_
      refine goPu TT_ok (vs elseW) (fun w hS => pu_index_ar (e := 9) (nn := 3) (i := 2) (cs := [vs ifW, vs thenW, vs elseW]) ⟨by kernel_rfl, SzIs.of (by kernel_rfl)⟩ (OneT.of (by kernel_rfl)) rfl rfl (by decide) (by decide) rfl) ?_
      refine cJ TT_ok (bldJ 62 b) y (g := fun _ => .tuple #[.int .i64 elseW.length, .nilIface]) (fun w v h1 h2 h3 h4 h5 => c_WriteString wr_lies b _ elseW hy.2.1 hy.2.2 (by omega) w v h3 h4 h5) ?_
      intro s1 g1
      have n2 := bw_len g1
      refine ixE hx.xl 2 (fun a2 c2 q1 q2 q3 => ?_)
      refine cJ TT_ok (bldJ 62 b) s1 (g := fun _ => .tuple #[]) (fun w v h6 _ h8 h9 h10 => ih _ a2 c2 0 (kz 2 0 (by omega)) (by omega) (kr h1 h2 2 (by omega)) b s1 g1.2.1 g1.2.2 (by omega) w v h8 h9 h10 (kx 2 (by omega) v a2 c2 h6 q1 q2 q3) (pow_m h6 hp)) ?_
      intro s2 g2
      refine wi ?_ (by show _ ≤ ((2 : Nat) : Int) + 1 ∧ ((2 : Nat) : Int) + 1 ≤ _; decide)
      exact ⟨(3, s2), ⟨⟨(by show (3 : Nat) ≤ 3; decide), bw_nil (bw_cat (bw_cat hy g1) g2) (by simp only [List.append_assoc]; show _ = _ ++ _; simp only [List.append_assoc])⟩, (by show 3 - 3 < 3 - 2; decide)⟩, gsJ ⟨rfl, rfl, rfl, trivial⟩⟩
    · refine cndF rfl ?_
      exact ⟨y, rfl, hy, rfl, rfl, rfl, trivial⟩
  · have hop : 4 ≤ x.op ∧ x.op ≤ 15 := by
      have := hre.1
      unfold cntS at this
      rw [if_neg (by omega), if_neg h3, if_neg h4] at this
      split at this
      · assumption
      · omega
    have hc : x.l.length = 2 := by have := hre.1; rw [cntS, if_neg (by omega), if_neg h3, if_neg h4, if_pos hop] at this; omega
    have em : msS x.op = [if (findS x.op).2.2 = 3 then 4 else (findS x.op).2.2, (findS x.op).2.2 + 1] := by rw [msS, if_neg h3, if_neg h4]
    have c0 : (putL x.l (msS x.op)).getD 0 [] = putS (x.l.getD 0 ex0) (if (findS x.op).2.2 = 3 then 4 else (findS x.op).2.2) := by rw [putL_get _ _ 0 (by omega) (by rw [em]; simp), em]; rfl
    have c1 : (putL x.l (msS x.op)).getD 1 [] = putS (x.l.getD 1 ex0) ((findS x.op).2.2 + 1) := by rw [putL_get _ _ 1 (by omega) (by rw [em]; simp), em]; rfl
    rw [bodyS, if_neg h1, if_neg h2, if_neg h3, if_neg h4, c0, c1] at ebb
    rw [ebb] at hl ⊢
    have flo := find_lo x.op
    simp only [List.length_append] at hl
    refine cl (c_find x.op) ?_
    generalize hfd : findS x.op = fd at *
    obtain ⟨fo, fs, fl⟩ := fd
    simp only at hl flo ⊢
    intro b10
    refine w_cut TT_ok (fun _ : Unit => [(11, .v (.int .i64 (if fl = 3 then 4 else fl)))]) (fun _ => True) ?_
    refine And.intro ?_ ?_
    · refine cnd (fun h5 => ?_) (fun h5 => ?_)
      · refine wi ?_
        exact ⟨(), trivial, gs (by rw [if_pos h5, h5]; rfl)⟩
      · exact ⟨(), trivial, gs (by rw [if_neg h5]; rfl)⟩
    intro _ _
    refine ixE hx.xl 0 (fun a2 c2 q1 q2 q3 => ?_)
    refine cJ TT_ok (bldJ 62 b) s (g := fun _ => .tuple #[]) (fun w v h6 _ h8 h9 h10 => ih _ a2 c2 (if fl = 3 then 4 else fl) (kz 0 _ (by omega)) (by split <;> omega) (kr h1 h2 0 (by omega)) b s hfz hn (by omega) w v h8 h9 h10 (kx 0 (by omega) v a2 c2 h6 q1 q2 q3) (pow_m h6 hp)) ?_
    intro s1 g1
    have n1 := bw_len g1
    refine regQ TT_ok [0, 1, 2, 3, 4, 5, 6] [7] [900, 901] true ?_
    refine ct ?_ (by simp only [List.length_cons, List.length_nil]; omega)
    refine ct ?_ (by simp only [List.length_append, List.length_cons, List.length_nil]; omega)
    simp only [List.length_cons, List.length_nil] at hl
    refine cJ TT_ok (bldJ 62 b) s1 (g := fun _ => .tuple #[.int .i64 (32 :: fs ++ [32]).length, .nilIface]) (fun w v h1 h2 h3 h4 h5 => c_WriteString wr_lies b _ (32 :: fs ++ [32]) g1.2.1 g1.2.2 (by simp only [List.length_append, List.length_cons, List.length_nil]; omega) w v h3 h4 h5) ?_
    intro s2 g2
    have n2 := bw_len g2
    simp only [List.length_append, List.length_cons, List.length_nil] at n2
    refine regQ TT_ok [0, 1, 2, 3, 4, 5, 6, 7] [8] [900, 901] true ?_
    refine ixE hx.xl 1 (fun a3 c3 q4 q5 q6 => ?_)
    refine wi ?_ (by show _ ≤ fl + 1 ∧ fl + 1 ≤ _; omega)
    refine cJ TT_ok (bldJ 62 b) s2 (g := fun _ => .tuple #[]) (fun w v h6 _ h8 h9 h10 => ih _ a3 c3 (fl + 1) (kz 1 _ (by omega)) (by omega) (kr h1 h2 1 (by omega)) b s2 g2.2.1 g2.2.2 (by omega) w v h8 h9 h10 (kx 1 (by omega) v a3 c3 h6 q4 q5 q6) (pow_m h6 hp)) ?_
    intro s3 g3
    exact ⟨s3, rfl, bw_cat (bw_cat g1 g2) g3, rfl, rfl, rfl, trivial⟩

end Go.Proofs.YtpcgdhhndeanoaaDoor
set_option maxRecDepth 100000
namespace Go.Proofs.YtpcgdhhndeanoaaDoor
open Go Go.Dx Go.RowKit
set_option maxHeartbeats 1000000 in
theorem c_Text (x : Ex) (ad : Option Addr) (cap : Nat) (hd : deepS x ≤ 1000000000) (w0 : World) (h0 : View) (hv : VLe h0 (Full w0)) (hx : GX h0 ad cap x) (hp : PowV h0) :
    Calls Tryd.prog 12 #[.agg (exC x.op x.v x.s (.slice ad x.l.length cap)).toArray] w0 (Ret w0 h0 fun u _ => u = tsV (textT x)) := by
  refine ent (args := [.agg (exC x.op x.v x.s (.slice ad x.l.length cap)).toArray]) TT_ok [15] [] Tryd.func12 rfl Tryd.ntmps12 rfl rfl hv ?_
  intro b1
  refine cb (fun w hw => c_right _ x ad cap (Nat.lt_succ_self _) w h0 hw hx) ?_
  refine cnd (fun h => ?_) (fun h => ?_)
  · have h : rightS x = false := by simpa using h
    rw [textT, if_pos h]; exact rfl
  have hr : rightS x = true := by simpa using h
  refine cb (fun w hw => c_Deep _ x ad cap (Nat.lt_succ_self _) hd w h0 hw hx.xl) ?_
  refine cnd (fun h2 => ?_) (fun h2 => ?_)
  · rw [textT, if_neg (by rw [hr]; decide), if_pos (by omega)]; exact rfl
  have hln := put_len (XL.rx hx.xl ⟨hx.op, hx.v⟩) hr 0
  have h12 : 4 ^ deepS x ≤ 4 ^ 12 := Nat.pow_le_pow_right (by decide) (by omega)
  have h12 : 4 ^ deepS x ≤ 16777216 := h12
  rw [textT, if_neg (by rw [hr]; decide), if_neg (by omega)]
  intro b14
  refine ⟨rfl, nilW 901 5 1 (goW TT_ok ?_)⟩
  refine cJ TT_ok (bldK 14 62 b14) ⟨false, none, 0, 0, [], false⟩ (g := fun _ => .tuple #[]) (fun w v h1 h2 h3 h4 h5 => c_put _ x ad cap 0 (Nat.lt_succ_self _) (by omega) hr b14 ⟨false, none, 0, 0, [], false⟩ rfl rfl (by show 0 + _ ≤ _; omega) w v h3 h4 h5 (hx.mono h1) (pow_m h1 hp)) ?_
  intro s1 g1
  have e1 : s1.bs = putS x 0 := g1.1
  refine cJ TT_ok (bldK 14 62 b14) s1 (g := fun _ => .int .i64 s1.bs.length) (Ψ := fun s' => s' = s1) (fun w v h1 h2 h3 h4 h5 => c_BLen wr_lies b14 _ g1.2.1 g1.2.2 w v h3 h4 h5) ?_
  rintro s2 rfl
  refine cnd (fun h3 => ?_) (fun h3 => ?_)
  · rw [if_pos (by rw [← e1]; omega)]; exact rfl
  rw [if_neg (by rw [← e1]; omega)]
  have hne : s2.bs ≠ [] := by rw [e1, bodyX_0]; exact body_pos hx.v hr
  refine cJ TT_ok (bldK 14 62 b14) s2 (g := fun _ => vs s2.bs) (Ψ := fun s' => s' = { s2 with fz := true }) (fun w v h1 h2 h3 h4 h5 => c_BString wr_lies b14 _ g1.2.1 g1.2.2 hne w v h3 h4 h5) ?_
  intro s3 _
  rw [← e1]
  exact rfl
theorem c_EqualF (l : List Ex) (ad ad2 : Option Addr) (cap cap2 : Nat) (w0 : World) (h0 : View) (hv : VLe h0 (Full w0)) (hx : XL h0 ad cap l) (hy : XL h0 ad2 cap2 l)
    (hp : ∀ j, j < l.length → ∀ a2 c2 a3 c3, XL h0 a2 c2 (l.getD j ex0).l → XL h0 a3 c3 (l.getD j ex0).l → ∀ w, VLe h0 (Full w) → Calls Tryd.prog 13 #[.agg (exC (l.getD j ex0).op (l.getD j ex0).v (l.getD j ex0).s (.slice a2 (l.getD j ex0).l.length c2)).toArray, .agg (exC (l.getD j ex0).op (l.getD j ex0).v (l.getD j ex0).s (.slice a3 (l.getD j ex0).l.length c3)).toArray] w (Ret w h0 fun u _ => u = .bool true)) :
    Calls Tryd.prog 29 #[.slice ad l.length cap, .slice ad2 l.length cap2, .func (.func 13) #[] #[]] w0 (Ret w0 h0 fun u _ => u = .bool true) := by
  have hlm := hx.lm
  refine ent (args := [.slice ad l.length cap, .slice ad2 l.length cap2, .func (.func 13) #[] #[]]) TT_ok [] [] Tryd.func29 rfl Tryd.ntmps29 rfl rfl hv ?_
  refine cndF (by simp) ?_
  refine w_loop TT_ok (fun k : Nat => [(17, .v (.int .i64 k))]) 0 (fun k => k ≤ l.length) (fun k => l.length - k) ?_
  refine And.intro ⟨Nat.zero_le _, gs⟩ ?_
  intro k hk
  refine cnd (fun h => ?_) (fun h => ?_)
  · refine ixE hx k (fun a2 c2 h1 _ _ => ?_)
    intro b8
    refine ixE hy k (fun a3 c3 h2 _ _ => ?_)
    intro b9
    refine cb (fun w hw => hp k (by omega) a2 c2 a3 c3 h1 h2 w hw) ?_
    refine cndF rfl ?_
    refine wi ?_
    exact ⟨k + 1, ⟨by omega, by omega⟩, gs⟩
  · exact rfl
set_option maxHeartbeats 1000000 in
/-- Same: two pictures of one expression -/
theorem c_Same : ∀ (k : Nat) (x : Ex) (ad ad2 : Option Addr) (cap cap2 : Nat), SizeOf.sizeOf x < k → ∀ (w0 : World) (h0 : View), VLe h0 (Full w0) → XL h0 ad cap x.l → XL h0 ad2 cap2 x.l → Calls Tryd.prog 13 #[.agg (exC x.op x.v x.s (.slice ad x.l.length cap)).toArray, .agg (exC x.op x.v x.s (.slice ad2 x.l.length cap2)).toArray] w0 (Ret w0 h0 fun u _ => u = .bool true) := by
  intro k
  induction k with
  | zero => intro x _ _ _ _ h; omega
  | succ k ih =>
    intro x ad ad2 cap cap2 hk w0 h0 hv hx hy
    have hlm := hx.lm
    refine ent (args := [.agg (exC x.op x.v x.s (.slice ad x.l.length cap)).toArray, .agg (exC x.op x.v x.s (.slice ad2 x.l.length cap2)).toArray]) TT_ok [] [] Tryd.func13 rfl Tryd.ntmps13 rfl rfl hv ?_
    intro b2 b3
    refine aqg eqV x.v x.v ?_
    refine cbg (fun _ w hw => c_EqualF x.l ad ad2 cap cap2 w h0 hw hx hy (fun j hj a2 c2 a3 c3 g1 g2 w hw => ih _ a2 a3 c2 c3 (by have := Ex.lt (getD_mem x.l j ex0 hj); omega) w h0 hw g1 g2)) ?_
    exact congrArg Value.bool (by simp)
set_option maxHeartbeats 1000000 in
theorem c_RSame : ∀ (k : Nat) (x : Ex) (ad ad2 : Option Addr) (cap cap2 : Nat), SizeOf.sizeOf x < k → ∀ (w0 : World) (h0 : View), VLe h0 (Full w0) → XL h0 ad cap x.l → XL h0 ad2 cap2 x.l → Calls Tryd.prog 10 #[.agg (exC x.op x.v x.s (.slice ad x.l.length cap)).toArray, .agg (exC x.op x.v x.s (.slice ad2 x.l.length cap2)).toArray] w0 (Ret w0 h0 fun u _ => u = .bool true) := by
  intro k
  induction k with
  | zero => intro x _ _ _ _ h; omega
  | succ k ih =>
    intro x ad ad2 cap cap2 hk w0 h0 hv hx hy
    have hlm := hx.lm
    refine ent (args := [.agg (exC x.op x.v x.s (.slice ad x.l.length cap)).toArray, .agg (exC x.op x.v x.s (.slice ad2 x.l.length cap2)).toArray]) TT_ok [] [] Tryd.func10 rfl Tryd.ntmps10 rfl rfl hv ?_
    intro b2 b3
    refine aqg eqV x.v x.v ?_
    refine cndF (by simp) ?_
    refine w_loop TT_ok (fun k : Nat => [(5, .v (.int .i64 k))]) 0 (fun k => k ≤ x.l.length) (fun k => x.l.length - k) ?_
    refine And.intro ⟨Nat.zero_le _, gs⟩ ?_
    intro j hj
    refine cnd (fun h => ?_) (fun h => ?_)
    · refine And.intro (by kernel_rfl) ?_
      refine ixE hx j (fun a2 c2 g1 _ _ => ?_)
      refine ixE hy j (fun a3 c3 g2 _ _ => ?_)
      refine cb (fun w hw => ih _ a2 a3 c2 c3 (by have := Ex.lt (getD_mem x.l j ex0 (by omega)); omega) w h0 hw g1 g2) ?_
      refine cndF rfl ?_
      refine wi ?_
      exact ⟨j + 1, ⟨by omega, by omega⟩, gs⟩
    · exact rfl
theorem c_RDeep : ∀ (k : Nat) (x : Ex) (ad : Option Addr) (cap : Nat), SizeOf.sizeOf x < k → deepS x ≤ 1000000000 → ∀ (w0 : World) (h0 : View), VLe h0 (Full w0) → XL h0 ad cap x.l → Calls Tryd.prog 22 #[.agg (exC x.op x.v x.s (.slice ad x.l.length cap)).toArray] w0 (Ret w0 h0 fun u _ => u = .int .i64 (deepS x : Nat)) := by
  intro k
  induction k with
  | zero => intro x ad cap h; omega
  | succ k ih =>
    intro x ad cap hk hd w0 h0 hv hx
    have hlm := hx.lm
    refine ent (args := [.agg (exC x.op x.v x.s (.slice ad x.l.length cap)).toArray]) TT_ok [] [] Tryd.func22 rfl Tryd.ntmps22 rfl rfl hv ?_
    intro b1
    refine w_loop TT_ok (fun k : Nat => [(4, .v (.int .i64 k)), (3, .v (.int .i64 (deepL 0 (x.l.take k) : Nat)))]) 0 (fun k => k ≤ x.l.length) (fun k => x.l.length - k) ?_
    refine And.intro ⟨Nat.zero_le _, gs⟩ ?_
    intro k hkl
    refine cnd (fun h => ?_) (fun h => ?_)
    · have hin := getD_mem x.l k ex0 (by omega)
      have hsub := deep_sub hin
      refine ixE hx k (fun a2 c2 h1 h2 h3 => ?_)
      refine cb (fun w hw => ih (x.l.getD k ex0) a2 c2 (by have := Ex.lt hin; omega) (by omega) w h0 hw h1) ?_
      refine cnd (fun h4 => ?_) (fun h4 => ?_)
      · refine wi ?_
        refine ⟨k + 1, ⟨by omega, by omega⟩, gs (sl := ?_)⟩
        rw [deepL_take x.l k (by omega), Nat.max_eq_right (by omega)]
        rfl
      · refine wi ?_
        refine ⟨k + 1, ⟨by omega, by omega⟩, gs (sl := ?_)⟩
        rw [deepL_take x.l k (by omega), Nat.max_eq_left (by omega)]
        rfl
    · have e : k = x.l.length := by omega
      subst e
      have hd2 := deep_eq x
      rw [List.take_length]
      refine wi ?_
      exact congrArg (Value.int .i64) (by rw [deep_eq]; omega)

end Go.Proofs.YtpcgdhhndeanoaaDoor
set_option maxRecDepth 100000
namespace Go.Proofs.YtpcgdhhndeanoaaDoor
open Go Go.Dx Go.RowKit
theorem c_RParse (s : List UInt8) (hT : TokN (lexS s).1) (hTs : ∀ t ∈ (lexS s).1, t.s.length ≤ 1000000) (hn : (lexS s).1.length ≤ 999999) (hd : deepS (readT (lexS s).1 0 0).1 ≤ 1000000000) (hsl : s.length ≤ 9223372036854775807) (w0 : World) (h0 : View) (hv : VLe h0 (Full w0)) :
    Calls Tryd.prog 9 #[vs s] w0 (Ret w0 h0 fun u hh => ∃ x : Option Addr × Nat, u = .tuple #[exV (parseT s).1 x, .int .i64 (parseT s).2.1, .int .i64 (parseT s).2.2] ∧ XL hh x.1 x.2 (parseT s).1.l) := by
  unfold parseT
  refine entA (args := [vs s]) TT_ok [1000006] [] Tryd.func9 rfl Tryd.ntmps9 rfl rfl hv (fun x => xl_m x _) ?_
  intro b2
  refine cA TT_ok (fun w v h1 h2 h3 => c_RLex s w v h3) (fun _ => Mono.slF) (fun x => ?_)
  generalize lexS s = L at hT hTs hn hd ⊢
  obtain ⟨l, at_, e⟩ := L
  simp only at hT hTs hn hd ⊢
  refine cnd (fun h => ?_) (fun h => ?_)
  · rw [if_pos h]
    exact ⟨(none, 0), rfl, fun v _ _ => xl_nil v⟩
  rw [if_neg (fun hh => hh (by simpa using h))]
  refine cA TT_ok (fun w v h1 h2 h3 => c_RRead x.1 x.2 l hT hTs hn 0 0 (Nat.zero_le _) (by omega) w v h3 h2.2) (fun x => xl_m x _) (fun x2 => ?_)
  have hf11 : (readT l 0 0).2.2 = 0 ∨ (readT l 0 0).2.2 = 11 := by
    unfold readT; split
    · exact .inr rfl
    · exact .inl rfl
  generalize readT l 0 0 = r at hd hf11 ⊢
  obtain ⟨y, n, f⟩ := r
  simp only at hd hf11 ⊢
  intro b8
  refine cnd (fun h2 => ?_) (fun h2 => ?_)
  · rw [if_pos (by omega)]
    refine regQ TT_ok [0, 1, 2, 3, 4, 5] [6, 7, 8] [2] false ?_
    refine ixf (fun v hF => hF.1.2) n t0 ?_ (by omega)
    refine kq ?_
    refine kq ?_
    refine kq ?_
    exact ⟨(none, 0), rfl, fun v _ _ => xl_nil v⟩
  rw [if_neg (by omega)]
  refine cnd (fun h3 => ?_) (fun h3 => ?_)
  · rw [if_pos (by simpa using h3)]
    have hf : f = 11 := hf11.resolve_left (by simpa using h3)
    subst hf
    exact ⟨(none, 0), rfl, fun v _ _ => xl_nil v⟩
  rw [if_neg (by simpa using h3)]
  refine cf (fun w v h1 h2 h3 => c_RDeep _ y x2.1 x2.2 (Nat.lt_succ_self _) hd w v h3 h2.2) ?_
  refine cnd (fun h4 => ?_) (fun h4 => ?_)
  · rw [if_pos (by omega)]
    exact ⟨(none, 0), rfl, fun v _ _ => xl_nil v⟩
  rw [if_neg (by omega)]
  exact ⟨x2, rfl, fun v _ hF => hF.2⟩

end Go.Proofs.YtpcgdhhndeanoaaDoor
set_option maxRecDepth 100000
namespace Go.Proofs.YtpcgdhhndeanoaaDoor
open Go Go.Dx Go.RowKit
theorem c_ParseE {s : List UInt8} {x : Ex} {at' e : Int} (he : parseT s = (x, at', e)) (hsl : s.length ≤ 9223372036854775807) (w0 : World) (h0 : View) (hv : VLe h0 (Full w0)) :
    Calls Tryd.prog 8 #[vs s] w0 (Ret w0 h0 fun u hh => ∃ a : Option Addr × Nat, u = .tuple #[exV x a, .int .i64 at', .int .i64 e] ∧ XL hh a.1 a.2 x.l) := by
  obtain ⟨f1, f2, f3, f4⟩ := lex_facts s
  have := c_Parse s f1 f2 f3 f4 hsl w0 h0 hv
  rw [he] at this; exact this
theorem c_RParseE {s : List UInt8} {x : Ex} {at' e : Int} (he : parseT s = (x, at', e)) (hsl : s.length ≤ 9223372036854775807) (w0 : World) (h0 : View) (hv : VLe h0 (Full w0)) :
    Calls Tryd.prog 9 #[vs s] w0 (Ret w0 h0 fun u hh => ∃ a : Option Addr × Nat, u = .tuple #[exV x a, .int .i64 at', .int .i64 e] ∧ XL hh a.1 a.2 x.l) := by
  obtain ⟨f1, f2, f3, f4⟩ := lex_facts s
  have := c_RParse s f1 f2 f3 f4 hsl w0 h0 hv
  rw [he] at this; exact this
theorem ex_right : rightS exX = true := by kernel_rfl
theorem ex_deep : deepS exX = 4 := by kernel_rfl
theorem gx_right {h : View} {ad : Option Addr} {cap : Nat} {x : Ex} (hx : XL h ad cap x.l) (hr : rightS x = true) (h1 : Nd x) : GX h ad cap x := ⟨hx, h1.1, h1.2, smx_right hr⟩
theorem c_lives (w0 : World) (h0 : View) (hv : VLe h0 (Full w0)) (hp : PowV h0) : Calls Tryd.prog 7 #[] w0 (Ret w0 h0 fun u _ => u = .bool true) := by
  refine ent (args := []) TT_ok [] [] Tryd.func7 rfl Tryd.ntmps7 rfl rfl hv ?_
  refine cA TT_ok (fun w v h1 h2 h3 => c_ParseE parse_1 (by decide) w v h3) (fun a => xl_m a _) (fun a => ?_)
  intro b1
  refine cf (fun w v h1 h2 h3 => c_Text exX a.1 a.2 (by rw [ex_deep]; decide) w v h3 (gx_right h2.2 ex_right (nd_v0 (i64_s (by decide)))) (pow_m h1 hp)) ?_
  rw [text_1]
  refine cA TT_ok (fun w v h1 h2 h3 => c_ParseE parse_2 (by decide) w v h3) (fun a => xl_m a _) (fun a2 => ?_)
  intro b6
  exact rfl
theorem c_SyntaxParses (s : List UInt8) (w0 : World) (h0 : View) (hv : VLe h0 (Full w0)) (hp : PowV h0) : Calls Tryd.prog 3 #[vs s] w0 (Ret w0 h0 fun u _ => u = .bool true) := by
  refine ent (args := [vs s]) TT_ok [] [] Tryd.func3 rfl Tryd.ntmps3 rfl rfl hv ?_
  refine cnd (fun h => ?_) (fun h => ?_)
  · refine cb (fun w hw => c_lives w h0 hw hp) ?_
    exact rfl
  have hs : s.length ≤ 9223372036854775807 := by omega
  obtain ⟨x, at', e, he⟩ : ∃ x at' e, parseT s = (x, at', e) := ⟨_, _, _, rfl⟩
  refine cA TT_ok (fun w v h1 h2 h3 => c_ParseE he hs w v h3) (fun a => xl_m a _) (fun a => ?_)
  intro b3
  refine cA TT_ok (fun w v h1 h2 h3 => c_RParseE he hs w v h3) (fun a => xl_m a _) (fun a2 => ?_)
  intro b6
  refine cf (fun w v h1 h2 h3 => c_RSame _ x a.1 a2.1 a.2 a2.2 (Nat.lt_succ_self _) w v h3 h2.1.2 h2.2) ?_
  refine cbg (fun _ w hw => c_lives w h0 hw hp) ?_
  exact congrArg Value.bool (by simp)

end Go.Proofs.YtpcgdhhndeanoaaDoor
set_option maxRecDepth 100000
namespace Go.Proofs.YtpcgdhhndeanoaaDoor
open Go Go.Dx Go.RowKit
set_option maxRecDepth 100000 in
theorem c_small : ∀ (d : Nat), d ≤ 1000 → ∀ (x : Ex) (ad : Option Addr) (cap : Nat) (w0 : World) (h0 : View), VLe h0 (Full w0) → XL h0 ad cap x.l → Calls Tryd.prog 23 #[.agg (exC x.op x.v x.s (.slice ad x.l.length cap)).toArray, .int .i64 (d : Nat)] w0 (Ret w0 h0 fun u _ => u = .bool (smallX d x)) := by
  intro d
  induction d with
  | zero =>
    intro hd x ad cap w0 h0 hv hx
    refine ent (args := [.agg (exC x.op x.v x.s (.slice ad x.l.length cap)).toArray, .int .i64 ((0 : Nat) : Int)]) TT_ok [] [] Tryd.func23 rfl Tryd.ntmps23 rfl rfl hv ?_
    intro b2
    refine cnd (fun h => ?_) (fun h => by exfalso; omega)
    exact rfl
  | succ d ih =>
    intro hd x ad cap w0 h0 hv hx
    have hlm := hx.lm
    refine ent (args := [.agg (exC x.op x.v x.s (.slice ad x.l.length cap)).toArray, .int .i64 ((d + 1 : Nat) : Int)]) TT_ok [] [] Tryd.func23 rfl Tryd.ntmps23 rfl rfl hv ?_
    intro b2
    refine cnd (fun h => ?_) (fun h => ?_)
    · exact congrArg Value.bool (small_no (d + 1) x (by omega)).symm
    · refine w_loop TT_ok (fun k : Nat => [(5, .v (.int .i64 k))]) 0 (fun k => k ≤ x.l.length ∧ ∀ j, j < k → smallX d (x.l.getD j ex0) = true) (fun k => x.l.length - k) ?_
      refine And.intro ⟨⟨Nat.zero_le _, fun j hj => absurd hj (Nat.not_lt_zero j)⟩, gs⟩ ?_
      intro k ⟨hk, hn⟩
      refine cnd (fun h1 => ?_) (fun h1 => ?_)
      · refine ixE hx k (fun a2 c2 g1 g2 g3 => ?_)
        refine ew ((d : Nat) : Int) (show IntKind.i64.wrap (((d + 1 : Nat) : Int) - 1) = ((d : Nat) : Int) by rw [show ((d + 1 : Nat) : Int) - 1 = ((d : Nat) : Int) by omega]; exact wrap_i64 (by omega) (by omega)) ?_
        refine cb (fun w hw => ih (by omega) _ a2 c2 w h0 hw g1) ?_
        refine cnd (fun h4 => ?_) (fun h4 => ?_)
        · exact congrArg Value.bool (by rw [small_eq (by omega)]; simp only [Nat.add_sub_cancel]; rw [all_not ex0 (k := k) (by omega) h4]; simp)
        · refine wi ?_
          exact ⟨k + 1, ⟨⟨by omega, upto_snoc hn h4⟩, by omega⟩, gs⟩
      · exact congrArg Value.bool (by rw [small_eq (by omega)]; simp only [Nat.add_sub_cancel]; rw [all_upto ex0 (p := smallX d) (fun j hj => hn j (by omega))]; simp; omega)
theorem c_Size : ∀ (k : Nat) (x : Ex) (ad : Option Addr) (cap : Nat), SizeOf.sizeOf x < k → ∀ (w0 : World) (h0 : View), VLe h0 (Full w0) → XL h0 ad cap x.l → Calls Tryd.prog 24 #[.agg (exC x.op x.v x.s (.slice ad x.l.length cap)).toArray] w0 (Ret w0 h0 fun u _ => u = .int .i64 (szF x)) := by
  intro k
  induction k with
  | zero => intro x ad cap h; omega
  | succ k ih =>
    intro x ad cap hk w0 h0 hv hx
    have hlm := hx.lm
    refine ent (args := [.agg (exC x.op x.v x.s (.slice ad x.l.length cap)).toArray]) TT_ok [] [] Tryd.func24 rfl Tryd.ntmps24 rfl rfl hv ?_
    intro b2
    refine w_loop TT_ok (fun k : Nat => [(4, .v (.int .i64 k)), (3, .v (.int .i64 (szL 1 (x.l.take k))))]) 0 (fun k => k ≤ x.l.length) (fun k => x.l.length - k) ?_
    refine And.intro ⟨Nat.zero_le _, gs⟩ ?_
    intro i hi
    refine cnd (fun h1 => ?_) (fun h1 => ?_)
    · refine ixE hx i (fun a2 c2 g1 g2 g3 => ?_)
      refine cb (fun w hw => ih _ a2 c2 (by have := Ex.lt (getD_mem x.l i ex0 (by omega)); omega) w h0 hw g1) ?_
      refine ew _ rfl ?_
      refine wi ?_
      exact ⟨i + 1, ⟨by omega, by omega⟩, gs (by rw [show szL 1 (x.l.take (i + 1)) = IntKind.i64.wrap (szL 1 (x.l.take i) + szF (x.l.getD i ex0)) by rw [take_snocD x.l i ex0 (by omega), szL_snoc]]; rfl)⟩
    · exact congrArg (Value.int .i64) (by rw [sz_eq, List.take_of_length_le (by omega)])
theorem c_XSmall (x : Ex) (ad : Option Addr) (cap : Nat) (w0 : World) (h0 : View) (hv : VLe h0 (Full w0)) (hx : XL h0 ad cap x.l) : Calls Tryd.prog 11 #[.agg (exC x.op x.v x.s (.slice ad x.l.length cap)).toArray] w0 (Ret w0 h0 fun u _ => u = .bool (XSm x)) := by
  refine ent (args := [.agg (exC x.op x.v x.s (.slice ad x.l.length cap)).toArray]) TT_ok [] [] Tryd.func11 rfl Tryd.ntmps11 rfl rfl hv ?_
  intro b1
  refine cb (fun w hw => c_small 30 (by decide) x ad cap w h0 hw hx) ?_
  refine cbg (fun _ w hw => c_Size _ x ad cap (Nat.lt_succ_self _) w h0 hw hx) ?_
  exact rfl
def fewR (l : List Val) : Bool := decide (l.length ≤ 12) && l.all fun v => decide (v.s.length ≤ 300)
end Go.Proofs.YtpcgdhhndeanoaaDoor
set_option maxRecDepth 100000
namespace Go.Proofs.YtpcgdhhndeanoaaDoor
open Go Go.Dx Go.RowKit
theorem deep_of {x : Ex} (h : XSm x = true) : deepS x ≤ 30 := deep_small 30 x (Bool.and_eq_true_iff.1 h).1
theorem text_bad {x : Ex} (h : (textT x).2 ≠ 0) : (textT x).1 = [] ∧ ((textT x).2 = 2 ∨ (textT x).2 = 12 ∨ (textT x).2 = 5) := by
  unfold textT at h ⊢
  split
  · exact ⟨rfl, .inl rfl⟩
  split
  · exact ⟨rfl, .inr (.inl rfl)⟩
  split
  · exact ⟨rfl, .inr (.inr rfl)⟩
  · rename_i h1 h2 h3; rw [if_neg h1, if_neg h2, if_neg h3] at h; exact absurd rfl h
theorem text_good {x : Ex} (h : (textT x).2 = 0) : rightS x = true ∧ deepS x ≤ 12 ∧ (putS x 0).length ≤ 200 ∧ textT x = (putS x 0, 0) := by
  unfold textT at h ⊢
  split at h
  · exact absurd h (by decide)
  split at h
  · exact absurd h (by decide)
  split at h
  · exact absurd h (by decide)
  · rename_i h1 h2 h3
    rw [if_neg h1, if_neg h2, if_neg h3]
    exact ⟨by simpa using h1, by omega, by omega, rfl⟩
set_option maxHeartbeats 1000000 in
theorem c_SyntaxBack (x : Ex) (ad : Option Addr) (cap : Nat) (w0 : World) (h0 : View) (hv : VLe h0 (Full w0)) (hx : XL h0 ad cap x.l) (hop : i64 x.op) (hvb : valB x.v) (hp : PowV h0) : Calls Tryd.prog 4 #[.agg (exC x.op x.v x.s (.slice ad x.l.length cap)).toArray] w0 (Ret w0 h0 fun u _ => u = .bool true) := by
  refine ent (args := [.agg (exC x.op x.v x.s (.slice ad x.l.length cap)).toArray]) TT_ok [] [] Tryd.func4 rfl Tryd.ntmps4 rfl rfl hv ?_
  intro b1
  refine cb (fun w hw => c_XSmall x ad cap w h0 hw hx) ?_
  refine cnd (fun h => ?_) (fun h => ?_)
  · refine cb (fun w hw => c_lives w h0 hw hp) ?_
    exact rfl
  have hsm : XSm x = true := by simpa using h
  have hgx : GX h0 ad cap x := ⟨hx, hop, hvb, sm_of hsm⟩
  refine cb (fun w hw => c_Text x ad cap (by have := deep_of hsm; omega) w h0 hw hgx hp) ?_
  refine cnd (fun h2 => ?_) (fun h2 => ?_)
  · have hb := text_bad (x := x) (by simpa using h2)
    refine cbg (fun _ w hw => c_lives w h0 hw hp) ?_
    refine congrArg Value.bool ?_
    rw [hb.1]
    rcases hb.2 with h | h | h <;> rw [h] <;> decide
  · have hg := text_good (x := x) (by simpa using h2)
    have hpp := parse_put hg.1 (RX.vb (hx.rx ⟨hop, hvb⟩)) hg.2.1 hg.2.2.1
    have hlen := hg.2.2.1
    rw [hg.2.2.2]
    refine cA TT_ok (fun w v h1 h2 h3 => c_ParseE hpp (by omega) w v h3) (fun a => xl_m a _) (fun a => ?_)
    intro b5
    refine cf (fun w v h1 h2 h3 => c_Same _ x ad a.1 cap a.2 (Nat.lt_succ_self _) w v h3 (hx.mono h1) h2.2) ?_
    refine cbg (fun _ w hw => c_lives w h0 hw hp) ?_
    refine congrArg Value.bool ?_
    simp; omega
theorem parse_nd (s : List UInt8) : Nd (parseT s).1 := by
  obtain ⟨f1, _⟩ := lex_facts s
  have h := rd_nd f1 (needS (lexS s).1 0 0) 0 0 false
  unfold parseT
  split
  · exact nd0
  split
  · exact nd0
  split
  · exact nd0
  split
  · exact nd0
  · show Nd (readT (lexS s).1 0 0).1
    unfold readT
    split
    · exact nd0
    · exact h
set_option maxHeartbeats 1000000 in
theorem c_SyntaxAgain (s : List UInt8) (w0 : World) (h0 : View) (hv : VLe h0 (Full w0)) (hp : PowV h0) : Calls Tryd.prog 5 #[vs s] w0 (Ret w0 h0 fun u _ => u = .bool true) := by
  refine ent (args := [vs s]) TT_ok [] [] Tryd.func5 rfl Tryd.ntmps5 rfl rfl hv ?_
  refine cnd (fun h => ?_) (fun h => ?_)
  · refine cb (fun w hw => c_lives w h0 hw hp) ?_
    exact rfl
  have hs : s.length ≤ 9223372036854775807 := by omega
  obtain ⟨x, at', e, he⟩ : ∃ x at' e, parseT s = (x, at', e) := ⟨_, _, _, rfl⟩
  have hinv := parse_inv s
  rw [he] at hinv
  simp only at hinv
  refine cA TT_ok (fun w v h1 h2 h3 => c_ParseE he hs w v h3) (fun a => xl_m a _) (fun a => ?_)
  intro b3
  refine cnd (fun h2 => ?_) (fun h2 => ?_)
  · have h2 : ¬ e = 0 := by simpa using h2
    obtain ⟨rfl, _, h3, h4⟩ := hinv.resolve_left (fun hh => h2 (congrArg Prod.snd hh.1))
    refine cf (fun w v h1 h2 h3 => c_Same _ ex0 a.1 none a.2 0 (Nat.lt_succ_self _) w v h3 h2.2 (xl_nil v)) ?_
    refine cbg (fun _ w hw => c_lives w h0 hw hp) ?_
    refine congrArg Value.bool ?_
    simp; omega
  · have h2 : e = 0 := by simpa using h2
    subst h2
    obtain ⟨h3, hr, hd⟩ := hinv.resolve_right (fun hh => hh.2.1 rfl)
    have h3 : at' = 0 := congrArg Prod.fst h3
    subst h3
    have hnd : Nd x := by have := parse_nd s; rw [he] at this; exact this
    have hdd : deepS x ≤ 1000000000 := by omega
    refine cfg (fun _ w v h1 h2 h3 => c_Check x a.1 a.2 w v h3 (gx_right h2.2 hr hnd)) ?_
    refine cfg (fun _ w v h1 h2 h3 => c_Deep _ x a.1 a.2 (Nat.lt_succ_self _) hdd w v h3 h2.2) ?_
    refine cndF (by rw [hr]; simp; omega) ?_
    refine cf (fun w v h1 h2 h3 => c_Text x a.1 a.2 hdd w v h3 (gx_right h2.2 hr hnd) (pow_m h1 hp)) ?_
    refine cnd (fun h5 => ?_) (fun h5 => ?_)
    · refine cbg (fun _ w hw => c_lives w h0 hw hp) ?_
      have e5 : (textT x).2 = 5 := by
        have hb := text_bad (x := x) (by simpa using h5)
        unfold textT at h5 ⊢
        rw [if_neg (by rw [hr]; decide), if_neg (by omega)] at h5 ⊢
        split
        · rfl
        · rename_i h6; rw [if_neg h6] at h5; simp at h5
      refine congrArg Value.bool ?_
      rw [e5]; decide
    · have hg := text_good (x := x) (by simpa using h5)
      rw [hg.2.2.2]
      have hlen := hg.2.2.1
      refine cA TT_ok (fun w v h1 h2 h3 => c_ParseE (parse_put hr (RX.vb (h2.2.rx hnd)) hd hlen) (by omega) w v h3) (fun a => xl_m a _) (fun a2 => ?_)
      intro b8
      refine cf (fun w v h1 h2 h3 => c_Text x a2.1 a2.2 hdd w v h3 (gx_right h2.2 hr hnd) (pow_m h1 hp)) ?_
      rw [hg.2.2.2]
      refine cf (fun w v h1 h2 h3 => c_Same _ x a.1 a2.1 a.2 a2.2 (Nat.lt_succ_self _) w v h3 h2.1.2 h2.2) ?_
      refine cbg (fun _ w hw => c_lives w h0 hw hp) ?_
      refine congrArg Value.bool ?_
      simp

end Go.Proofs.YtpcgdhhndeanoaaDoor
set_option maxRecDepth 100000
namespace Go.Proofs.YtpcgdhhndeanoaaDoor
open Go Go.Dx Go.RowKit
theorem contains_idxT (l : List (List UInt8)) (v : List UInt8) : decide (idxS (fun x => decide (v = x)) l ≥ 0) = l.contains v := by
  have := idx_any (p := fun x => decide (v = x)) (l := l)
  rw [show decide (idxS (fun x => decide (v = x)) l ≥ 0) = decide (0 ≤ idxS (fun x => decide (v = x)) l) from rfl, this, List.contains_eq_any_beq]
  congr 1
  funext x
  by_cases h : v = x <;> simp [h]
theorem c_IndexT (ad : Option Addr) (cap : Nat) (l : List (List UInt8)) (v : List UInt8) (w0 : World) (h0 : View) (hv : VLe h0 (Full w0)) (hb : SlC 9 1 (flatR fun s => [vs s]) h0 (.slice ad l.length cap) l) : Calls Tryd.prog 55 #[.slice ad l.length cap, vs v] w0 (Ret w0 h0 fun u _ => u = .int .i64 (idxS (fun x => decide (v = x)) l)) := by
  have hlm := slc_lm hb
  refine ent (args := [.slice ad l.length cap, vs v]) TT_ok [] [] Tryd.func55 rfl Tryd.ntmps55 rfl rfl hv ?_
  refine w_loop TT_ok (fun k : Nat => [(8, .v (.int .i64 k))]) 0 (fun k => k ≤ l.length ∧ ∀ j, j < k → decide (v = l.getD j []) = false) (fun k => l.length - k) ?_
  refine And.intro ⟨⟨Nat.zero_le _, fun j hj => absurd hj (Nat.not_lt_zero j)⟩, gs⟩ ?_
  intro k ⟨hk, hn⟩
  refine cnd (fun h => ?_) (fun h => ?_)
  · refine ixs hb k [] ?_
    refine cnd (fun h1 => ?_) (fun h1 => ?_)
    · exact congrArg (Value.int .i64) (idx_hit [] (by omega) hn (decide_eq_true h1)).symm
    · refine wi ?_
      exact ⟨k + 1, ⟨⟨by omega, upto_snoc hn (decide_eq_false h1)⟩, by omega⟩, gs⟩
  · exact congrArg (Value.int .i64) (idx_none [] (fun j hj => hn j (by omega))).symm
theorem c_ContainsT (ad : Option Addr) (cap : Nat) (l : List (List UInt8)) (v : List UInt8) (w0 : World) (h0 : View) (hv : VLe h0 (Full w0)) (hb : SlC 9 1 (flatR fun s => [vs s]) h0 (.slice ad l.length cap) l) : Calls Tryd.prog 32 #[.slice ad l.length cap, vs v] w0 (Ret w0 h0 fun u _ => u = .bool (l.contains v)) := by
  refine ent (args := [.slice ad l.length cap, vs v]) TT_ok [] [] Tryd.func32 rfl Tryd.ntmps32 rfl rfl hv ?_
  refine cb (fun w hw => c_IndexT ad cap l v w h0 hw hb) ?_
  exact congrArg Value.bool (contains_idxT l v)
/-- texts that are gathered in a cell -/
structure NmG where
  a : Option Addr
  n : Nat
  cp : Nat
  l : List (List UInt8)
def nmR (bc : Nat) (s : NmG) (k : Nat := 900) : BL := [(k, .c bc 46 [.slice s.a s.n s.cp]), (901, .e (bufE 9 1 (.slice s.a s.n s.cp) (s.l.map fun s => [vs s]).flatten))]
def nmJ (bc l : Nat) (rec : Loop) (s : NmG) : BL := nmR bc s ++ [(902, .e (some l, LoopC rec))]
/-- names: each name is handed to yield -/
theorem c_names (bc l : Nat) (rec : Loop) (h00 : View) (hy : ∀ (x : List UInt8) (s : NmG), s.n = s.l.length → s.l.length + 1 ≤ 1000000 → ∀ w v, VLe h00 v → VLe v (Full w) → (∀ b ∈ ids (oes (nmJ bc l rec s)), v b = none) → OwnJ w (oes (nmJ bc l rec s)) →
    YC Tryd.prog (nmJ bc l rec) s l [vs x] w fun u s' => u = .bool true ∧ (s'.l = addS s.l x ∧ s'.n = s'.l.length)) :
    ∀ (k : Nat) (x : Ex) (ad : Option Addr) (cap : Nat), SizeOf.sizeOf x < k → ∀ (s : NmG), s.n = s.l.length → s.l.length + (nmS x).length ≤ 1000000 → ∀ (w0 : World) (h0 : View), VLe h00 h0 → VLe h0 (Full w0) → (∀ b ∈ ids (oes (nmJ bc l rec s)), h0 b = none) → OwnJ w0 (oes (nmJ bc l rec s)) → XL h0 ad cap x.l →
    Calls Tryd.prog 54 #[.agg (exC x.op x.v x.s (.slice ad x.l.length cap)).toArray, .func (.yield l) #[] #[]] w0 (RetJ (nmJ bc l rec) s w0 fun u s' => u = .bool true ∧ (s'.l = (nmS x).foldl addS s.l ∧ s'.n = s'.l.length)) := by
  intro k
  induction k with
  | zero => intro x _ _ h; omega
  | succ k ih =>
  intro x ad cap hk s hn hlen w0 h0 hle hv hno ho hx
  have hlm := hx.lm
  have hne := nm_eq x
  refine entJR (nmJ bc l rec) s (g := fun _ => .bool true) (args := [.agg (exC x.op x.v x.s (.slice ad x.l.length cap)).toArray, .func (.yield l) #[] #[]]) TT_ok [4000014] [3] [.v (.agg (exC x.op x.v x.s (.slice ad x.l.length cap)).toArray), .v (.func (.yield l) #[] #[])] Tryd.func54 rfl Tryd.ntmps54 rfl rfl hv hno ho rfl ?_
  intro b2
  refine w_cutB TT_ok (fun _ : NmG => []) (fun y => nmJ bc l rec y ++ [(2, .c b2 29 (exC x.op x.v x.s (.slice ad x.l.length cap)))]) (fun y => y.l = (if x.op = 2 then [x.s] else []).foldl addS s.l ∧ y.n = y.l.length) ?_
  refine And.intro ?_ ?_
  · refine cnd (fun h => ?_) (fun h => ?_)
    · have h : x.op = 2 := by simpa using h
      rw [if_pos h] at hne
      have hl1 : s.l.length + 1 ≤ 1000000 := by rw [hne] at hlen; simp only [List.length_append, List.length_cons, List.length_nil] at hlen; omega
      refine yJ TT_ok (nmJ bc l rec) s (g := fun _ => .bool true) (fun w v h1 h2 h3 h4 h5 => hy x.s s hn hl1 w v (hle.trans h1) h3 h4 h5) ?_ (hl := ⟨rfl, rfl, rfl, trivial⟩)
      rintro y ⟨g1, g2⟩
      refine cndF (by rw [decide_eq_true h]; rfl) ?_
      exact ⟨y, ⟨by rw [if_pos h]; exact g1, g2⟩, gsJ ⟨rfl, rfl, rfl, rfl, trivial⟩⟩
    · have h : ¬ x.op = 2 := by simpa using h
      refine ⟨.bool false, ?_⟩
      refine cndF (by rw [decide_eq_false h]; rfl) ?_
      exact ⟨s, ⟨by rw [if_neg h]; rfl, hn⟩, gsJ ⟨rfl, rfl, rfl, rfl, trivial⟩⟩
  · rintro s1 ⟨e1, n1⟩
    have hl1 : s1.l.length + (nmL x.l).length ≤ 1000000 := by
      have := adds_len (if x.op = 2 then [x.s] else []) s.l
      rw [hne, List.length_append] at hlen
      rw [e1]; omega
    refine w_loopB TT_ok (fun z : Nat × NmG => [(20, .v (.int .i64 z.1))]) (fun z => nmJ bc l rec z.2 ++ [(2, .c b2 29 (exC x.op x.v x.s (.slice ad x.l.length cap)))]) (0, s1) (fun z => z.1 ≤ x.l.length ∧ z.2.l = (nmL (x.l.take z.1)).foldl addS s1.l ∧ z.2.n = z.2.l.length) (fun z => x.l.length - z.1) ?_
    refine And.intro ⟨⟨Nat.zero_le _, rfl, n1⟩, gsJ ⟨rfl, rfl, rfl, rfl, trivial⟩⟩ ?_
    rintro ⟨j, y⟩ ⟨hj, hy1, hy2⟩
    have hj : j ≤ x.l.length := hj
    have hy1 : y.l = (nmL (x.l.take j)).foldl addS s1.l := hy1
    refine cnd (fun h => ?_) (fun h => ?_)
    · have hj2 : j < x.l.length := by have : (j : Int) < x.l.length := h; omega
      have hin := getD_mem x.l j ex0 hj2
      refine ixE hx j (fun a2 c2 g1 g2 g3 => ?_)
      intro b6
      have hroom : y.l.length + (nmS (x.l.getD j ex0)).length ≤ 1000000 := by
        have h1 := nmL_take x.l j hj2
        have h2 := nmL_drop x.l (j + 1)
        rw [h1, List.length_append] at h2
        have h3 := adds_len (nmL (x.l.take j)) s1.l
        rw [hy1]; omega
      refine cJ TT_ok (nmJ bc l rec) y (g := fun _ => .bool true) (fun w v h1 _ h3 h4 h5 => ih (x.l.getD j ex0) a2 c2 (by have := Ex.lt hin; omega) y hy2 hroom w v (hle.trans h1) h3 h4 h5 (g1.mono h1)) ?_ (hl := ⟨rfl, rfl, rfl, trivial⟩)
      rintro z ⟨z1, z2⟩
      refine cndF rfl ?_
      refine wi ?_
      exact ⟨(j + 1, z), ⟨⟨by show j + 1 ≤ _; omega, by rw [nmL_take x.l j hj2, List.foldl_append, ← hy1]; exact z1, z2⟩, by show x.l.length - (j + 1) < x.l.length - j; omega⟩, gsJ ⟨rfl, rfl, rfl, rfl, trivial⟩⟩
    · have hj2 : j = x.l.length := by have : ¬ (j : Int) < x.l.length := h; omega
      refine ⟨y, rfl, ⟨?_, hy2⟩, rfl, rfl, rfl, rfl, trivial⟩
      rw [hy1, hj2, List.take_length, e1, ← List.foldl_append, ← hne]
theorem fl1 (l : List (List UInt8)) : (l.map fun t => [vs t]).flatten.length = l.length := by
  induction l <;> simp_all
/-- the iterator -/
theorem c_each1 (bc l : Nat) (rec : Loop) (h00 : View) (hy : ∀ (x : List UInt8) (s : NmG), s.n = s.l.length → s.l.length + 1 ≤ 1000000 → ∀ w v, VLe h00 v → VLe v (Full w) → (∀ b ∈ ids (oes (nmJ bc l rec s)), v b = none) → OwnJ w (oes (nmJ bc l rec s)) →
      YC Tryd.prog (nmJ bc l rec) s l [vs x] w fun u s' => u = .bool true ∧ (s'.l = addS s.l x ∧ s'.n = s'.l.length))
    (x : Ex) (ad : Option Addr) (cap b : Nat) (s : NmG) (hn : s.n = s.l.length) (hlen : s.l.length + (nmS x).length ≤ 1000000) (w0 : World) (h0 : View) (hle : VLe h00 h0) (hv : VLe h0 (Full w0)) (hno : ∀ b ∈ ids (oes (nmJ bc l rec s)), h0 b = none) (ho : OwnJ w0 (oes (nmJ bc l rec s))) (hx : XL h0 ad cap x.l)
    (hb : h0 b = some (.cells (exC x.op x.v x.s (.slice ad x.l.length cap)).toArray 29 (0, 0))) :
    Calls Tryd.prog 53 #[.func (.yield l) #[] #[], .pointer (some ⟨b, 0, none⟩)] w0 (RetJ (nmJ bc l rec) s w0 fun u s' => u = .tuple #[] ∧ (s'.l = (nmS x).foldl addS s.l ∧ s'.n = s'.l.length)) := by
  refine entJR (nmJ bc l rec) s (g := fun _ => .tuple #[]) (args := [.func (.yield l) #[] #[], .pointer (some ⟨b, 0, none⟩)]) TT_ok [] [] [.v (.func (.yield l) #[] #[]), .v (.pointer (some ⟨b, 0, none⟩))] Tryd.func53 rfl Tryd.ntmps53 rfl rfl hv hno ho rfl ?_
  refine ⟨exC x.op x.v x.s (.slice ad x.l.length cap), ⟨rfl, fun v w g1 _ g3 j u hj => by rw [add_mk, cell_row (g3 _ _ (g1 _ _ hb)), Nat.zero_add]; exact hj⟩, ?_⟩
  refine cJ TT_ok (nmJ bc l rec) s (g := fun _ => .bool true) (fun w v h1 _ h3 h4 h5 => c_names bc l rec h00 hy _ x ad cap (Nat.lt_succ_self _) s hn hlen w v (hle.trans h1) h3 h4 h5 (hx.mono h1)) ?_ (hl := ⟨rfl, rfl, rfl, trivial⟩)
  rintro y ⟨g1, g2⟩
  exact ⟨y, rfl, ⟨g1, g2⟩, rfl, rfl, rfl, rfl, trivial⟩
theorem c_each (x : Ex) (ad : Option Addr) (cap : Nat) (w0 : World) (h0 : View) (hv : VLe h0 (Full w0)) : Calls Tryd.prog 31 #[.agg (exC x.op x.v x.s (.slice ad x.l.length cap)).toArray] w0 (Ret w0 h0 fun u hh => ∃ b : Nat, u = .func (.func 53) #[] #[.pointer (some ⟨b, 0, none⟩)] ∧ hh b = some (.cells (exC x.op x.v x.s (.slice ad x.l.length cap)).toArray 29 (0, 0))) := by
  refine entA (args := [.agg (exC x.op x.v x.s (.slice ad x.l.length cap)).toArray]) TT_ok [3] [] Tryd.func31 rfl Tryd.ntmps31 rfl rfl hv (fun _ _ _ hle hx => hle _ _ hx) ?_
  intro b1
  refine shutG TT_ok (Φ := fun h => h b1 = some (.cells (exC x.op x.v x.s (.slice ad x.l.length cap)).toArray 29 (0, 0))) 1 rfl (fun hh _ _ hb => hb) ?_ (fun _ _ hle hx => hle _ _ hx)
  exact ⟨b1, rfl, fun v _ hF => hF.2⟩
theorem c_Names (x : Ex) (ad : Option Addr) (cap : Nat) (hlen : (nmS x).length ≤ 1000000) (w0 : World) (h0 : View) (hv : VLe h0 (Full w0)) (hx : XL h0 ad cap x.l) : Calls Tryd.prog 17 #[.agg (exC x.op x.v x.s (.slice ad x.l.length cap)).toArray] w0 (Ret w0 h0 fun u hh => ∃ a : Option Addr × Nat, u = .slice a.1 (namesS x).length a.2 ∧ SlC 9 1 (flatR fun t => [vs t]) hh (.slice a.1 (namesS x).length a.2) (namesS x)) := by
  refine entDM (E := fun B F us => ∃ a : Option Addr × Nat, tupV us = .slice a.1 (namesS x).length a.2 ∧ ∀ v, F v → SlC 9 1 (flatR fun t => [vs t]) v (.slice a.1 (namesS x).length a.2) (namesS x)) (args := [.agg (exC x.op x.v x.s (.slice ad x.l.length cap)).toArray]) TT_ok [] [] 2 Tryd.func17 rfl Tryd.ntmps17 rfl rfl hv ?_ ?_
  · rintro B F us w ⟨a, h1, h2⟩ hS
    rw [h1]
    exact hS.st.ret (fun _ _ hle ⟨b, e, hs⟩ => ⟨b, e, hs.monoF hle⟩) fun hh hF => ⟨a, rfl, h2 hh hF⟩
  intro b1 b3
  intro a w hD hS
  refine c_seq (c_seq (hand (c := ⟨Tryd.prog, TT, .wp, 17, w0, h0, [], fun _ => False, [], []⟩) TT_ok hD hS ?_ (fun _ _ _ h _ _ => h.elim)))
  refine cA TT_ok (fun w v h1 h2 h3 => c_each x ad cap w v h3) (fun _ _ _ hle hx => hle _ _ hx) (fun be => ?_)
  intro a w hD hS
  refine n_then (c_block ?_)
  have hS := nil_sx (T := 9) (sz := 1) (k := 901) hS
  have hD := nil_dn 901 (bufE 9 1 (.slice none 0 0) []) hD
  have e6 : a.eval (.tmp 6) = .func (.func 53) #[] #[.pointer (some ⟨be, 0, none⟩)] := hD.fr.kv (t := 6) rfl
  have e3 : a.tmps.getD 3 undef = .pointer (some ⟨b3, 0, none⟩) := hD.fr.kv (t := 3) rfl
  have hsz := hD.fr.sz
  have hdf := hD.fr.df
  refine rangeJ TT_ok (fun s => nmR b3 s 3) ⟨none, 0, 0, []⟩ 902 903 (Ψ := fun s' => s'.l = namesS x ∧ s'.n = s'.l.length) (lb := [.pointer (some ⟨be, 0, none⟩)]) hD hS e6 (TT_ok.call rfl) ⟨rfl, rfl, trivial⟩ rfl (fun _ _ => rfl) (fun _ => rfl) (fun _ => rfl) ?_ ?_
  · intro rec l hr1 hr2 hr3 hr4 hr5 hr6 w1 v g1 g2 g3 g4 g5
    refine (c_each1 b3 l rec v ?_ x ad cap be ⟨none, 0, 0, []⟩ rfl (by simpa using hlen) w1 v (fun _ _ h => h) g3 g4 g5 (hx.mono g1) g2.2).mono ?_
    · intro y s hn hl w2 v2 q1 q3 q4 q5
      have hl2 : w2.heap[l]? = some (.loop rec) := q5.own (some l, LoopC rec) (by unfold nmJ; rw [oes_app]; exact List.mem_append_right _ (List.mem_singleton.2 rfl))
      refine ⟨_, _, _, _, run_yield1 hl2 hr4, ?_⟩
      obtain ⟨t7, tx⟩ := set_tmp (v := vs y) hsz (show 7 < 17 by decide)
      refine roundJ TT_ok (nmR b3) 902 (Ψ := fun s' => s'.l = addS s.l y ∧ s'.n = s'.l.length) hr1 hr2 s [] [] [(7, .v (vs y)), (3, .o 900 0)] (n := 17) q3 q4 q5 (by rw [Array.size_setIfInBounds, hr3]; exact hsz) ?_ ?_
      · intro t u hu
        rw [hr3]
        by_cases h7 : t = 7
        · subst h7
          rw [t7]; exact Option.some.inj hu
        · rw [tx t h7]
          by_cases h3 : t = 3
          · subst h3
            rw [e3]; exact Option.some.inj hu
          · have hn : lkA [(7, SV.v (vs y)), (3, SV.o 900 0)] t = none := by rw [lkA_ne (Ne.symm h7), lkA_ne (Ne.symm h3)]; rfl
            rw [kv_none hn] at hu; cases hu
      · generalize LoopC { rec with state := .busy } = LC
        rw [hr5]
        refine ⟨rfl, ?_⟩
        show vcC _ rec.body _ _ _ _ _ _
        rw [hr6]
        refine co (x := .bool (s.l.contains y)) ?_ ?_
        · intro w hS
          have h1 := own_sl (T := 9) (sz := 1) (g := fun t => [vs t]) (k := 901) (a0 := s.a) (nn := s.n) (cp := s.cp) (l := s.l) rfl hn (by intros; rfl) hS
          rw [hn] at h1 ⊢
          exact c_ContainsT s.a s.cp s.l y w (Full w) (VLe.refl _) h1
        refine cnd (fun h => ?_) (fun h => ?_)
        · have h : s.l.contains y = false := by simpa using h
          intro b14
          refine ap TT_ok 901 (AppT.of (bytes := 16) (sz := 0) (by kernel_rfl) (by kernel_rfl) (by kernel_rfl)) rfl rfl rfl rfl rfl rfl rfl (by rw [fl1]; show (s.l.length + 1) * 17 ≤ 140737488355328; omega) (fun a0 nn cp' hnn => ?_)
          rw [fl1] at hnn
          have hnn : nn * 1 = s.l.length + 1 := hnn
          refine ⟨⟨a0, nn, cp', s.l ++ [y]⟩, ⟨by rw [addS, if_neg (by rw [h]; decide)], by show nn = (s.l ++ [y]).length; rw [List.length_append]; show nn = s.l.length + 1; omega⟩, rfl, rfl, ?_, rfl, trivial⟩
          exact congrArg some (by rw [show ((s.l ++ [y]).map fun t => [vs t]).flatten = (s.l.map fun t => [vs t]).flatten ++ [vs y] by simp]; rfl)
        · have h : s.l.contains y = true := by simpa using h
          exact ⟨s, ⟨by rw [addS, if_pos h], hn⟩, rfl, rfl, rfl, rfl, trivial⟩
    · rintro e w2 ⟨u, s', rfl, ⟨_, h1, h2⟩, h3⟩
      exact ⟨u, s', rfl, ⟨h1, h2⟩, h3⟩
  · rintro s' D w2 ⟨hl, hn⟩ hD2 hS2
    show codeM Md.wp Tryd.prog _ _ _ _
    rw [hdf]
    generalize hds : [(⟨.collected D, #[]⟩ : Deferred)] = ds
    refine c_seq (regM TT_ok rfl (K := fun L B F => ∀ a w, Dn _ L [] B a → Sx _ B F w → _) hD2 hS2 (fun o ho => ?_) ?_ (fun _ _ _ a w hk hD hS => hk a w hD hS) (fun _ _ _ h _ _ => h.elim))
    · simp only [List.mem_cons, List.not_mem_nil, or_false] at ho
      rcases ho with rfl | rfl
      all_goals exact nodef_quiet rfl
    intro a3 w3 hD3 hS3
    refine n_then (c_ret ?_)
    show LeavesInM Fence.wide 1 Tryd.prog _ a3.tmps _ ds .returning w3
    rw [← hds]
    refine retM TT_ok (rs := [.tmp 2]) (E := fun B F us => (∃ s' : NmG, tupV us = .slice s'.a s'.n s'.cp ∧ s'.l = namesS x ∧ s'.n = s'.l.length ∧ lkA B 901 = some (.e (bufE 9 1 (.slice s'.a s'.n s'.cp) (s'.l.map fun t => [vs t]).flatten))) ∧ delE B 901 fun _ => True) 903 rfl rfl ?_ hD3 hS3 ?_
    · exact ⟨⟨s', rfl, hl, hn, rfl⟩, trivial⟩
    · rintro B F us w ⟨⟨s2, h1, h2, h3, h4⟩, h5⟩ hS
      obtain ⟨B', _, _, hs⟩ := seal_sx (c := ⟨Tryd.prog, TT, .wp, 17, w0, h0, [], fun _ => False, [], []⟩) (g := fun t => [vs t]) rfl h4 h3 (by intros; rfl) h5
      have hS' := hs w hS
      rw [h1]
      refine hS'.st.ret (fun _ _ hle ⟨b, e, hs⟩ => ⟨b, e, hs.monoF hle⟩) fun hh hF => ⟨(s2.a, s2.cp), ?_, ?_⟩
      · rw [h3, h2]
      · have := hF.2
        rw [h3, h2] at this
        exact this

end Go.Proofs.YtpcgdhhndeanoaaDoor
set_option maxRecDepth 100000
namespace Go.Proofs.YtpcgdhhndeanoaaDoor
open Go Go.Dx Go.RowKit
theorem gr_step {T : List Tok} {N : List (List UInt8)} {i c : Nat} (hi : i < T.length) (hc : c < N.length) (h : grT (T.drop i) (N.drop c) = []) : if (T.getD i t0).k = 1 ∧ (T.getD i t0).s = N.getD c [] then grT (T.drop (i + 1)) (N.drop (c + 1)) = [] else grT (T.drop (i + 1)) (N.drop c) = [] := by
  rw [List.drop_eq_getElem_cons hi, List.drop_eq_getElem_cons hc, grT] at h
  rw [getD_lt T i t0 hi, getD_lt N c [] hc]
  split
  · rename_i hh; rw [if_pos hh] at h; exact h
  · rename_i hh; rw [if_neg hh, ← List.drop_eq_getElem_cons hc] at h; exact h
theorem nodup_ne {N : List (List UInt8)} (h : N.Nodup) {i j : Nat} (hij : i < j) (hj : j < N.length) : N.getD i [] ≠ N.getD j [] := by
  rw [getD_lt N i [] (by omega), getD_lt N j [] hj]
  intro e
  exact List.pairwise_iff_getElem.1 h i j (by omega) hj hij e
set_option maxHeartbeats 2000000 in
theorem c_SyntaxNames (x : Ex) (ad : Option Addr) (cap : Nat) (w0 : World) (h0 : View) (hv : VLe h0 (Full w0)) (hx : XL h0 ad cap x.l) (hop : i64 x.op) (hvb : valB x.v) (hp : PowV h0) : Calls Tryd.prog 6 #[.agg (exC x.op x.v x.s (.slice ad x.l.length cap)).toArray] w0 (Ret w0 h0 fun u _ => u = .bool true) := by
  refine ent (args := [.agg (exC x.op x.v x.s (.slice ad x.l.length cap)).toArray]) TT_ok [] [] Tryd.func6 rfl Tryd.ntmps6 rfl rfl hv ?_
  intro b1
  refine cb (fun w hw => c_XSmall x ad cap w h0 hw hx) ?_
  refine cnd (fun h => ?_) (fun h => ?_)
  · refine cb (fun w hw => c_lives w h0 hw hp) ?_
    exact rfl
  have hsm : XSm x = true := by simpa using h
  have hgx : GX h0 ad cap x := ⟨hx, hop, hvb, sm_of hsm⟩
  refine cb (fun w hw => c_Text x ad cap (by have := deep_of hsm; omega) w h0 hw hgx hp) ?_
  refine cnd (fun h2 => ?_) (fun h2 => ?_)
  · refine cb (fun w hw => c_lives w h0 hw hp) ?_
    exact rfl
  have hg := text_good (x := x) (by simpa using h2)
  obtain ⟨l, hlx, hll, hgr, hnl, hok⟩ := lex_names hg.1 (RX.vb (hx.rx ⟨hop, hvb⟩)) hg.2.2.1
  have hnd := names_nodup x
  have hnn : (namesS x).length ≤ 1000000 := by have := (names_sub x).length_le; omega
  rw [hg.2.2.2]
  refine cA TT_ok (fun w v h1 h2 h3 => by have := c_Lex (putS x 0) w v h3; rw [hlx] at this; exact this) (fun _ => Mono.slF) (fun tk => ?_)
  refine cA TT_ok (fun w v h1 h2 h3 => c_Names x ad cap hnl w v h3 (hx.mono h1)) (fun _ => Mono.slF) (fun nm => ?_)
  generalize namesS x = N at hgr hok hnd hnn ⊢
  refine w_loop TT_ok (fun z : Nat × Nat => [(10, .v (.int .i64 z.1)), (9, .v (.int .i64 z.2))]) (0, 0) (fun z => z.1 ≤ l.length ∧ z.2 ≤ N.length ∧ grT (l.drop z.1) (N.drop z.2) = []) (fun z => l.length - z.1) ?_
  refine And.intro ⟨⟨Nat.zero_le _, Nat.zero_le _, hgr⟩, gs⟩ ?_
  rintro ⟨i, c⟩ ⟨hi, hc, hr⟩
  have hi : i ≤ l.length := hi
  have hc : c ≤ N.length := hc
  refine cnd (fun h3 => ?_) (fun h3 => ?_)
  · have h3 : i < l.length ∧ c < N.length := by simp at h3; omega
    have hst := gr_step h3.1 h3.2 hr
    refine And.intro (by kernel_rfl) ?_
    refine ixf (fun v hF => hF.1.2) i t0 ?_
    refine ixfg (fun v hF => hF.1.2) i t0 ?_
    refine kg1 ?_
    refine ixfg (fun v hF => hF.2) c [] ?_
    refine kg1 ?_
    refine cnd (fun h4 => ?_) (fun h4 => ?_)
    · have h4 : (l.getD i t0).k = 1 ∧ (l.getD i t0).s = N.getD c [] := by simpa using h4
      rw [if_pos h4] at hst
      refine wi ?_ (by show _ ≤ (c : Int) + 1 ∧ (c : Int) + 1 ≤ _; omega)
      refine wi ?_ (by show _ ≤ (i : Int) + 1 ∧ (i : Int) + 1 ≤ _; omega)
      exact ⟨(i + 1, c + 1), ⟨⟨by show i + 1 ≤ _; omega, by show c + 1 ≤ _; omega, hst⟩, by show l.length - (i + 1) < l.length - i; omega⟩, gs⟩
    · have h4 : ¬ ((l.getD i t0).k = 1 ∧ (l.getD i t0).s = N.getD c []) := by
        exact fun hh => h4.elim (fun q => q hh.1) (fun q => q hh.2)
      rw [if_neg h4] at hst
      refine wi ?_ (by show _ ≤ (i : Int) + 1 ∧ (i : Int) + 1 ≤ _; omega)
      exact ⟨(i + 1, c), ⟨⟨by show i + 1 ≤ _; omega, hc, hst⟩, by show l.length - (i + 1) < l.length - i; omega⟩, gs⟩
  have hce : c = N.length := by
    have h3 : ¬ (i < l.length ∧ c < N.length) := by intro hh; simp at h3; omega
    rcases Nat.lt_or_ge c N.length with hlt | hge
    · exfalso
      have : i = l.length := by omega
      have hr : grT (l.drop i) (N.drop c) = [] := hr
      rw [this, List.drop_length, List.drop_eq_getElem_cons hlt] at hr
      unfold grT at hr; cases hr
    · omega
  subst hce
  refine w_loop TT_ok (fun j : Nat => [(11, .v (.int .i64 j))]) 0 (fun j => j ≤ N.length) (fun j => N.length - j) ?_
  refine And.intro ⟨Nat.zero_le _, gs⟩ ?_
  intro j hj
  refine cnd (fun h5 => ?_) (fun h5 => ?_)
  · have h5 : j < N.length := by simp at h5; omega
    refine ixf (fun v hF => hF.2) j [] ?_
    have hokj := hok (N.getD j []) (getD_mem N j [] h5)
    refine cl (c_Name (N.getD j []) (by have := name_len hokj; omega)) ?_
    refine cndF (by rw [hokj]; rfl) ?_
    refine w_loop TT_ok (fun k : Nat => [(12, .v (.int .i64 k))]) 0 (fun k => k ≤ j) (fun k => j - k) ?_
    refine And.intro ⟨Nat.zero_le _, gs⟩ ?_
    intro k hk
    refine cnd (fun h6 => ?_) (fun h6 => ?_)
    · have h6 : k < j := by simp at h6; omega
      refine And.intro (by kernel_rfl) ?_
      refine ixf (fun v hF => hF.2) k [] ?_
      refine ixf (fun v hF => hF.2) j [] ?_
      refine cndF (decide_eq_false (nodup_ne hnd h6 h5)) ?_
      refine wi ?_
      exact ⟨k + 1, ⟨by omega, by omega⟩, gs⟩
    · refine wi ?_
      exact ⟨j + 1, ⟨by omega, by omega⟩, gs⟩
  · refine cbg (fun _ w hw => c_lives w h0 hw hp) ?_
    refine congrArg Value.bool ?_
    simp

end Go.Proofs.YtpcgdhhndeanoaaDoor
namespace Go.Proofs.YtpcgdhhndeanoaaDoor
open Go Go.Dx Go.RowKit
theorem pow_of_laid {W : World} (h : laidMetH Tryd.prog laidL W) : PowV (Full W) := by
  have h1 := laidMetH.filter (fun x => x.1 == "internal/strconv.uint64pow10") h
  have e : laidL.filter (fun x => x.1 == "internal/strconv.uint64pow10") = [("internal/strconv.uint64pow10", Lib.tabData .u64 Lib.pow10Tab)] := by kernel_rfl
  rw [e] at h1
  have h2 := (laidMetH_iff.1 h1).1
  have e2 : ([("internal/strconv.uint64pow10", (Lib.tabData .u64 Lib.pow10Tab : DataW Unit))].filter fun x => x.2.handleName?.isNone) = [("internal/strconv.uint64pow10", Lib.tabData .u64 Lib.pow10Tab)] := by kernel_rfl
  rw [e2] at h2
  have hn : Tryd.prog.globalNamed "internal/strconv.uint64pow10" = some powG := by kernel_rfl
  have ht := Lib.tabIs_of_head (P := Tryd.prog) (t := 133) (e := 125) (n := 20) hn (by kernel_rfl) (by kernel_rfl) (by kernel_rfl) (by kernel_rfl) (by kernel_rfl) h2
  unfold Lib.TabIs World.var? at ht
  rw [hn, Option.bind_some] at ht
  split at ht
  · rename_i cs T fz hg
    have : cs = (Lib.pow10Tab.map fun z => Value.int .u64 z).toArray := Option.some.inj ht
    subst this
    exact ⟨T, fz, hg⟩
  · cases ht
end Go.Proofs.YtpcgdhhndeanoaaDoor
