/- Laws of walks, and what functions of the program compute: part 4. Each with the conditions that it names. -/
import Derived.Test.YtokhjcpoapbfmaaRows
import Derived.Test.YtokhjcpoapbfmaaProg
import Derived.Shelf.Small.Strs
import Derived.Shelf.Small.Wraps
import Derived.Shelf.Bits.Mul64
import Derived.Test.YtokhjcpoapbfmaaMoc
set_option linter.unusedSimpArgs false
set_option linter.unusedVariables false
namespace Go.Proofs.Ytokhjcpoapbfmaa
open Go Go.Dx Go.RowKit Go.ChangeShapes Go.WideShapes Go.ChangeAt
section
variable {H : Type} {enc : TypeId × Value → H} {W : World}
theorem sl_map {α : Type} {T sz : Nat} {h : View} {v : Value} {n : Nat} {c : Nat → List Value} {f : α → List Value} {g : Nat → α} (hs : SlC T sz (flatR c) h v (List.range n)) (hc : ∀ i, i < n → c i = f (g i)) : SlC T sz (flatR f) h v ((List.range n).map g) := by
  obtain ⟨a, cap, hv, h1, h2, h3⟩ := hs
  refine ⟨a, cap, by simpa using hv, by simpa using h1, h2, fun hne => ?_⟩
  obtain ⟨gb, off, arr, fz, ha, hg, hx⟩ := h3 (by intro e; rw [e] at hne; exact hne rfl)
  refine ⟨gb, off, arr, fz, ha, hg, fun i x hi => ?_⟩
  have hin : i < n := by have := (List.getElem?_eq_some_iff.1 hi).1; simpa using this
  have hxe : x = g i := by simp [hin] at hi; exact hi.symm
  obtain ⟨cs, c1, c2, c3⟩ := hx i i (by simp [hin])
  have c2' : cs = c i := c2
  exact ⟨cs, c1, by show cs = f x; rw [c2', hxe, hc i hin], c3⟩
theorem open_valC {fuel : Nat} {cs : List Value} {x : DataW H × List MemPlace} (h : DataW.trod enc Try.prog W 0 (fun _ => true) true fuel 25 cs = some x) : ∃ v : Val, cs = valC v ∧ valB v ∧ v.s.length ≤ 9223372036854775807 := by
  obtain ⟨hl, n0, y0, _, h0⟩ := trod_at (FldIs.of (P := Try.prog) (t := 25) (i := 0) (off := 0) (ty := 23) (sz := 1) (by kernel_rfl)) h
  obtain ⟨_, n1, y1, _, h1⟩ := trod_at (FldIs.of (P := Try.prog) (t := 25) (i := 1) (off := 1) (ty := 3) (sz := 1) (by kernel_rfl)) h
  obtain ⟨_, n2, y2, _, h2⟩ := trod_at (FldIs.of (P := Try.prog) (t := 25) (i := 2) (off := 2) (ty := 9) (sz := 1) (by kernel_rfl)) h
  have hl' : cs.length = 3 := hl.trans (by kernel_rfl)
  match cs, hl' with
  | [a, b, c], _ =>
    obtain ⟨k, e0, b0⟩ := trod_i (by kernel_rfl) h0
    obtain ⟨m, e1, b1⟩ := trod_i (by kernel_rfl) h1
    obtain ⟨s, e2, l2⟩ := trod_s (by kernel_rfl) h2
    simp at e0 e1 e2
    subst e0 e1 e2
    exact ⟨⟨k, m, s⟩, rfl, ⟨b0, b1⟩, l2⟩
theorem open_colC {fuel : Nat} {cs : List Value} {x : DataW H × List MemPlace} (h : DataW.trod enc Try.prog W 0 (fun _ => true) true fuel 47 cs = some x) : ∃ c : Col, cs = colC c := by
  obtain ⟨hl, n0, y0, _, h0⟩ := trod_at (FldIs.of (P := Try.prog) (t := 47) (i := 0) (off := 0) (ty := 9) (sz := 1) (by kernel_rfl)) h
  obtain ⟨_, n1, y1, _, h1⟩ := trod_at (FldIs.of (P := Try.prog) (t := 47) (i := 1) (off := 1) (ty := 23) (sz := 1) (by kernel_rfl)) h
  obtain ⟨_, n2, y2, _, h2⟩ := trod_at (FldIs.of (P := Try.prog) (t := 47) (i := 2) (off := 2) (ty := 30) (sz := 1) (by kernel_rfl)) h
  have hl' : cs.length = 3 := hl.trans (by kernel_rfl)
  match cs, hl' with
  | [a, b, c], _ =>
    obtain ⟨s, e0, _⟩ := trod_s (by kernel_rfl) h0
    obtain ⟨k, e1, _⟩ := trod_i (by kernel_rfl) h1
    obtain ⟨ad, cap, n, cc, e2, _⟩ := open_sl (sz := 3) (t := 30) (e := 25) (by kernel_rfl) (by kernel_rfl) (by decide) (show DataW.trod enc Try.prog W 0 (fun _ => true) true n2 30 [c] = some y2 from h2)
    simp at e0 e1
    subst e0 e1 e2
    exact ⟨⟨s, k, ad, n, cap⟩, rfl⟩
theorem open_exC : ∀ (fuel : Nat) (cs : List Value) (x : DataW H × List MemPlace), DataW.trod enc Try.prog W 0 (fun _ => true) true fuel 28 cs = some x → ∃ y : Ex, RX (Full W) cs y := by
  intro fuel
  induction fuel using Nat.strongRecOn with
  | _ fuel ih =>
    intro cs x h
    obtain ⟨hl, n0, y0, _, h0⟩ := trod_at (FldIs.of (P := Try.prog) (t := 28) (i := 0) (off := 0) (ty := 22) (sz := 1) (by kernel_rfl)) h
    obtain ⟨_, n1, y1, _, h1⟩ := trod_at (FldIs.of (P := Try.prog) (t := 28) (i := 1) (off := 1) (ty := 25) (sz := 3) (by kernel_rfl)) h
    obtain ⟨_, n2, y2, _, h2⟩ := trod_at (FldIs.of (P := Try.prog) (t := 28) (i := 2) (off := 4) (ty := 9) (sz := 1) (by kernel_rfl)) h
    obtain ⟨_, n3, y3, hn3, h3⟩ := trod_at (FldIs.of (P := Try.prog) (t := 28) (i := 3) (off := 5) (ty := 26) (sz := 1) (by kernel_rfl)) h
    have hl' : cs.length = 6 := hl.trans (by kernel_rfl)
    match cs, hl' with
    | [a, b, c, d, e, f], _ =>
      obtain ⟨op, e0, b0⟩ := trod_i (by kernel_rfl) h0
      obtain ⟨v, e1, b1, _⟩ := open_valC h1
      obtain ⟨s, e2, _⟩ := trod_s (by kernel_rfl) h2
      obtain ⟨ad, cap, n, cc, e3, hs, hk⟩ := open_sl (sz := 6) (t := 26) (e := 28) (by kernel_rfl) (by kernel_rfl) (by decide) (show DataW.trod enc Try.prog W 0 (fun _ => true) true n3 26 [f] = some y3 from h3)
      have kids : ∀ i, i < n → ∃ y : Ex, RX (Full W) (cc i) y := fun i hi => by
        obtain ⟨m, z, hm, hz⟩ := hk i hi
        exact ih m (Nat.lt_trans hm hn3) (cc i) z hz
      have : Inhabited Ex := ⟨ex0⟩
      obtain ⟨g, hg⟩ := Go.Deep.choose_lt kids
      simp [valC] at e0 e1 e2
      obtain ⟨rfl, rfl, rfl⟩ := e1
      subst e0 e2 e3
      have hlen : ((List.range n).map g).length = n := by simp
      have := RX.mk (h := Full W) op v s ((List.range n).map g) ad cap cc ⟨b0, b1⟩ (by rw [hlen]; exact hs) (fun i y hi => by
        have hin : i < n := by have := (List.getElem?_eq_some_iff.1 hi).1; simpa using this
        have : y = g i := by simp [hin] at hi; exact hi.symm
        subst this; exact hg i hin)
      rw [hlen] at this
      exact ⟨_, this⟩
set_option maxRecDepth 100000 in
theorem open_val {v : Value} {d : DataW H} {ps : List MemPlace} {b0 : Nat} (hok : Value.okWide Try.prog W .any b0 25 v) (h : DataW.Trod enc Try.prog W 0 (fun _ => true) true 25 v d ps) : ∃ x : Val, v = .agg (valC x).toArray ∧ valB x ∧ x.s.length ≤ 9223372036854775807 := by
  obtain ⟨fs, _, hu, _⟩ := (FldIs.of (P := Try.prog) (t := 25) (i := 0) (off := 0) (ty := 23) (sz := 1) (by kernel_rfl))
  obtain ⟨cs, rfl, _⟩ := okWide_struct (P := Try.prog) (t := 25) hu hok
  obtain ⟨fuel, hf⟩ := h
  obtain ⟨x, hx, hb⟩ := open_valC hf
  refine ⟨x, ?_, hb⟩
  congr 1
  apply Array.toList_inj.1; simpa [Value.cells] using hx
set_option maxRecDepth 100000 in
theorem open_expr {v : Value} {d : DataW H} {ps : List MemPlace} {b0 : Nat} (hok : Value.okWide Try.prog W .any b0 28 v) (h : DataW.Trod enc Try.prog W 0 (fun _ => true) true 28 v d ps) :
    ∃ (x : Ex) (ad : Option Addr) (cap : Nat), v = .agg (exC x.op x.v x.s (.slice ad x.l.length cap)).toArray ∧ i64 x.op ∧ valB x.v ∧ XL (Full W) ad cap x.l := by
  obtain ⟨fs, _, hu, _⟩ := (FldIs.of (P := Try.prog) (t := 28) (i := 0) (off := 0) (ty := 22) (sz := 1) (by kernel_rfl))
  obtain ⟨cs, rfl, _⟩ := okWide_struct (P := Try.prog) (t := 28) hu hok
  obtain ⟨fuel, hf⟩ := h
  obtain ⟨x, hx⟩ := open_exC fuel _ _ hf
  obtain ⟨ad, cap, e, h1, h2, h3⟩ := hx.inv
  refine ⟨x, ad, cap, ?_, h1, h2, h3⟩
  congr 1
  apply Array.toList_inj.1; simpa [Value.cells] using e
set_option maxRecDepth 100000 in
theorem open_cols {v : Value} {d : DataW H} {ps : List MemPlace} {b0 : Nat} (hok : Value.okWide Try.prog W .any b0 29 v) (h : DataW.Trod enc Try.prog W 0 (fun _ => true) true 29 v d ps) :
    ∃ (ad : Option Addr) (cap : Nat) (l : List Col), v = .slice ad l.length cap ∧ SlC 0 3 (flatR colC) (Full W) (.slice ad l.length cap) l := by
  have hu : Try.prog.underlying 29 = some (.slice 47) := by kernel_rfl
  obtain ⟨a0, n0, p0, rfl⟩ := okWide_slice hu hok
  obtain ⟨fuel, hf⟩ := h
  obtain ⟨ad, cap, n, cc, e, hs, hk⟩ := open_sl (sz := 3) (t := 29) (e := 47) (by kernel_rfl) (by kernel_rfl) (by decide) (show DataW.trod enc Try.prog W 0 (fun _ => true) true fuel 29 [.slice a0 n0 p0] = some (d, ps) from hf)
  cases e
  have : Inhabited Col := ⟨c0⟩
  obtain ⟨g, hg⟩ := Go.Deep.choose_lt (fun i hi => by
    obtain ⟨m, z, _, hz⟩ := hk i hi
    exact open_colC hz : ∀ i, i < n0 → ∃ c : Col, cc i = colC c)
  have h1 := sl_map hs hg
  refine ⟨a0, p0, (List.range n0).map g, by simp, ?_⟩
  simp only [List.length_range, List.length_map] at h1 ⊢
  exact h1
set_option maxRecDepth 100000 in
theorem open_vals {v : Value} {d : DataW H} {ps : List MemPlace} {b0 : Nat} (hok : Value.okWide Try.prog W .any b0 30 v) (h : DataW.Trod enc Try.prog W 0 (fun _ => true) true 30 v d ps) :
    ∃ (ad : Option Addr) (cap : Nat) (l : List Val), v = .slice ad l.length cap ∧ SlC 25 3 (flatR valC) (Full W) (.slice ad l.length cap) l ∧ ∀ x ∈ l, valB x ∧ x.s.length ≤ 9223372036854775807 := by
  have hu : Try.prog.underlying 30 = some (.slice 25) := by kernel_rfl
  obtain ⟨a0, n0, p0, rfl⟩ := okWide_slice hu hok
  obtain ⟨fuel, hf⟩ := h
  obtain ⟨ad, cap, n, cc, e, hs, hk⟩ := open_sl (sz := 3) (t := 30) (e := 25) (by kernel_rfl) (by kernel_rfl) (by decide) (show DataW.trod enc Try.prog W 0 (fun _ => true) true fuel 30 [.slice a0 n0 p0] = some (d, ps) from hf)
  cases e
  have : Inhabited Val := ⟨v0⟩
  obtain ⟨g, hg⟩ := Go.Deep.choose_lt (fun i hi => by
    obtain ⟨m, z, _, hz⟩ := hk i hi
    exact open_valC hz : ∀ i, i < n0 → ∃ x : Val, cc i = valC x ∧ valB x ∧ x.s.length ≤ 9223372036854775807)
  have h1 := sl_map hs (fun i hi => (hg i hi).1)
  refine ⟨a0, p0, (List.range n0).map g, by simp, ?_, fun x hx => ?_⟩
  · simp only [List.length_range, List.length_map] at h1 ⊢
    exact h1
  · obtain ⟨i, hi, rfl⟩ := List.mem_map.1 hx
    exact (hg i (List.mem_range.1 hi)).2
end
end Go.Proofs.Ytokhjcpoapbfmaa
namespace Go.Proofs.Ytokhjcpoapbfmaa
open Go Go.Dx Go.RowKit
def TT : Tab := ⟨[(3, ⟨.int .i64, 1, false, [.int .i64 0]⟩),
  (4, ⟨.bool, 1, false, [.bool false]⟩),
  (5, ⟨.int .u8, 1, false, [.int .u8 0]⟩),
  (9, ⟨.str, 1, false, [vs []]⟩),
  (20, ⟨.ot, 1, false, [.nilIface]⟩),
  (21, ⟨.int .i32, 1, false, [.int .i32 0]⟩),
  (22, ⟨.int .i64, 1, false, [.int .i64 0]⟩),
  (23, ⟨.int .i64, 1, false, [.int .i64 0]⟩),
  (25, ⟨.st [(0, 1, false), (1, 1, false), (2, 1, false)], 3, true, [.int .i64 0, .int .i64 0, vs []]⟩),
  (26, ⟨.sl 28 6, 1, false, [.slice none 0 0]⟩),
  (28, ⟨.st [(0, 1, false), (1, 3, true), (4, 1, false), (5, 1, false)], 6, true, [.int .i64 0, .int .i64 0, .int .i64 0, vs [], vs [], .slice none 0 0]⟩),
  (29, ⟨.sl 47 3, 1, false, [.slice none 0 0]⟩),
  (30, ⟨.sl 25 3, 1, false, [.slice none 0 0]⟩),
  (31, ⟨.st [(0, 1, false), (1, 3, true), (4, 1, false), (5, 1, false)], 6, true, [.int .i64 0, .int .i64 0, .int .i64 0, vs [], vs [], .slice none 0 0]⟩),
  (33, ⟨.sl 47 3, 1, false, [.slice none 0 0]⟩),
  (34, ⟨.sl 25 3, 1, false, [.slice none 0 0]⟩),
  (35, ⟨.int .i64, 1, false, [.int .i64 0]⟩),
  (47, ⟨.st [(0, 1, false), (1, 1, false), (2, 1, false)], 3, true, [vs [], .int .i64 0, .slice none 0 0]⟩),
  (49, ⟨.sl 4 1, 1, false, [.slice none 0 0]⟩),
  (63, ⟨.st [(0, 1, false), (1, 1, false)], 2, true, [.slice none 0 0, .slice none 0 0]⟩),
  (65, ⟨.ot, 1, false, [.nilFunc]⟩),
  (67, ⟨.ot, 1, false, [.pointer none]⟩),
  (69, ⟨.st [(0, 1, false), (1, 1, false), (2, 1, false)], 3, true, [.slice none 0 0, .slice none 0 0, .int .i64 0]⟩),
  (70, ⟨.int .u64, 1, false, [.int .u64 0]⟩),
  (85, ⟨.int .u32, 1, false, [.int .u32 0]⟩),
  (88, ⟨.int .u64, 1, false, [.int .u64 0]⟩),
  (91, ⟨.sl 23 1, 1, false, [.slice none 0 0]⟩),
  (102, ⟨.ot, 1, false, [.nilFunc]⟩),
  (107, ⟨.st [(0, 1, false), (1, 1, false), (2, 1, false)], 3, true, [.int .i64 0, vs [], .int .i64 0]⟩),
  (114, ⟨.ot, 1, false, [.nilFunc]⟩),
  (115, ⟨.sl 9 1, 1, false, [.slice none 0 0]⟩),
  (117, ⟨.sl 107 3, 1, false, [.slice none 0 0]⟩),
  (120, ⟨.sl 3 1, 1, false, [.slice none 0 0]⟩)], [8, 9, 10, 11, 12, 13, 14, 15, 16, 17, 18, 19, 20, 21, 22, 23, 24, 25, 26, 27, 28, 29, 30, 31, 32, 33, 34, 35, 36, 37, 38, 39, 40, 41, 42, 43, 44, 45, 46, 47, 48, 49, 50, 51, 52, 53, 54, 55, 56, 57, 58, 59, 60, 61, 62, 63, 64, 65, 66, 67, 68, 69, 70, 71, 72, 73, 74, 75, 76, 77, 78, 79, 80, 81, 82, 83, 84, 85, 86, 87, 88, 89, 90, 91, 92, 93, 94, 95, 96, 97, 98, 99, 100, 101, 102, 103]⟩
theorem TT_ok : Tab.Ok Try.prog TT := ⟨by kernel_rfl, by kernel_rfl, by kernel_rfl⟩
theorem pow_fol : Try.prog.follows .mixedOrders = true := by kernel_rfl
/-- the chain of a panic with an error -/
def ech (e : Int) : List PanicEntry := [{ v := .iface 35 (.int .i64 e), recovered := false }]
theorem c_raise0 (w0 : World) (h0 : View) (hv : VLe h0 (Full w0)) : Calls Try.prog 70 #[.int .i64 0] w0 (Ret w0 h0 fun u _ => u = .tuple #[]) := by
  refine ent (args := [.int .i64 0]) TT_ok [] [] Try.func70 rfl Try.ntmps70 rfl rfl hv ?_
  refine cnd (fun h => absurd rfl h) (fun h => ?_)
  exact rfl
theorem c_raiseX (e : Int) (he : ¬ e = 0) (w0 : World) : Calls Try.prog 70 #[.int .i64 e] w0 (Pan (ech e) w0) := by
  refine entR (args := [.int .i64 e]) (h0 := fun _ => none) (kp := fun ch => ch = ech e) TT_ok [] [] Try.func70 rfl Try.ntmps70 rfl rfl (fun _ _ h => by cases h) (fun ch w hk hw => ⟨by rw [hk], hw⟩) ?_
  refine cnd (fun h => ?_) (fun h => absurd (by simpa using h) he)
  refine mI TT_ok (u := .int .i64) (by kernel_rfl) rfl rfl rfl ?_
  exact pn rfl rfl rfl
theorem c_catch (b6 b7 : Nat) (xs : List Value) (e0 : Value) (e : Int) (older : List PanicEntry) (hne : b6 ≠ b7) (w : World) (h6 : w.heap[b6]? = some (.cells xs.toArray 25 (0, 0))) (hcs : xs.length = 3) (h7 : w.heap[b7]? = some (.cells #[e0] 35 (0, 0))) :
    CallsD Try.prog 33 #[.pointer (some ⟨b6, 0, none⟩), .pointer (some ⟨b7, 0, none⟩)] (.panicking ({ v := .iface 35 (.int .i64 e), recovered := false } :: older)) w fun en u' w' =>
      en = .returned (.tuple #[]) ∧ u' = .panicking ({ v := .iface 35 (.int .i64 e), recovered := true } :: older) ∧ Keep [b6, b7] w w' ∧ w'.heap[b6]? = some (.cells (valC v0).toArray 25 (0, 0)) ∧ w'.heap[b7]? = some (.cells #[.int .i64 e] 35 (0, 0)) := by
  refine callsD_of_wpS Try.func33 rfl fun c₀ cs hu => ?_
  apply wpS_seq
  apply wpS_region
  simp [wpOpsS, go_sem, recoverD, hu, Try.ntmps33, Exit.thenS]
  apply wpS_seq
  apply wpS_region
  simp [wpOpsS, go_sem, Try.ntmps33, Exit.thenS]
  refine wpS_cond (t := true) (by simp [Act.eval, Array.replicate]) ?_
  simp only [if_true]
  refine wpS_of_wp ?_
  have hlt6 := (Array.getElem?_eq_some_iff.1 h6).1
  have hlt7 := (Array.getElem?_eq_some_iff.1 h7).1
  have hS := St.initL w (fun _ => none) (fun _ _ h => by cases h) [(some b6, CellsC 25 xs), (some b7, CellsC 35 [e0])] (fun x hx => by
    simp only [List.mem_cons, List.not_mem_nil, or_false] at hx
    rcases hx with rfl | rfl
    · exact h6
    · exact h7) (fun b hb => by
    have hb : b = b6 ∨ b = b7 := by simpa [ids] using hb
    rcases hb with rfl | rfl
    · exact ⟨hlt6, rfl⟩
    · exact ⟨hlt7, rfl⟩) (by simp [ids, hne])
  generalize hac : ({ tmps := _, defers := [] } : Act) = ac
  have hF : Fr ac 9 [(0, .val (.pointer (some ⟨b6, 0, none⟩))), (1, .val (.pointer (some ⟨b7, 0, none⟩))), (2, .val (.iface 35 (.int .i64 e)))] := by
    subst hac
    refine ⟨rfl, by simp, fun i v hi => ?_⟩
    match i with
    | 0 => simpa using Option.some.inj (show some (Value.pointer (some ⟨b6, 0, none⟩)) = some v from hi)
    | 1 => simpa using Option.some.inj (show some (Value.pointer (some ⟨b7, 0, none⟩)) = some v from hi)
    | 2 => simpa using Option.some.inj (show some (Value.iface 35 (.int .i64 e)) = some v from hi)
    | i + 3 => cases (show none = some v from hi)
  show codeM .wp Try.prog _ _ ac w
  refine region_sto (i := 0) (b := b6) (T := 25) (cs := xs) (valC v0) 4 hF hS rfl (allV_ne rfl) pow_fol (by kernel_rfl) fun hbw Γ hG => ?_
  refine t_pu (v := .agg (valC v0).toArray) hG (fun w1 _ => ?_) fun Γ hG => ?_
  · exact pu_build_st (parts := []) (vsl := []) (StrB.of (places := [(0, 1), (1, 1), (2, 1)]) (zero := valC v0) (by kernel_rfl) (by kernel_rfl)) rfl rfl
  refine t_pu hG (fun w1 _ => pu_move rfl) fun Γ hG => ?_
  refine t_pu (v := .int .i64 e) hG (fun w1 _ => ?_) fun Γ hG => ?_
  · intro ρ hρ
    have e1 : ρ (.tmp 7) = .iface 35 (.int .i64 e) := hρ _ (by simp [Op.operands]) _ rfl
    have hu : Try.prog.underlying 35 = some (.int .i64) := by kernel_rfl
    simp [execOp, Instr.typeAssert, e1, run_underlying hu]
  refine t_store (i := 0) hbw hG rfl rfl rfl rfl (SzIs.of (by kernel_rfl)) rfl (by rw [hcs]; exact Nat.le_refl _) ?_ ?_
  · unfold spl; rw [List.take_zero, List.drop_of_length_le (by rw [hcs]; exact Nat.le_refl _)]; rfl
  intro Γ hG
  refine t_end hG fun a' w' hC hE hF' _ => ?_
  have hS' := hC.st.tight (i := 0) rfl hE.1
  refine s_store hF' hS' (i := 1) rfl rfl rfl rfl (SzIs.of (by kernel_rfl)) rfl (Nat.le_refl _) fun w2 a2 hS2 hF2 => ?_
  refine c_nil ?_
  have k6 := hS2.own (some b6, CellsC 25 (valC v0)) (by simp)
  have k7 := hS2.own (some b7, CellsC 35 [.int .i64 e]) (by simp [spl])
  refine ⟨hF2.df, _, rfl, .tuple #[], ?_, rfl, rfl, hS2.keep, k6, k7⟩
  simp [results, Try.results33]
theorem c_idle (b6 b7 : Nat) (w : World) : CallsD Try.prog 33 #[.pointer (some ⟨b6, 0, none⟩), .pointer (some ⟨b7, 0, none⟩)] .returning w fun en u' w' => en = .returned (.tuple #[]) ∧ u' = .returning ∧ w' = w := by
  refine callsD_of_wpS Try.func33 rfl fun c₀ cs hu => ?_
  apply wpS_seq
  apply wpS_region
  simp [wpOpsS, go_sem, recoverD, hu, Try.ntmps33, Exit.thenS]
  apply wpS_seq
  apply wpS_region
  simp [wpOpsS, go_sem, Try.ntmps33, Exit.thenS]
  refine wpS_cond (t := false) (by simp [Act.eval, Array.replicate]) ?_
  simp only [Bool.false_eq_true, if_false]
  refine wpS_of_wp (wp_skip ?_)
  cases c₀
  simp_all [bodyPostS, results, Try.results33]

end Go.Proofs.Ytokhjcpoapbfmaa
/-
  DERIVED: THE SHELF's CONTRACTS AT THIS DUMP, IN PLAIN WORDS (tools/lay-plain.mjs out of 'TryShelf.lean', which tools/lay-shelf.mjs wrote): THE SAME DECLARATIONS UNDER THE SAME NAMES: 'import', 'namespace', 'open', 'def', 'theorem' AND NOTHING ELSE: no command of the shelf's: FOR A HAND-IN. Each laying: the table of numbers ('.._ren') and one theorem, a field a fact of the dump's own or the kernel's comparison; each contract: ONE APPLICATION.
-/
namespace Go.Proofs
open Go.Shelf
def Try.lays213_ren : Go.Shelf.Ren := ⟨fun | 213 => 103 | 265 => 104 | n => n, fun | 9 => 9 | 3 => 3 | n => n, fun | n => n⟩
theorem Try.lays213 : Go.Proofs.Lays.n213 Try.prog Try.lays213_ren := {
  mixed := by kernel_rfl
  f213 := Try.func103.trans (congrArg some (by kernel_rfl))
  f265 := Try.func104.trans (congrArg some (by kernel_rfl))
  t3 := Try.underlying3
  a3 := Try.isAgg3
  z3 := Try.sizeOf3
  v3 := Try.zeroValue3
  t9 := Try.underlying9
  a9 := Try.isAgg9
  z9 := Try.sizeOf9
  v9 := Try.zeroValue9 }
open Go.RowKit in
/-- internal/bytealg.CompareString (what strings.Compare calls): IT RETURNS 'Lib.compareBytes a b'; the world is as it was. (LAID: no walk: one application.) -/
theorem Try.bytealg_CompareString (a b : ByteArray) (w : World) :
    Calls Try.prog 103 #[.string a, .string b] w fun e w' => e = .returned (.int .i64 (Lib.compareBytes a.data.toList b.data.toList)) ∧ w' = w := Any.bytealg_CompareString Try.lays213 a b w
def Try.lays106_ren : Go.Shelf.Ren := ⟨fun | 106 => 92 | 213 => 103 | 265 => 104 | n => n, fun | 9 => 9 | 3 => 3 | n => n, fun | n => n⟩
theorem Try.lays106 : Go.Proofs.Lays.n106 Try.prog Try.lays106_ren := {
  mixed := by kernel_rfl
  f106 := Try.func92.trans (congrArg some (by kernel_rfl))
  f213 := Try.func103.trans (congrArg some (by kernel_rfl))
  f265 := Try.func104.trans (congrArg some (by kernel_rfl))
  t3 := Try.underlying3
  a3 := Try.isAgg3
  z3 := Try.sizeOf3
  v3 := Try.zeroValue3
  t9 := Try.underlying9
  a9 := Try.isAgg9
  z9 := Try.sizeOf9
  v9 := Try.zeroValue9 }
open Go.RowKit in
/-- strings.Compare: "Compare returns an integer comparing two strings lexicographically. The result will be 0 if a == b, -1 if a < b, and +1 if a > b.": IT RETURNS 'Lib.compareBytes a b'; the world is as it was. (LAID: no walk: one application.) -/
theorem Try.strings_Compare (a b : ByteArray) (w : World) :
    Calls Try.prog 92 #[.string a, .string b] w fun e w' => e = .returned (.int .i64 (Lib.compareBytes a.data.toList b.data.toList)) ∧ w' = w := Any.strings_Compare Try.lays106 a b w
def Try.lays215_ren : Go.Shelf.Ren := ⟨fun | 215 => 102 | n => n, fun | 3 => 3 | 4 => 4 | n => n, fun | n => n⟩
theorem Try.lays215 : Go.Proofs.Lays.n215 Try.prog Try.lays215_ren := {
  mixed := by kernel_rfl
  f215 := Try.func102.trans (congrArg some (by kernel_rfl))
  t3 := Try.underlying3
  a3 := Try.isAgg3
  z3 := Try.sizeOf3
  v3 := Try.zeroValue3
  t4 := Try.underlying4
  a4 := Try.isAgg4
  z4 := Try.sizeOf4
  v4 := Try.zeroValue4 }
open Go.RowKit in
/-- cmp.isNaN at int: 'x != x': false. (LAID: no walk: one application.) -/
theorem Try.cmp_isNaN_int (x : Int) (w : World) :
    Calls Try.prog 102 #[.int .i64 x] w fun e w' => e = .returned (.bool false) ∧ w' = w := Any.cmp_isNaN_int Try.lays215 x w
def Try.lays122_ren : Go.Shelf.Ren := ⟨fun | 122 => 91 | 215 => 102 | n => n, fun | 3 => 3 | 4 => 4 | n => n, fun | n => n⟩
theorem Try.lays122 : Go.Proofs.Lays.n122 Try.prog Try.lays122_ren := {
  mixed := by kernel_rfl
  f122 := Try.func91.trans (congrArg some (by kernel_rfl))
  f215 := Try.func102.trans (congrArg some (by kernel_rfl))
  t3 := Try.underlying3
  a3 := Try.isAgg3
  z3 := Try.sizeOf3
  v3 := Try.zeroValue3
  t4 := Try.underlying4
  a4 := Try.isAgg4
  z4 := Try.sizeOf4
  v4 := Try.zeroValue4 }
open Go.RowKit in
/-- cmp.Compare at int: "Compare returns -1 if x is less than y, 0 if x equals y, +1 if x is greater than y.": IT RETURNS 'Lib.compareInt x y'; the world is as it was. (LAID: no walk: one application.) -/
theorem Try.cmp_Compare_int (x y : Int) (w : World) :
    Calls Try.prog 91 #[.int .i64 x, .int .i64 y] w fun e w' => e = .returned (.int .i64 (Lib.compareInt x y)) ∧ w' = w := Any.cmp_Compare_int Try.lays122 x y w
def Try.lays264_ren : Go.Shelf.Ren := ⟨fun | 264 => 63 | n => n, fun | 53 => 88 | 46 => 70 | n => n, fun | n => n⟩
theorem Try.lays264 : Go.Proofs.Lays.n264 Try.prog Try.lays264_ren := {
  mixed := by kernel_rfl
  f264 := Try.func63.trans (congrArg some (by kernel_rfl))
  t46 := Try.underlying70
  a46 := Try.isAgg70
  z46 := Try.sizeOf70
  v46 := Try.zeroValue70
  t53 := Try.underlying88
  a53 := Try.isAgg88
  z53 := Try.sizeOf88
  v53 := Try.zeroValue88 }
open Go.RowKit Go.Lib in
theorem Try.bits_Mul64 (x y : Nat) (hx : x < 18446744073709551616) (hy : y < 18446744073709551616) (w : World) :
    Calls Try.prog 63 #[.int .u64 x, .int .u64 y] w fun e w' => e = .returned (.tuple #[.int .u64 ((x * y / 18446744073709551616 : Nat) : Int), .int .u64 ((x * y % 18446744073709551616 : Nat) : Int)]) ∧ w' = w := Any.bits_Mul64 Try.lays264 x y hx hy w
def Try.lays212_ren : Go.Shelf.Ren := ⟨fun | 212 => 38 | 263 => 62 | 264 => 63 | n => n, fun | 46 => 70 | 51 => 85 | 146 => 86 | 53 => 88 | 148 => 89 | n => n, fun | n => n⟩
theorem Try.lays212 : Go.Proofs.Lays.n212 Try.prog Try.lays212_ren := {
  mixed := by kernel_rfl
  f212 := Try.func38.trans (congrArg some (by kernel_rfl))
  f263 := Try.func62.trans (congrArg some (by kernel_rfl))
  f264 := Try.func63.trans (congrArg some (by kernel_rfl))
  t46 := Try.underlying70
  a46 := Try.isAgg70
  z46 := Try.sizeOf70
  v46 := Try.zeroValue70
  t51 := Try.underlying85
  a51 := Try.isAgg85
  z51 := Try.sizeOf85
  v51 := Try.zeroValue85
  t53 := Try.underlying88
  a53 := Try.isAgg88
  z53 := Try.sizeOf88
  v53 := Try.zeroValue88
  t146 := Try.underlying86
  a146 := Try.isAgg86
  z146 := Try.sizeOf86
  v146 := Try.zeroValue86
  t148 := Try.underlying89
  a148 := Try.isAgg89
  z148 := Try.sizeOf89
  v148 := Try.zeroValue89 }
open Go.RowKit Go.Lib in
/-- math/bits.Mul: "Mul returns the full-width product of x and y": on a machine of 64 bits: Mul64's. (LAID: no walk: one application.) -/
theorem Try.bits_Mul (x y : Nat) (hx : x < 18446744073709551616) (hy : y < 18446744073709551616) (w : World) :
    Calls Try.prog 38 #[.int .u64 x, .int .u64 y] w fun e w' => e = .returned (.tuple #[.int .u64 ((x * y / 18446744073709551616 : Nat) : Int), .int .u64 ((x * y % 18446744073709551616 : Nat) : Int)]) ∧ w' = w := Any.bits_Mul Try.lays212 x y hx hy w
end Go.Proofs
namespace Go.Proofs.Ytokhjcpoapbfmaa
open Go Go.Dx Go.RowKit
theorem dd {p q : Prop} [Decidable p] [Decidable q] (h : p ↔ q) : (!(decide p == decide q)) = false := by
  have e : decide p = decide q := decide_eq_decide.2 h
  rw [e]
  cases decide q <;> rfl
theorem dn {p q : Prop} [Decidable p] [Decidable q] (h : p ↔ ¬ q) : (!(decide p == decide q)) = true := by
  by_cases hq : q
  · rw [decide_eq_true hq, decide_eq_false (p := p) (fun hp => (h.1 hp) hq)]; rfl
  · rw [decide_eq_false hq, decide_eq_true (h.2 hq)]; rfl
theorem c_EAdd (a b : Int) (ha : I64 a) (hb : I64 b) (w0 : World) (h0 : View) (hv : VLe h0 (Full w0)) : Calls Try.prog 14 #[.int .i64 a, .int .i64 b] w0 (Ret w0 h0 fun u _ => u = niV (ovr (a + b))) := by
  have ha1 := ha.1; have ha2 := ha.2; have hb1 := hb.1; have hb2 := hb.2
  refine ent (args := [.int .i64 a, .int .i64 b]) TT_ok [] [] Try.func14 rfl Try.ntmps14 rfl rfl hv ?_
  rcases Int.lt_or_le (a + b) (-9223372036854775808) with h1 | h1
  · refine ew _ (wrap_lo h1 (by omega)) ?_
    rw [ovr_out (.inl h1)]
    refine cndT (by rw [dn (by omega), decide_eq_false (p := b = 0) (by omega)]; rfl) ?_
    exact rfl
  · rcases Int.lt_or_le 9223372036854775807 (a + b) with h2 | h2
    · refine ew _ (wrap_hi h2 (by omega)) ?_
      rw [ovr_out (.inr h2)]
      refine cndT (by rw [dn (by omega), decide_eq_false (p := b = 0) (by omega)]; rfl) ?_
      exact rfl
    · refine wi ?_
      rw [ovr_in ⟨h1, h2⟩]
      refine cndF (by rw [dd (by omega)]; rfl) ?_
      exact rfl
theorem c_ESub (a b : Int) (ha : I64 a) (hb : I64 b) (w0 : World) (h0 : View) (hv : VLe h0 (Full w0)) : Calls Try.prog 16 #[.int .i64 a, .int .i64 b] w0 (Ret w0 h0 fun u _ => u = niV (ovr (a - b))) := by
  have ha1 := ha.1; have ha2 := ha.2; have hb1 := hb.1; have hb2 := hb.2
  refine ent (args := [.int .i64 a, .int .i64 b]) TT_ok [] [] Try.func16 rfl Try.ntmps16 rfl rfl hv ?_
  rcases Int.lt_or_le (a - b) (-9223372036854775808) with h1 | h1
  · refine ew _ (wrap_lo h1 (by omega)) ?_
    rw [ovr_out (.inl h1)]
    refine cndT (by rw [dn (by omega), decide_eq_false (p := b = 0) (by omega)]; rfl) ?_
    exact rfl
  · rcases Int.lt_or_le 9223372036854775807 (a - b) with h2 | h2
    · refine ew _ (wrap_hi h2 (by omega)) ?_
      rw [ovr_out (.inr h2)]
      refine cndT (by rw [dn (by omega), decide_eq_false (p := b = 0) (by omega)]; rfl) ?_
      exact rfl
    · refine wi ?_
      rw [ovr_in ⟨h1, h2⟩]
      refine cndF (by rw [dd (by omega)]; rfl) ?_
      exact rfl
theorem wrap_u64_neg {n : Int} (h : -9223372036854775808 ≤ n) (h2 : n < 0) : IntKind.u64.wrap n = n + 18446744073709551616 := by
  have e := wrap_u64 (n := n + 18446744073709551616) (by omega) (by omega)
  rw [← e]
  simp [IntKind.wrap, IntKind.bits]
theorem c_size (a : Int) (ha : I64 a) (w0 : World) (h0 : View) (hv : VLe h0 (Full w0)) : Calls Try.prog 39 #[.int .i64 a] w0 (Ret w0 h0 fun u _ => u = .int .u64 ((a.natAbs : Nat) : Int)) := by
  have ha1 := ha.1; have ha2 := ha.2
  refine ent (args := [.int .i64 a]) TT_ok [] [] Try.func39 rfl Try.ntmps39 rfl rfl hv ?_
  refine cnd (fun h => ?_) (fun h => ?_)
  · refine ew _ (wrap_u64_neg ha1 h) ?_
    refine ew (a.natAbs : Int) ?_ ?_
    · show IntKind.u64.wrap (0 - (a + 18446744073709551616)) = ((a.natAbs : Nat) : Int)
      have : (0 : Int) - (a + 18446744073709551616) = (a.natAbs : Int) - 18446744073709551616 := by omega
      rw [this]
      simp only [IntKind.wrap, IntKind.bits, IntKind.signed, Bool.false_and, Bool.false_eq_true, if_false]
      omega
    exact rfl
  · refine ew (a.natAbs : Int) (by rw [show a = (a.natAbs : Int) by omega]; exact wrap_u64 (by omega) (by omega)) ?_
    exact rfl
theorem c_EDiv (a b : Int) (ha : I64 a) (hb : I64 b) (w0 : World) (h0 : View) (hv : VLe h0 (Full w0)) : Calls Try.prog 20 #[.int .i64 a, .int .i64 b] w0 (Ret w0 h0 fun u _ => u = niV (divR a b)) := by
  have ha1 := ha.1; have ha2 := ha.2; have hb1 := hb.1; have hb2 := hb.2
  refine ent (args := [.int .i64 a, .int .i64 b]) TT_ok [] [] Try.func20 rfl Try.ntmps20 rfl rfl hv ?_
  refine cnd (fun h => ?_) (fun h => ?_)
  · rw [divR, if_pos h]; exact rfl
  · refine cnd (fun h2 => ?_) (fun h2 => ?_)
    · rw [divR, if_neg h, h2.1, h2.2, ovr_out (.inr (by decide))]; exact rfl
    · have hq := tdiv_in a b ha hb h h2
      refine qu h ?_ hq
      rw [divR, if_neg h, ovr_in hq]; exact rfl
theorem c_RAdd (a b : Int) (ha : I64 a) (hb : I64 b) (w0 : World) (h0 : View) (hv : VLe h0 (Full w0)) : Calls Try.prog 15 #[.int .i64 a, .int .i64 b] w0 (Ret w0 h0 fun u _ => u = niV (ovr (a + b))) := by
  have ha1 := ha.1; have ha2 := ha.2; have hb1 := hb.1; have hb2 := hb.2
  refine ent (args := [.int .i64 a, .int .i64 b]) TT_ok [] [] Try.func15 rfl Try.ntmps15 rfl rfl hv ?_
  refine wig ?_
  refine wig ?_ (fun h => by omega)
  refine cnd (fun h => ?_) (fun h => ?_)
  · rw [ovr_out (by omega)]; exact rfl
  · refine wi ?_
    rw [ovr_in (by omega)]; exact rfl
theorem c_RSub (a b : Int) (ha : I64 a) (hb : I64 b) (w0 : World) (h0 : View) (hv : VLe h0 (Full w0)) : Calls Try.prog 17 #[.int .i64 a, .int .i64 b] w0 (Ret w0 h0 fun u _ => u = niV (ovr (a - b))) := by
  have ha1 := ha.1; have ha2 := ha.2; have hb1 := hb.1; have hb2 := hb.2
  refine ent (args := [.int .i64 a, .int .i64 b]) TT_ok [] [] Try.func17 rfl Try.ntmps17 rfl rfl hv ?_
  refine wig ?_
  refine wig ?_ (fun h => by omega)
  refine cnd (fun h => ?_) (fun h => ?_)
  · rw [ovr_out (by omega)]; exact rfl
  · refine wi ?_
    rw [ovr_in (by omega)]; exact rfl
theorem c_least (a : Int) (ha : I64 a) (h : ¬ a = 0) (w0 : World) (h0 : View) (hv : VLe h0 (Full w0)) : Calls Try.prog 40 #[.int .i64 a] w0 (Ret w0 h0 fun u _ => u = niV (ovr (a * -9223372036854775808))) := by
  refine ent (args := [.int .i64 a]) TT_ok [] [] Try.func40 rfl Try.ntmps40 rfl rfl hv ?_
  refine cnd (fun h1 => ?_) (fun h1 => ?_)
  · subst h1; exact rfl
  · rw [ovr_out (by omega)]; exact rfl
theorem c_RDiv (a b : Int) (ha : I64 a) (hb : I64 b) (w0 : World) (h0 : View) (hv : VLe h0 (Full w0)) : Calls Try.prog 21 #[.int .i64 a, .int .i64 b] w0 (Ret w0 h0 fun u _ => u = niV (divR a b)) := by
  have ha1 := ha.1; have ha2 := ha.2; have hb1 := hb.1; have hb2 := hb.2
  refine ent (args := [.int .i64 a, .int .i64 b]) TT_ok [] [] Try.func21 rfl Try.ntmps21 rfl rfl hv ?_
  refine cnd (fun h => ?_) (fun h => ?_)
  · rw [divR, if_pos h]; exact rfl
  · refine cnd (fun h2 => ?_) (fun h2 => ?_)
    · refine cl (c_RSub 0 a ⟨by decide, by decide⟩ ha) ?_
      rw [divR, if_neg h, h2, show a.tdiv (-1) = 0 - a by rw [Int.tdiv_neg, Int.tdiv_one]; omega]; exact rfl
    · have hq := tdiv_in a b ha hb h (.inr h2)
      refine qu h ?_ hq
      rw [divR, if_neg h, ovr_in hq]; exact rfl
theorem shl_ok (k : Nat) (hk : k ≤ 62) : IntKind.i64.wrap (1 * 2 ^ (min ((k : Nat) : Int).toNat IntKind.i64.bits)) = ((2 ^ k : Nat) : Int) := by
  have e : ∀ k : Nat, k ≤ 62 → IntKind.i64.wrap (1 * 2 ^ (min ((k : Nat) : Int).toNat IntKind.i64.bits)) = ((2 ^ k : Nat) : Int) := by decide +kernel
  exact e k hk
theorem c_Mul (x y : Nat) (hx : x < 18446744073709551616) (hy : y < 18446744073709551616) (w0 : World) (h0 : View) (hv : VLe h0 (Full w0)) : Calls Try.prog 38 #[.int .u64 (x : Int), .int .u64 (y : Int)] w0 (Ret w0 h0 fun u _ => u = .tuple #[.int .u64 ((x * y / 18446744073709551616 : Nat) : Int), .int .u64 ((x * y % 18446744073709551616 : Nat) : Int)]) :=
  calls_same (h := h0) (Try.bits_Mul x y hx hy w0)
theorem sg_neg {a b : Int} (h : (decide (a < 0) == decide (b < 0)) = false) : a * b ≤ 0 := by
  by_cases h1 : a < 0 <;> by_cases h2 : b < 0
  · simp [h1, h2] at h
  · have := Int.mul_nonneg (a := -a) (b := b) (by omega) (by omega)
    rw [Int.neg_mul] at this; omega
  · have := Int.mul_nonneg (a := a) (b := -b) (by omega) (by omega)
    rw [Int.mul_neg] at this; omega
  · simp [h1, h2] at h
theorem sg_pos {a b : Int} (h : (decide (a < 0) == decide (b < 0)) = true) : 0 ≤ a * b := by
  by_cases h1 : a < 0 <;> by_cases h2 : b < 0
  · have := Int.mul_nonneg (a := -a) (b := -b) (by omega) (by omega)
    rwa [Int.neg_mul_neg] at this
  · simp [h1, h2] at h
  · simp [h1, h2] at h
  · exact Int.mul_nonneg (by omega) (by omega)
set_option maxHeartbeats 1000000 in
theorem c_EMul (a b : Int) (ha : I64 a) (hb : I64 b) (w0 : World) (h0 : View) (hv : VLe h0 (Full w0)) : Calls Try.prog 18 #[.int .i64 a, .int .i64 b] w0 (Ret w0 h0 fun u _ => u = niV (ovr (a * b))) := by
  have ha1 := ha.1; have ha2 := ha.2; have hb1 := hb.1; have hb2 := hb.2
  have sa := natAbs_sz ha
  have sb := natAbs_sz hb
  have hab : (a * b).natAbs = a.natAbs * b.natAbs := Int.natAbs_mul a b
  have hmx : a.natAbs * b.natAbs ≤ 9223372036854775808 * 9223372036854775808 := Nat.mul_le_mul sa sb
  refine ent (args := [.int .i64 a, .int .i64 b]) TT_ok [] [6, 10] Try.func18 rfl Try.ntmps18 rfl rfl hv ?_
  refine cl (c_size a ha) ?_
  refine cl (c_size b hb) ?_
  refine cl (c_Mul a.natAbs b.natAbs (by omega) (by omega)) ?_
  generalize hm : a.natAbs * b.natAbs = m at hab hmx ⊢
  generalize hn : a * b = n at hab ⊢
  have hsn : (decide (a < 0) == decide (b < 0)) = false → n ≤ 0 := fun h => hn ▸ sg_neg h
  have hsp : (decide (a < 0) == decide (b < 0)) = true → 0 ≤ n := fun h => hn ▸ sg_pos h
  refine w_cut TT_ok (fun _ : Unit => [(8, .v (.int .u64 (if (decide (a < 0) == decide (b < 0)) = false then 9223372036854775808 else 9223372036854775807)))]) (fun _ => True) ?_
  refine And.intro ?_ ?_
  · refine cnd (fun h => ?_) (fun h => ?_)
    · refine ew 9223372036854775808 (wrap_u64 (by decide) (by decide)) ?_
      exact ⟨(), trivial, gs (by rw [if_pos h]; rfl)⟩
    · exact ⟨(), trivial, gs (by rw [if_neg (by rw [h]; decide)]; rfl)⟩
  · intro _ _
    refine cnd (fun h => ?_) (fun h => ?_)
    · rw [ovr_out (by
        cases hs : (decide (a < 0) == decide (b < 0))
        · rw [hs] at h; simp only [if_true] at h
          have := hsn hs; omega
        · rw [hs] at h; simp only [Bool.true_eq_false, if_false] at h
          have := hsp hs; omega)]
      exact rfl
    · refine w_cut TT_ok (fun _ : Unit => [(7, .v (.int .u64 (if (decide (a < 0) == decide (b < 0)) = false then IntKind.u64.wrap (0 - ((m % 18446744073709551616 : Nat) : Int)) else ((m % 18446744073709551616 : Nat) : Int))))]) (fun _ => True) ?_
      refine And.intro ?_ ?_
      · refine cnd (fun h2 => ?_) (fun h2 => ?_)
        · refine ew _ rfl ?_
          exact ⟨(), trivial, gs (by rw [if_pos h2, if_pos h2]; rfl)⟩
        · have h3 : ¬ (decide (a < 0) == decide (b < 0)) = false := by rw [h2]; decide
          exact ⟨(), trivial, gs (by rw [if_neg h3, if_neg h3]; rfl)⟩
      · intro _ _
        have hin : -9223372036854775808 ≤ n ∧ n ≤ 9223372036854775807 := by
          cases hs : (decide (a < 0) == decide (b < 0))
          · rw [hs] at h; simp only [if_true] at h
            have := hsn hs; omega
          · rw [hs] at h; simp only [Bool.true_eq_false, if_false] at h
            have := hsp hs; omega
        refine ew n ?_ ?_
        · show IntKind.i64.wrap _ = n
          cases hs : (decide (a < 0) == decide (b < 0))
          · rw [if_pos rfl]
            have hn0 := hsn hs
            rw [hs] at h; simp only [if_true] at h
            have e1 : ((m % 18446744073709551616 : Nat) : Int) = (m : Int) := by omega
            have hm2 : (m : Int) ≤ 9223372036854775808 := by omega
            rw [e1]
            by_cases hz : m = 0
            · have : n = 0 := by omega
              rw [hz, this]; decide +kernel
            · rw [wrap_u64_neg (by omega) (by omega), wrap_hi (by omega) (by omega)]; omega
          · rw [if_neg (by decide)]
            have := hsp hs
            have e := wrap_i64 hin.1 hin.2
            rw [show ((m % 18446744073709551616 : Nat) : Int) = n by omega]; exact e
        rw [ovr_in hin]; exact rfl
set_option maxHeartbeats 2000000 in
theorem c_RMul (a b : Int) (ha : I64 a) (hb : I64 b) (w0 : World) (h0 : View) (hv : VLe h0 (Full w0)) : Calls Try.prog 19 #[.int .i64 a, .int .i64 b] w0 (Ret w0 h0 fun u _ => u = niV (ovr (a * b))) := by
  have ha1 := ha.1; have ha2 := ha.2; have hb1 := hb.1; have hb2 := hb.2
  by_cases hbm : b = -9223372036854775808
  · subst hbm
    refine ent (args := [.int .i64 a, .int .i64 (-9223372036854775808)]) TT_ok [] [] Try.func19 rfl Try.ntmps19 rfl rfl hv ?_
    refine cnd (fun h => ?_) (fun h => ?_)
    · have : a = 0 := by rcases h with h | h
                         · exact h
                         · cases h
      subst this; exact rfl
    · have h0' : ¬ a = 0 := h.1
      refine w_loop TT_ok (fun _ : Unit => [(7, .v (.int .i64 62)), (6, .v (.int .i64 0))]) () (fun _ => True) (fun _ => 0) ?_
      refine And.intro ⟨trivial, gs⟩ ?_
      intro _ _
      refine cndT rfl ?_
      refine cl (c_RAdd 0 0 ⟨by decide, by decide⟩ ⟨by decide, by decide⟩) ?_
      refine cndF rfl ?_
      refine ew ((2 ^ 62 : Nat) : Int) ⟨by decide, shl_ok 62 (by decide)⟩ ?_
      refine qu (by decide) ?_ (by decide +kernel)
      refine rm (by decide) ?_
      refine cndF (by decide +kernel) ?_
      refine cndF (by decide +kernel) ?_
      refine cndF rfl ?_
      refine cndT rfl ?_
      refine cl (c_least a ha h0') ?_
      exact rfl
  · refine ent (args := [.int .i64 a, .int .i64 b]) TT_ok [] [] Try.func19 rfl Try.ntmps19 rfl rfl hv ?_
    refine cnd (fun h => ?_) (fun h => ?_)
    · rcases h with h | h
      · subst h; rw [Int.zero_mul]; exact rfl
      · subst h; rw [Int.mul_zero]; exact rfl
    · obtain ⟨Q, hQ⟩ : ∃ Q : Nat → Int, ∀ j, Q j = b.tdiv ((2 ^ j : Nat) : Int) := ⟨_, fun _ => rfl⟩
      have hq0 : Q 63 = 0 := (hQ 63).trans (quo_zero hb hbm)
      have qb : ∀ k, Btw (Q k) b := fun k => hQ k ▸ quo_btw b k
      refine w_loop TT_ok (fun j : Nat => [(7, .v (.int .i64 ((j : Int) - 1))), (6, .v (.int .i64 (a * Q j)))]) 63 (fun j => j ≤ 63 ∧ I64 (a * Q j)) (fun j => j) ?_
      refine And.intro ⟨⟨Nat.le_refl _, by rw [hq0, Int.mul_zero]; exact ⟨by decide, by decide⟩⟩, gs (by rw [hq0, Int.mul_zero]; rfl)⟩ ?_
      intro j ⟨hj, hin⟩
      refine cnd (fun h1 => ?_) (fun h1 => ?_)
      · obtain ⟨k, rfl⟩ : ∃ k, j = k + 1 := ⟨j - 1, by omega⟩
        have hk : k ≤ 62 := by omega
        have hin1 := hin.1; have hin2 := hin.2
        have hx : a * Q (k + 1) + a * Q (k + 1) = a * (2 * Q (k + 1)) := by
          rw [show 2 * Q (k + 1) = Q (k + 1) + Q (k + 1) by omega, Int.mul_add]
        have hq2 : 2 * Q (k + 1) = 2 * (Q k).tdiv 2 := by
          rw [hQ, hQ, Nat.pow_succ, tdiv2]
        have hb1 : Btw (a * (2 * Q (k + 1))) (a * b) := by rw [hq2]; exact ((half_btw (Q k)).trans (qb k)).mul a
        have hb2 : Btw (a * Q k) (a * b) := (qb k).mul a
        have hqk : I64 (Q k) := by have := qb k; rcases this with h | h <;> exact ⟨by omega, by omega⟩
        refine cl (c_RAdd _ _ hin hin) ?_
        rw [hx]
        by_cases ht : -9223372036854775808 ≤ a * (2 * Q (k + 1)) ∧ a * (2 * Q (k + 1)) ≤ 9223372036854775807
        · rw [ovr_in ht]
          refine cndF rfl ?_
          refine ew ((2 ^ k : Nat) : Int) ⟨by omega, by rw [show (((k + 1 : Nat) : Int) - 1) = (k : Int) by omega]; exact shl_ok k hk⟩ ?_
          have hp : 0 < (2 ^ k : Nat) := Nat.pos_of_ne_zero (by simp)
          refine qu (by omega) ?_ (by rw [← hQ k]; exact hqk)
          rw [← hQ k]
          refine rm (by decide) ?_
          have hbit := bit3 (Q k)
          have hh : Q k = 2 * Q (k + 1) + (Q k).tmod 2 := by rw [hQ k, hQ (k + 1)]; exact quo_half b k
          rcases hbit with hbit | hbit | hbit
          · have hs : a * (2 * Q (k + 1)) = a * Q k := by rw [hbit] at hh; rw [hh]; congr 1; omega
            refine cndF (by show decide ((Q k).tmod 2 = 1) = false; rw [hbit]; rfl) ?_
            refine cndF (by show decide ((Q k).tmod 2 = -1) = false; rw [hbit]; rfl) ?_
            refine cndF rfl ?_
            refine cndF (by rw [decide_eq_false hbm]; rfl) ?_
            refine wi ?_
            exact ⟨k, ⟨⟨by omega, by rw [← hs]; exact ht⟩, by omega⟩, gs (by rw [hs, show (((k + 1 : Nat) : Int) - 1 - 1) = (k : Int) - 1 by omega]; rfl)⟩
          · have hs : a * (2 * Q (k + 1)) + a = a * Q k := by rw [hbit] at hh; rw [hh, Int.mul_add, Int.mul_one]
            refine cndT (by show decide ((Q k).tmod 2 = 1) = true; rw [hbit]; rfl) ?_
            refine cl (c_RAdd _ _ ht ha) ?_
            refine cndF (by show decide ((Q k).tmod 2 = -1) = false; rw [hbit]; rfl) ?_
            rw [hs]
            by_cases hr : -9223372036854775808 ≤ a * Q k ∧ a * Q k ≤ 9223372036854775807
            · rw [ovr_in hr]
              refine cndF rfl ?_
              refine cndF (by rw [decide_eq_false hbm]; rfl) ?_
              refine wi ?_
              exact ⟨k, ⟨⟨by omega, hr⟩, by omega⟩, gs (by rw [show (((k + 1 : Nat) : Int) - 1 - 1) = (k : Int) - 1 by omega]; rfl)⟩
            · rw [ovr_out (n := a * Q k) (by omega)]
              refine cndT rfl ?_
              rw [hb2.out (by omega)]; exact rfl
          · have hs : a * (2 * Q (k + 1)) - a = a * Q k := by rw [hbit] at hh; rw [hh, Int.mul_add, Int.mul_neg, Int.mul_one]; omega
            refine cndF (by show decide ((Q k).tmod 2 = 1) = false; rw [hbit]; rfl) ?_
            refine cndT (by show decide ((Q k).tmod 2 = -1) = true; rw [hbit]; rfl) ?_
            refine cl (c_RSub _ _ ht ha) ?_
            rw [hs]
            by_cases hr : -9223372036854775808 ≤ a * Q k ∧ a * Q k ≤ 9223372036854775807
            · rw [ovr_in hr]
              refine cndF rfl ?_
              refine cndF (by rw [decide_eq_false hbm]; rfl) ?_
              refine wi ?_
              exact ⟨k, ⟨⟨by omega, hr⟩, by omega⟩, gs (by rw [show (((k + 1 : Nat) : Int) - 1 - 1) = (k : Int) - 1 by omega]; rfl)⟩
            · rw [ovr_out (n := a * Q k) (by omega)]
              refine cndT rfl ?_
              rw [hb2.out (by omega)]; exact rfl
        · rw [ovr_out (n := a * (2 * Q (k + 1))) (by omega)]
          refine cndT rfl ?_
          rw [hb1.out (by omega)]; exact rfl
      · have : j = 0 := by omega
        subst this
        have : Q 0 = b := (hQ 0).trans (Int.tdiv_one b)
        rw [ovr_in (by rw [← this]; exact hin), this]; exact rfl

end Go.Proofs.Ytokhjcpoapbfmaa
namespace Go.Proofs.Ytokhjcpoapbfmaa
open Go Go.Dx Go.RowKit
/-- what a call that may give up leaves -/
abbrev RetE (w0 : World) (h0 : View) (r : EV) : Ending → World → Prop := RetX ech (fun v : Val => .agg (valC v).toArray) w0 h0 r
theorem c_truth (b : Bool) (w0 : World) (h0 : View) (hv : VLe h0 (Full w0)) : Calls Try.prog 47 #[.bool b] w0 (Ret w0 h0 fun u _ => u = .agg (valC (truV b)).toArray) := by
  refine ent (args := [.bool b]) TT_ok [] [] Try.func47 rfl Try.ntmps47 rfl rfl hv ?_
  intro b2 b3
  cases b
  · refine cnd (fun h => h.elim) (fun _ => ?_)
    exact rfl
  · refine cnd (fun _ => ?_) (fun h => h.elim)
    exact rfl
theorem c_number (n e : Int) (w0 : World) (h0 : View) (hv : VLe h0 (Full w0)) : Calls Try.prog 46 #[.int .i64 n, .int .i64 e] w0 (RetE w0 h0 (numR (n, e))) := by
  by_cases he : e = 0
  · rw [show numR (n, e) = .ok ⟨1, n, []⟩ by rw [numR, if_pos he]]
    subst he
    refine ent (args := [.int .i64 n, .int .i64 0]) TT_ok [] [] Try.func46 rfl Try.ntmps46 rfl rfl hv ?_
    intro b
    refine cl c_raise0 ?_
    exact rfl
  · rw [show numR (n, e) = .error e by rw [numR, if_neg he]]
    refine entR (args := [.int .i64 n, .int .i64 e]) (h0 := h0) (kp := fun ch => ch = ech e) TT_ok [] [] Try.func46 rfl Try.ntmps46 rfl rfl hv (fun ch w hk hw => ⟨by rw [hk], hw⟩) ?_
    intro b
    exact cP TT_ok (fun w _ => c_raiseX e he w)
theorem c_join (s t : List UInt8) (hs : s.length ≤ 1000000) (ht : t.length ≤ 1000000) (w0 : World) (h0 : View) (hv : VLe h0 (Full w0)) : Calls Try.prog 71 #[vs s, vs t] w0 (RetE w0 h0 (joinE s t)) := by
  by_cases he : 40 < s.length + t.length
  · rw [show joinE s t = .error 5 by rw [joinE, if_pos he]]
    refine entR (args := [vs s, vs t]) (h0 := h0) (kp := fun ch => ch = ech 5) TT_ok [] [] Try.func71 rfl Try.ntmps71 rfl rfl hv (fun ch w hk hw => ⟨by rw [hk], hw⟩) ?_
    intro b
    refine wi ?_
    refine cnd (fun h => ?_) (fun h => by exfalso; omega)
    exact cP TT_ok (fun w _ => c_raiseX 5 (by decide) w)
  · rw [show joinE s t = .ok ⟨2, 0, s ++ t⟩ by rw [joinE, if_neg he]]
    refine ent (args := [vs s, vs t]) TT_ok [] [] Try.func71 rfl Try.ntmps71 rfl rfl hv ?_
    intro b
    refine wi ?_
    refine cnd (fun h => by exfalso; omega) (fun h => ?_)
    refine ct ?_
    exact rfl
theorem RetE.ok {w0 : World} {h0 : View} {r : EV} {v : Val} {P : Program} {f : FuncId} {args : Array Value} (h : Calls P f args w0 (RetE w0 h0 r)) (e : r = .ok v) : Calls P f args w0 (Ret w0 h0 fun u _ => u = .agg (valC v).toArray) := by subst e; exact h
theorem RetE.err {w0 : World} {h0 : View} {r : EV} {x : Int} {P : Program} {f : FuncId} {args : Array Value} (h : Calls P f args w0 (RetE w0 h0 r)) (e : r = .error x) : Calls P f args w0 (Pan (ech x) w0) := by subst e; exact h
theorem niv_i (r : Int × Int) : niV r = .tuple #[.int .i64 r.1, .int .i64 r.2] := rfl
set_option maxHeartbeats 1000000 in
theorem c_reckon (op a b : Int) (ha : I64 a) (hb : I64 b) (w0 : World) (h0 : View) (hv : VLe h0 (Full w0)) : Calls Try.prog 72 #[.int .i64 op, .int .i64 a, .int .i64 b] w0 (RetE w0 h0 (reckE op a b)) := by
  cases hr : reckE op a b with
  | ok v =>
    refine ent (args := [.int .i64 op, .int .i64 a, .int .i64 b]) TT_ok [] [] Try.func72 rfl Try.ntmps72 rfl rfl hv ?_
    intro bb
    refine cnd (fun h => ?_) (fun h => ?_)
    · refine cl (c_EAdd a b ha hb) ?_
      refine cl (fun w hh hv => RetE.ok (c_number _ _ w hh hv) (by rw [← hr, reckE, reckR, if_pos h])) ?_
      exact rfl
    · refine cnd (fun h2 => ?_) (fun h2 => ?_)
      · refine cl (c_ESub a b ha hb) ?_
        refine cl (fun w hh hv => RetE.ok (c_number _ _ w hh hv) (by rw [← hr, reckE, reckR, if_neg h, if_pos h2])) ?_
        exact rfl
      · refine cnd (fun h3 => ?_) (fun h3 => ?_)
        · refine cl (c_EMul a b ha hb) ?_
          refine cl (fun w hh hv => RetE.ok (c_number _ _ w hh hv) (by rw [← hr, reckE, reckR, if_neg h, if_neg h2, if_pos h3])) ?_
          exact rfl
        · refine cl (c_EDiv a b ha hb) ?_
          refine cl (fun w hh hv => RetE.ok (c_number _ _ w hh hv) (by rw [← hr, reckE, reckR, if_neg h, if_neg h2, if_neg h3])) ?_
          exact rfl
  | error x =>
    refine entR (args := [.int .i64 op, .int .i64 a, .int .i64 b]) (h0 := h0) (kp := fun ch => ch = ech x) TT_ok [] [] Try.func72 rfl Try.ntmps72 rfl rfl hv (fun ch w hk hw => ⟨by rw [hk], hw⟩) ?_
    intro bb
    refine cnd (fun h => ?_) (fun h => ?_)
    · refine cl (c_EAdd a b ha hb) ?_
      exact cP TT_ok (fun w _ => RetE.err (c_number _ _ w _ (VLe.refl _)) (by rw [← hr, reckE, reckR, if_pos h]))
    · refine cnd (fun h2 => ?_) (fun h2 => ?_)
      · refine cl (c_ESub a b ha hb) ?_
        exact cP TT_ok (fun w _ => RetE.err (c_number _ _ w _ (VLe.refl _)) (by rw [← hr, reckE, reckR, if_neg h, if_pos h2]))
      · refine cnd (fun h3 => ?_) (fun h3 => ?_)
        · refine cl (c_EMul a b ha hb) ?_
          exact cP TT_ok (fun w _ => RetE.err (c_number _ _ w _ (VLe.refl _)) (by rw [← hr, reckE, reckR, if_neg h, if_neg h2, if_pos h3]))
        · refine cl (c_EDiv a b ha hb) ?_
          exact cP TT_ok (fun w _ => RetE.err (c_number _ _ w _ (VLe.refl _)) (by rw [← hr, reckE, reckR, if_neg h, if_neg h2, if_neg h3]))
theorem c_of_ok (k : Int) (ad : Option Addr) (cap : Nat) (l : List Val) (nl : Bool) (hr : ofG k l false = .ok nl) (hl : l.length ≤ 1000000) (w0 : World) (h0 : View) (hv : VLe h0 (Full w0)) (hb : SlC 25 3 (flatR valC) h0 (.slice ad l.length cap) l) :
    Calls Try.prog 45 #[.int .i64 k, .slice ad l.length cap] w0 (Ret w0 h0 fun u _ => u = .bool nl) := by
  refine ent (args := [.int .i64 k, .slice ad l.length cap]) TT_ok [] [] Try.func45 rfl Try.ntmps45 rfl rfl hv ?_
  refine w_loop TT_ok (fun x : Nat × Bool => [(9, .v (.int .i64 x.1)), (4, .v (.bool x.2))]) (0, false) (fun x => x.1 ≤ l.length ∧ ofG k (l.drop x.1) x.2 = .ok nl) (fun x => l.length - x.1) ?_
  refine And.intro ⟨⟨Nat.zero_le _, hr⟩, gs⟩ ?_
  rintro ⟨i, b⟩ ⟨hi, hg⟩
  dsimp only at hi hg ⊢
  refine cnd (fun h => ?_) (fun h => ?_)
  · have hi' : i < l.length := by omega
    refine ixs hb i v0 ?_
    intro b6
    refine cnd (fun h1 => ?_) (fun h1 => ?_)
    · refine wi ?_
      rw [of_here hi' h1] at hg
      exact ⟨(i + 1, b), ⟨⟨hi', hg⟩, (by show l.length - (i + 1) < l.length - i; omega)⟩, gs⟩
    · refine cnd (fun h2 => ?_) (fun h2 => ?_)
      · refine wi ?_
        rw [of_null hi' h1 h2] at hg
        exact ⟨(i + 1, true), ⟨⟨hi', hg⟩, (by show l.length - (i + 1) < l.length - i; omega)⟩, gs⟩
      · rw [of_bad hi' h1 h2] at hg; cases hg
  · have hi' : ¬ i < l.length := by omega
    rw [of_end hi'] at hg
    cases hg; exact rfl
theorem c_of_err (k : Int) (ad : Option Addr) (cap : Nat) (l : List Val) (x : Int) (hr : ofG k l false = .error x) (hl : l.length ≤ 1000000) (w0 : World) (h0 : View) (hv : VLe h0 (Full w0)) (hb : SlC 25 3 (flatR valC) h0 (.slice ad l.length cap) l) :
    Calls Try.prog 45 #[.int .i64 k, .slice ad l.length cap] w0 (Pan (ech x) w0) := by
  refine entR (args := [.int .i64 k, .slice ad l.length cap]) (h0 := h0) (kp := fun ch => ch = ech x) TT_ok [] [] Try.func45 rfl Try.ntmps45 rfl rfl hv (fun ch w hk hw => ⟨by rw [hk], hw⟩) ?_
  refine w_loop TT_ok (fun x : Nat × Bool => [(9, .v (.int .i64 x.1)), (4, .v (.bool x.2))]) (0, false) (fun y => y.1 ≤ l.length ∧ ofG k (l.drop y.1) y.2 = .error x) (fun x => l.length - x.1) ?_
  refine And.intro ⟨⟨Nat.zero_le _, hr⟩, gs⟩ ?_
  rintro ⟨i, b⟩ ⟨hi, hg⟩
  dsimp only at hi hg ⊢
  refine cnd (fun h => ?_) (fun h => ?_)
  · have hi' : i < l.length := by omega
    refine ixs hb i v0 ?_
    intro b6
    refine cnd (fun h1 => ?_) (fun h1 => ?_)
    · refine wi ?_
      rw [of_here hi' h1] at hg
      exact ⟨(i + 1, b), ⟨⟨hi', hg⟩, (by show l.length - (i + 1) < l.length - i; omega)⟩, gs⟩
    · refine cnd (fun h2 => ?_) (fun h2 => ?_)
      · refine wi ?_
        rw [of_null hi' h1 h2] at hg
        exact ⟨(i + 1, true), ⟨⟨hi', hg⟩, (by show l.length - (i + 1) < l.length - i; omega)⟩, gs⟩
      · have hx := of_err hg
        subst hx
        exact cP TT_ok (fun w _ => c_raiseX 14 (by decide) w)
  · have hi' : ¬ i < l.length := by omega
    rw [of_end hi'] at hg
    cases hg
theorem c_of (k : Int) (ad : Option Addr) (cap : Nat) (l : List Val) (hl : l.length ≤ 1000000) (w0 : World) (h0 : View) (hv : VLe h0 (Full w0)) (hb : SlC 25 3 (flatR valC) h0 (.slice ad l.length cap) l) :
    Calls Try.prog 45 #[.int .i64 k, .slice ad l.length cap] w0 (RetX ech (fun b : Bool => .bool b) w0 h0 (ofG k l false)) := by
  cases hr : ofG k l false with
  | ok nl => exact c_of_ok k ad cap l nl hr hl w0 h0 hv hb
  | error x => exact c_of_err k ad cap l x hr hl w0 h0 hv hb

end Go.Proofs.Ytokhjcpoapbfmaa
namespace Go.Proofs.Ytokhjcpoapbfmaa
open Go Go.Dx Go.RowKit
theorem slc_lm {α : Type} {T sz n cp : Nat} {f : View → List Value → α → Prop} {h : View} {ad : Option Addr} {l : List α} (hs : SlC T sz f h (.slice ad n cp) l) : l.length ≤ 9223372036854775807 := by
  obtain ⟨_, _, _, h1, h2⟩ := hs.parts
  simp only [maxLen] at h2
  omega
theorem c_plain (s : List UInt8) (w0 : World) (h0 : View) (hv : VLe h0 (Full w0)) : Calls Try.prog 41 #[vs s] w0 (Ret w0 h0 fun u _ => u = .bool (plainS s)) := by
  refine ent (args := [vs s]) TT_ok [] [] Try.func41 rfl Try.ntmps41 rfl rfl hv ?_
  refine cnd (fun h0 => ?_) (fun h0 => ?_)
  · exact congrArg Value.bool (plain_long (by omega)).symm
  refine rgS TT_ok 900 (fun b => ?_)
  refine w_loopB TT_ok (fun _ : Nat => []) (fun k => [(900, .e (some b, IterC s k))]) 0 (fun k => k ≤ s.length ∧ ∀ j, j < k → plB (s.getD j 0) = true) (fun k => s.length - k) ?_
  refine And.intro ⟨⟨Nat.zero_le _, fun j hj => absurd hj (Nat.not_lt_zero j)⟩, gs⟩ ?_
  intro k ⟨hk, hn⟩
  refine nxS TT_ok 900 (fun h => ?_) (fun h => ?_)
  · refine cndT rfl ?_
    refine cnd (fun h1 => ?_) (fun h1 => ?_)
    · exact congrArg Value.bool (plain_not (k := k) h (dec_bad h h1)).symm
    · obtain ⟨e1, e2⟩ := dec_plain (s := s) (k := k) h h1.1 h1.2
      refine ⟨k + 1, ⟨⟨by omega, fun j hj => ?_⟩, by omega⟩, gs (bl := by rw [e2]; rfl)⟩
      rcases Nat.lt_or_ge j k with h2 | h2
      · exact hn j h2
      · rw [show j = k by omega]; exact e1
  · refine cndF rfl ?_
    exact congrArg Value.bool (plain_all (by omega) (fun j hj => hn j (by omega))).symm
theorem eqV : EqT Try.prog 25 valC := EqT.of [(0, .i .i64), (1, .i .i64), (2, .s)] (by kernel_rfl) (by kernel_rfl) (by kernel_rfl) (by kernel_rfl)
  (fun a b s hs => by
    simp only [List.mem_cons, List.mem_nil_iff, or_false] at hs
    rcases hs with rfl | rfl | rfl
    · exact ⟨_, _, rfl, rfl, ⟨_, rfl⟩, ⟨_, rfl⟩⟩
    · exact ⟨_, _, rfl, rfl, ⟨_, rfl⟩, ⟨_, rfl⟩⟩
    · exact ⟨_, _, rfl, rfl, ⟨_, rfl⟩, ⟨_, rfl⟩⟩)
  (fun a b => by
    obtain ⟨k, n, s⟩ := a
    obtain ⟨k', n', s'⟩ := b
    simp [valC, eqC, vs, Bool.and_assoc])
theorem c_VCheck (v : Val) (hvb : valB v) (w0 : World) (h0 : View) (hv : VLe h0 (Full w0)) : Calls Try.prog 22 #[.agg (valC v).toArray] w0 (Ret w0 h0 fun u _ => u = .int .i64 (if valOk v then 0 else 2)) := by
  refine ent (args := [.agg (valC v).toArray]) TT_ok [] [11] Try.func22 rfl Try.ntmps22 rfl rfl hv ?_
  intro b1
  refine w_cut TT_ok (fun _ : Unit => [(3, .v (.bool (valOk v)))]) (fun _ => True) ?_
  refine And.intro ?_ ?_
  · refine cnd (fun h => ?_) (fun h => ?_)
    · refine aq eqV v v0 ?_
      exact ⟨(), trivial, gs (by rw [show valOk v = decide (v = v0) by obtain ⟨vk, vn, vt⟩ := v; simp at h; simp [valOk, v0, h]]; rfl)⟩
    refine cnd (fun h2 => ?_) (fun h2 => ?_)
    · exact ⟨(), trivial, gs (by rw [show valOk v = decide (v.s = []) by simp [valOk, h2]]; rfl)⟩
    refine cnd (fun h3 => ?_) (fun h3 => ?_)
    · refine clg (fun _ => c_plain v.s) ?_
      exact ⟨(), trivial, gs (by rw [show valOk v = (decide (v.n = 0) && plainS v.s) by simp [valOk, h3]]; rfl)⟩
    refine cnd (fun h4 => ?_) (fun h4 => ?_)
    · refine ew _ (fun _ => rfl) ?_
      have e := andnot1 (h := hvb.2) (hr := rfl)
      have e4 : valOk v = (decide (v.s = []) && decide (IntKind.i64.wrap ((BitVec.ofInt IntKind.i64.bits v.n &&& ~~~ BitVec.ofInt IntKind.i64.bits 1).toNat : Int) = 0)) := by
        rw [show decide (IntKind.i64.wrap ((BitVec.ofInt IntKind.i64.bits v.n &&& ~~~ BitVec.ofInt IntKind.i64.bits 1).toNat : Int) = 0) = decide (v.n = 0 ∨ v.n = 1) from decide_eq_decide.2 e]
        simp [valOk, h4]
      exact ⟨(), trivial, gs (by rw [e4]; rfl)⟩
    · exact ⟨(), trivial, gs (by rw [show valOk v = false by simp [valOk, h, h2, h3, h4]]; rfl)⟩
  · intro _ _
    refine cnd (fun h => ?_) (fun h => ?_)
    · show Value.int .i64 2 = _
      rw [if_neg (by rw [h]; decide)]
    · show Value.int .i64 0 = _
      rw [if_pos h]
theorem c_RPlain (s : List UInt8) (hs : s.length ≤ 9223372036854775807) (w0 : World) (h0 : View) (hv : VLe h0 (Full w0)) : Calls Try.prog 76 #[vs s] w0 (Ret w0 h0 fun u _ => u = .bool (plainS s)) := by
  refine ent (args := [vs s]) TT_ok [] [] Try.func76 rfl Try.ntmps76 rfl rfl hv ?_
  refine w_loop TT_ok (fun k : Nat => [(3, .v (.int .i64 k))]) 0 (fun k => k ≤ s.length ∧ ∀ j, j < k → plB (s.getD j 0) = true) (fun k => s.length - k) ?_
  refine And.intro ⟨⟨Nat.zero_le _, fun j hj => absurd hj (Nat.not_lt_zero j)⟩, gs⟩ ?_
  intro k ⟨hk, hn⟩
  refine cnd (fun h => ?_) (fun h => ?_)
  · refine ix k ?_
    refine ixg k ?_
    refine cnd (fun h1 => ?_) (fun h1 => ?_)
    · exact congrArg Value.bool (plain_no (k := k) (by omega) (by omega)).symm
    · refine wi ?_
      refine ⟨k + 1, ⟨⟨by omega, fun j hj => ?_⟩, by omega⟩, gs⟩
      rcases Nat.lt_or_ge j k with h2 | h2
      · exact hn j h2
      · rw [show j = k by omega]; exact pl_yes (by omega) (by omega)
  · exact congrArg Value.bool (plain_len s (fun j hj => hn j (by omega)))
theorem c_RRight (v : Val) (hs : v.s.length ≤ 9223372036854775807) (w0 : World) (h0 : View) (hv : VLe h0 (Full w0)) : Calls Try.prog 52 #[.agg (valC v).toArray] w0 (Ret w0 h0 fun u _ => u = .bool (valOk v)) := by
  refine ent (args := [.agg (valC v).toArray]) TT_ok [] [] Try.func52 rfl Try.ntmps52 rfl rfl hv ?_
  intro b1
  refine cnd (fun h => ?_) (fun h => ?_)
  · exact congrArg Value.bool (by simp [valOk, h])
  refine cnd (fun h2 => ?_) (fun h2 => ?_)
  · exact congrArg Value.bool (by simp [valOk, h2])
  refine cnd (fun h3 => ?_) (fun h3 => ?_)
  · refine clg (fun _ => c_RPlain v.s hs) ?_
    exact congrArg Value.bool (by simp [valOk, h3])
  refine cnd (fun h4 => ?_) (fun h4 => ?_)
  · exact congrArg Value.bool (by simp [valOk, h4])
  · exact congrArg Value.bool (by simp [valOk, h, h2, h3, h4])
theorem c_RRightRow (ad : Option Addr) (cap : Nat) (l : List Val) (hs : ∀ v ∈ l, v.s.length ≤ 9223372036854775807) (w0 : World) (h0 : View) (hv : VLe h0 (Full w0)) (hb : SlC 25 3 (flatR valC) h0 (.slice ad l.length cap) l) :
    Calls Try.prog 36 #[.slice ad l.length cap] w0 (Ret w0 h0 fun u _ => u = .bool (l.all valOk)) := by
  have hlm := slc_lm hb
  refine ent (args := [.slice ad l.length cap]) TT_ok [] [] Try.func36 rfl Try.ntmps36 rfl rfl hv ?_
  refine w_loop TT_ok (fun k : Nat => [(3, .v (.int .i64 k))]) 0 (fun k => k ≤ l.length ∧ ∀ j, j < k → valOk (l.getD j v0) = true) (fun k => l.length - k) ?_
  refine And.intro ⟨⟨Nat.zero_le _, fun j hj => absurd hj (Nat.not_lt_zero j)⟩, gs⟩ ?_
  intro k ⟨hk, hn⟩
  refine cnd (fun h => ?_) (fun h => ?_)
  · refine ixs hb k v0 ?_
    refine cl (c_RRight (l.getD k v0) (hs _ (getD_mem l k v0 (by omega)))) ?_
    refine cnd (fun h1 => ?_) (fun h1 => ?_)
    · exact congrArg Value.bool (all_not v0 (k := k) (by omega) h1).symm
    · refine wi ?_
      exact ⟨k + 1, ⟨⟨by omega, upto_snoc hn h1⟩, by omega⟩, gs⟩
  · exact congrArg Value.bool (all_upto v0 (fun j hj => hn j (by omega))).symm

end Go.Proofs.Ytokhjcpoapbfmaa
namespace Go.Proofs.Ytokhjcpoapbfmaa
open Go Go.Dx Go.RowKit
theorem c_kin_ok (a b : Val) (nl : Bool) (hr : ofG (kinK a b) [a, b] false = .ok nl) (w0 : World) (h0 : View) (hv : VLe h0 (Full w0)) :
    Calls Try.prog 73 #[.agg (valC a).toArray, .agg (valC b).toArray] w0 (Ret w0 h0 fun u _ => u = .int .i64 (kinK a b)) := by
  refine ent (args := [.agg (valC a).toArray, .agg (valC b).toArray]) TT_ok [] [4] Try.func73 rfl Try.ntmps73 rfl rfl hv ?_
  intro b1 b2
  refine w_cut TT_ok (fun _ : Unit => [(5, .v (.int .i64 (kinK a b)))]) (fun _ => True) ?_
  refine And.intro ?_ ?_
  · refine cnd (fun h => ?_) (fun h => ?_)
    · exact ⟨(), trivial, gs (by rw [kinK, if_pos h]; rfl)⟩
    · exact ⟨(), trivial, gs (by rw [kinK, if_neg h]; rfl)⟩
  · intro _ _
    intro b3
    refine co (fun w hS => c_of_ok (kinK a b) _ 2 [a, b] nl hr (by simp) w (Full w) (VLe.refl _) (hS.row (k := 15) (l := [a, b]) (g := valC) (hk := rfl) (hcs := rfl) (hc := Nat.le_refl 2))) ?_
    exact rfl
theorem c_kin_err (a b : Val) (x : Int) (hr : ofG (kinK a b) [a, b] false = .error x) (w0 : World) (h0 : View) (hv : VLe h0 (Full w0)) :
    Calls Try.prog 73 #[.agg (valC a).toArray, .agg (valC b).toArray] w0 (Pan (ech x) w0) := by
  refine entR (args := [.agg (valC a).toArray, .agg (valC b).toArray]) (h0 := h0) (kp := fun ch => ch = ech x) TT_ok [] [4] Try.func73 rfl Try.ntmps73 rfl rfl hv (fun ch w hk hw => ⟨by rw [hk], hw⟩) ?_
  intro b1 b2
  refine w_cut TT_ok (fun _ : Unit => [(5, .v (.int .i64 (kinK a b)))]) (fun _ => True) ?_
  refine And.intro ?_ ?_
  · refine cnd (fun h => ?_) (fun h => ?_)
    · exact ⟨(), trivial, gs (by rw [kinK, if_pos h]; rfl)⟩
    · exact ⟨(), trivial, gs (by rw [kinK, if_neg h]; rfl)⟩
  · intro _ _
    intro b3
    exact cPo TT_ok (fun w hS => c_of_err (kinK a b) _ 2 [a, b] x hr (by simp) w (Full w) (VLe.refl _) (hS.row (k := 15) (l := [a, b]) (g := valC) (hk := rfl) (hcs := rfl) (hc := Nat.le_refl 2)))
set_option maxHeartbeats 1000000 in
theorem c_sums (op : Int) (a b : Val) (ha : I64 a.n) (hb : I64 b.n) (hsa : a.s.length ≤ 1000000) (hsb : b.s.length ≤ 1000000) (w0 : World) (h0 : View) (hv : VLe h0 (Full w0)) :
    Calls Try.prog 48 #[.int .i64 op, .agg (valC a).toArray, .agg (valC b).toArray] w0 (RetE w0 h0 (sumsE op a b)) := by
  cases hr : sumsE op a b with
  | ok v =>
    refine ent (args := [.int .i64 op, .agg (valC a).toArray, .agg (valC b).toArray]) TT_ok [] [5] Try.func48 rfl Try.ntmps48 rfl rfl hv ?_
    intro b1 b2 b3
    refine w_cut TT_ok (fun _ : Unit => [(8, .v (.int .i64 (sumK op a b))), (7, .v (.bool (txtQ op a b)))]) (fun _ => True) ?_
    refine And.intro ?_ ?_
    · refine cnd (fun h => ?_) (fun h => ?_)
      · have hq : txtQ op a b = true := by simp only [txtQ, Bool.and_eq_true, Bool.or_eq_true, decide_eq_true_eq]; exact h
        exact ⟨(), trivial, gs (by rw [sumK, if_pos hq]; rfl)⟩
      · have hq : ¬ txtQ op a b = true := by simp only [txtQ, Bool.and_eq_true, Bool.or_eq_true, decide_eq_true_eq]; omega
        exact ⟨(), trivial, gs (by rw [sumK, if_neg hq]; rfl)⟩
    · intro _ _
      intro b4
      cases hof : ofG (sumK op a b) [a, b] false with
      | error x => rw [sumsE, hof] at hr; cases hr
      | ok nl =>
        refine co (fun w hS => c_of_ok (sumK op a b) _ 2 [a, b] nl hof (by simp) w (Full w) (VLe.refl _) (hS.row (k := 26) (l := [a, b]) (g := valC) (hk := rfl) (hcs := rfl) (hc := Nat.le_refl 2))) ?_
        rw [sumsE, hof] at hr
        cases nl
        · refine cnd (fun h => h.elim) (fun _ => ?_)
          simp only at hr
          refine cnd (fun h => ?_) (fun h => ?_)
          · rw [if_pos h] at hr
            refine cl (fun w hh hv => RetE.ok (c_join a.s b.s hsa hsb w hh hv) hr) ?_
            exact rfl
          · rw [if_neg (by rw [h]; decide)] at hr
            refine cl (fun w hh hv => RetE.ok (c_reckon op a.n b.n ha hb w hh hv) hr) ?_
            exact rfl
        · refine cnd (fun _ => ?_) (fun h => h.elim)
          cases hr; exact rfl
  | error x =>
    refine entR (args := [.int .i64 op, .agg (valC a).toArray, .agg (valC b).toArray]) (h0 := h0) (kp := fun ch => ch = ech x) TT_ok [] [5] Try.func48 rfl Try.ntmps48 rfl rfl hv (fun ch w hk hw => ⟨by rw [hk], hw⟩) ?_
    intro b1 b2 b3
    refine w_cut TT_ok (fun _ : Unit => [(8, .v (.int .i64 (sumK op a b))), (7, .v (.bool (txtQ op a b)))]) (fun _ => True) ?_
    refine And.intro ?_ ?_
    · refine cnd (fun h => ?_) (fun h => ?_)
      · have hq : txtQ op a b = true := by simp only [txtQ, Bool.and_eq_true, Bool.or_eq_true, decide_eq_true_eq]; exact h
        exact ⟨(), trivial, gs (by rw [sumK, if_pos hq]; rfl)⟩
      · have hq : ¬ txtQ op a b = true := by simp only [txtQ, Bool.and_eq_true, Bool.or_eq_true, decide_eq_true_eq]; omega
        exact ⟨(), trivial, gs (by rw [sumK, if_neg hq]; rfl)⟩
    · intro _ _
      intro b4
      cases hof : ofG (sumK op a b) [a, b] false with
      | error y =>
        rw [sumsE, hof] at hr
        cases hr
        exact cPo TT_ok (fun w hS => c_of_err (sumK op a b) _ 2 [a, b] x hof (by simp) w (Full w) (VLe.refl _) (hS.row (k := 26) (l := [a, b]) (g := valC) (hk := rfl) (hcs := rfl) (hc := Nat.le_refl 2)))
      | ok nl =>
        refine co (fun w hS => c_of_ok (sumK op a b) _ 2 [a, b] nl hof (by simp) w (Full w) (VLe.refl _) (hS.row (k := 26) (l := [a, b]) (g := valC) (hk := rfl) (hcs := rfl) (hc := Nat.le_refl 2))) ?_
        rw [sumsE, hof] at hr
        cases nl
        · refine cnd (fun h => h.elim) (fun _ => ?_)
          simp only at hr
          refine cnd (fun h => ?_) (fun h => ?_)
          · rw [if_pos h] at hr
            exact cP TT_ok (fun w _ => RetE.err (c_join a.s b.s hsa hsb w _ (VLe.refl _)) hr)
          · rw [if_neg (by rw [h]; decide)] at hr
            exact cP TT_ok (fun w _ => RetE.err (c_reckon op a.n b.n ha hb w _ (VLe.refl _)) hr)
        · cases hr
theorem c_truths_ok (op : Int) (a b v : Val) (hr : trusE op a b = .ok v) (w0 : World) (h0 : View) (hv : VLe h0 (Full w0)) :
    Calls Try.prog 49 #[.int .i64 op, .agg (valC a).toArray, .agg (valC b).toArray] w0 (Ret w0 h0 fun u _ => u = .agg (valC v).toArray) := by
  refine ent (args := [.int .i64 op, .agg (valC a).toArray, .agg (valC b).toArray]) TT_ok [] [] Try.func49 rfl Try.ntmps49 rfl rfl hv ?_
  intro b1 b2 b3 b4
  cases hof : ofG 3 [a, b] false with
  | error x => rw [trusE, hof] at hr; cases hr
  | ok nl =>
    rw [trusE, hof] at hr
    simp only at hr
    refine co (fun w hS => c_of_ok 3 _ 2 [a, b] nl hof (by simp) w (Full w) (VLe.refl _) (hS.row (k := 11) (l := [a, b]) (g := valC) (hk := rfl) (hcs := rfl) (hc := Nat.le_refl 2))) ?_
    refine cl (c_truth (decide (op = 15))) ?_
    intro b5
    refine aq eqV a (truV (decide (op = 15))) ?_
    refine aqg eqV b (truV (decide (op = 15))) ?_
    refine cnd (fun h => ?_) (fun h => ?_)
    · rw [if_pos h] at hr
      cases hr; exact rfl
    · rw [if_neg (fun hh => hh.elim h.1 h.2)] at hr
      refine cnd (fun h2 => ?_) (fun h2 => ?_)
      · rw [if_pos h2] at hr
        cases hr; exact rfl
      · rw [if_neg (by rw [h2]; decide)] at hr
        refine cl (c_truth (decide (op = 14))) ?_
        cases hr; exact rfl
theorem c_truths_err (op : Int) (a b : Val) (x : Int) (hr : trusE op a b = .error x) (w0 : World) (h0 : View) (hv : VLe h0 (Full w0)) :
    Calls Try.prog 49 #[.int .i64 op, .agg (valC a).toArray, .agg (valC b).toArray] w0 (Pan (ech x) w0) := by
  refine entR (args := [.int .i64 op, .agg (valC a).toArray, .agg (valC b).toArray]) (h0 := h0) (kp := fun ch => ch = ech x) TT_ok [] [] Try.func49 rfl Try.ntmps49 rfl rfl hv (fun ch w hk hw => ⟨by rw [hk], hw⟩) ?_
  intro b1 b2 b3 b4
  cases hof : ofG 3 [a, b] false with
  | error y =>
    rw [trusE, hof] at hr
    cases hr
    exact cPo TT_ok (fun w hS => c_of_err 3 _ 2 [a, b] x hof (by simp) w (Full w) (VLe.refl _) (hS.row (k := 11) (l := [a, b]) (g := valC) (hk := rfl) (hcs := rfl) (hc := Nat.le_refl 2)))
  | ok nl =>
    rw [trusE, hof] at hr
    simp only at hr
    split at hr
    · cases hr
    · split at hr <;> cases hr

end Go.Proofs.Ytokhjcpoapbfmaa
namespace Go.Proofs.Ytokhjcpoapbfmaa
open Go Go.Dx Go.RowKit
theorem c_NaNK (x : Int) (w0 : World) (h0 : View) (hv : VLe h0 (Full w0)) : Calls Try.prog 101 #[.int .i64 x] w0 (Ret w0 h0 fun u _ => u = .bool false) := by
  refine ent (args := [.int .i64 x]) TT_ok [] [] Try.func101 rfl Try.ntmps101 rfl rfl hv ?_
  show Value.bool _ = _
  simp
theorem c_NaNI (x : Int) (w0 : World) (h0 : View) (hv : VLe h0 (Full w0)) : Calls Try.prog 102 #[.int .i64 x] w0 (Ret w0 h0 fun u _ => u = .bool false) := by
  refine ent (args := [.int .i64 x]) TT_ok [] [] Try.func102 rfl Try.ntmps102 rfl rfl hv ?_
  show Value.bool _ = _
  simp
theorem c_CmpK (x y : Int) (w0 : World) (h0 : View) (hv : VLe h0 (Full w0)) : Calls Try.prog 90 #[.int .i64 x, .int .i64 y] w0 (Ret w0 h0 fun u _ => u = .int .i64 (cmpI x y)) := by
  refine ent (args := [.int .i64 x, .int .i64 y]) TT_ok [] [] Try.func90 rfl Try.ntmps90 rfl rfl hv ?_
  refine cl (c_NaNK x) ?_
  refine cl (c_NaNK y) ?_
  refine cndF rfl ?_
  refine cndF rfl ?_
  refine cnd (fun h => ?_) (fun h => ?_)
  · rw [cmpI, if_pos h]; exact rfl
  · refine cnd (fun h2 => ?_) (fun h2 => ?_)
    · rw [cmpI, if_neg h, if_pos h2]; exact rfl
    · rw [cmpI, if_neg h, if_neg h2]; exact rfl
theorem c_CmpI (x y : Int) (w0 : World) (h0 : View) (hv : VLe h0 (Full w0)) : Calls Try.prog 91 #[.int .i64 x, .int .i64 y] w0 (Ret w0 h0 fun u _ => u = .int .i64 (cmpI x y)) := by
  refine ent (args := [.int .i64 x, .int .i64 y]) TT_ok [] [] Try.func91 rfl Try.ntmps91 rfl rfl hv ?_
  refine cl (c_NaNI x) ?_
  refine cl (c_NaNI y) ?_
  refine cndF rfl ?_
  refine cndF rfl ?_
  refine cnd (fun h => ?_) (fun h => ?_)
  · rw [cmpI, if_pos h]; exact rfl
  · refine cnd (fun h2 => ?_) (fun h2 => ?_)
    · rw [cmpI, if_neg h, if_pos h2]; exact rfl
    · rw [cmpI, if_neg h, if_neg h2]; exact rfl
theorem c_Or (ad : Option Addr) (cap : Nat) (l : List Int) (hl : l.length ≤ 1000000) (w0 : World) (h0 : View) (hv : VLe h0 (Full w0)) (hb : SlC 3 1 (flatR fun n => [Value.int .i64 n]) h0 (.slice ad l.length cap) l) :
    Calls Try.prog 89 #[.slice ad l.length cap] w0 (Ret w0 h0 fun u _ => u = .int .i64 (orI l)) := by
  refine ent (args := [.slice ad l.length cap]) TT_ok [] [] Try.func89 rfl Try.ntmps89 rfl rfl hv ?_
  refine w_loop TT_ok (fun k : Nat => [(8, .v (.int .i64 k))]) 0 (fun k => k ≤ l.length ∧ ∀ j, j < k → l.getD j 0 = 0) (fun k => l.length - k) ?_
  refine And.intro ⟨⟨Nat.zero_le _, fun j h => absurd h (Nat.not_lt_zero _)⟩, gs⟩ ?_
  intro k ⟨hk, hz⟩
  refine cnd (fun h => ?_) (fun h => ?_)
  · have hk' : k < l.length := by omega
    refine ixs hb k 0 ?_
    refine cnd (fun h1 => ?_) (fun h1 => ?_)
    · rw [orI_hit l k hk' hz h1]; exact rfl
    · refine wi ?_
      exact ⟨k + 1, ⟨⟨hk', upto_snoc hz (by omega)⟩, by omega⟩, gs⟩
  · rw [orI_none l (fun j hj => hz j (by omega))]; exact rfl
theorem c_sCmp (s t : List UInt8) (w0 : World) (h0 : View) (hv : VLe h0 (Full w0)) : Calls Try.prog 92 #[vs s, vs t] w0 (Ret w0 h0 fun u _ => u = .int .i64 (Lib.compareBytes s t)) := by
  have := calls_same (h := h0) (Try.strings_Compare ⟨s.toArray⟩ ⟨t.toArray⟩ w0)
  simpa using this
theorem c_OrRow (b : Nat) (x y z : Int) (w : World) (hb : w.heap[b]? = some (.cells #[.int .i64 x, .int .i64 y, .int .i64 z] 3 (0, 0))) :
    Calls Try.prog 89 #[.slice (some ⟨b, 0, none⟩) 3 3] w (Ret w (Full w) fun u _ => u = .int .i64 (orI [x, y, z])) :=
  c_Or _ _ [x, y, z] (by simp) w (Full w) (VLe.refl _) (SlC.ofRow (f := fun n => [Value.int .i64 n]) (fun _ _ => rfl) (h := Full w) hb rfl (Nat.le_refl 3) (by decide) rfl)
theorem c_VCompare (a b : Val) (w0 : World) (h0 : View) (hv : VLe h0 (Full w0)) : Calls Try.prog 74 #[.agg (valC a).toArray, .agg (valC b).toArray] w0 (Ret w0 h0 fun u _ => u = .int .i64 (cmpV a b)) := by
  refine ent (args := [.agg (valC a).toArray, .agg (valC b).toArray]) TT_ok [] [] Try.func74 rfl Try.ntmps74 rfl rfl hv ?_
  intro b1 b2
  refine And.intro (by kernel_rfl) ?_
  refine cl (c_CmpK a.k b.k) ?_
  refine cl (c_CmpI a.n b.n) ?_
  refine cl (c_sCmp a.s b.s) ?_
  refine ⟨_, fun w b hS hb => ⟨Full w, c_OrRow b _ _ _ w hb⟩, ?_⟩
  rw [orI_three]; exact rfl

end Go.Proofs.Ytokhjcpoapbfmaa
namespace Go.Proofs.Ytokhjcpoapbfmaa
open Go Go.Dx Go.RowKit
set_option maxHeartbeats 1000000 in
theorem c_compares_ok (op : Int) (a b v : Val) (hr : cmpE op a b = .ok v) (w0 : World) (h0 : View) (hv : VLe h0 (Full w0)) :
    Calls Try.prog 50 #[.int .i64 op, .agg (valC a).toArray, .agg (valC b).toArray] w0 (Ret w0 h0 fun u _ => u = .agg (valC v).toArray) := by
  cases hof : ofG (kinK a b) [a, b] false with
  | error x => rw [cmpE, hof] at hr; cases hr
  | ok nl =>
    rw [cmpE, hof] at hr
    simp only at hr
    refine ent (args := [.int .i64 op, .agg (valC a).toArray, .agg (valC b).toArray]) TT_ok [] [] Try.func50 rfl Try.ntmps50 rfl rfl hv ?_
    intro b1 b2 b3
    refine cl (c_kin_ok a b nl hof) ?_
    refine cnd (fun h => ?_) (fun h => ?_)
    · rw [if_pos h] at hr
      refine aq eqV a b ?_
      refine cl (c_truth (decide (a = b))) ?_
      cases hr; exact rfl
    · rw [if_neg h] at hr
      refine cnd (fun h2 => ?_) (fun h2 => ?_)
      · rw [if_pos h2] at hr
        refine aq eqV a b ?_
        refine cl (c_truth (!decide (a = b))) ?_
        cases hr; exact rfl
      · rw [if_neg h2] at hr
        refine cnd (fun h3 => ?_) (fun h3 => ?_)
        · rw [if_pos h3] at hr; cases hr
        · rw [if_neg h3] at hr
          refine cnd (fun h4 => ?_) (fun h4 => ?_)
          · rw [if_pos h4] at hr; cases hr; exact rfl
          · rw [if_neg (fun hh => hh.elim h4.1 h4.2)] at hr
            refine cl (c_VCompare a b) ?_
            refine cnd (fun h5 => ?_) (fun h5 => ?_)
            · rw [if_pos h5] at hr
              refine cl (c_truth (decide (cmpV a b < 0))) ?_
              cases hr; exact rfl
            · rw [if_neg h5] at hr
              refine cnd (fun h6 => ?_) (fun h6 => ?_)
              · rw [if_pos h6] at hr
                refine cl (c_truth (decide (cmpV a b ≤ 0))) ?_
                cases hr; exact rfl
              · rw [if_neg h6] at hr
                refine cnd (fun h7 => ?_) (fun h7 => ?_)
                · rw [if_pos h7] at hr
                  refine cl (c_truth (decide (0 < cmpV a b))) ?_
                  cases hr; exact rfl
                · rw [if_neg h7] at hr
                  refine cl (c_truth (decide (0 ≤ cmpV a b))) ?_
                  cases hr; exact rfl
set_option maxHeartbeats 1000000 in
theorem c_compares_err (op : Int) (a b : Val) (x : Int) (hr : cmpE op a b = .error x) (w0 : World) (h0 : View) (hv : VLe h0 (Full w0)) :
    Calls Try.prog 50 #[.int .i64 op, .agg (valC a).toArray, .agg (valC b).toArray] w0 (Pan (ech x) w0) := by
  refine entR (args := [.int .i64 op, .agg (valC a).toArray, .agg (valC b).toArray]) (h0 := h0) (kp := fun ch => ch = ech x) TT_ok [] [] Try.func50 rfl Try.ntmps50 rfl rfl hv (fun ch w hk hw => ⟨by rw [hk], hw⟩) ?_
  intro b1 b2 b3
  cases hof : ofG (kinK a b) [a, b] false with
  | error y =>
    rw [cmpE, hof] at hr
    cases hr
    exact cP TT_ok (fun w _ => c_kin_err a b x hof w _ (VLe.refl _))
  | ok nl =>
    rw [cmpE, hof] at hr
    simp only at hr
    refine cl (c_kin_ok a b nl hof) ?_
    refine cnd (fun h => ?_) (fun h => ?_)
    · rw [if_pos h] at hr; cases hr
    · rw [if_neg h] at hr
      refine cnd (fun h2 => ?_) (fun h2 => ?_)
      · rw [if_pos h2] at hr; cases hr
      · rw [if_neg h2] at hr
        refine cnd (fun h3 => ?_) (fun h3 => ?_)
        · rw [if_pos h3] at hr
          cases hr
          exact cP TT_ok (fun w _ => c_raiseX 14 (by decide) w)
        · rw [if_neg h3] at hr
          exfalso
          split at hr
          · cases hr
          · split at hr
            · cases hr
            · split at hr
              · cases hr
              · split at hr <;> cases hr
theorem c_sums_ok {op : Int} {a b v : Val} (ha : I64 a.n) (hb : I64 b.n) (hsa : a.s.length ≤ 1000000) (hsb : b.s.length ≤ 1000000) (hr : sumsE op a b = .ok v) (w0 : World) (h0 : View) (hv : VLe h0 (Full w0)) :
    Calls Try.prog 48 #[.int .i64 op, .agg (valC a).toArray, .agg (valC b).toArray] w0 (Ret w0 h0 fun u _ => u = .agg (valC v).toArray) := RetE.ok (c_sums op a b ha hb hsa hsb w0 h0 hv) hr
theorem c_sums_err {op : Int} {a b : Val} {x : Int} (ha : I64 a.n) (hb : I64 b.n) (hsa : a.s.length ≤ 1000000) (hsb : b.s.length ≤ 1000000) (hr : sumsE op a b = .error x) (w0 : World) (h0 : View) (hv : VLe h0 (Full w0)) :
    Calls Try.prog 48 #[.int .i64 op, .agg (valC a).toArray, .agg (valC b).toArray] w0 (Pan (ech x) w0) := RetE.err (c_sums op a b ha hb hsa hsb w0 h0 hv) hr

end Go.Proofs.Ytokhjcpoapbfmaa
namespace Go.Proofs.Ytokhjcpoapbfmaa
open Go Go.Dx Go.RowKit
theorem name_here {s : List UInt8} {l : List Col} {row : List Val} {i : Nat} (h : i < l.length) (h2 : i < row.length) (h1 : (l.getD i c0).name = s) : nameG s (l.drop i) (row.drop i) = .ok (row.getD i v0) := by
  rw [List.drop_eq_getElem_cons h, List.drop_eq_getElem_cons h2, ← getD_lt l i c0 h, ← getD_lt row i v0 h2, nameG, if_pos h1]
theorem name_next {s : List UInt8} {l : List Col} {row : List Val} {i : Nat} (h : i < l.length) (h2 : i < row.length) (h1 : ¬ (l.getD i c0).name = s) : nameG s (l.drop i) (row.drop i) = nameG s (l.drop (i + 1)) (row.drop (i + 1)) := by
  rw [List.drop_eq_getElem_cons h, List.drop_eq_getElem_cons h2, ← getD_lt l i c0 h, nameG, if_neg h1]
theorem name_end {s : List UInt8} {l : List Col} {row : List Val} {i : Nat} (h : ¬ i < l.length) : nameG s (l.drop i) (row.drop i) = .error 13 := by
  rw [List.drop_of_length_le (l := l) (by omega)]; cases row.drop i <;> rfl
def scC (ad : Option Addr) (n cap : Nat) (ad2 : Option Addr) (n2 cap2 : Nat) : List Value := [.slice ad n cap, .slice ad2 n2 cap2]
theorem c_name_ok (ad : Option Addr) (cap : Nat) (l : List Col) (ad2 : Option Addr) (cap2 : Nat) (row : List Val) (s : List UInt8) (v : Val) (hlr : l.length = row.length) (hr : nameG s l row = .ok v) (hl : l.length ≤ 1000000) (w0 : World) (h0 : View) (hv : VLe h0 (Full w0))
    (hb : SlC 47 3 (flatR colC) h0 (.slice ad l.length cap) l) (hb2 : SlC 25 3 (flatR valC) h0 (.slice ad2 row.length cap2) row) :
    Calls Try.prog 44 #[.agg (scC ad l.length cap ad2 row.length cap2).toArray, vs s] w0 (Ret w0 h0 fun u _ => u = .agg (valC v).toArray) := by
  refine ent (args := [.agg (scC ad l.length cap ad2 row.length cap2).toArray, vs s]) TT_ok [] [] Try.func44 rfl Try.ntmps44 rfl rfl hv ?_
  intro b1 b2
  refine w_loop TT_ok (fun k : Nat => [(10, .v (.int .i64 k))]) 0 (fun k => k ≤ l.length ∧ nameG s (l.drop k) (row.drop k) = .ok v) (fun k => l.length - k) ?_
  refine And.intro ⟨⟨Nat.zero_le _, hr⟩, gs⟩ ?_
  intro k ⟨hk, hg⟩
  refine cnd (fun h => ?_) (fun h => ?_)
  · have hk' : k < l.length := by omega
    refine ixs hb k c0 ?_
    intro b3
    refine cnd (fun h1 => ?_) (fun h1 => ?_)
    · rw [name_here hk' (by omega) h1] at hg
      refine ixs hb2 k v0 ?_
      cases hg; exact rfl
    · rw [name_next hk' (by omega) h1] at hg
      refine wi ?_
      exact ⟨k + 1, ⟨⟨hk', hg⟩, by omega⟩, gs⟩
  · rw [name_end (by omega)] at hg; cases hg
theorem c_name_err (ad : Option Addr) (cap : Nat) (l : List Col) (ad2 : Option Addr) (cap2 : Nat) (row : List Val) (s : List UInt8) (x : Int) (hlr : l.length = row.length) (hr : nameG s l row = .error x) (hl : l.length ≤ 1000000) (w0 : World) (h0 : View) (hv : VLe h0 (Full w0))
    (hb : SlC 47 3 (flatR colC) h0 (.slice ad l.length cap) l) (hb2 : SlC 25 3 (flatR valC) h0 (.slice ad2 row.length cap2) row) :
    Calls Try.prog 44 #[.agg (scC ad l.length cap ad2 row.length cap2).toArray, vs s] w0 (Pan (ech x) w0) := by
  refine entR (args := [.agg (scC ad l.length cap ad2 row.length cap2).toArray, vs s]) (h0 := h0) (kp := fun ch => ch = ech x) TT_ok [] [] Try.func44 rfl Try.ntmps44 rfl rfl hv (fun ch w hk hw => ⟨by rw [hk], hw⟩) ?_
  intro b1 b2
  refine w_loop TT_ok (fun k : Nat => [(10, .v (.int .i64 k))]) 0 (fun k => k ≤ l.length ∧ nameG s (l.drop k) (row.drop k) = .error x) (fun k => l.length - k) ?_
  refine And.intro ⟨⟨Nat.zero_le _, hr⟩, gs⟩ ?_
  intro k ⟨hk, hg⟩
  refine cnd (fun h => ?_) (fun h => ?_)
  · have hk' : k < l.length := by omega
    refine ixs hb k c0 ?_
    intro b3
    refine cnd (fun h1 => ?_) (fun h1 => ?_)
    · rw [name_here hk' (by omega) h1] at hg; cases hg
    · rw [name_next hk' (by omega) h1] at hg
      refine wi ?_
      exact ⟨k + 1, ⟨⟨hk', hg⟩, by omega⟩, gs⟩
  · rw [name_end (by omega)] at hg
    cases hg
    exact cP TT_ok (fun w _ => c_raiseX 13 (by decide) w)

end Go.Proofs.Ytokhjcpoapbfmaa
namespace Go.Proofs.Ytokhjcpoapbfmaa
open Go Go.Dx Go.RowKit
theorem c_letter (b : UInt8) (w0 : World) (h0 : View) (hv : VLe h0 (Full w0)) : Calls Try.prog 97 #[v8 b] w0 (Ret w0 h0 fun u _ => u = .bool (isLet b)) := by
  refine ent (args := [v8 b]) TT_ok [] [] Try.func97 rfl Try.ntmps97 rfl rfl hv ?_
  refine ew (low b) rfl ?_
  refine ew (low b) (fun _ => rfl) ?_
  exact rfl
theorem c_digit (b : UInt8) (w0 : World) (h0 : View) (hv : VLe h0 (Full w0)) : Calls Try.prog 100 #[v8 b] w0 (Ret w0 h0 fun u _ => u = .bool (isDig b)) := by
  refine ent (args := [v8 b]) TT_ok [] [] Try.func100 rfl Try.ntmps100 rfl rfl hv ?_
  exact rfl
set_option maxRecDepth 100000 in
theorem c_Rletter' (b : UInt8) (w0 : World) (h0 : View) (hv : VLe h0 (Full w0)) : Calls Try.prog 93 #[v8 b] w0 (Ret w0 h0 fun u _ => u = .bool (decide (97 ≤ (b.toNat : Int)) && decide ((b.toNat : Int) ≤ 122) || decide (65 ≤ (b.toNat : Int)) && decide ((b.toNat : Int) ≤ 90) || decide ((b.toNat : Int) = 95))) := by
  refine ent (args := [v8 b]) TT_ok [] [] Try.func93 rfl Try.ntmps93 rfl rfl hv ?_
  exact rfl
theorem c_Rletter (b : UInt8) (w0 : World) (h0 : View) (hv : VLe h0 (Full w0)) : Calls Try.prog 93 #[v8 b] w0 (Ret w0 h0 fun u _ => u = .bool (isLet b)) := by
  have := c_Rletter' b w0 h0 hv
  rw [← isLet_ref] at this
  exact this
theorem c_Rdigit (b : UInt8) (w0 : World) (h0 : View) (hv : VLe h0 (Full w0)) : Calls Try.prog 94 #[v8 b] w0 (Ret w0 h0 fun u _ => u = .bool (isDig b)) := by
  refine ent (args := [v8 b]) TT_ok [] [] Try.func94 rfl Try.ntmps94 rfl rfl hv ?_
  exact rfl
theorem c_word1 (b : UInt8) (w0 : World) (h0 : View) (hv : VLe h0 (Full w0)) : Calls Try.prog 99 #[v8 b] w0 (Ret w0 h0 fun u _ => u = .bool (isWord b)) := by
  refine ent (args := [v8 b]) TT_ok [] [] Try.func99 rfl Try.ntmps99 rfl rfl hv ?_
  refine cl (c_letter b) ?_
  refine clg (fun _ => c_digit b) ?_
  exact rfl
theorem all_snocW {p : UInt8 → Bool} {s : List UInt8} {k : Nat} (hk : k < s.length) (ha : (s.take k).all p = true) (h : p (s.getD k 0) = true) : (s.take (k + 1)).all p = true := by
  rw [take_snocD s k 0 hk, List.all_append, ha]; simp only [List.all_cons, h, List.all_nil, Bool.and_self]
theorem c_runW (s : List UInt8) (hs : s.length ≤ 1000000) (w0 : World) (h0 : View) (hv : VLe h0 (Full w0)) : Calls Try.prog 98 #[vs s, .func (.func 99) #[] #[]] w0 (Ret w0 h0 fun u _ => u = .int .i64 ((s.takeWhile isWord).length : Nat)) := by
  refine ent (args := [vs s, .func (.func 99) #[] #[]]) TT_ok [] [] Try.func98 rfl Try.ntmps98 rfl rfl hv ?_
  refine w_loop TT_ok (fun k : Nat => [(8, .v (.int .i64 k))]) 0 (fun k => k ≤ s.length ∧ (s.take k).all isWord = true) (fun k => s.length - k) ?_
  refine And.intro ⟨⟨Nat.zero_le _, by simp⟩, gs⟩ ?_
  intro k ⟨hk, ha⟩
  refine cnd (fun h => ?_) (fun h => ?_)
  · refine ix k ?_
    refine cl (c_word1 (s.getD k 0)) ?_
    refine cnd (fun h1 => ?_) (fun h1 => ?_)
    · show Value.int .i64 (k : Int) = _
      rw [tw_len isWord s k ha hk (.inr h1)]
    · refine wi ?_
      exact ⟨k + 1, ⟨⟨by omega, all_snocW (by omega) ha h1⟩, by omega⟩, gs⟩
  · show Value.int .i64 (s.length : Int) = _
    rw [tw_len isWord s k ha hk (.inl (by omega))]
    rw [show k = s.length by omega]
theorem word_emp {s : List UInt8} (h : s = [] ∨ isLet (s.getD 0 0) = false) : wordN s = 0 := wordN_zero s h
theorem c_word (s : List UInt8) (hs : s.length ≤ 1000000) (w0 : World) (h0 : View) (hv : VLe h0 (Full w0)) : Calls Try.prog 86 #[vs s] w0 (Ret w0 h0 fun u _ => u = .int .i64 (wordN s : Nat)) := by
  refine ent (args := [vs s]) TT_ok [] [] Try.func86 rfl Try.ntmps86 rfl rfl hv ?_
  refine ixg 0 ?_ (fun h => ⟨rfl, by rcases s with _ | ⟨b, s⟩ <;> simp_all⟩)
  refine clg (fun _ => c_letter (s.getD 0 0)) ?_
  refine cnd (fun h => ?_) (fun h => ?_)
  · show Value.int .i64 0 = _
    rw [wordN_zero s h]; rfl
  · refine cl (c_runW s hs) ?_
    show Value.int .i64 _ = _
    rw [wordN_pos s h.1 h.2]
theorem c_reserved (s : List UInt8) (w0 : World) (h0 : View) (hv : VLe h0 (Full w0)) : Calls Try.prog 87 #[vs s] w0 (Ret w0 h0 fun u _ => u = .bool (resS s)) := by
  refine ent (args := [vs s]) TT_ok [] [11] Try.func87 rfl Try.ntmps87 rfl rfl hv ?_
  refine w_cut TT_ok (fun _ : Unit => [(4, .v (.bool (resS s)))]) (fun _ => True) ?_
  refine And.intro ?_ ?_
  · repeat (refine cnd (fun h => ⟨(), trivial, gs (by subst h; rfl)⟩) (fun h => ?_))
    exact ⟨(), trivial, gs (by rw [show resS s = decide (s = [110, 117, 108, 108]) by simp_all [resS, resvL]]; rfl)⟩
  · intro _ _
    refine cnd (fun h => ?_) (fun h => ?_)
    · exact congrArg Value.bool h.symm
    · exact congrArg Value.bool h.symm
theorem c_Name (s : List UInt8) (hs : s.length ≤ 1000000) (w0 : World) (h0 : View) (hv : VLe h0 (Full w0)) : Calls Try.prog 67 #[vs s] w0 (Ret w0 h0 fun u _ => u = .bool (nameOk s)) := by
  refine ent (args := [vs s]) TT_ok [] [] Try.func67 rfl Try.ntmps67 rfl rfl hv ?_
  refine clg (fun _ => c_word s hs) ?_
  refine clg (fun _ => c_reserved s) ?_
  show Value.bool _ = _
  simp only [nameOk, Bool.and_assoc]
theorem c_Rword (s : List UInt8) (hs : s.length ≤ 1000000) (w0 : World) (h0 : View) (hv : VLe h0 (Full w0)) : Calls Try.prog 77 #[vs s] w0 (Ret w0 h0 fun u _ => u = .int .i64 (wordN s : Nat)) := by
  refine ent (args := [vs s]) TT_ok [] [] Try.func77 rfl Try.ntmps77 rfl rfl hv ?_
  refine w_loop TT_ok (fun k : Nat => [(3, .v (.int .i64 k))]) 0 (fun k => k ≤ s.length ∧ (s.take k).all isWord = true ∧ (k = 0 ∨ isLet (s.getD 0 0) = true)) (fun k => s.length - k) ?_
  refine And.intro ⟨⟨Nat.zero_le _, by simp, .inl rfl⟩, gs⟩ ?_
  intro k ⟨hk, ha, h0⟩
  refine ixg k ?_
  refine clg (fun _ => c_Rletter (s.getD k 0)) ?_
  refine ixg k ?_
  refine clg (fun _ => c_Rdigit (s.getD k 0)) ?_
  refine cnd (fun h => ?_) (fun h => ?_)
  · refine wi ?_
    refine ⟨k + 1, ⟨⟨by omega, all_snocW (by omega) ha ?_, ?_⟩, by omega⟩, gs⟩
    · rcases h.2 with h1 | h1
      · rw [isWord, h1, Bool.true_or]
      · rw [isWord, h1.2, Bool.or_true]
    · rcases h0 with rfl | h0
      · rcases h.2 with h1 | h1
        · exact .inr h1
        · exfalso; omega
      · exact .inr h0
  · show Value.int .i64 (k : Int) = _
    rw [word_end s k hk ha h0 (by
      rcases h with h1 | h1
      · exact .inl (by omega)
      · exact .inr ⟨h1.1, by rcases h1.2 with h2 | h2; exact .inl (by omega); exact .inr h2⟩)]
theorem c_RReserved (s : List UInt8) (w0 : World) (h0 : View) (hv : VLe h0 (Full w0)) : Calls Try.prog 78 #[vs s] w0 (Ret w0 h0 fun u _ => u = .bool (resS s)) := by
  refine ent (args := [vs s]) TT_ok [] [] Try.func78 rfl Try.ntmps78 rfl rfl hv ?_
  intro b
  refine shutC 5 (row_sl (g := fun s => [vs s]) (l := resvL) (sz := 1) (n := 9) (cp := 9) rfl) ?_ Mono.slF
  refine w_loop TT_ok (fun k : Nat => [(4, .v (.int .i64 k))]) 0 (fun k => k ≤ 9 ∧ ∀ j, j < k → ¬ resvL.getD j [] = s) (fun k => 9 - k) ?_
  refine And.intro ⟨⟨Nat.zero_le _, fun j hj => absurd hj (Nat.not_lt_zero j)⟩, gs⟩ ?_
  intro k ⟨hk, hn⟩
  have hlen : resvL.length = 9 := rfl
  refine cnd (fun h => ?_) (fun h => ?_)
  · refine ixf (l := resvL) (fun v hF => hF.2) k [] ?_ (by omega)
    refine cnd (fun h1 => ?_) (fun h1 => ?_)
    · show Value.bool true = _
      rw [show resS s = true by rw [resS, ← h1]; exact List.contains_iff_mem.2 (getD_mem resvL k [] (by omega))]
    · refine wi ?_
      refine ⟨k + 1, ⟨⟨by omega, fun j hj => ?_⟩, by omega⟩, gs⟩
      rcases Nat.lt_or_ge j k with h2 | h2
      · exact hn j h2
      · rw [show j = k by omega]; exact h1
  · show Value.bool false = _
    rw [show resS s = false by
      rw [resS, Bool.eq_false_iff]
      intro hc
      obtain ⟨j, hj⟩ := List.mem_iff_getElem?.1 (List.contains_iff_mem.1 hc)
      have hj9 : j < 9 := by have := (List.getElem?_eq_some_iff.1 hj).1; omega
      exact hn j (by omega) (by simp [List.getD, hj])]
theorem c_RName (s : List UInt8) (hs : s.length ≤ 1000000) (w0 : World) (h0 : View) (hv : VLe h0 (Full w0)) : Calls Try.prog 53 #[vs s] w0 (Ret w0 h0 fun u _ => u = .bool (nameOk s)) := by
  refine ent (args := [vs s]) TT_ok [] [] Try.func53 rfl Try.ntmps53 rfl rfl hv ?_
  refine clg (fun _ => c_Rword s hs) ?_
  refine clg (fun _ => c_RReserved s) ?_
  show Value.bool _ = _
  simp only [nameOk, Bool.and_assoc]

end Go.Proofs.Ytokhjcpoapbfmaa
namespace Go.Proofs.Ytokhjcpoapbfmaa
open Go Go.Dx Go.RowKit
theorem bin_len (b : Int × List UInt8 × Int) : (binC b).length = 3 := rfl
theorem c_binaries (w0 : World) (h0 : View) (hv : VLe h0 (Full w0)) : Calls Try.prog 96 #[] w0 (Ret w0 h0 fun u h => ∃ b : Nat, u = .slice (some ⟨b, 0, none⟩) 12 12 ∧ SlC 107 3 (flatR binC) h (.slice (some ⟨b, 0, none⟩) 12 12) binL) := by
  refine entA (args := []) TT_ok [0] [] Try.func96 rfl Try.ntmps96 rfl rfl hv (fun _ => Mono.slF) ?_
  refine ⟨rfl, goW TT_ok ?_⟩
  intro b
  refine shutG TT_ok 13 rfl (row_sl (g := binC) (l := binL) (sz := 3) (n := 12) (cp := 12) rfl) ?_ Mono.slF
  exact ⟨b, rfl, fun v _ hF => hF.2⟩
theorem c_find (op : Int) (w0 : World) (h0 : View) (hv : VLe h0 (Full w0)) : Calls Try.prog 85 #[.int .i64 op] w0 (Ret w0 h0 fun u _ => u = .agg (binC (findS op)).toArray) := by
  refine ent (args := [.int .i64 op]) TT_ok [] [] Try.func85 rfl Try.ntmps85 rfl rfl hv ?_
  intro b2
  refine cA TT_ok (fun w v h1 h2 h3 => c_binaries w v h3) (fun _ => Mono.slF) (fun mb => ?_)
  refine w_loop TT_ok (fun k : Nat => [(7, .v (.int .i64 k))]) 0 (fun k => k ≤ 12 ∧ ∀ j, j < k → ¬ (binL.getD j (0, [], 0)).1 = op) (fun k => 12 - k) ?_
  refine And.intro ⟨⟨Nat.zero_le _, fun j hj => absurd hj (Nat.not_lt_zero j)⟩, gs⟩ ?_
  intro k ⟨hk, hn⟩
  have hlen : binL.length = 12 := rfl
  refine cnd (fun h => ?_) (fun h => ?_)
  · refine ixf (fun v hF => hF.2) k (0, [], 0) ?_ (by omega)
    intro b4
    refine cnd (fun h1 => ?_) (fun h1 => ?_)
    · show _ = Value.agg (binC (findS op)).toArray
      rw [find_hit op k (by omega) hn h1]; rfl
    · refine wi ?_
      exact ⟨k + 1, ⟨⟨by omega, upto_snoc hn h1⟩, by omega⟩, gs⟩
  · show _ = Value.agg (binC (findS op)).toArray
    rw [find_none op (fun j hj => hn j (by omega))]; rfl
theorem c_count (op : Int) (w0 : World) (h0 : View) (hv : VLe h0 (Full w0)) : Calls Try.prog 66 #[.int .i64 op] w0 (Ret w0 h0 fun u _ => u = .int .i64 (cntS op)) := by
  refine ent (args := [.int .i64 op]) TT_ok [] [] Try.func66 rfl Try.ntmps66 rfl rfl hv ?_
  refine cnd (fun h => ?_) (fun h => ?_)
  · exact congrArg (Value.int .i64) (by rw [cntS, if_pos h])
  refine cnd (fun h2 => ?_) (fun h2 => ?_)
  · exact congrArg (Value.int .i64) (by rw [cntS, if_neg (by omega), if_pos h2])
  refine cnd (fun h3 => ?_) (fun h3 => ?_)
  · exact congrArg (Value.int .i64) (by rw [cntS, if_neg (by omega), if_neg h2, if_pos h3])
  refine cl (c_find op) ?_
  refine cnd (fun h4 => ?_) (fun h4 => ?_)
  · have := (find_lev op).1 h4
    exact congrArg (Value.int .i64) (by rw [cntS, if_neg (by omega), if_neg h2, if_neg h3, if_pos this])
  · have : ¬ (4 ≤ op ∧ op ≤ 15) := fun hh => h4 ((find_lev op).2 hh)
    exact congrArg (Value.int .i64) (by rw [cntS, if_neg (by omega), if_neg h2, if_neg h3, if_neg this])
theorem c_sign (op : Int) (w0 : World) (h0 : View) (hv : VLe h0 (Full w0)) : Calls Try.prog 75 #[.int .i64 op] w0 (Ret w0 h0 fun u _ => u = vs (findS op).2.1) := by
  refine ent (args := [.int .i64 op]) TT_ok [] [] Try.func75 rfl Try.ntmps75 rfl rfl hv ?_
  iterate 12 (refine cnd (fun h => by subst h; exact rfl) (fun h => ?_))
  show vs [] = vs (findS op).2.1
  rw [find_none op (fun j hj => bin_other op (by omega) j hj)]
theorem c_Rcount (op : Int) (w0 : World) (h0 : View) (hv : VLe h0 (Full w0)) : Calls Try.prog 51 #[.int .i64 op] w0 (Ret w0 h0 fun u _ => u = .int .i64 (cntS op)) := by
  refine ent (args := [.int .i64 op]) TT_ok [] [] Try.func51 rfl Try.ntmps51 rfl rfl hv ?_
  refine cnd (fun h => ?_) (fun h => ?_)
  · exact congrArg (Value.int .i64) (by rw [cntS, if_pos h])
  refine cnd (fun h2 => ?_) (fun h2 => ?_)
  · exact congrArg (Value.int .i64) (by rw [cntS, if_neg (by omega), if_pos h2])
  refine cnd (fun h3 => ?_) (fun h3 => ?_)
  · exact congrArg (Value.int .i64) (by rw [cntS, if_neg (by omega), if_neg h2, if_pos h3])
  refine cl (c_sign op) ?_
  refine cnd (fun h4 => ?_) (fun h4 => ?_)
  · have : 4 ≤ op ∧ op ≤ 15 := Decidable.byContradiction fun hh => h4 ((find_sgn op).2 hh)
    exact congrArg (Value.int .i64) (by rw [cntS, if_neg (by omega), if_neg h2, if_neg h3, if_pos this])
  · have : ¬ (4 ≤ op ∧ op ≤ 15) := (find_sgn op).1 h4
    exact congrArg (Value.int .i64) (by rw [cntS, if_neg (by omega), if_neg h2, if_neg h3, if_neg this])

end Go.Proofs.Ytokhjcpoapbfmaa
namespace Go.Proofs.Ytokhjcpoapbfmaa
open Go Go.Dx Go.RowKit
/-- a part of an expression -/
theorem ixE {c : Cx} {F : FV} {n : Nat} {ad : Option Addr} {cap : Nat} {l : List Ex} {i : Int} {X : Nat → List Value → Prop} (H : XL c.h0 ad cap l) (j : Nat)
    (k : ∀ a2 c2, XL c.h0 a2 c2 (l.getD j ex0).l → i64 (l.getD j ex0).op → valB (l.getD j ex0).v → X j (exC (l.getD j ex0).op (l.getD j ex0).v (l.getD j ex0).s (.slice a2 (l.getD j ex0).l.length c2)))
    (h : i = (j : Int) ∧ j < l.length := by omega) (hn : n = l.length := by rfl) : ∃ (j : Nat) (cs : List Value), (i = (j : Int) ∧ j < n ∧ ElC c.h0 F ad (j * 6) cs) ∧ X j cs := by
  obtain ⟨g, off, a2, c2, ha, h1, h2, h3, hc⟩ := H.at2 h.2
  subst hn
  exact ⟨j, _, ⟨h.1, h.2, fun v hv _ => ⟨by rw [ha]; rfl, fun w hw => by rw [ha]; exact hc w (hv.trans hw)⟩⟩, k a2 c2 h1 h2 h3⟩
theorem c_IndexX (ad : Option Addr) (cap : Nat) (l : List Ex) (p : Ex → Bool) (w0 : World) (h0 : View) (hv : VLe h0 (Full w0)) (hx : XL h0 ad cap l)
    (hp : ∀ j, j < l.length → ∀ a2 c2, XL h0 a2 c2 (l.getD j ex0).l → i64 (l.getD j ex0).op → valB (l.getD j ex0).v → ∀ w, VLe h0 (Full w) → Calls Try.prog 69 #[.agg (exC (l.getD j ex0).op (l.getD j ex0).v (l.getD j ex0).s (.slice a2 (l.getD j ex0).l.length c2)).toArray] w (Ret w h0 fun u _ => u = .bool (p (l.getD j ex0)))) :
    Calls Try.prog 88 #[.slice ad l.length cap, .func (.func 69) #[] #[]] w0 (Ret w0 h0 fun u _ => u = .int .i64 (idxS p l)) := by
  have hlm := hx.lm
  refine ent (args := [.slice ad l.length cap, .func (.func 69) #[] #[]]) TT_ok [] [] Try.func88 rfl Try.ntmps88 rfl rfl hv ?_
  refine w_loop TT_ok (fun k : Nat => [(8, .v (.int .i64 k))]) 0 (fun k => k ≤ l.length ∧ ∀ j, j < k → p (l.getD j ex0) = false) (fun k => l.length - k) ?_
  refine And.intro ⟨⟨Nat.zero_le _, fun j hj => absurd hj (Nat.not_lt_zero j)⟩, gs⟩ ?_
  intro k ⟨hk, hn⟩
  refine cnd (fun h => ?_) (fun h => ?_)
  · refine ixE hx k (fun a2 c2 h1 h2 h3 => ?_)
    refine cb (fun w hw => hp k (by omega) a2 c2 h1 h2 h3 w hw) ?_
    refine cnd (fun h4 => ?_) (fun h4 => ?_)
    · exact congrArg (Value.int .i64) (idx_hit ex0 (by omega) hn h4).symm
    · refine wi ?_
      exact ⟨k + 1, ⟨⟨by omega, upto_snoc hn h4⟩, by omega⟩, gs⟩
  · exact congrArg (Value.int .i64) (idx_none ex0 (fun j hj => hn j (by omega))).symm
theorem c_ContainsX (ad : Option Addr) (cap : Nat) (l : List Ex) (p : Ex → Bool) (w0 : World) (h0 : View) (hv : VLe h0 (Full w0)) (hx : XL h0 ad cap l)
    (hp : ∀ j, j < l.length → ∀ a2 c2, XL h0 a2 c2 (l.getD j ex0).l → i64 (l.getD j ex0).op → valB (l.getD j ex0).v → ∀ w, VLe h0 (Full w) → Calls Try.prog 69 #[.agg (exC (l.getD j ex0).op (l.getD j ex0).v (l.getD j ex0).s (.slice a2 (l.getD j ex0).l.length c2)).toArray] w (Ret w h0 fun u _ => u = .bool (p (l.getD j ex0)))) :
    Calls Try.prog 68 #[.slice ad l.length cap, .func (.func 69) #[] #[]] w0 (Ret w0 h0 fun u _ => u = .bool (l.any p)) := by
  refine ent (args := [.slice ad l.length cap, .func (.func 69) #[] #[]]) TT_ok [] [] Try.func68 rfl Try.ntmps68 rfl rfl hv ?_
  refine cb (fun w hw => c_IndexX ad cap l p w h0 hw hx hp) ?_
  exact congrArg Value.bool (idx_any (p := p) (l := l))
theorem any_right (l : List Ex) : (!(l.any fun y => !rightS y)) = l.all rightS := any_all rightS l
set_option maxHeartbeats 1000000 in
theorem c_right : ∀ (k : Nat) (x : Ex) (ad : Option Addr) (cap : Nat), SizeOf.sizeOf x < k → ∀ (w0 : World) (h0 : View), VLe h0 (Full w0) → GX h0 ad cap x → Calls Try.prog 43 #[.agg (exC x.op x.v x.s (.slice ad x.l.length cap)).toArray] w0 (Ret w0 h0 fun u _ => u = .bool (rightS x)) := by
  intro k
  induction k with
  | zero => intro x ad cap h; omega
  | succ k ih =>
    intro x ad cap hk w0 h0 hv hx
    have hsm := hx.sm.parts
    have hp : ∀ j, j < x.l.length → ∀ a2 c2, XL h0 a2 c2 (x.l.getD j ex0).l → i64 (x.l.getD j ex0).op → valB (x.l.getD j ex0).v → ∀ w, VLe h0 (Full w) → Calls Try.prog 69 #[.agg (exC (x.l.getD j ex0).op (x.l.getD j ex0).v (x.l.getD j ex0).s (.slice a2 (x.l.getD j ex0).l.length c2)).toArray] w (Ret w h0 fun u _ => u = .bool (!rightS (x.l.getD j ex0))) := by
      intro j hj a2 c2 g1 g2 g3 w hw
      refine ent (args := [.agg (exC (x.l.getD j ex0).op (x.l.getD j ex0).v (x.l.getD j ex0).s (.slice a2 (x.l.getD j ex0).l.length c2)).toArray]) TT_ok [] [] Try.func69 rfl Try.ntmps69 rfl rfl hw ?_
      intro b
      refine cb (fun w hw => ih _ a2 c2 (by have := Ex.lt (getD_mem x.l j ex0 hj); omega) w h0 hw ⟨g1, g2, g3, hsm.2.2.2 _ (getD_mem x.l j ex0 hj)⟩) ?_
      exact rfl
    refine ent (args := [.agg (exC x.op x.v x.s (.slice ad x.l.length cap)).toArray]) TT_ok [] [] Try.func43 rfl Try.ntmps43 rfl rfl hv ?_
    intro b1
    refine And.intro (by kernel_rfl) ?_
    refine cl (c_count x.op) ?_
    refine cnd (fun h => ?_) (fun h => ?_)
    · exact congrArg Value.bool (by rw [right_eq, decide_eq_false h, Bool.false_and])
    refine cnd (fun h1 => ?_) (fun h1 => ?_)
    · refine clg (fun _ => c_VCheck x.v hx.v) ?_
      exact congrArg Value.bool (by rw [right_eq, decide_eq_true h, if_pos h1]; simp [Bool.and_assoc])
    refine cnd (fun h2 => ?_) (fun h2 => ?_)
    · refine aq eqV x.v v0 ?_
      refine clg (fun _ => c_Name x.s (by omega)) ?_
      exact congrArg Value.bool (by rw [right_eq, decide_eq_true h, if_neg h1, if_pos h2]; simp)
    · refine aq eqV x.v v0 ?_
      refine cbg (fun _ w hw => c_ContainsX ad cap x.l (fun y => !rightS y) w h0 hw hx.xl hp) ?_
      exact congrArg Value.bool (by rw [right_eq, decide_eq_true h, if_neg h1, if_neg h2, any_right]; simp)
theorem c_Check (x : Ex) (ad : Option Addr) (cap : Nat) (w0 : World) (h0 : View) (hv : VLe h0 (Full w0)) (hx : GX h0 ad cap x) : Calls Try.prog 32 #[.agg (exC x.op x.v x.s (.slice ad x.l.length cap)).toArray] w0 (Ret w0 h0 fun u _ => u = .int .i64 (if rightS x then 0 else 2)) := by
  refine ent (args := [.agg (exC x.op x.v x.s (.slice ad x.l.length cap)).toArray]) TT_ok [] [] Try.func32 rfl Try.ntmps32 rfl rfl hv ?_
  intro b1
  refine cb (fun w hw => c_right _ x ad cap (Nat.lt_succ_self _) w h0 hw hx) ?_
  refine cnd (fun h => ?_) (fun h => ?_)
  · exact congrArg (Value.int .i64) (by rw [if_neg (by rw [h]; decide)])
  · exact congrArg (Value.int .i64) (by rw [if_pos h])
set_option maxHeartbeats 1000000 in
theorem c_RRightX : ∀ (k : Nat) (x : Ex) (ad : Option Addr) (cap : Nat), SizeOf.sizeOf x < k → ∀ (w0 : World) (h0 : View), VLe h0 (Full w0) → GX h0 ad cap x → Calls Try.prog 35 #[.agg (exC x.op x.v x.s (.slice ad x.l.length cap)).toArray] w0 (Ret w0 h0 fun u _ => u = .bool (rightS x)) := by
  intro k
  induction k with
  | zero => intro x ad cap h; omega
  | succ k ih =>
    intro x ad cap hk w0 h0 hv hx
    have hsm := hx.sm.parts
    have hlm := hx.xl.lm
    refine ent (args := [.agg (exC x.op x.v x.s (.slice ad x.l.length cap)).toArray]) TT_ok [] [] Try.func35 rfl Try.ntmps35 rfl rfl hv ?_
    intro b1
    refine And.intro (by kernel_rfl) ?_
    refine cl (c_Rcount x.op) ?_
    refine cnd (fun h => ?_) (fun h => ?_)
    · exact congrArg Value.bool (by rw [right_eq, decide_eq_false h, Bool.false_and])
    refine cnd (fun h1 => ?_) (fun h1 => ?_)
    · refine clg (fun _ => c_RRight x.v (by omega)) ?_
      exact congrArg Value.bool (by rw [right_eq, decide_eq_true h, if_pos h1]; simp [Bool.and_assoc])
    refine cnd (fun h2 => ?_) (fun h2 => ?_)
    · refine aq eqV x.v v0 ?_
      refine clg (fun _ => c_RName x.s (by omega)) ?_
      exact congrArg Value.bool (by rw [right_eq, decide_eq_true h, if_neg h1, if_pos h2]; simp)
    · refine w_loop TT_ok (fun k : Nat => [(3, .v (.int .i64 k))]) 0 (fun k => k ≤ x.l.length ∧ ∀ j, j < k → rightS (x.l.getD j ex0) = true) (fun k => x.l.length - k) ?_
      refine And.intro ⟨⟨Nat.zero_le _, fun j hj => absurd hj (Nat.not_lt_zero j)⟩, gs⟩ ?_
      intro i ⟨hi, hn⟩
      refine cnd (fun h3 => ?_) (fun h3 => ?_)
      · refine ixE hx.xl i (fun a2 c2 g1 g2 g3 => ?_)
        refine cb (fun w hw => ih _ a2 c2 (by have := Ex.lt (getD_mem x.l i ex0 (by omega)); omega) w h0 hw ⟨g1, g2, g3, hsm.2.2.2 _ (getD_mem x.l i ex0 (by omega))⟩) ?_
        refine cnd (fun h4 => ?_) (fun h4 => ?_)
        · exact congrArg Value.bool (by rw [right_eq, all_not ex0 (k := i) (by omega) h4, if_neg h1, if_neg h2]; simp)
        · refine wi ?_
          exact ⟨i + 1, ⟨⟨by omega, upto_snoc hn h4⟩, by omega⟩, gs⟩
      · refine aq eqV x.v v0 ?_
        exact congrArg Value.bool (by rw [right_eq, decide_eq_true h, if_neg h1, if_neg h2, all_upto ex0 (p := rightS) (fun j hj => hn j (by omega))]; simp)

end Go.Proofs.Ytokhjcpoapbfmaa
namespace Go.Proofs.Ytokhjcpoapbfmaa
open Go Go.Dx Go.RowKit
theorem vs_inj {a b : List UInt8} (h : vs a = vs b) : a = b := by simpa [vs] using h
theorem RX.xl {h : View} {op : Int} {v : Val} {s : List UInt8} {ad : Option Addr} {n cap : Nat} {x : Ex} (hx : RX h (exC op v s (.slice ad n cap)) x) : op = x.op ∧ v = x.v ∧ s = x.s ∧ n = x.l.length ∧ i64 x.op ∧ valB x.v ∧ XL h ad cap x.l := by
  obtain ⟨ad', cap', e, h1, h2, h3⟩ := hx.inv
  simp only [exC, List.cons.injEq, Value.int.injEq, Value.slice.injEq, true_and, and_true] at e
  obtain ⟨e1, e2, e3, e4, e5, e6, e7, e8⟩ := e
  subst e6; subst e8
  refine ⟨e1, ?_, vs_inj e5, e7, h1, h2, h3⟩
  have := vs_inj e4
  cases v; cases hv : x.v
  rw [hv] at e2 e3 this
  simp only at e2 e3 this
  rw [e2, e3, this]
/-- a part of an expression -/
theorem ixx {c : Cx} {F : FV} {n : Nat} {ad : Option Addr} {cap : Nat} {l : List Ex} {i : Int} {X : Nat → List Value → Prop} (H : XL c.h0 ad cap l) (j : Nat)
    (k : ∀ a2 c2, RX c.h0 (exC (l.getD j ex0).op (l.getD j ex0).v (l.getD j ex0).s (.slice a2 (l.getD j ex0).l.length c2)) (l.getD j ex0) → X j (exC (l.getD j ex0).op (l.getD j ex0).v (l.getD j ex0).s (.slice a2 (l.getD j ex0).l.length c2)))
    (h : i = (j : Int) ∧ j < l.length := by omega) (hn : n = l.length := by rfl) : ∃ (j : Nat) (cs : List Value), (i = (j : Int) ∧ j < n ∧ ElC c.h0 F ad (j * 6) cs) ∧ X j cs := by
  obtain ⟨g, off, cs, ha, hr, _, hc⟩ := H.at h.2
  obtain ⟨a2, c2, rfl, _⟩ := hr.inv
  subst hn
  exact ⟨j, _, ⟨h.1, h.2, fun v hv _ => ⟨by rw [ha]; rfl, fun w hw => by rw [ha]; exact hc w (hv.trans hw)⟩⟩, k a2 c2 hr⟩
theorem c_name (ad : Option Addr) (cap : Nat) (l : List Col) (ad2 : Option Addr) (cap2 : Nat) (row : List Val) (s : List UInt8) (hlr : l.length = row.length) (hl : l.length ≤ 1000000) (w0 : World) (h0 : View) (hv : VLe h0 (Full w0))
    (hb : SlC 47 3 (flatR colC) h0 (.slice ad l.length cap) l) (hb2 : SlC 25 3 (flatR valC) h0 (.slice ad2 row.length cap2) row) :
    Calls Try.prog 44 #[.agg (scC ad l.length cap ad2 row.length cap2).toArray, vs s] w0 (RetE w0 h0 (nameG s l row)) := by
  cases hr : nameG s l row with
  | ok v => exact c_name_ok ad cap l ad2 cap2 row s v hlr hr hl w0 h0 hv hb hb2
  | error x => exact c_name_err ad cap l ad2 cap2 row s x hlr hr hl w0 h0 hv hb hb2
theorem c_truths (op : Int) (a b : Val) (w0 : World) (h0 : View) (hv : VLe h0 (Full w0)) : Calls Try.prog 49 #[.int .i64 op, .agg (valC a).toArray, .agg (valC b).toArray] w0 (RetE w0 h0 (trusE op a b)) := by
  cases hr : trusE op a b with
  | ok v => exact c_truths_ok op a b v hr w0 h0 hv
  | error x => exact c_truths_err op a b x hr w0 h0 hv
theorem c_compares (op : Int) (a b : Val) (w0 : World) (h0 : View) (hv : VLe h0 (Full w0)) : Calls Try.prog 50 #[.int .i64 op, .agg (valC a).toArray, .agg (valC b).toArray] w0 (RetE w0 h0 (cmpE op a b)) := by
  cases hr : cmpE op a b with
  | ok v => exact c_compares_ok op a b v hr w0 h0 hv
  | error x => exact c_compares_err op a b x hr w0 h0 hv
theorem of_one {k : Int} {v : Val} {nl : Bool} (h : ofG k [v] false = .ok nl) (hn : nl = false) : v.k = k := by
  subst hn
  simp only [ofG] at h
  by_cases h1 : v.k = k
  · exact h1
  · rw [if_neg h1] at h; split at h <;> cases h
set_option maxHeartbeats 2000000 in
theorem c_eval (ad : Option Addr) (cap : Nat) (l : List Col) (ad2 : Option Addr) (cap2 : Nat) (row : List Val) (hlr : l.length = row.length) (hl : l.length ≤ 1000000) (hrow : ∀ v ∈ row, okV v) (h0 : View)
    (hb : SlC 47 3 (flatR colC) h0 (.slice ad l.length cap) l) (hb2 : SlC 25 3 (flatR valC) h0 (.slice ad2 row.length cap2) row) : ∀ (k : Nat) (x : Ex) (ax : Option Addr) (cx : Nat),
    RX h0 (exC x.op x.v x.s (.slice ax x.l.length cx)) x → rightS x = true → SizeOf.sizeOf x < k → ∀ w0 : World, VLe h0 (Full w0) →
    Calls Try.prog 34 #[.agg (scC ad l.length cap ad2 row.length cap2).toArray, .agg (exC x.op x.v x.s (.slice ax x.l.length cx)).toArray] w0 (RetE w0 h0 (evX l row k x)) := by
  intro k
  induction k with
  | zero => intro x ax cx hx hr hk; omega
  | succ k ih =>
    intro x ax cx hx hr hk w0 hv
    obtain ⟨_, _, _, _, ho, hvb, hxl⟩ := hx.xl
    refine entX (r := evX l row (k + 1) x) (args := [.agg (scC ad l.length cap ad2 row.length cap2).toArray, .agg (exC x.op x.v x.s (.slice ax x.l.length cx)).toArray]) TT_ok [1000006, 1000015, 1000016, 1000017] [] Try.func34 rfl Try.ntmps34 rfl rfl hv ?_
    intro b2 b3 b4
    refine cnd (fun h1 => ?_) (fun h1 => ?_)
    · exact ⟨x.v, by rw [evX, if_pos h1], rfl⟩
    refine cnd (fun h2 => ?_) (fun h2 => ?_)
    · refine cX TT_ok (fun w hw => c_name ad cap l ad2 cap2 row x.s hlr hl w h0 hw hb hb2) (fun y hy => ⟨y, by rw [evX, if_neg h1, if_pos h2, hy], rfl⟩) (fun v hy => ?_)
      exact ⟨v, by rw [evX, if_neg h1, if_pos h2, hy], rfl⟩
    obtain ⟨hop, hlen, hch⟩ := right_sub hr h1 h2
    have hc := cnt_pos hop
    have IH : ∀ i, i < x.l.length → ∀ a2 c2, RX h0 (exC (x.l.getD i ex0).op (x.l.getD i ex0).v (x.l.getD i ex0).s (.slice a2 (x.l.getD i ex0).l.length c2)) (x.l.getD i ex0) → ∀ w, VLe h0 (Full w) →
        Calls Try.prog 34 #[.agg (scC ad l.length cap ad2 row.length cap2).toArray, .agg (exC (x.l.getD i ex0).op (x.l.getD i ex0).v (x.l.getD i ex0).s (.slice a2 (x.l.getD i ex0).l.length c2)).toArray] w (RetE w h0 (evX l row k (x.l.getD i ex0))) := fun i hi a2 c2 hx2 w hw =>
      ih _ a2 c2 hx2 (hch _ (getD_mem x.l i ex0 hi)) (by have := Ex.lt (getD_mem x.l i ex0 hi); omega) w hw
    have good : ∀ i, i < x.l.length → ∀ v, evX l row k (x.l.getD i ex0) = .ok v → okV v := fun i hi v e => by
      obtain ⟨_, _, cs', _, hx', _⟩ := hxl.at hi
      exact evX_good hrow k _ cs' v hx' (hch _ (getD_mem x.l i ex0 hi)) e
    have ev1 : evX l row (k + 1) x = match evX l row k (x.l.getD 0 ex0) with
      | .error e => .error e
      | .ok a =>
        if x.op = 3 then (match ofG 1 [a] false with
          | .error e => .error e
          | .ok true => .ok a
          | .ok false => numR (ovr (0 - a.n)))
        else if x.op = 16 then (match ofG 3 [a] false with
          | .error e => .error e
          | .ok _ => if a = truV true then evX l row k (x.l.getD 1 ex0) else evX l row k (x.l.getD 2 ex0))
        else match evX l row k (x.l.getD 1 ex0) with
          | .error e => .error e
          | .ok b =>
            if x.op = 4 ∨ x.op = 5 ∨ x.op = 6 ∨ x.op = 7 then sumsE x.op a b
            else if x.op = 14 ∨ x.op = 15 then trusE x.op a b
            else cmpE x.op a b := by rw [evX, if_neg h1, if_neg h2]; rfl
    cases ha : evX l row k (x.l.getD 0 ex0) with
    | error y =>
      rw [ha] at ev1
      refine regPA TT_ok 5 (ch := ech y) ⟨y, ev1, rfl⟩ ?_
      refine ixx hxl 0 (fun a2 c2 hx2 => ?_)
      exact ⟨_, rfl, fun w hS => RetE.err (IH 0 (by omega) a2 c2 hx2 w hS.st.base) ha⟩
    | ok a =>
      rw [ha] at ev1
      have ga := good 0 (by omega) a ha
      simp only at ev1
      refine regA TT_ok 6 ?_
      refine ixx hxl 0 (fun a2 c2 hx2 => ?_)
      refine cb (fun w hw => RetE.ok (IH 0 (by omega) a2 c2 hx2 w hw) ha) ?_
      intro b5
      refine cnd (fun h3 => ?_) (fun h3 => ?_)
      · rw [if_pos h3] at ev1
        intro b30
        refine cXo TT_ok (r := ofG 1 [a] false) (fun w hS => ⟨_, c_of 1 _ 1 [a] (by simp) w (Full w) (VLe.refl _) (hS.row (k := 30) (l := [a]) (g := valC) (hk := rfl) (hcs := rfl) (hc := Nat.le_refl 1))⟩) (fun y hy => ⟨y, by rw [ev1, hy], rfl⟩) (fun nl hy => ?_)
        rw [hy] at ev1
        refine cnd (fun h4 => ?_) (fun h4 => ?_)
        · subst h4
          exact ⟨a, ev1, rfl⟩
        · subst h4
          refine cl (c_ESub 0 a.n ⟨by decide, by decide⟩ ga.2.2) ?_
          refine cX TT_ok (fun w hw => c_number _ _ w h0 hw) (fun y hy => ⟨y, by rw [ev1]; exact hy, rfl⟩) (fun v hy => ?_)
          exact ⟨v, by rw [ev1]; exact hy, rfl⟩
      rw [if_neg h3] at ev1
      refine cnd (fun h4 => ?_) (fun h4 => ?_)
      · rw [if_pos h4] at ev1
        have hl3 := hc.2.2.2 h4
        intro b42
        refine cXo TT_ok (r := ofG 3 [a] false) (fun w hS => ⟨_, c_of 3 _ 1 [a] (by simp) w (Full w) (VLe.refl _) (hS.row (k := 42) (l := [a]) (g := valC) (hk := rfl) (hcs := rfl) (hc := Nat.le_refl 1))⟩) (fun y hy => ⟨y, by rw [ev1, hy], rfl⟩) (fun nl hy => ?_)
        rw [hy] at ev1
        simp only at ev1
        refine And.intro (by kernel_rfl) ?_
        refine cl (c_truth true) ?_
        refine aq eqV a (truV true) ?_
        refine cnd (A := CP _ _ _ _ _ _ _ _) (C := CP _ _ _ _ _ _ _ _) (fun h5 => ?_) (fun h5 => ?_)
        · rw [if_pos h5] at ev1
          cases hb1 : evX l row k (x.l.getD 1 ex0) with
          | error y =>
            refine regP TT_ok 5 (ch := ech y) ⟨y, by rw [ev1, hb1], rfl⟩ ?_
            refine ixx hxl 1 (fun a2 c2 hx2 => ?_)
            exact ⟨_, rfl, fun w hS => RetE.err (IH 1 (by omega) a2 c2 hx2 w hS.st.base) hb1⟩
          | ok b =>
            refine regD TT_ok ?_
            refine And.intro (by kernel_rfl) ?_
            refine ixx hxl 1 (fun a2 c2 hx2 => ?_)
            refine cb (fun w hw => RetE.ok (IH 1 (by omega) a2 c2 hx2 w hw) hb1) ?_
            exact ⟨b, by rw [ev1, hb1], rfl⟩
        · rw [if_neg h5] at ev1
          cases hb1 : evX l row k (x.l.getD 2 ex0) with
          | error y =>
            refine regP TT_ok 5 (ch := ech y) ⟨y, by rw [ev1, hb1], rfl⟩ ?_
            refine ixx hxl 2 (fun a2 c2 hx2 => ?_)
            exact ⟨_, rfl, fun w hS => RetE.err (IH 2 (by omega) a2 c2 hx2 w hS.st.base) hb1⟩
          | ok b =>
            refine regD TT_ok ?_
            refine And.intro (by kernel_rfl) ?_
            refine ixx hxl 2 (fun a2 c2 hx2 => ?_)
            refine cb (fun w hw => RetE.ok (IH 2 (by omega) a2 c2 hx2 w hw) hb1) ?_
            exact ⟨b, by rw [ev1, hb1], rfl⟩
      rw [if_neg h4] at ev1
      have hl2 := hc.2.2.1 (by omega)
      cases hb1 : evX l row k (x.l.getD 1 ex0) with
      | error y =>
        rw [hb1] at ev1
        refine regPA TT_ok 5 (ch := ech y) ⟨y, ev1, rfl⟩ ?_
        refine ixx hxl 1 (fun a2 c2 hx2 => ?_)
        exact ⟨_, rfl, fun w hS => RetE.err (IH 1 (by omega) a2 c2 hx2 w hS.st.base) hb1⟩
      | ok b =>
        rw [hb1] at ev1
        have gb := good 1 (by omega) b hb1
        simp only at ev1
        refine regA TT_ok 6 ?_
        refine ixx hxl 1 (fun a2 c2 hx2 => ?_)
        refine cb (fun w hw => RetE.ok (IH 1 (by omega) a2 c2 hx2 w hw) hb1) ?_
        intro b6
        refine cnd (fun h5 => ?_) (fun h5 => ?_)
        · refine cndT (decide_eq_true h5) ?_
          refine cX TT_ok (fun w hw => c_sums x.op a b ga.2.2 gb.2.2 (by have := len_of ga; omega) (by have := len_of gb; omega) w h0 hw) (fun y hy => ⟨y, by rw [ev1, if_pos (by omega)]; exact hy, rfl⟩) (fun v hy => ?_)
          exact ⟨v, by rw [ev1, if_pos (by omega)]; exact hy, rfl⟩
        refine cnd (fun h6 => ?_) (fun h6 => ?_)
        · refine cndT (decide_eq_true h6) ?_
          refine cX TT_ok (fun w hw => c_sums x.op a b ga.2.2 gb.2.2 (by have := len_of ga; omega) (by have := len_of gb; omega) w h0 hw) (fun y hy => ⟨y, by rw [ev1, if_pos (by omega)]; exact hy, rfl⟩) (fun v hy => ?_)
          exact ⟨v, by rw [ev1, if_pos (by omega)]; exact hy, rfl⟩
        refine cnd (fun h7 => ?_) (fun h7 => ?_)
        · refine cndT (decide_eq_true h7) ?_
          refine cX TT_ok (fun w hw => c_sums x.op a b ga.2.2 gb.2.2 (by have := len_of ga; omega) (by have := len_of gb; omega) w h0 hw) (fun y hy => ⟨y, by rw [ev1, if_pos (by omega)]; exact hy, rfl⟩) (fun v hy => ?_)
          exact ⟨v, by rw [ev1, if_pos (by omega)]; exact hy, rfl⟩
        refine cnd (fun h8 => ?_) (fun h8 => ?_)
        · refine cX TT_ok (fun w hw => c_sums x.op a b ga.2.2 gb.2.2 (by have := len_of ga; omega) (by have := len_of gb; omega) w h0 hw) (fun y hy => ⟨y, by rw [ev1, if_pos (by omega)]; exact hy, rfl⟩) (fun v hy => ?_)
          exact ⟨v, by rw [ev1, if_pos (by omega)]; exact hy, rfl⟩
        refine cnd (fun h9 => ?_) (fun h9 => ?_)
        · refine cndT (decide_eq_true h9) ?_
          refine cX TT_ok (fun w hw => c_truths x.op a b w h0 hw) (fun y hy => ⟨y, by rw [ev1, if_neg (by omega), if_pos (by omega)]; exact hy, rfl⟩) (fun v hy => ?_)
          exact ⟨v, by rw [ev1, if_neg (by omega), if_pos (by omega)]; exact hy, rfl⟩
        refine cnd (fun h10 => ?_) (fun h10 => ?_)
        · refine cX TT_ok (fun w hw => c_truths x.op a b w h0 hw) (fun y hy => ⟨y, by rw [ev1, if_neg (by omega), if_pos (by omega)]; exact hy, rfl⟩) (fun v hy => ?_)
          exact ⟨v, by rw [ev1, if_neg (by omega), if_pos (by omega)]; exact hy, rfl⟩
        refine cX TT_ok (fun w hw => c_compares x.op a b w h0 hw) (fun y hy => ⟨y, by rw [ev1, if_neg (by omega), if_neg (by omega)]; exact hy, rfl⟩) (fun v hy => ?_)
        exact ⟨v, by rw [ev1, if_neg (by omega), if_neg (by omega)]; exact hy, rfl⟩

end Go.Proofs.Ytokhjcpoapbfmaa
namespace Go.Proofs.Ytokhjcpoapbfmaa
open Go Go.Dx Go.RowKit
/-- what Eval tells -/
noncomputable def evalS (l : List Col) (row : List Val) (x : Ex) : Val × Int :=
  if rightS x = true ∧ l.length = row.length ∧ row.all valOk = true then (match evX l row (SizeOf.sizeOf x + 1) x with
    | .ok v => (v, 0)
    | .error e => (v0, e)) else (v0, 2)
def evR (p : Val × Int) : Value := .tuple #[.agg (valC p.1).toArray, .int .i64 p.2]
theorem evalS_not {l : List Col} {row : List Val} {x : Ex} (h : ¬ (rightS x = true ∧ l.length = row.length ∧ row.all valOk = true)) : evalS l row x = (v0, 2) := if_neg h
theorem res2 {fn : Func} {tmps : Array Value} {b6 b7 t6 t7 ty6 ty7 : Nat} {cs : List Value} {u : Value} {w : World} (hr : fn.results = #[.cell t6 ty6, .cell t7 ty7]) (h6 : tmps.getD t6 undef = .pointer (some ⟨b6, 0, none⟩)) (h7 : tmps.getD t7 undef = .pointer (some ⟨b7, 0, none⟩))
    (hne : t6 ≠ t7) (c6 : w.heap[b6]? = some (.cells cs.toArray ty6 (0, 0))) (c7 : w.heap[b7]? = some (.cells #[u] ty7 (0, 0))) (a6 : AggT Try.prog ty6 cs.length) (o7 : OneT Try.prog ty7) : (results fn tmps).run Try.prog w = .ok (.tuple #[.agg cs.toArray, u]) w := by
  have e6 : (loadVar ty6 ⟨b6, 0, none⟩).run Try.prog w = .ok (.agg cs.toArray) w := run_loadA a6 fun j v hj => by rw [add_mk, cell_row c6, Nat.zero_add]; exact hj
  have e7 : (loadVar ty7 ⟨b7, 0, none⟩).run Try.prog w = .ok u w := run_load1 o7 (by rw [cell_row (cs := [u]) c7]; rfl)
  have hF : Fr ({ tmps := tmps, defers := [] } : Act) tmps.size [(t6, .val (.pointer (some ⟨b6, 0, none⟩))), (t7, .val (.pointer (some ⟨b7, 0, none⟩)))] := by
    refine ⟨rfl, rfl, fun i v hi => ?_⟩
    by_cases h1 : t6 = i
    · subst h1; rw [lk_cons_eq] at hi; cases hi; exact h6
    · rw [lk_cons_ne h1] at hi
      by_cases h2 : t7 = i
      · subst h2; rw [lk_cons_eq] at hi; cases hi; exact h7
      · rw [lk_cons_ne h2] at hi; cases hi
  exact rvs_run (rs := [.cell t6 ty6, .cell t7 ty7]) hF hr (.cell (ad := ⟨b6, 0, none⟩) (by rw [lk_cons_eq]; rfl) e6 (.cell (ad := ⟨b7, 0, none⟩) (by rw [lk_cons_ne hne, lk_cons_eq]; rfl) e7 .nil))
set_option maxHeartbeats 1000000 in
theorem c_Eval (x : Ex) (ax : Option Addr) (cx : Nat) (ad : Option Addr) (cap : Nat) (l : List Col) (ad2 : Option Addr) (cap2 : Nat) (row : List Val) (hl : l.length ≤ 1000000) (hvb : ∀ v ∈ row, valB v) (w0 : World) (h0 : View) (hv : VLe h0 (Full w0)) (hx : GX h0 ax cx x)
    (hb : SlC 47 3 (flatR colC) h0 (.slice ad l.length cap) l) (hb2 : SlC 25 3 (flatR valC) h0 (.slice ad2 row.length cap2) row) :
    Calls Try.prog 12 #[.agg (exC x.op x.v x.s (.slice ax x.l.length cx)).toArray, .slice ad l.length cap, .slice ad2 row.length cap2] w0 (Ret w0 h0 fun u _ => u = evR (evalS l row x)) := by
  have hlm := slc_lm hb2
  refine entD (E := fun _ _ vs => tupV vs = evR (evalS l row x)) (args := [.agg (exC x.op x.v x.s (.slice ax x.l.length cx)).toArray, .slice ad l.length cap, .slice ad2 row.length cap2]) TT_ok [] [] 3 Try.func12 rfl Try.ntmps12 rfl rfl hv (fun B F vs w hq hS => hS.st.retv hq) ?_
  intro b3 b6 b7
  refine cb (fun w hw => c_Check x ax cx w h0 hw hx) ?_
  refine cnd (fun h => ?_) (fun h => ?_)
  · show _ = evR (evalS l row x)
    rw [evalS_not (fun hh => by
      rcases h with h | h
      · rw [if_pos hh.1] at h; omega
      · omega)]
    rfl
  have hr : rightS x = true := by
    rcases Bool.eq_false_or_eq_true (rightS x) with e | e
    · exact e
    · have := h.1; rw [e] at this; simp at this
  have hlr : l.length = row.length := by omega
  refine w_loop TT_ok (fun k : Nat => [(23, .v (.int .i64 k))]) 0 (fun k => k ≤ row.length ∧ ∀ j, j < k → valOk (row.getD j v0) = true) (fun k => row.length - k) ?_
  refine And.intro ⟨⟨Nat.zero_le _, fun j hj => absurd hj (Nat.not_lt_zero j)⟩, gs⟩ ?_
  intro k ⟨hk, hn⟩
  refine cnd (fun h1 => ?_) (fun h1 => ?_)
  · refine ixs hb2 k v0 ?_
    intro b9
    refine cl (c_VCheck (row.getD k v0) (hvb _ (getD_mem row k v0 (by omega)))) ?_
    refine cnd (fun h2 => ?_) (fun h2 => ?_)
    · show _ = evR (evalS l row x)
      rw [evalS_not (fun hh => by
        have := List.all_eq_true.1 hh.2.2 _ (getD_mem row k v0 (by omega))
        rw [if_pos this] at h2; omega)]
      rfl
    · refine wi ?_
      refine ⟨k + 1, ⟨⟨by omega, upto_snoc hn ?_⟩, by omega⟩, gs⟩
      rcases Bool.eq_false_or_eq_true (valOk (row.getD k v0)) with e | e
      · exact e
      · rw [e] at h2; simp at h2
  have hall : row.all valOk = true := all_upto v0 (fun j hj => hn j (by omega))
  have hrow : ∀ v ∈ row, okV v := fun v hv => ⟨List.all_eq_true.1 hall v hv, hvb v hv⟩
  have hes : evalS l row x = match evX l row (SizeOf.sizeOf x + 1) x with
    | .ok v => (v, 0)
    | .error e => (v0, e) := if_pos ⟨hr, hlr, hall⟩
  intro a w hD hS
  have s1 := hD.fr.kv (t := 1) (v := .slice ad l.length cap) rfl
  have s2 := hD.fr.kv (t := 2) (v := .slice ad2 row.length cap2) rfl
  have s3 := hD.fr.kv (t := 3) (v := .pointer (some ⟨b3, 0, none⟩)) rfl
  have s6 := hD.fr.kv (t := 6) (v := .pointer (some ⟨b6, 0, none⟩)) rfl
  have s7 := hD.fr.kv (t := 7) (v := .pointer (some ⟨b7, 0, none⟩)) rfl
  have c3 := hS.wok.own 3 _ _ _ rfl
  have c6 := hS.wok.own 6 _ _ _ rfl
  have c7 := hS.wok.own 7 _ _ _ rfl
  have hsz := hD.fr.sz
  have hdf := hD.fr.df
  have hne : b6 ≠ b7 := fun e => two_ids (k := 6) (k' := 7) rfl (by rw [e]; rfl) (by decide) hS.st.nd
  have f6 := hS.st.fresh b6 (List.mem_filterMap.2 ⟨_, oes_mem (k := 6) rfl rfl, rfl⟩)
  have f7 := hS.st.fresh b7 (List.mem_filterMap.2 ⟨_, oes_mem (k := 7) rfl rfl, rfl⟩)
  have g6 : w0.heap.size ≤ b6 := f6.1.resolve_right (by simp)
  have g7 : w0.heap.size ≤ b7 := f7.1.resolve_right (by simp)
  -- the closure is made, and put off
  refine c_seq (c_reg ?_)
  refine w_mkdefer (vsl := [.pointer (some ⟨b6, 0, none⟩), .pointer (some ⟨b7, 0, none⟩)]) (by show [a.tmps.getD 6 undef, a.tmps.getD 7 undef] = _; rw [s6, s7]) hsz rfl ?_
  rw [hdf]
  generalize hfv : Value.func (.func 33) #[] [Value.pointer (some ⟨b6, 0, none⟩), Value.pointer (some ⟨b7, 0, none⟩)].toArray = fv
  show codeM Md.wp Try.prog _ _ _ _
  refine c_seq (c_reg ?_)
  generalize hds : [(⟨.fn (.func 33) [Value.pointer (some ⟨b6, 0, none⟩), Value.pointer (some ⟨b7, 0, none⟩)].toArray, #[]⟩ : Deferred)] = ds
  refine wpList_df (ds := ds) _ (a.put (some 32) fv) w (fun o ho => ?_) ?_
  · simp only [List.mem_cons, List.not_mem_nil, or_false] at ho
    rcases ho with rfl | rfl | rfl | rfl | rfl | rfl | rfl
    all_goals first | exact nodef_quiet rfl | exact nodef_call (TT_ok.call rfl)
  have hDp := Dn.part (L0 := [(1, .v (.slice ad l.length cap)), (2, .v (.slice ad2 row.length cap2)), (3, .o 3 0), (6, .o 6 0), (7, .o 7 0)]) (d := 32) (v := fv) hD rfl rfl
  have fin : ∀ (tm : Array Value) (cs : List Value) (e : Int) (w2 : World) (hk : Keep [] w0 w2) (t6 : tm.getD 6 undef = .pointer (some ⟨b6, 0, none⟩)) (t7 : tm.getD 7 undef = .pointer (some ⟨b7, 0, none⟩)) (h6 : w2.heap[b6]? = some (.cells cs.toArray 25 (0, 0))) (h7 : w2.heap[b7]? = some (.cells #[.int .i64 e] 35 (0, 0))) (hcs : cs.length = 3)
      (hres : Value.tuple #[.agg cs.toArray, .int .i64 e] = evR (evalS l row x)), Leaves Try.prog Try.f12 tm (Ret w0 h0 fun u _ => u = evR (evalS l row x)) [] .returning w2 := by
    intro tm cs e w2 hk t6 t7 h6 h7 hcs hres
    refine ⟨_, res2 (t6 := 6) (t7 := 7) (ty6 := 25) (ty7 := 35) Try.results12 t6 t7 (by decide) h6 h7 (by rw [hcs]; exact AggT.of (by kernel_rfl) (by kernel_rfl)) (OneT.of (by kernel_rfl)), ?_⟩
    exact ⟨_, rfl, hk, hres⟩
  cases hev : evX l row (SizeOf.sizeOf x + 1) x with
  | ok v =>
    rw [hev] at hes
    refine runs_wp (c := ⟨Try.prog, TT, .wp, 38, w0, h0, [], fun _ => False, [], []⟩) (K := fun L I B F => I = [] ∧ kv L [] B 6 = some (.pointer (some ⟨b6, 0, none⟩)) ∧ kv L [] B 7 = some (.pointer (some ⟨b7, 0, none⟩)) ∧ lkA B 6 = some (.c b6 25 (valC v)) ∧ lkA B 7 = some (.c b7 35 [.int .i64 0])) TT_ok ?_ ?_ (fun _ _ _ h _ _ => h.elim) hDp hS
    · refine cb (fun w hw => RetE.ok (c_eval ad cap l ad2 cap2 row hlr hl hrow h0 hb hb2 _ x ax cx (RX.of hx.op hx.v hx.xl) hr (Nat.lt_succ_self _) w hw) hev) ?_
      exact ⟨rfl, rfl, rfl, rfl, rfl⟩
    · rintro L I B F a2 w2 ⟨rfl, k6, k7, l6, l7⟩ hD2 hS2
      show codeM Md.wp Try.prog Code.ret _ _ _
      refine c_ret ?_
      show Leaves Try.prog _ a2.tmps _ ds .returning w2
      rw [← hds]
      refine leaves_cons (by simp) (run_invoke (TT_ok.call rfl) _ _ w2) ((c_idle b6 b7 w2).mono ?_)
      rintro en u' w' ⟨rfl, rfl, hw'⟩
      rw [hw']
      exact fin a2.tmps (valC v) 0 w2 hS2.st.keep (hD2.fr.kv k6) (hD2.fr.kv k7) (hS2.wok.own _ _ _ _ l6) (hS2.wok.own _ _ _ _ l7) rfl (by rw [hes]; rfl)
  | error y =>
    rw [hev] at hes
    refine wpList_at 4 ?_
    refine runs_wp (c := ⟨Try.prog, TT, .wp, 38, w0, h0, [], fun _ => False, [], []⟩) (K := fun L I B F => I = [] ∧ kv L [] B 6 = some (.pointer (some ⟨b6, 0, none⟩)) ∧ kv L [] B 7 = some (.pointer (some ⟨b7, 0, none⟩)) ∧ kv L [] B 35 = some (.agg (scC ad l.length cap ad2 row.length cap2).toArray) ∧ kv L [] B 36 = some (.agg (exC x.op x.v x.s (.slice ax x.l.length cx)).toArray) ∧
      lkA B 6 = some (.c b6 25 (valC v0)) ∧ lkA B 7 = some (.c b7 35 [.int .i64 0])) TT_ok ?_ ?_ (fun _ _ _ h _ _ => h.elim) hDp hS
    · exact ⟨rfl, rfl, rfl, rfl, rfl, rfl, rfl⟩
    · rintro L I B F a2 w2 ⟨rfl, k6, k7, k35, k36, l6, l7⟩ hD2 hS2
      have hc := RetE.err (c_eval ad cap l ad2 cap2 row hlr hl hrow h0 hb hb2 _ x ax cx (RX.of hx.op hx.v hx.xl) hr (Nat.lt_succ_self _) w2 hS2.st.base) hev
      show wpList Try.prog _ _ _ a2 w2
      refine wpList_op rfl ?_
      unfold Oper.wp
      have hev2 : evs (fl L [] B) [.tmp 35, .tmp 36] = some [.agg (scC ad l.length cap ad2 row.length cap2).toArray, .agg (exC x.op x.v x.s (.slice ax x.l.length cx)).toArray] := by
        have e35 : ev (fl L [] B) (.tmp 35) = some (.agg (scC ad l.length cap ad2 row.length cap2).toArray) := (vl_fl L [] B 35).trans k35
        have e36 : ev (fl L [] B) (.tmp 36) = some (.agg (exC x.op x.v x.s (.slice ax x.l.length cx)).toArray) := (vl_fl L [] B 36).trans k36
        simp only [evs, e35, e36]
      rw [run_callf (L := fl L [] B) (args := [.tmp 35, .tmp 36]) (TT_ok.call rfl) hev2 (fun z hz u hu => hD2.fr.ev hu) w2]
      rw [Oper.upon_enter]
      refine hc.mono ?_
      rintro e w3 ⟨rfl, hk3⟩
      show Leaves Try.prog _ a2.tmps _ ds (.panicking (ech y)) w3
      rw [← hds]
      have m6 := hS2.wok.own _ _ _ _ l6
      have m7 := hS2.wok.own _ _ _ _ l7
      have n6 : w3.heap[b6]? = some (.cells (valC v0).toArray 25 (0, 0)) := by rw [hk3.block b6 (Array.getElem?_eq_some_iff.1 m6).1 (by simp)]; exact m6
      have n7 : w3.heap[b7]? = some (.cells #[.int .i64 0] 35 (0, 0)) := by rw [hk3.block b7 (Array.getElem?_eq_some_iff.1 m7).1 (by simp)]; exact m7
      refine leaves_cons (by simp) (run_invoke (TT_ok.call rfl) _ _ w3) ((c_catch b6 b7 (valC v0) (.int .i64 0) y [] hne w3 n6 rfl n7).mono ?_)
      rintro en u' w4 ⟨rfl, rfl, hk4, h6, h7⟩
      refine fin a2.tmps (valC v0) y w4 ((hS2.st.keep.trans hk3).transIn hk4 fun b hb => ?_) (hD2.fr.kv k6) (hD2.fr.kv k7) h6 h7 rfl (by rw [hes]; rfl)
      rcases List.mem_cons.1 hb with rfl | hb
      · exact .inl g6
      · rcases List.mem_cons.1 hb with rfl | hb
        · exact .inl g7
        · cases hb

end Go.Proofs.Ytokhjcpoapbfmaa
namespace Go.Proofs.Ytokhjcpoapbfmaa
open Go Go.Dx Go.RowKit
theorem c_val (v : Val) (w0 : World) (h0 : View) (hv : VLe h0 (Full w0)) : Calls Try.prog 31 #[.agg (valC v).toArray] w0 (Ret w0 h0 fun u _ => u = .agg (leafC 1 v []).toArray) := by
  refine ent (args := [.agg (valC v).toArray]) TT_ok [] [] Try.func31 rfl Try.ntmps31 rfl rfl hv ?_
  intro b1 b2
  exact rfl
theorem c_num (n : Int) (w0 : World) (h0 : View) (hv : VLe h0 (Full w0)) : Calls Try.prog 30 #[.int .i64 n] w0 (Ret w0 h0 fun u _ => u = .agg (leafC 1 ⟨1, n, []⟩ []).toArray) := by
  refine ent (args := [.int .i64 n]) TT_ok [] [] Try.func30 rfl Try.ntmps30 rfl rfl hv ?_
  intro b2
  refine cl (c_val ⟨1, n, []⟩) ?_
  exact rfl
theorem xl_mono (ad : Option Addr) (cap : Nat) (l : List Ex) : Mono fun h => XL h ad cap l := fun _ _ hle hx => hx.mono hle
theorem c_two (op : Int) (v1 v2 : Val) (o1 o2 : Int) (s1 s2 : List UInt8) (a1 a2 : Value) (x y : Ex) (w0 : World) (h0 : View) (hv : VLe h0 (Full w0)) (hx : RX h0 (exC o1 v1 s1 a1) x) (hy : RX h0 (exC o2 v2 s2 a2) y) (n1 : notAgg a1 = true) (n2 : notAgg a2 = true) :
    Calls Try.prog 23 #[.int .i64 op, .agg (exC o1 v1 s1 a1).toArray, .agg (exC o2 v2 s2 a2).toArray] w0 (Ret w0 h0 fun u h => ∃ b : Nat, u = .agg (exC op v0 [] (.slice (some ⟨b, 0, none⟩) 2 2)).toArray ∧ XL h (some ⟨b, 0, none⟩) 2 [x, y]) := by
  refine entA (args := [.int .i64 op, .agg (exC o1 v1 s1 a1).toArray, .agg (exC o2 v2 s2 a2).toArray]) TT_ok [11] [] Try.func23 rfl Try.ntmps23 rfl rfl hv (fun _ => xl_mono _ _ _) ?_
  intro b4 b5 b6 b10
  refine shutG TT_ok (Φ := fun h => XL h (some ⟨b10, 0, none⟩) 2 [x, y]) 10 rfl (fun hh hle _ hb => xl_two (c1 := exC o1 v1 s1 a1) (c2 := exC o2 v2 s2 a2) hb rfl rfl (hx.mono hle) (hy.mono hle)) ?_ (xl_mono _ _ _)
  exact ⟨b10, rfl, fun v _ hF => hF.2⟩
theorem c_EvalK {p : Val × Int} (x : Ex) (ax : Option Addr) (cx : Nat) (ad : Option Addr) (cap : Nat) (l : List Col) (ad2 : Option Addr) (cap2 : Nat) (row : List Val) (hp : evalS l row x = p) (hl : l.length ≤ 1000000) (hvb : ∀ v ∈ row, valB v) (w0 : World) (h0 : View) (hv : VLe h0 (Full w0)) (hx : GX h0 ax cx x)
    (hb : SlC 47 3 (flatR colC) h0 (.slice ad l.length cap) l) (hb2 : SlC 25 3 (flatR valC) h0 (.slice ad2 row.length cap2) row) :
    Calls Try.prog 12 #[.agg (exC x.op x.v x.s (.slice ax x.l.length cx)).toArray, .slice ad l.length cap, .slice ad2 row.length cap2] w0 (Ret w0 h0 fun u _ => u = evR p) := by
  subst hp
  exact c_Eval x ax cx ad cap l ad2 cap2 row hl hvb w0 h0 hv hx hb hb2
theorem vB (k n : Int) (s : List UInt8) (h : -9223372036854775808 ≤ k ∧ k ≤ 9223372036854775807) (h2 : -9223372036854775808 ≤ n ∧ n ≤ 9223372036854775807) : valB ⟨k, n, s⟩ := ⟨h, h2⟩
theorem vB0 : valB v0 := vB 0 0 [] (by decide) (by decide)
theorem es_A : evalS [colA] [⟨1, 7, []⟩] exA = (⟨1, -3, []⟩, 0) := by rw [evalS, if_pos ⟨right_exA, rfl, by decide⟩, ev_exA]
theorem es_B : evalS [] [] exB = (⟨3, 0, []⟩, 0) := by rw [evalS, if_pos ⟨right_exB, rfl, by decide⟩, ev_exB]
theorem es_D : evalS [] [] exD = (v0, 15) := by rw [evalS, if_pos ⟨right_exD, rfl, by decide⟩, ev_exD]
set_option maxRecDepth 100000 in
theorem c_lives (w0 : World) (h0 : View) (hv : VLe h0 (Full w0)) : Calls Try.prog 11 #[] w0 (Ret w0 h0 fun u _ => u = .bool true) := by
  refine ent (args := []) TT_ok [13, 19] [] Try.func11 rfl Try.ntmps11 rfl rfl hv ?_
  refine cl (c_num 2) ?_
  intro b12
  refine shutG TT_ok (Φ := fun h => XL h (some ⟨b12, 0, none⟩) 1 [numX 2]) 12 rfl (fun hh hle _ hb => xl_one (c1 := leafC 1 ⟨1, 2, []⟩ []) hb rfl (rx_leaf (i64n (by decide)) ⟨i64n (by decide), i64n (by decide)⟩)) ?_ (xl_mono _ _ _)
  refine cA TT_ok (fun w v h1 h2 h3 => c_two 7 v0 v0 2 3 [97] [] nilS (.slice (some ⟨b12, 0, none⟩) 1 1) (KX 2 v0 [97]) (.mk 3 v0 [] [numX 2]) w v h3 (rx_leaf (i64n (by decide)) ⟨i64n (by decide), i64n (by decide)⟩) (RX.of (x := .mk 3 v0 [] [numX 2]) (i64n (by decide)) ⟨i64n (by decide), i64n (by decide)⟩ h2.2) rfl rfl) (fun _ => xl_mono _ _ _) (fun b14 => ?_)
  intro b16 b18
  refine ⟨rfl, shutW 16 (row_sl (g := colC) (l := [colA]) (sz := 3) (n := 1) (cp := 1) rfl) ?_ Mono.slF⟩
  refine shutW 18 (row_sl (g := valC) (l := [(⟨1, 7, []⟩ : Val)]) (sz := 3) (n := 1) (cp := 1) rfl) ?_ Mono.slF
  refine goW TT_ok ?_
  refine cf (fun w v h1 h2 h3 => c_EvalK exA (some ⟨b14, 0, none⟩) 2 (some ⟨b16, 0, none⟩) 1 [colA] (some ⟨b18, 0, none⟩) 1 [⟨1, 7, []⟩] es_A (by decide) (by simp [valB, i64]) w v h3 ⟨h2.1.1.2, i64n (by decide), vB0, 5, by decide⟩ h2.1.2 h2.2) ?_
  intro b1
  refine cl (c_val v0) ?_
  refine cl (c_val ⟨3, 0, []⟩) ?_
  refine cA TT_ok (fun w v h1 h2 h3 => c_two 14 v0 ⟨3, 0, []⟩ 1 1 [] [] nilS nilS (KX 1 v0 []) (KX 1 ⟨3, 0, []⟩ []) w v h3 (rx_leaf (v := v0) (i64n (by decide)) vB0) (rx_leaf (v := ⟨3, 0, []⟩) (i64n (by decide)) (vB 3 0 [] (by decide) (by decide))) rfl rfl) (fun _ => xl_mono _ _ _) (fun b27 => ?_)
  refine cf (fun w v h1 h2 h3 => c_EvalK exB (some ⟨b27, 0, none⟩) 2 none 0 [] none 0 [] es_B (by decide) (by simp) w v h3 ⟨h2.2, i64n (by decide), vB0, 5, by decide⟩ (SlC.nil (by simp [maxLen])) (SlC.nil (by simp [maxLen]))) ?_
  intro b3
  refine cl (c_num 9223372036854775807) ?_
  refine cl (c_num 1) ?_
  refine cA TT_ok (fun w v h1 h2 h3 => c_two 4 ⟨1, 9223372036854775807, []⟩ ⟨1, 1, []⟩ 1 1 [] [] nilS nilS (numX 9223372036854775807) (numX 1) w v h3 (rx_leaf (v := ⟨1, 9223372036854775807, []⟩) (i64n (by decide)) (vB _ _ _ (by decide) (by decide))) (rx_leaf (v := ⟨1, 1, []⟩) (i64n (by decide)) (vB _ _ _ (by decide) (by decide))) rfl rfl) (fun _ => xl_mono _ _ _) (fun b34 => ?_)
  refine cf (fun w v h1 h2 h3 => c_EvalK exD (some ⟨b34, 0, none⟩) 2 none 0 [] none 0 [] es_D (by decide) (by simp) w v h3 ⟨h2.2, i64n (by decide), vB0, 5, by decide⟩ (SlC.nil (by simp [maxLen])) (SlC.nil (by simp [maxLen]))) ?_
  intro b5
  refine cl (c_EAdd 3 4 ⟨by decide, by decide⟩ ⟨by decide, by decide⟩) ?_
  exact rfl

end Go.Proofs.Ytokhjcpoapbfmaa
namespace Go.Proofs.Ytokhjcpoapbfmaa
open Go Go.Dx Go.RowKit
set_option maxRecDepth 100000 in
theorem c_small : ∀ (d : Nat), d ≤ 1000 → ∀ (x : Ex) (ad : Option Addr) (cap : Nat) (w0 : World) (h0 : View), VLe h0 (Full w0) → XL h0 ad cap x.l → Calls Try.prog 28 #[.agg (exC x.op x.v x.s (.slice ad x.l.length cap)).toArray, .int .i64 (d : Nat)] w0 (Ret w0 h0 fun u _ => u = .bool (smallX d x)) := by
  intro d
  induction d with
  | zero =>
    intro hd x ad cap w0 h0 hv hx
    refine ent (args := [.agg (exC x.op x.v x.s (.slice ad x.l.length cap)).toArray, .int .i64 ((0 : Nat) : Int)]) TT_ok [] [] Try.func28 rfl Try.ntmps28 rfl rfl hv ?_
    intro b2
    refine cnd (fun h => ?_) (fun h => by exfalso; omega)
    exact rfl
  | succ d ih =>
    intro hd x ad cap w0 h0 hv hx
    have hlm := hx.lm
    refine ent (args := [.agg (exC x.op x.v x.s (.slice ad x.l.length cap)).toArray, .int .i64 ((d + 1 : Nat) : Int)]) TT_ok [] [] Try.func28 rfl Try.ntmps28 rfl rfl hv ?_
    intro b2
    refine cnd (fun h => ?_) (fun h => ?_)
    · exact congrArg Value.bool (small_no (d + 1) x (by omega)).symm
    · refine w_loop TT_ok (fun k : Nat => [(5, .v (.int .i64 k))]) 0 (fun k => k ≤ x.l.length ∧ ∀ j, j < k → smallX d (x.l.getD j ex0) = true) (fun k => x.l.length - k) ?_
      refine And.intro ⟨⟨Nat.zero_le _, fun j hj => absurd hj (Nat.not_lt_zero j)⟩, gs⟩ ?_
      intro k ⟨hk, hn⟩
      refine cnd (fun h1 => ?_) (fun h1 => ?_)
      · refine ixE hx k (fun a2 c2 g1 g2 g3 => ?_)
        refine ew ((d : Nat) : Int) (show IntKind.i64.wrap (((d + 1 : Nat) : Int) - 1) = ((d : Nat) : Int) by rw [show ((d + 1 : Nat) : Int) - 1 = ((d : Nat) : Int) by omega]; exact wrap_i64 (by omega) (by omega)) ?_
        refine cb (fun w hw => ih (by omega) _ a2 c2 w h0 hw g1) ?_
        refine cnd (fun h4 => ?_) (fun h4 => ?_)
        · exact congrArg Value.bool (by rw [small_eq (by omega)]; simp only [Nat.add_sub_cancel]; rw [all_not ex0 (k := k) (by omega) h4]; simp)
        · refine wi ?_
          exact ⟨k + 1, ⟨⟨by omega, upto_snoc hn h4⟩, by omega⟩, gs⟩
      · exact congrArg Value.bool (by rw [small_eq (by omega)]; simp only [Nat.add_sub_cancel]; rw [all_upto ex0 (p := smallX d) (fun j hj => hn j (by omega))]; simp; omega)
theorem c_Size : ∀ (k : Nat) (x : Ex) (ad : Option Addr) (cap : Nat), SizeOf.sizeOf x < k → ∀ (w0 : World) (h0 : View), VLe h0 (Full w0) → XL h0 ad cap x.l → Calls Try.prog 29 #[.agg (exC x.op x.v x.s (.slice ad x.l.length cap)).toArray] w0 (Ret w0 h0 fun u _ => u = .int .i64 (szF x)) := by
  intro k
  induction k with
  | zero => intro x ad cap h; omega
  | succ k ih =>
    intro x ad cap hk w0 h0 hv hx
    have hlm := hx.lm
    refine ent (args := [.agg (exC x.op x.v x.s (.slice ad x.l.length cap)).toArray]) TT_ok [] [] Try.func29 rfl Try.ntmps29 rfl rfl hv ?_
    intro b2
    refine w_loop TT_ok (fun k : Nat => [(4, .v (.int .i64 k)), (3, .v (.int .i64 (szL 1 (x.l.take k))))]) 0 (fun k => k ≤ x.l.length) (fun k => x.l.length - k) ?_
    refine And.intro ⟨Nat.zero_le _, gs⟩ ?_
    intro i hi
    refine cnd (fun h1 => ?_) (fun h1 => ?_)
    · refine ixE hx i (fun a2 c2 g1 g2 g3 => ?_)
      refine cb (fun w hw => ih _ a2 c2 (by have := Ex.lt (getD_mem x.l i ex0 (by omega)); omega) w h0 hw g1) ?_
      refine ew _ rfl ?_
      refine wi ?_
      exact ⟨i + 1, ⟨by omega, by omega⟩, gs (by rw [show szL 1 (x.l.take (i + 1)) = IntKind.i64.wrap (szL 1 (x.l.take i) + szF (x.l.getD i ex0)) by rw [take_snocD x.l i ex0 (by omega), szL_snoc]]; rfl)⟩
    · exact congrArg (Value.int .i64) (by rw [sz_eq, List.take_of_length_le (by omega)])
theorem c_XSmall (x : Ex) (ad : Option Addr) (cap : Nat) (w0 : World) (h0 : View) (hv : VLe h0 (Full w0)) (hx : XL h0 ad cap x.l) : Calls Try.prog 8 #[.agg (exC x.op x.v x.s (.slice ad x.l.length cap)).toArray] w0 (Ret w0 h0 fun u _ => u = .bool (XSm x)) := by
  refine ent (args := [.agg (exC x.op x.v x.s (.slice ad x.l.length cap)).toArray]) TT_ok [] [] Try.func8 rfl Try.ntmps8 rfl rfl hv ?_
  intro b1
  refine cb (fun w hw => c_small 30 (by decide) x ad cap w h0 hw hx) ?_
  refine cbg (fun _ w hw => c_Size _ x ad cap (Nat.lt_succ_self _) w h0 hw hx) ?_
  exact rfl
theorem c_Few (adc : Option Addr) (capc : Nat) (cl : List Col) (w0 : World) (h0 : View) (hv : VLe h0 (Full w0)) (hcl : SlC 47 3 (flatR colC) h0 (.slice adc cl.length capc) cl) : Calls Try.prog 9 #[.slice adc cl.length capc] w0 (Ret w0 h0 fun u _ => u = .bool (fewS cl)) := by
  have hlm := slc_lm hcl
  refine ent (args := [.slice adc cl.length capc]) TT_ok [] [] Try.func9 rfl Try.ntmps9 rfl rfl hv ?_
  refine cnd (fun h => ?_) (fun h => ?_)
  · exact congrArg Value.bool (by rw [fewS, decide_eq_false (by omega), Bool.false_and])
  refine w_loop TT_ok (fun k : Nat => [(3, .v (.int .i64 k))]) 0 (fun k => k ≤ cl.length ∧ ∀ j, j < k → (cl.getD j c0).name.length ≤ 300) (fun k => cl.length - k) ?_
  refine And.intro ⟨⟨Nat.zero_le _, fun j hj => absurd hj (Nat.not_lt_zero j)⟩, gs⟩ ?_
  intro k ⟨hk, hn⟩
  refine cnd (fun h1 => ?_) (fun h1 => ?_)
  · refine ixs hcl k c0 ?_
    refine cnd (fun h2 => ?_) (fun h2 => ?_)
    · exact congrArg Value.bool (by rw [fewS, all_not c0 (k := k) (p := fun c => decide (c.name.length ≤ 300)) (by omega) (by simp only [decide_eq_false_iff_not]; omega), Bool.and_false])
    · refine wi ?_
      exact ⟨k + 1, ⟨⟨by omega, upto_snoc hn (by omega)⟩, by omega⟩, gs⟩
  · exact congrArg Value.bool (by rw [fewS, all_upto c0 (p := fun c => decide (c.name.length ≤ 300)) (fun j hj => decide_eq_true (hn j (by omega))), Bool.and_true, decide_eq_true (by omega)])
def fewR (l : List Val) : Bool := decide (l.length ≤ 12) && l.all fun v => decide (v.s.length ≤ 300)
theorem c_RowFew (ad : Option Addr) (cap : Nat) (l : List Val) (w0 : World) (h0 : View) (hv : VLe h0 (Full w0)) (hb : SlC 25 3 (flatR valC) h0 (.slice ad l.length cap) l) : Calls Try.prog 10 #[.slice ad l.length cap] w0 (Ret w0 h0 fun u _ => u = .bool (fewR l)) := by
  have hlm := slc_lm hb
  refine ent (args := [.slice ad l.length cap]) TT_ok [] [] Try.func10 rfl Try.ntmps10 rfl rfl hv ?_
  refine cnd (fun h => ?_) (fun h => ?_)
  · exact congrArg Value.bool (by rw [fewR, decide_eq_false (by omega), Bool.false_and])
  refine w_loop TT_ok (fun k : Nat => [(3, .v (.int .i64 k))]) 0 (fun k => k ≤ l.length ∧ ∀ j, j < k → (l.getD j v0).s.length ≤ 300) (fun k => l.length - k) ?_
  refine And.intro ⟨⟨Nat.zero_le _, fun j hj => absurd hj (Nat.not_lt_zero j)⟩, gs⟩ ?_
  intro k ⟨hk, hn⟩
  refine cnd (fun h1 => ?_) (fun h1 => ?_)
  · refine ixs hb k v0 ?_
    refine cnd (fun h2 => ?_) (fun h2 => ?_)
    · exact congrArg Value.bool (by rw [fewR, all_not v0 (k := k) (p := fun v => decide (v.s.length ≤ 300)) (by omega) (by simp only [decide_eq_false_iff_not]; omega), Bool.and_false])
    · refine wi ?_
      exact ⟨k + 1, ⟨⟨by omega, upto_snoc hn (by omega)⟩, by omega⟩, gs⟩
  · exact congrArg Value.bool (by rw [fewR, all_upto v0 (p := fun v => decide (v.s.length ≤ 300)) (fun j hj => decide_eq_true (hn j (by omega))), Bool.and_true, decide_eq_true (by omega)])

end Go.Proofs.Ytokhjcpoapbfmaa
namespace Go.Proofs.Ytokhjcpoapbfmaa
open Go Go.Dx Go.RowKit
theorem c_Fits (p q : Int) (w0 : World) (h0 : View) (hv : VLe h0 (Full w0)) : Calls Try.prog 27 #[.int .i64 p, .int .i64 q] w0 (Ret w0 h0 fun u _ => u = .bool (fitS p q)) := by
  refine ent (args := [.int .i64 p, .int .i64 q]) TT_ok [] [] Try.func27 rfl Try.ntmps27 rfl rfl hv ?_
  exact congrArg Value.bool (by rw [fitS, Bool.or_assoc])
theorem c_RFits (p q : Int) (w0 : World) (h0 : View) (hv : VLe h0 (Full w0)) : Calls Try.prog 57 #[.int .i64 p, .int .i64 q] w0 (Ret w0 h0 fun u _ => u = .bool (fitS p q)) := by
  refine ent (args := [.int .i64 p, .int .i64 q]) TT_ok [] [] Try.func57 rfl Try.ntmps57 rfl rfl hv ?_
  exact congrArg Value.bool (by rw [fitS, Bool.or_assoc])
theorem c_either (p q : Int) (w0 : World) (h0 : View) (hv : VLe h0 (Full w0)) : Calls Try.prog 83 #[.int .i64 p, .int .i64 q] w0 (Ret w0 h0 fun u _ => u = .int .i64 (eith p q)) := by
  refine ent (args := [.int .i64 p, .int .i64 q]) TT_ok [] [] Try.func83 rfl Try.ntmps83 rfl rfl hv ?_
  refine cnd (fun h => ?_) (fun h => ?_)
  · exact congrArg (Value.int .i64) (by rw [eith, if_pos h])
  · exact congrArg (Value.int .i64) (by rw [eith, if_neg (by simpa using h)])
def intC (n : Int) : List Value := [.int .i64 n]
theorem c_all (want : Int) (ad : Option Addr) (cap : Nat) (l : List Int) (w0 : World) (h0 : View) (hv : VLe h0 (Full w0)) (hb : SlC 23 1 (flatR intC) h0 (.slice ad l.length cap) l) : Calls Try.prog 82 #[.int .i64 want, .slice ad l.length cap] w0 (Ret w0 h0 fun u _ => u = .bool (l.all (fitS · want))) := by
  have hlm := slc_lm hb
  refine ent (args := [.int .i64 want, .slice ad l.length cap]) TT_ok [] [] Try.func82 rfl Try.ntmps82 rfl rfl hv ?_
  refine w_loop TT_ok (fun k : Nat => [(9, .v (.int .i64 k))]) 0 (fun k => k ≤ l.length ∧ ∀ j, j < k → fitS (l.getD j 0) want = true) (fun k => l.length - k) ?_
  refine And.intro ⟨⟨Nat.zero_le _, fun j hj => absurd hj (Nat.not_lt_zero j)⟩, gs⟩ ?_
  intro k ⟨hk, hn⟩
  refine cnd (fun h => ?_) (fun h => ?_)
  · refine ixs hb k 0 ?_
    refine cl (c_Fits (l.getD k 0) want) ?_
    refine cnd (fun h4 => ?_) (fun h4 => ?_)
    · exact congrArg Value.bool (all_not (p := (fitS · want)) 0 (by omega) h4).symm
    · refine wi ?_
      exact ⟨k + 1, ⟨⟨by omega, upto_snoc hn h4⟩, by omega⟩, gs⟩
  · exact congrArg Value.bool (all_upto (p := (fitS · want)) 0 (fun j hj => hn j (by omega))).symm
theorem c_IndexK (ad : Option Addr) (cap : Nat) (l : List Int) (v : Int) (w0 : World) (h0 : View) (hv : VLe h0 (Full w0)) (hb : SlC 23 1 (flatR intC) h0 (.slice ad l.length cap) l) : Calls Try.prog 95 #[.slice ad l.length cap, .int .i64 v] w0 (Ret w0 h0 fun u _ => u = .int .i64 (idxS (fun x => decide (v = x)) l)) := by
  have hlm := slc_lm hb
  refine ent (args := [.slice ad l.length cap, .int .i64 v]) TT_ok [] [] Try.func95 rfl Try.ntmps95 rfl rfl hv ?_
  refine w_loop TT_ok (fun k : Nat => [(8, .v (.int .i64 k))]) 0 (fun k => k ≤ l.length ∧ ∀ j, j < k → (fun x => decide (v = x)) (l.getD j 0) = false) (fun k => l.length - k) ?_
  refine And.intro ⟨⟨Nat.zero_le _, fun j hj => absurd hj (Nat.not_lt_zero j)⟩, gs⟩ ?_
  intro k ⟨hk, hn⟩
  refine cnd (fun h => ?_) (fun h => ?_)
  · refine ixs hb k 0 ?_
    refine cnd (fun h4 => ?_) (fun h4 => ?_)
    · exact congrArg (Value.int .i64) (idx_hit (p := fun x => decide (v = x)) 0 (by omega) hn (decide_eq_true h4)).symm
    · refine wi ?_
      exact ⟨k + 1, ⟨⟨by omega, upto_snoc hn (decide_eq_false h4)⟩, by omega⟩, gs⟩
  · exact congrArg (Value.int .i64) (idx_none (p := fun x => decide (v = x)) 0 (fun j hj => hn j (by omega))).symm
theorem c_ContainsK (ad : Option Addr) (cap : Nat) (l : List Int) (v : Int) (w0 : World) (h0 : View) (hv : VLe h0 (Full w0)) (hb : SlC 23 1 (flatR intC) h0 (.slice ad l.length cap) l) : Calls Try.prog 84 #[.slice ad l.length cap, .int .i64 v] w0 (Ret w0 h0 fun u _ => u = .bool (l.contains v)) := by
  refine ent (args := [.slice ad l.length cap, .int .i64 v]) TT_ok [] [] Try.func84 rfl Try.ntmps84 rfl rfl hv ?_
  refine cb (fun w hw => c_IndexK ad cap l v w h0 hw hb) ?_
  exact congrArg Value.bool (contains_idx l v)
theorem c_at1 (c : Col) (s : List UInt8) (b : Nat) (w0 : World) (h0 : View) (hv : VLe h0 (Full w0)) (hb : ∀ w, VLe h0 (Full w) → w.cell? ⟨b, 0, none⟩ = some (vs s)) : Calls Try.prog 81 #[.agg (colC c).toArray, .pointer (some ⟨b, 0, none⟩)] w0 (Ret w0 h0 fun u _ => u = .bool (decide (c.name = s))) := by
  refine ent (args := [.agg (colC c).toArray, .pointer (some ⟨b, 0, none⟩)]) TT_ok [] [] Try.func81 rfl Try.ntmps81 rfl rfl hv ?_
  intro b2
  refine ew (vs s) (fun v' w h1 _ h3 => hb w (h1.trans h3)) ?_
  exact rfl
theorem c_IndexC (adc : Option Addr) (capc : Nat) (cl : List Col) (s : List UInt8) (b : Nat) (w0 : World) (h0 : View) (hv : VLe h0 (Full w0)) (hcl : SlC 47 3 (flatR colC) h0 (.slice adc cl.length capc) cl) (hb : ∀ w, VLe h0 (Full w) → w.cell? ⟨b, 0, none⟩ = some (vs s)) :
    Calls Try.prog 80 #[.slice adc cl.length capc, .func (.func 81) #[] #[.pointer (some ⟨b, 0, none⟩)]] w0 (Ret w0 h0 fun u _ => u = .int .i64 (atS cl s)) := by
  have hlm := slc_lm hcl
  refine ent (args := [.slice adc cl.length capc, .func (.func 81) #[] #[.pointer (some ⟨b, 0, none⟩)]]) TT_ok [] [] Try.func80 rfl Try.ntmps80 rfl rfl hv ?_
  refine w_loop TT_ok (fun k : Nat => [(8, .v (.int .i64 k))]) 0 (fun k => k ≤ cl.length ∧ ∀ j, j < k → (fun c : Col => decide (c.name = s)) (cl.getD j c0) = false) (fun k => cl.length - k) ?_
  refine And.intro ⟨⟨Nat.zero_le _, fun j hj => absurd hj (Nat.not_lt_zero j)⟩, gs⟩ ?_
  intro k ⟨hk, hn⟩
  refine cnd (fun h => ?_) (fun h => ?_)
  · refine ixs hcl k c0 ?_
    refine cb (fun w hw => c_at1 (cl.getD k c0) s b w h0 hw hb) ?_
    refine cnd (fun h4 => ?_) (fun h4 => ?_)
    · exact congrArg (Value.int .i64) (idx_hit (p := fun c : Col => decide (c.name = s)) c0 (by omega) hn (decide_eq_true h4)).symm
    · refine wi ?_
      exact ⟨k + 1, ⟨⟨by omega, upto_snoc hn (decide_eq_false h4)⟩, by omega⟩, gs⟩
  · exact congrArg (Value.int .i64) (idx_none (p := fun c : Col => decide (c.name = s)) c0 (fun j hj => hn j (by omega))).symm
theorem c_at (adc : Option Addr) (capc : Nat) (cl : List Col) (s : List UInt8) (w0 : World) (h0 : View) (hv : VLe h0 (Full w0)) (hcl : SlC 47 3 (flatR colC) h0 (.slice adc cl.length capc) cl) : Calls Try.prog 64 #[.slice adc cl.length capc, vs s] w0 (Ret w0 h0 fun u _ => u = .int .i64 (atS cl s)) := by
  refine ent (args := [.slice adc cl.length capc, vs s]) TT_ok [] [] Try.func64 rfl Try.ntmps64 rfl rfl hv ?_
  intro b3
  refine co (fun w hS => c_IndexC adc capc cl s b3 w (Full w) (VLe.refl _) (hcl.monoF hS.st.base) (fun w2 hw2 => (cell_row (hw2 _ _ (hS.wok.own 3 _ _ _ rfl))).trans rfl)) ?_
  exact rfl
theorem c_RAt (adc : Option Addr) (capc : Nat) (cl : List Col) (s : List UInt8) (w0 : World) (h0 : View) (hv : VLe h0 (Full w0)) (hcl : SlC 47 3 (flatR colC) h0 (.slice adc cl.length capc) cl) : Calls Try.prog 54 #[.slice adc cl.length capc, vs s] w0 (Ret w0 h0 fun u _ => u = .int .i64 (atS cl s)) := by
  have hlm := slc_lm hcl
  refine ent (args := [.slice adc cl.length capc, vs s]) TT_ok [] [] Try.func54 rfl Try.ntmps54 rfl rfl hv ?_
  refine w_loop TT_ok (fun k : Nat => [(5, .v (.int .i64 k))]) 0 (fun k => k ≤ cl.length ∧ ∀ j, j < k → (fun c : Col => decide (c.name = s)) (cl.getD j c0) = false) (fun k => cl.length - k) ?_
  refine And.intro ⟨⟨Nat.zero_le _, fun j hj => absurd hj (Nat.not_lt_zero j)⟩, gs⟩ ?_
  intro k ⟨hk, hn⟩
  refine cnd (fun h => ?_) (fun h => ?_)
  · refine ixs hcl k c0 ?_
    refine cnd (fun h4 => ?_) (fun h4 => ?_)
    · exact congrArg (Value.int .i64) (idx_hit (p := fun c : Col => decide (c.name = s)) c0 (by omega) hn (decide_eq_true h4)).symm
    · refine wi ?_
      exact ⟨k + 1, ⟨⟨by omega, upto_snoc hn (decide_eq_false h4)⟩, by omega⟩, gs⟩
  · exact congrArg (Value.int .i64) (idx_none (p := fun c : Col => decide (c.name = s)) c0 (fun j hj => hn j (by omega))).symm

end Go.Proofs.Ytokhjcpoapbfmaa
namespace Go.Proofs.Ytokhjcpoapbfmaa
open Go Go.Dx Go.RowKit
def kbR (r : Int × Bool) : Value := .tuple #[.int .i64 r.1, .bool r.2]
set_option maxRecDepth 100000 in
set_option maxHeartbeats 2000000 in
theorem c_rule (op : Int) (ad : Option Addr) (cap : Nat) (l : List Int) (hop : 3 ≤ op ∧ op ≤ 16) (hlen : (l.length : Int) = cntS op) (w0 : World) (h0 : View) (hv : VLe h0 (Full w0)) (hb : SlC 23 1 (flatR intC) h0 (.slice ad l.length cap) l) : Calls Try.prog 65 #[.int .i64 op, .slice ad l.length cap] w0 (Ret w0 h0 fun u _ => u = kbR (rulS op l)) := by
  have hc := cnt_pos hop
  refine ent (args := [.int .i64 op, .slice ad l.length cap]) TT_ok [] [11] Try.func65 rfl Try.ntmps65 rfl rfl hv ?_
  refine cnd (fun h1 => ?_) (fun h1 => ?_)
  · refine cndT (decide_eq_true h1) ?_
    refine cb (fun w hw => c_all 1 ad cap l w h0 hw hb) ?_
    rw [rul1 (by omega)]; exact rfl
  refine cnd (fun h2 => ?_) (fun h2 => ?_)
  · refine cndT (decide_eq_true h2) ?_
    refine cb (fun w hw => c_all 1 ad cap l w h0 hw hb) ?_
    rw [rul1 (by omega)]; exact rfl
  refine cnd (fun h3 => ?_) (fun h3 => ?_)
  · refine cndT (decide_eq_true h3) ?_
    refine cb (fun w hw => c_all 1 ad cap l w h0 hw hb) ?_
    rw [rul1 (by omega)]; exact rfl
  refine cnd (fun h4 => ?_) (fun h4 => ?_)
  · refine cb (fun w hw => c_all 1 ad cap l w h0 hw hb) ?_
    rw [rul1 (by omega)]; exact rfl
  refine cnd (fun h5 => ?_) (fun h5 => ?_)
  · have hl2 := hc.2.2.1 (by omega)
    refine And.intro (by kernel_rfl) ?_
    refine ixs hb 0 0 ?_
    refine ixs hb 1 0 ?_
    refine cl (c_either (l.getD 0 0) (l.getD 1 0)) ?_
    refine w_cut TT_ok (fun _ : Unit => [(6, .v (.int .i64 (addK (l.getD 0 0) (l.getD 1 0))))]) (fun _ => True) ?_
    refine And.intro ?_ ?_
    · refine cnd (fun h => ?_) (fun h => ?_)
      · exact ⟨(), trivial, gs (by rw [addK, if_neg h]; rfl)⟩
      · exact ⟨(), trivial, gs (by rw [addK, if_pos h, h]; rfl)⟩
    · intro _ _
      refine cb (fun w hw => c_all (addK (l.getD 0 0) (l.getD 1 0)) ad cap l w h0 hw hb) ?_
      rw [rul2 h5]; exact rfl
  refine cnd (fun h6 => ?_) (fun h6 => ?_)
  · have hl2 := hc.2.2.1 (by omega)
    refine cndT (decide_eq_true h6) ?_
    refine And.intro (by kernel_rfl) ?_
    refine ixs hb 0 0 ?_
    refine ixs hb 1 0 ?_
    refine cl (c_Fits (l.getD 0 0) (l.getD 1 0)) ?_
    rw [rul3 (by omega)]; exact rfl
  refine cnd (fun h7 => ?_) (fun h7 => ?_)
  · have hl2 := hc.2.2.1 (by omega)
    refine And.intro (by kernel_rfl) ?_
    refine ixs hb 0 0 ?_
    refine ixs hb 1 0 ?_
    refine cl (c_Fits (l.getD 0 0) (l.getD 1 0)) ?_
    rw [rul3 (by omega)]; exact rfl
  have four : 10 ≤ op ∧ op ≤ 13 → Value.tuple #[.int .i64 3, .bool (fitS (l.getD 0 0) (l.getD 1 0) && !l.contains 3)] = kbR (rulS op l) := fun h => by rw [rul4 h]; rfl
  refine cnd (fun h8 => ?_) (fun h8 => ?_)
  · have hl2 := hc.2.2.1 (by omega)
    refine cndT (decide_eq_true h8) ?_
    refine And.intro (by kernel_rfl) ?_
    refine ixs hb 0 0 ?_
    refine ixs hb 1 0 ?_
    refine cl (c_Fits (l.getD 0 0) (l.getD 1 0)) ?_
    refine cbg (fun _ w hw => c_ContainsK ad cap l 3 w h0 hw hb) ?_
    exact four (by omega)
  refine cnd (fun h9 => ?_) (fun h9 => ?_)
  · have hl2 := hc.2.2.1 (by omega)
    refine cndT (decide_eq_true h9) ?_
    refine And.intro (by kernel_rfl) ?_
    refine ixs hb 0 0 ?_
    refine ixs hb 1 0 ?_
    refine cl (c_Fits (l.getD 0 0) (l.getD 1 0)) ?_
    refine cbg (fun _ w hw => c_ContainsK ad cap l 3 w h0 hw hb) ?_
    exact four (by omega)
  refine cnd (fun h10 => ?_) (fun h10 => ?_)
  · have hl2 := hc.2.2.1 (by omega)
    refine cndT (decide_eq_true h10) ?_
    refine And.intro (by kernel_rfl) ?_
    refine ixs hb 0 0 ?_
    refine ixs hb 1 0 ?_
    refine cl (c_Fits (l.getD 0 0) (l.getD 1 0)) ?_
    refine cbg (fun _ w hw => c_ContainsK ad cap l 3 w h0 hw hb) ?_
    exact four (by omega)
  refine cnd (fun h11 => ?_) (fun h11 => ?_)
  · have hl2 := hc.2.2.1 (by omega)
    refine And.intro (by kernel_rfl) ?_
    refine ixs hb 0 0 ?_
    refine ixs hb 1 0 ?_
    refine cl (c_Fits (l.getD 0 0) (l.getD 1 0)) ?_
    refine cbg (fun _ w hw => c_ContainsK ad cap l 3 w h0 hw hb) ?_
    exact four (by omega)
  refine cnd (fun h12 => ?_) (fun h12 => ?_)
  · refine cndT (decide_eq_true h12) ?_
    refine cb (fun w hw => c_all 3 ad cap l w h0 hw hb) ?_
    rw [rul5 (by omega)]; exact rfl
  refine cnd (fun h13 => ?_) (fun h13 => ?_)
  · refine cb (fun w hw => c_all 3 ad cap l w h0 hw hb) ?_
    rw [rul5 (by omega)]; exact rfl
  have hl3 := hc.2.2.2 (by omega)
  refine And.intro (by kernel_rfl) ?_
  refine ixs hb 1 0 ?_
  refine ixs hb 2 0 ?_
  refine cl (c_either (l.getD 1 0) (l.getD 2 0)) ?_
  refine ixs hb 0 0 ?_
  refine cl (c_Fits (l.getD 0 0) 3) ?_
  refine ixsg hb 1 0 ?_ (fun _ => by omega)
  refine kg1 ?_
  refine ixsg hb 2 0 ?_ (fun _ => by omega)
  refine kg1 ?_
  refine clg (fun _ => c_Fits (l.getD 1 0) (l.getD 2 0)) ?_
  rw [rul6 (by omega)]; exact rfl
def kiR (p : Int × Int) : Value := .tuple #[.int .i64 p.1, .int .i64 p.2]
theorem flatI (l : List Int) : (l.map intC).flatten.length = l.length := flat1_len l
set_option maxRecDepth 100000 in
set_option maxHeartbeats 2000000 in
theorem c_kind (adc : Option Addr) (capc : Nat) (cl : List Col) (h0 : View) (hcl : SlC 47 3 (flatR colC) h0 (.slice adc cl.length capc) cl) : ∀ (n : Nat) (x : Ex) (ad : Option Addr) (cap : Nat), SizeOf.sizeOf x < n → rightS x = true → GX h0 ad cap x → ∀ w0 : World, VLe h0 (Full w0) →
    Calls Try.prog 42 #[.agg (exC x.op x.v x.s (.slice ad x.l.length cap)).toArray, .slice adc cl.length capc] w0 (Ret w0 h0 fun u _ => u = kiR (kindS cl x)) := by
  intro n
  induction n with
  | zero => intro x ad cap h; omega
  | succ n ih =>
    intro x ad cap hk hr hx w0 hv
    have hsm := hx.sm.parts
    refine ent (args := [.agg (exC x.op x.v x.s (.slice ad x.l.length cap)).toArray, .slice adc cl.length capc]) TT_ok [56] [] Try.func42 rfl Try.ntmps42 rfl rfl hv ?_
    intro b2
    refine cnd (fun h1 => ?_) (fun h1 => ?_)
    · rw [kind_eq, if_pos h1]; exact rfl
    refine cnd (fun h2 => ?_) (fun h2 => ?_)
    · rw [kind_eq, if_neg h1, if_pos h2]
      refine cb (fun w hw => c_at adc capc cl x.s w h0 hw hcl) ?_
      refine cnd (fun h3 => ?_) (fun h3 => ?_)
      · rw [if_pos h3]; exact rfl
      · rw [if_neg h3]
        obtain ⟨m, hm, hml⟩ := at_get h3
        refine ixs hcl m c0 ?_ (by omega)
        rw [hm]; exact rfl
    obtain ⟨hop, hlen, hch⟩ := right_sub hr h1 h2
    refine nilC 900 23 1 ?_
    refine w_loopB TT_ok (fun z : Option Addr × Nat × Nat => [(7, .v (.slice z.1 z.2.1 z.2.2)), (37, .v (.int .i64 z.2.1))]) (fun z => [(900, .e (bufE 23 1 (.slice z.1 z.2.1 z.2.2) (((x.l.take z.2.1).map fun y => (kindS cl y).1).map intC).flatten)), (2, .c b2 28 (exC x.op x.v x.s (.slice ad x.l.length cap)))]) (none, 0, 0)
      (fun z => z.2.1 ≤ x.l.length ∧ ∀ j, j < z.2.1 → (kindS cl (x.l.getD j ex0)).2 = 0) (fun z => x.l.length - z.2.1) ?_
    refine And.intro ⟨⟨Nat.zero_le _, fun j h => absurd h (Nat.not_lt_zero _)⟩, gs⟩ ?_
    rintro ⟨a0, k, cp⟩ ⟨hkl, hz⟩
    dsimp only at hkl hz ⊢
    refine cnd (fun h3 => ?_) (fun h3 => ?_)
    · have hk' : k < x.l.length := by omega
      have hm := getD_mem x.l k ex0 hk'
      refine ixE hx.xl k (fun a2 c2 g1 g2 g3 => ?_)
      intro b9
      refine cb (fun w hw => ih _ a2 c2 (by have := Ex.lt hm; omega) (hch _ hm) ⟨g1, g2, g3, hsm.2.2.2 _ hm⟩ w hw) ?_
      refine cnd (fun h4 => ?_) (fun h4 => ?_)
      · rw [kind_er h1 h2 hk' hz h4]; exact rfl
      · intro b52
        refine ap TT_ok 900 (AppT.of (bytes := 8) (sz := 0) (by kernel_rfl) (by kernel_rfl) (by kernel_rfl)) rfl rfl rfl rfl rfl rfl rfl (by rw [flatI, List.length_map, List.length_take]; show (_ + 1) * 9 ≤ _; omega) (fun a1 n1 c1 e1 => ?_)
        refine wi ?_
        have hn1 : n1 = k + 1 := by
          rw [flatI, List.length_map, List.length_take] at e1
          have e1 : n1 * 1 = min k x.l.length + 1 := e1
          omega
        subst hn1
        refine ⟨(a1, k + 1, c1), ⟨⟨hk', upto_snoc hz h4⟩, ?_⟩, ?_⟩
        · show x.l.length - (k + 1) < x.l.length - k; omega
        · refine gs rfl ?_
          show [(900, OB.e (bufE 23 1 (.slice a1 (k + 1) c1) _)), _] = [(900, OB.e (bufE 23 1 (.slice a1 (k + 1) c1) _)), _]
          rw [take_snocD x.l k ex0 hk', List.map_append, List.map_append, List.flatten_append]; rfl
    · have hkk : k = x.l.length := by omega
      subst hkk
      have hks := kind_ok (cl := cl) h1 h2 hz
      refine And.intro rfl ?_
      refine sealW (g := intC) (l := x.l.map fun y => (kindS cl y).1) 900 (by rw [List.take_length]; rfl) (by rw [List.length_map]) ?_
      refine goW TT_ok ?_
      refine cf (x := kbR (rulS x.op (x.l.map fun y => (kindS cl y).1))) (fun w v g1 g2 g3 => by
        have := c_rule x.op a0 cp (x.l.map fun y => (kindS cl y).1) hop (by rw [List.length_map]; exact hlen) w v g3 (by rw [List.length_map]; exact g2.2)
        rw [List.length_map] at this
        exact this) ?_
      rw [hks]
      refine cnd (fun h4 => ?_) (fun h4 => ?_)
      · rw [ofK, if_neg (by rw [h4]; decide)]; exact rfl
      · rw [ofK, if_pos h4]; exact rfl
theorem c_Kind (adc : Option Addr) (capc : Nat) (cl : List Col) (x : Ex) (ad : Option Addr) (cap : Nat) (w0 : World) (h0 : View) (hv : VLe h0 (Full w0)) (hx : GX h0 ad cap x) (hcl : SlC 47 3 (flatR colC) h0 (.slice adc cl.length capc) cl) :
    Calls Try.prog 26 #[.agg (exC x.op x.v x.s (.slice ad x.l.length cap)).toArray, .slice adc cl.length capc] w0 (Ret w0 h0 fun u _ => u = kiR (kindT cl x)) := by
  refine ent (args := [.agg (exC x.op x.v x.s (.slice ad x.l.length cap)).toArray, .slice adc cl.length capc]) TT_ok [] [] Try.func26 rfl Try.ntmps26 rfl rfl hv ?_
  intro b2
  refine cb (fun w hw => c_Check x ad cap w h0 hw hx) ?_
  refine cnd (fun h => ?_) (fun h => ?_)
  · have e : kindT cl x = (0, 2) := by rw [kindT, if_neg (right_not h)]
    rw [e, if_neg (right_not h)]
    exact rfl
  · have hr := right_only h
    have e : kindT cl x = kindS cl x := by rw [kindT, if_pos hr]
    rw [e]
    refine cb (x := .tuple #[.int .i64 (kindS cl x).1, .int .i64 (kindS cl x).2]) (fun w hw => c_kind adc capc cl h0 hcl _ x ad cap (Nat.lt_succ_self _) hr hx w hw) ?_
    show tupV _ = _
    rfl

end Go.Proofs.Ytokhjcpoapbfmaa
namespace Go.Proofs.Ytokhjcpoapbfmaa
open Go Go.Dx Go.RowKit
set_option maxRecDepth 100000 in
set_option maxHeartbeats 1000000 in
theorem c_typed (ad : Option Addr) (cap : Nat) (l : List Col) (ad2 : Option Addr) (cap2 : Nat) (row : List Val) (hvb : ∀ v ∈ row, valB v) (w0 : World) (h0 : View) (hv : VLe h0 (Full w0))
    (hb : SlC 47 3 (flatR colC) h0 (.slice ad l.length cap) l) (hb2 : SlC 25 3 (flatR valC) h0 (.slice ad2 row.length cap2) row) :
    Calls Try.prog 25 #[.slice ad l.length cap, .slice ad2 row.length cap2] w0 (Ret w0 h0 fun u _ => u = .bool (typS l row)) := by
  have hlm := slc_lm hb
  refine ent (args := [.slice ad l.length cap, .slice ad2 row.length cap2]) TT_ok [] [] Try.func25 rfl Try.ntmps25 rfl rfl hv ?_
  refine cnd (fun h => ?_) (fun h => ?_)
  · exact congrArg Value.bool (decide_eq_false (fun hh => by omega)).symm
  refine w_loop TT_ok (fun k : Nat => [(5, .v (.int .i64 k))]) 0 (fun k => k ≤ l.length ∧ ∀ j, j < k → tOk (l.getD j c0) (row.getD j v0) = true) (fun k => l.length - k) ?_
  refine And.intro ⟨⟨Nat.zero_le _, fun j hj => absurd hj (Nat.not_lt_zero j)⟩, gs⟩ ?_
  intro k ⟨hk, hn⟩
  refine cnd (fun h1 => ?_) (fun h1 => ?_)
  · refine And.intro (by kernel_rfl) ?_
    refine ixs hb2 k v0 ?_
    refine cl (c_VCheck (row.getD k v0) (hvb _ (getD_mem row k v0 (by omega)))) ?_
    refine ixsg hb2 k v0 ?_
    refine kg1 ?_
    refine ixsg hb k c0 ?_
    refine kg1 ?_
    refine clg (fun _ => c_Fits (row.getD k v0).k (l.getD k c0).kind) ?_
    refine ixsg hb k c0 ?_
    refine kg1 ?_
    refine ixsg hb2 k v0 ?_
    refine kg1 ?_
    have hc2 : ((if valOk (row.getD k v0) = true then (0 : Int) else 2) = 0) ↔ valOk (row.getD k v0) = true := by
      by_cases h : valOk (row.getD k v0) = true
      · rw [if_pos h]; exact ⟨fun _ => h, fun _ => rfl⟩
      · rw [if_neg h]; exact ⟨fun h => by simp at h, fun h2 => absurd h2 h⟩
    refine cnd (fun h2 => ?_) (fun h2 => ?_)
    · refine congrArg Value.bool (decide_eq_false (fun hh => ?_)).symm
      have := hh.2 k (by omega)
      simp only [tOk, Bool.and_eq_true, Bool.not_eq_true', Bool.and_eq_false_iff, decide_eq_false_iff_not, Bool.not_eq_false', decide_eq_true_eq] at this
      rcases h2 with (h2 | h2) | h2
      · exact h2 (hc2.2 this.1.1)
      · rw [this.1.2] at h2; cases h2
      · rcases this.2 with h3 | h3
        · exact h3 h2.1
        · exact h2.2 h3
    · refine wi ?_
      refine ⟨k + 1, ⟨⟨by omega, upto_snoc hn ?_⟩, by omega⟩, gs⟩
      simp only [tOk, Bool.and_eq_true, Bool.not_eq_true', Bool.and_eq_false_iff, decide_eq_false_iff_not, Bool.not_eq_false', decide_eq_true_eq]
      exact ⟨⟨hc2.1 h2.1.1, h2.1.2⟩, by rcases h2.2 with h3 | h3; exact .inl h3; exact .inr h3⟩
  · exact congrArg Value.bool (decide_eq_true ⟨by omega, fun j hj => hn j (by omega)⟩).symm
set_option maxRecDepth 100000 in
set_option maxHeartbeats 1000000 in
theorem c_EvalTyped (x : Ex) (ax : Option Addr) (cx : Nat) (ad : Option Addr) (cap : Nat) (l : List Col) (ad2 : Option Addr) (cap2 : Nat) (row : List Val) (w0 : World) (h0 : View) (hv : VLe h0 (Full w0)) (hx : XL h0 ax cx x.l) (hop : i64 x.op) (hxv : valB x.v)
    (hb : SlC 47 3 (flatR colC) h0 (.slice ad l.length cap) l) (hb2 : SlC 25 3 (flatR valC) h0 (.slice ad2 row.length cap2) row) (hvb : ∀ v ∈ row, valB v ∧ v.s.length ≤ 9223372036854775807) :
    Calls Try.prog 7 #[.agg (exC x.op x.v x.s (.slice ax x.l.length cx)).toArray, .slice ad l.length cap, .slice ad2 row.length cap2] w0 (Ret w0 h0 fun u _ => u = .bool true) := by
  refine ent (args := [.agg (exC x.op x.v x.s (.slice ax x.l.length cx)).toArray, .slice ad l.length cap, .slice ad2 row.length cap2]) TT_ok [] [] Try.func7 rfl Try.ntmps7 rfl rfl hv ?_
  intro b3
  refine cb (fun w hw => c_XSmall x ax cx w h0 hw hx) ?_
  refine cbg (fun _ w hw => c_Few ad cap l w h0 hw hb) ?_
  refine cbg (fun _ w hw => c_RowFew ad2 cap2 row w h0 hw hb2) ?_
  refine cbg (fun _ w hw => c_typed ad cap l ad2 cap2 row (fun v hv => (hvb v hv).1) w h0 hw hb hb2) ?_
  refine cnd (fun h => ?_) (fun h => ?_)
  · refine cl c_lives ?_
    exact rfl
  have hgx : GX h0 ax cx x := ⟨hx, hop, hxv, sm_of h.1.1.1⟩
  have hl : l.length ≤ 1000000 := by
    have := h.1.1.2
    simp only [fewS, Bool.and_eq_true, decide_eq_true_eq] at this
    omega
  have hty := of_decide_eq_true h.2
  refine cb (x := .tuple #[.int .i64 (kindT l x).1, .int .i64 (kindT l x).2]) (fun w hw => c_Kind ad cap l x ax cx w h0 hw hgx hb) ?_
  refine cnd (fun h1 => ?_) (fun h1 => ?_)
  · refine cl c_lives ?_
    exact rfl
  have hr : rightS x = true := by
    rcases Bool.eq_false_or_eq_true (rightS x) with e | e
    · exact e
    · rw [kindT, if_neg (by rw [e]; decide)] at h1; simp at h1
  have hkt : kindT l x = kindS l x := if_pos hr
  rw [hkt] at h1 ⊢
  have hall : row.all valOk = true := all_upto v0 (fun j hj => by
    have := hty.2 j (by omega)
    simp only [tOk, Bool.and_eq_true] at this
    exact this.1.1)
  have hrow : ∀ v ∈ row, okV v := fun v hv => ⟨List.all_eq_true.1 hall v hv, (hvb v hv).1⟩
  have hes : evalS l row x = match evX l row (SizeOf.sizeOf x + 1) x with
    | .ok v => (v, 0)
    | .error e => (v0, e) := if_pos ⟨hr, hty.1, hall⟩
  have hT := evX_typed hty.1 hty.2 (SizeOf.sizeOf x + 1) x (Nat.lt_succ_self _) hr h1
  refine cb (x := .tuple #[.agg (valC (evalS l row x).1).toArray, .int .i64 (evalS l row x).2]) (fun w hw => c_Eval x ax cx ad cap l ad2 cap2 row hl (fun v hv => (hvb v hv).1) w h0 hw hgx hb hb2) ?_
  intro b9
  cases hev : evX l row (SizeOf.sizeOf x + 1) x with
  | error e =>
    rw [hev] at hes hT
    rw [hes]
    have hT : e = 15 ∨ e = 16 ∨ e = 5 := hT
    refine cnd (fun _ => ?_) (fun h => by exfalso; simp at h; omega)
    refine clg (fun _ => c_lives) ?_
    refine finB ?_
    rcases hT with rfl | rfl | rfl <;> rfl
  | ok v =>
    rw [hev] at hes hT
    rw [hes]
    have gv := evX_good hrow _ x _ v (RX.of hop hxv hx) hr hev
    have hT : v.k = (kindS l x).1 ∨ v.k = 0 := hT
    refine cndF rfl ?_
    refine cl (c_VCheck v gv.2) ?_
    refine clg (fun _ => c_Fits v.k (kindS l x).1) ?_
    refine clg (fun _ => c_lives) ?_
    refine finB ?_
    have f1 : fitS v.k (kindS l x).1 = true := fit_iff.2 (by omega)
    rw [gv.1, f1]
    by_cases hk : (kindS l x).1 = 0
    · rw [decide_eq_true hk, decide_eq_true (show v.k = 0 by omega)]; rfl
    · rw [decide_eq_false hk]; rfl

end Go.Proofs.Ytokhjcpoapbfmaa
namespace Go.Proofs.Ytokhjcpoapbfmaa
open Go Go.Dx Go.RowKit
theorem c_truth24 (v : Val) (w0 : World) (h0 : View) (hv : VLe h0 (Full w0)) : Calls Try.prog 24 #[.agg (valC v).toArray] w0 (Ret w0 h0 fun u _ => u = .bool (decide (v = truV true))) := by
  refine ent (args := [.agg (valC v).toArray]) TT_ok [] [] Try.func24 rfl Try.ntmps24 rfl rfl hv ?_
  intro b1
  refine aq eqV v (truV true) ?_
  exact rfl
theorem sX : StrB Try.prog 28 [(0, 1), (1, 3), (4, 1), (5, 1)] (leafC 0 v0 []) := StrB.of (by kernel_rfl) (by kernel_rfl)
theorem zV : ZeroT Try.prog 25 (valC v0) := by
  exact ZeroT.of (by kernel_rfl)
theorem row_mono (b : Nat) (o : Obj) : Mono fun h : View => h b = some o := fun _ _ hle hx => hle _ _ hx
theorem c_twoR (op : Int) (v1 v2 : Val) (o1 o2 : Int) (s1 s2 : List UInt8) (a1 a2 : Value) (w0 : World) (h0 : View) (hv : VLe h0 (Full w0)) (n1 : notAgg a1 = true := by rfl) (n2 : notAgg a2 = true := by rfl) :
    Calls Try.prog 23 #[.int .i64 op, .agg (exC o1 v1 s1 a1).toArray, .agg (exC o2 v2 s2 a2).toArray] w0 (Ret w0 h0 fun u h => ∃ b : Nat, u = .agg (exC op v0 [] (.slice (some ⟨b, 0, none⟩) 2 2)).toArray ∧ h b = some (.cells (exC o1 v1 s1 a1 ++ exC o2 v2 s2 a2).toArray 28 (0, 0))) := by
  refine entA (args := [.int .i64 op, .agg (exC o1 v1 s1 a1).toArray, .agg (exC o2 v2 s2 a2).toArray]) TT_ok [11] [] Try.func23 rfl Try.ntmps23 rfl rfl hv (fun _ => row_mono _ _) ?_
  intro b4 b5 b6 b10
  refine shutG TT_ok (Φ := fun h => h b10 = some (.cells (exC o1 v1 s1 a1 ++ exC o2 v2 s2 a2).toArray 28 (0, 0))) 10 rfl (fun hh hle _ hb => hb) ?_ (row_mono _ _)
  exact ⟨b10, rfl, fun v _ hF => hF.2⟩
def boC (b : Bool) : List Value := [.bool b]
theorem flatBo (l : List Bool) : (l.map boC).flatten.length = l.length := by
  induction l with
  | nil => rfl
  | cons a r ih => simp only [List.map_cons, List.flatten_cons, List.length_append, List.length_cons, ih]; show 1 + _ = _; omega
theorem got_succ (a b : Val) (n : Nat) : gotL a b (n + 1) = gotL a b n ++ [pB a b ((n : Int) + 8)] := by simp [gotL, List.range_succ]
set_option maxRecDepth 100000 in
set_option maxHeartbeats 1000000 in
theorem c_EvalOrder (x y : Val) (w0 : World) (h0 : View) (hv : VLe h0 (Full w0)) (hx : valB x) (hxs : x.s.length ≤ 9223372036854775807) (hy : valB y) (hys : y.s.length ≤ 9223372036854775807) :
    Calls Try.prog 5 #[.agg (valC x).toArray, .agg (valC y).toArray] w0 (Ret w0 h0 fun u _ => u = .bool true) := by
  have hx1 := hx.1.1; have hx2 := hx.1.2; have hy1 := hy.1.1; have hy2 := hy.1.2
  refine ent (args := [.agg (valC x).toArray, .agg (valC y).toArray]) TT_ok [15, 1000008] [] Try.func5 rfl Try.ntmps5 rfl rfl hv ?_
  intro b2 b3 b14
  refine shutG TT_ok (Φ := fun h => SlC 47 3 (flatR colC) h (.slice (some ⟨b14, 0, none⟩) 2 2) [ordA, ordB]) 14 rfl (row_sl (g := colC) (l := [ordA, ordB]) (sz := 3) (n := 2) (cp := 2) rfl) ?_ Mono.slF
  refine clg (fun _ => c_VCheck x hx) ?_
  refine clg (fun _ => c_VCheck y hy) ?_
  refine cnd (fun h => ?_) (fun h => ?_)
  · refine cl c_lives ?_
    exact rfl
  refine nilC 900 4 1 ?_
  have hk : x.k = y.k ∧ (x.k = 1 ∨ x.k = 2) := h.1.1
  have hvx : valOk x = true := by
    by_cases g : valOk x = true
    · exact g
    · exfalso; have := h.1.2; rw [if_neg g] at this; simp at this
  have hvy : valOk y = true := by
    by_cases g : valOk y = true
    · exact g
    · exfalso; have := h.2; rw [if_neg g] at this; simp at this
  refine w_loopB TT_ok (fun z : Option Addr × Nat × Nat => [(6, .v (.slice z.1 z.2.1 z.2.2)), (7, .v (.int .i64 ((z.2.1 : Int) + 8)))]) (fun z => [(900, .e (bufE 4 1 (.slice z.1 z.2.1 z.2.2) ((gotL x y z.2.1).map boC).flatten)), (3, .c b3 25 (valC y)), (2, .c b2 25 (valC x))]) (none, 0, 0)
      (fun z => z.2.1 ≤ 6) (fun z => 6 - z.2.1) ?_
  refine And.intro ⟨Nat.zero_le _, gs⟩ ?_
  rintro ⟨a0, k, cp⟩ hk6
  dsimp only at hk6 ⊢
  refine cnd (fun h1 => ?_) (fun h1 => ?_)
  · have hop : 8 ≤ (k : Int) + 8 ∧ (k : Int) + 8 ≤ 13 := by omega
    have hes : evalS [ordA, ordB] [x, y] (ordX ((k : Int) + 8)) = (truV (pB x y ((k : Int) + 8)), 0) := by
      rw [evalS, if_pos ⟨right_ord hop, rfl, by simp [hvx, hvy]⟩, ev_ord hop, cmp_ord hop hk.1 hk.2]
    refine regHA TT_ok 14 25 (valC v0) (valC (truV (pB x y ((k : Int) + 8)))) (fun hH Q w hn hp hS Γ hG => ?_)
    refine t_pu hG (fun w hC => pu_move rfl) ?_; clear hG; intro Γ hG
    refine t_pu hG (fun w hC => pu_build_st (cs := leafC 2 v0 [97]) sX rfl rfl) ?_; clear hG; intro Γ hG
    refine t_pu hG (fun w hC => pu_build_st (cs := leafC 2 v0 [98]) sX rfl rfl) ?_; clear hG; intro Γ hG
    refine t_callR (fun u w' => ∃ b : Nat, u = .agg (exC ((k : Int) + 8) v0 [] (.slice (some ⟨b, 0, none⟩) 2 2)).toArray ∧ w'.heap[b]? = some (.cells (leafC 2 v0 [97] ++ leafC 2 v0 [98]).toArray 28 (0, 0))) hG (TT_ok.call rfl) rfl
      (fun v w1 w2 hr ⟨b, e, hb⟩ => ⟨b, e, row_ar (by decide) hr hb⟩) (fun w' hC' => c_twoR ((k : Int) + 8) v0 v0 2 2 [97] [98] nilS nilS w' (Full w') (VLe.refl _)) (fun w1 w2 u _ hk ⟨b, e, hb⟩ => ⟨b, e, nv_fullK hk _ _ hb⟩) ?_; clear hG; intro Γ hG
    refine t_pu hG (fun w hC => pu_move rfl) ?_; clear hG; intro Γ hG
    refine t_pu hG (fun w hC => o_loadW (i := 2) hC.st rfl (AggT.of (by kernel_rfl) (by kernel_rfl)) rfl) ?_; clear hG; intro Γ hG
    refine t_pu hG (fun w hC => o_loadW (i := 1) hC.st rfl (AggT.of (by kernel_rfl) (by kernel_rfl)) rfl) ?_; clear hG; intro Γ hG
    refine t_buildR (xs := [.tmp 51, .tmp 52]) (vsl := [.agg (valC x).toArray, .agg (valC y).toArray]) (sz := 3) (e := 25) hG (BldT.of (by kernel_rfl) (by kernel_rfl)) rfl rfl (by intro v hv; simp at hv; rcases hv with rfl | rfl <;> rfl) (by decide)
      (fun b w1 w2 hr hb => ⟨hb.1, row_ar (zc := valC v0) (show (6 : Nat) ≠ 3 by decide) hr hb.2⟩) (fun w1 hr => hr.2.2.2.1) ?_; clear hG; intro Γ hG
    refine t_callP2 (k := 49) (j := 53) (vf := fun u u2 => [u, .slice (some ⟨b14, 0, none⟩) 2 2, u2]) (v := evR (truV (pB x y ((k : Int) + 8)), 0)) hG (TT_ok.call rfl) rfl rfl (by simp) (by simp) (fun _ _ => rfl) ?_ ?_
    · rintro w' u u2 hS' ⟨b, rfl, hxl⟩ ⟨b2', rfl, hrow⟩
      exact ⟨Full w', c_EvalK (ordX ((k : Int) + 8)) (some ⟨b, 0, none⟩) 2 (some ⟨b14, 0, none⟩) 2 [ordA, ordB] (some ⟨b2', 0, none⟩) 2 [x, y] hes (by decide) (by intro v hv; simp at hv; rcases hv with rfl | rfl <;> assumption) w' (Full w') (VLe.refl _)
        ⟨xl_two (c1 := leafC 2 v0 [97]) (c2 := leafC 2 v0 [98]) (h := Full w') hxl rfl rfl (rx_leaf (i64n (by decide)) vB0) (rx_leaf (i64n (by decide)) vB0), ⟨by show -9223372036854775808 ≤ (k : Int) + 8; omega, by show (k : Int) + 8 ≤ 9223372036854775807; omega⟩, vB0, 5, rfl⟩ (Mono.slF _ _ hS'.view hS'.facts.2)
        (SlC.ofRow (arr := (cellsL [.agg (valC x).toArray, .agg (valC y).toArray]).toArray) (fz := (0, 0)) (by intros; rfl) hrow.2 rfl (Nat.le_refl 2) (by decide) rfl)⟩
    clear hG; intro Γ hG
    refine t_pu hG (fun w hC => pu_move rfl) ?_; clear hG; intro Γ hG
    refine t_pu hG (fun w hC => pu_extract (vsl := [.agg (valC (truV (pB x y ((k : Int) + 8)))).toArray, .int .i64 0]) rfl rfl) ?_; clear hG; intro Γ hG
    refine t_pu hG (fun w hC => pu_extract (vsl := [.agg (valC (truV (pB x y ((k : Int) + 8)))).toArray, .int .i64 0]) rfl rfl) ?_; clear hG; intro Γ hG
    refine t_alloc hG zV ?_; clear hG; intro Γ hG
    refine t_storeN (k := 8) hS.st hG rfl rfl rfl (SzIs.of (by kernel_rfl)) rfl rfl (by kernel_rfl) ?_; clear hG; intro Γ hG
    refine t_end hG (fun a' w' hC hE hF hprd => ?_)
    obtain ⟨bl, e8, hSA⟩ := al_end (k := 8) hS.st hC (hprd 8 _ rfl) hE.1
    have hF2 := hF.openP e8
    refine runsH (B := (8, .c bl 25 (valC (truV (pB x y ((k : Int) + 8))))) :: _) TT_ok hH [(56, .v (.int .i64 0)), (55, .v (.agg (valC (truV (pB x y ((k : Int) + 8)))).toArray)), (8, .o 8 0)] hn hp (hF2.pick ?_) ⟨hSA, ?_⟩ ?_
    · repeat (first | exact Picks.nil | refine Picks.cons rfl ?_)
    · intro kk g b' o cs' hq
      rcases List.mem_cons.1 hq with hq | hq
      · cases hq
      · exact hS.bk _ _ _ _ _ hq
    · refine cndF rfl ?_
      refine cl (x := .bool (pB x y ((k : Int) + 8))) (fun w h hv => by have := c_truth24 (truV (pB x y ((k : Int) + 8))) w h hv; rw [tru_iff] at this; exact this) ?_
      intro b67
      refine ap TT_ok 900 (AppT.of (bytes := 1) (sz := 0) (by kernel_rfl) (by kernel_rfl) (by kernel_rfl)) rfl rfl rfl rfl rfl rfl rfl (by rw [flatBo, got_len]; show (_ + 1) * 2 ≤ _; omega) (fun a1 n1 c1 e1 => ?_)
      refine ew (((k + 1 : Nat) : Int) + 8) (show IntKind.i64.wrap ((k : Int) + 8 + 1) = _ by rw [show ((k + 1 : Nat) : Int) + 8 = (k : Int) + 8 + 1 by omega]; exact wrap_i64 (by omega) (by omega)) ?_
      have hn1 : n1 = k + 1 := by
        rw [flatBo, got_len] at e1
        have e1 : n1 * 1 = k + 1 := e1
        omega
      subst hn1
      refine ⟨(a1, k + 1, c1), ⟨show k + 1 ≤ 6 by omega, show 6 - (k + 1) < 6 - k by omega⟩, gs rfl ?_⟩
      show [(900, OB.e (bufE 4 1 (.slice a1 (k + 1) c1) _)), _, _] = [(900, OB.e (bufE 4 1 (.slice a1 (k + 1) c1) _)), _, _]
      rw [got_succ, List.map_append, List.flatten_append]; rfl
  · have hk' : k = 6 := by omega
    subst hk'
    refine sealC (g := boC) (l := gotL x y 6) 900 rfl rfl ?_
    refine w_loop TT_ok (fun z : Nat × Int => [(10, .v (.int .i64 z.2)), (11, .v (.int .i64 z.1))]) (0, 0) (fun z => z.1 ≤ 6 ∧ z.2 = oneC x y z.1) (fun z => 6 - z.1) ?_
    refine And.intro ⟨⟨Nat.zero_le _, rfl⟩, gs⟩ ?_
    rintro ⟨i, o⟩ ⟨hi6, ho⟩
    dsimp only at hi6 ho ⊢
    have ho2 := one_le x y i
    refine cnd (fun h2 => ?_) (fun h2 => ?_)
    · have hi : i < 6 := by omega
      refine ixf (l := gotL x y 6) (fun v hF => hF.2) i false ?_ ⟨rfl, by rw [got_len]; exact hi⟩
      rw [got_at x y hi]
      refine cnd (fun h3 => ?_) (fun h3 => ?_)
      · refine wi ?_
        refine wi ?_
        refine ⟨(i + 1, o + 1), ⟨⟨show i + 1 ≤ 6 by omega, ?_⟩, show 6 - (i + 1) < 6 - i by omega⟩, gs⟩
        show o + 1 = oneC x y (i + 1)
        rw [oneC, if_pos ⟨h3.1, by omega⟩, ho]
      · refine wi ?_
        refine ⟨(i + 1, o), ⟨⟨show i + 1 ≤ 6 by omega, ?_⟩, show 6 - (i + 1) < 6 - i by omega⟩, gs⟩
        show o = oneC x y (i + 1)
        rw [oneC, if_neg (fun g => by rcases h3 with h3 | h3; exact absurd g.1 (by rw [h3]; decide); omega), ho, Int.add_zero]
    · have hi : i = 6 := by omega
      subst hi
      rw [one_six] at ho
      subst ho
      refine And.intro (by kernel_rfl) ?_
      refine ixfg (l := gotL x y 6) (fun v hF => hF.2) 1 false ?_ (fun _ => ⟨rfl, by rw [got_len]; decide⟩)
      refine kg1 ?_
      refine ixfg (l := gotL x y 6) (fun v hF => hF.2) 0 false ?_ (fun _ => ⟨rfl, by rw [got_len]; decide⟩)
      refine kg1 ?_
      refine ixfg (l := gotL x y 6) (fun v hF => hF.2) 3 false ?_ (fun _ => ⟨rfl, by rw [got_len]; decide⟩)
      refine kg1 ?_
      refine ixfg (l := gotL x y 6) (fun v hF => hF.2) 4 false ?_ (fun _ => ⟨rfl, by rw [got_len]; decide⟩)
      refine kg1 ?_
      refine ixfg (l := gotL x y 6) (fun v hF => hF.2) 5 false ?_ (fun _ => ⟨rfl, by rw [got_len]; decide⟩)
      refine kg1 ?_
      refine ixfg (l := gotL x y 6) (fun v hF => hF.2) 2 false ?_ (fun _ => ⟨rfl, by rw [got_len]; decide⟩)
      refine kg1 ?_
      refine ixfg (l := gotL x y 6) (fun v hF => hF.2) 0 false ?_ (fun _ => ⟨rfl, by rw [got_len]; decide⟩)
      refine kg1 ?_
      refine aqg eqV x y ?_
      refine clg (fun _ => c_lives) ?_
      refine finB ?_
      obtain ⟨f1, f2, f3, f4⟩ := ord_fin x y
      rw [got_at x y (show 0 < 6 by decide), got_at x y (show 1 < 6 by decide), got_at x y (show 2 < 6 by decide), got_at x y (show 3 < 6 by decide), got_at x y (show 4 < 6 by decide), got_at x y (show 5 < 6 by decide)]
      show (decide ((1 : Int) = 1) && pB x y 9 == !pB x y 8 && pB x y 11 == !pB x y 12 && pB x y 13 == !pB x y 10 && pB x y 8 == decide (x = y) && true) = true
      rw [f1, f2, f3, f4]
      simp

end Go.Proofs.Ytokhjcpoapbfmaa
