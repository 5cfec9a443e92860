/- Laws of walks, and what functions of the program compute: part 5. Each with the conditions that it names. -/
import Derived.Test.YtibdadobdhojaaaRows
import Derived.Test.YtibdadobdhojaaaProg
import Derived.Test.YtibdadobdhojaaaTyNd
set_option linter.unusedSimpArgs false
set_option linter.unusedVariables false
namespace Go.Proofs.Ytibdadobdhojaaa
open Go Go.Dx Go.RowKit Go.ChangeShapes Go.WideShapes Go.ChangeAt
section
variable {H : Type} {enc : TypeId × Value → H} {W : World}
theorem sl_map {α : Type} {T sz : Nat} {h : View} {v : Value} {n : Nat} {c : Nat → List Value} {f : α → List Value} {g : Nat → α} (hs : SlC T sz (flatR c) h v (List.range n)) (hc : ∀ i, i < n → c i = f (g i)) : SlC T sz (flatR f) h v ((List.range n).map g) := by
  obtain ⟨a, cap, hv, h1, h2, h3⟩ := hs
  refine ⟨a, cap, by simpa using hv, by simpa using h1, h2, fun hne => ?_⟩
  obtain ⟨gb, off, arr, fz, ha, hg, hx⟩ := h3 (by intro e; rw [e] at hne; exact hne rfl)
  refine ⟨gb, off, arr, fz, ha, hg, fun i x hi => ?_⟩
  have hin : i < n := by have := (List.getElem?_eq_some_iff.1 hi).1; simpa using this
  have hxe : x = g i := by simp [hin] at hi; exact hi.symm
  obtain ⟨cs, c1, c2, c3⟩ := hx i i (by simp [hin])
  have c2' : cs = c i := c2
  exact ⟨cs, c1, by show cs = f x; rw [c2', hxe, hc i hin], c3⟩
theorem open_valC {fuel : Nat} {cs : List Value} {x : DataW H × List MemPlace} (h : DataW.trod enc Try.prog W 0 (fun _ => true) true fuel 25 cs = some x) : ∃ v : Val, cs = valC v ∧ valB v ∧ v.s.length ≤ 9223372036854775807 := by
  obtain ⟨hl, n0, y0, _, h0⟩ := trod_at (FldIs.of (P := Try.prog) (t := 25) (i := 0) (off := 0) (ty := 23) (sz := 1) (by kernel_rfl)) h
  obtain ⟨_, n1, y1, _, h1⟩ := trod_at (FldIs.of (P := Try.prog) (t := 25) (i := 1) (off := 1) (ty := 3) (sz := 1) (by kernel_rfl)) h
  obtain ⟨_, n2, y2, _, h2⟩ := trod_at (FldIs.of (P := Try.prog) (t := 25) (i := 2) (off := 2) (ty := 9) (sz := 1) (by kernel_rfl)) h
  have hl' : cs.length = 3 := hl.trans (by kernel_rfl)
  match cs, hl' with
  | [a, b, c], _ =>
    obtain ⟨k, e0, b0⟩ := trod_i (by kernel_rfl) h0
    obtain ⟨m, e1, b1⟩ := trod_i (by kernel_rfl) h1
    obtain ⟨s, e2, l2⟩ := trod_s (by kernel_rfl) h2
    simp at e0 e1 e2
    subst e0 e1 e2
    exact ⟨⟨k, m, s⟩, rfl, ⟨b0, b1⟩, l2⟩
theorem open_colC {fuel : Nat} {cs : List Value} {x : DataW H × List MemPlace} (h : DataW.trod enc Try.prog W 0 (fun _ => true) true fuel 39 cs = some x) : ∃ c : Col, cs = colC c := by
  obtain ⟨hl, n0, y0, _, h0⟩ := trod_at (FldIs.of (P := Try.prog) (t := 39) (i := 0) (off := 0) (ty := 9) (sz := 1) (by kernel_rfl)) h
  obtain ⟨_, n1, y1, _, h1⟩ := trod_at (FldIs.of (P := Try.prog) (t := 39) (i := 1) (off := 1) (ty := 23) (sz := 1) (by kernel_rfl)) h
  obtain ⟨_, n2, y2, _, h2⟩ := trod_at (FldIs.of (P := Try.prog) (t := 39) (i := 2) (off := 2) (ty := 37) (sz := 1) (by kernel_rfl)) h
  have hl' : cs.length = 3 := hl.trans (by kernel_rfl)
  match cs, hl' with
  | [a, b, c], _ =>
    obtain ⟨s, e0, _⟩ := trod_s (by kernel_rfl) h0
    obtain ⟨k, e1, _⟩ := trod_i (by kernel_rfl) h1
    obtain ⟨ad, cap, n, cc, e2, _⟩ := open_sl (sz := 3) (t := 37) (e := 25) (by kernel_rfl) (by kernel_rfl) (by decide) (show DataW.trod enc Try.prog W 0 (fun _ => true) true n2 37 [c] = some y2 from h2)
    simp at e0 e1
    subst e0 e1 e2
    exact ⟨⟨s, k, ad, n, cap⟩, rfl⟩
theorem open_exC : ∀ (fuel : Nat) (cs : List Value) (x : DataW H × List MemPlace), DataW.trod enc Try.prog W 0 (fun _ => true) true fuel 28 cs = some x → ∃ y : Ex, RX (Full W) cs y := by
  intro fuel
  induction fuel using Nat.strongRecOn with
  | _ fuel ih =>
    intro cs x h
    obtain ⟨hl, n0, y0, _, h0⟩ := trod_at (FldIs.of (P := Try.prog) (t := 28) (i := 0) (off := 0) (ty := 22) (sz := 1) (by kernel_rfl)) h
    obtain ⟨_, n1, y1, _, h1⟩ := trod_at (FldIs.of (P := Try.prog) (t := 28) (i := 1) (off := 1) (ty := 25) (sz := 3) (by kernel_rfl)) h
    obtain ⟨_, n2, y2, _, h2⟩ := trod_at (FldIs.of (P := Try.prog) (t := 28) (i := 2) (off := 4) (ty := 9) (sz := 1) (by kernel_rfl)) h
    obtain ⟨_, n3, y3, hn3, h3⟩ := trod_at (FldIs.of (P := Try.prog) (t := 28) (i := 3) (off := 5) (ty := 26) (sz := 1) (by kernel_rfl)) h
    have hl' : cs.length = 6 := hl.trans (by kernel_rfl)
    match cs, hl' with
    | [a, b, c, d, e, f], _ =>
      obtain ⟨op, e0, b0⟩ := trod_i (by kernel_rfl) h0
      obtain ⟨v, e1, b1, _⟩ := open_valC h1
      obtain ⟨s, e2, _⟩ := trod_s (by kernel_rfl) h2
      obtain ⟨ad, cap, n, cc, e3, hs, hk⟩ := open_sl (sz := 6) (t := 26) (e := 28) (by kernel_rfl) (by kernel_rfl) (by decide) (show DataW.trod enc Try.prog W 0 (fun _ => true) true n3 26 [f] = some y3 from h3)
      have kids : ∀ i, i < n → ∃ y : Ex, RX (Full W) (cc i) y := fun i hi => by
        obtain ⟨m, z, hm, hz⟩ := hk i hi
        exact ih m (Nat.lt_trans hm hn3) (cc i) z hz
      have : Inhabited Ex := ⟨ex0⟩
      obtain ⟨g, hg⟩ := Go.Deep.choose_lt kids
      simp [valC] at e0 e1 e2
      obtain ⟨rfl, rfl, rfl⟩ := e1
      subst e0 e2 e3
      have hlen : ((List.range n).map g).length = n := by simp
      have := RX.mk (h := Full W) op v s ((List.range n).map g) ad cap cc ⟨b0, b1⟩ (by rw [hlen]; exact hs) (fun i y hi => by
        have hin : i < n := by have := (List.getElem?_eq_some_iff.1 hi).1; simpa using this
        have : y = g i := by simp [hin] at hi; exact hi.symm
        subst this; exact hg i hin)
      rw [hlen] at this
      exact ⟨_, this⟩
set_option maxRecDepth 100000 in
theorem open_val {v : Value} {d : DataW H} {ps : List MemPlace} {b0 : Nat} (hok : Value.okWide Try.prog W .any b0 25 v) (h : DataW.Trod enc Try.prog W 0 (fun _ => true) true 25 v d ps) : ∃ x : Val, v = .agg (valC x).toArray ∧ valB x ∧ x.s.length ≤ 9223372036854775807 := by
  obtain ⟨fs, _, hu, _⟩ := (FldIs.of (P := Try.prog) (t := 25) (i := 0) (off := 0) (ty := 23) (sz := 1) (by kernel_rfl))
  obtain ⟨cs, rfl, _⟩ := okWide_struct (P := Try.prog) (t := 25) hu hok
  obtain ⟨fuel, hf⟩ := h
  obtain ⟨x, hx, hb⟩ := open_valC hf
  refine ⟨x, ?_, hb⟩
  congr 1
  apply Array.toList_inj.1; simpa [Value.cells] using hx
set_option maxRecDepth 100000 in
theorem open_expr {v : Value} {d : DataW H} {ps : List MemPlace} {b0 : Nat} (hok : Value.okWide Try.prog W .any b0 28 v) (h : DataW.Trod enc Try.prog W 0 (fun _ => true) true 28 v d ps) :
    ∃ (x : Ex) (ad : Option Addr) (cap : Nat), v = .agg (exC x.op x.v x.s (.slice ad x.l.length cap)).toArray ∧ i64 x.op ∧ valB x.v ∧ XL (Full W) ad cap x.l := by
  obtain ⟨fs, _, hu, _⟩ := (FldIs.of (P := Try.prog) (t := 28) (i := 0) (off := 0) (ty := 22) (sz := 1) (by kernel_rfl))
  obtain ⟨cs, rfl, _⟩ := okWide_struct (P := Try.prog) (t := 28) hu hok
  obtain ⟨fuel, hf⟩ := h
  obtain ⟨x, hx⟩ := open_exC fuel _ _ hf
  obtain ⟨ad, cap, e, h1, h2, h3⟩ := hx.inv
  refine ⟨x, ad, cap, ?_, h1, h2, h3⟩
  congr 1
  apply Array.toList_inj.1; simpa [Value.cells] using e
set_option maxRecDepth 100000 in
theorem open_cols {v : Value} {d : DataW H} {ps : List MemPlace} {b0 : Nat} (hok : Value.okWide Try.prog W .any b0 29 v) (h : DataW.Trod enc Try.prog W 0 (fun _ => true) true 29 v d ps) :
    ∃ (ad : Option Addr) (cap : Nat) (l : List Col), v = .slice ad l.length cap ∧ SlC 0 3 (flatR colC) (Full W) (.slice ad l.length cap) l := by
  have hu : Try.prog.underlying 29 = some (.slice 39) := by kernel_rfl
  obtain ⟨a0, n0, p0, rfl⟩ := okWide_slice hu hok
  obtain ⟨fuel, hf⟩ := h
  obtain ⟨ad, cap, n, cc, e, hs, hk⟩ := open_sl (sz := 3) (t := 29) (e := 39) (by kernel_rfl) (by kernel_rfl) (by decide) (show DataW.trod enc Try.prog W 0 (fun _ => true) true fuel 29 [.slice a0 n0 p0] = some (d, ps) from hf)
  cases e
  have : Inhabited Col := ⟨c0⟩
  obtain ⟨g, hg⟩ := Go.Deep.choose_lt (fun i hi => by
    obtain ⟨m, z, _, hz⟩ := hk i hi
    exact open_colC hz : ∀ i, i < n0 → ∃ c : Col, cc i = colC c)
  have h1 := sl_map hs hg
  refine ⟨a0, p0, (List.range n0).map g, by simp, ?_⟩
  simp only [List.length_range, List.length_map] at h1 ⊢
  exact h1
end
end Go.Proofs.Ytibdadobdhojaaa
set_option maxRecDepth 100000
namespace Go.Proofs.Ytibdadobdhojaaa
open Go Go.Dx Go.RowKit
def TT : Tab := ⟨[(3, ⟨.int .i64, 1, false, [.int .i64 0]⟩),
  (4, ⟨.bool, 1, false, [.bool false]⟩),
  (5, ⟨.int .u8, 1, false, [.int .u8 0]⟩),
  (9, ⟨.str, 1, false, [vs []]⟩),
  (21, ⟨.int .i32, 1, false, [.int .i32 0]⟩),
  (22, ⟨.int .i64, 1, false, [.int .i64 0]⟩),
  (23, ⟨.int .i64, 1, false, [.int .i64 0]⟩),
  (25, ⟨.st [(0, 1, false), (1, 1, false), (2, 1, false)], 3, true, [.int .i64 0, .int .i64 0, vs []]⟩),
  (26, ⟨.sl 28 6, 1, false, [.slice none 0 0]⟩),
  (28, ⟨.st [(0, 1, false), (1, 3, true), (4, 1, false), (5, 1, false)], 6, true, [.int .i64 0, .int .i64 0, .int .i64 0, vs [], vs [], .slice none 0 0]⟩),
  (29, ⟨.sl 39 3, 1, false, [.slice none 0 0]⟩),
  (30, ⟨.st [(0, 1, false), (1, 3, true), (4, 1, false), (5, 1, false)], 6, true, [.int .i64 0, .int .i64 0, .int .i64 0, vs [], vs [], .slice none 0 0]⟩),
  (32, ⟨.sl 39 3, 1, false, [.slice none 0 0]⟩),
  (33, ⟨.int .i64, 1, false, [.int .i64 0]⟩),
  (35, ⟨.sl 9 1, 1, false, [.slice none 0 0]⟩),
  (39, ⟨.st [(0, 1, false), (1, 1, false), (2, 1, false)], 3, true, [vs [], .int .i64 0, .slice none 0 0]⟩),
  (45, ⟨.ot, 1, false, [.nilFunc]⟩),
  (56, ⟨.ot, 1, false, [.nilFunc]⟩),
  (61, ⟨.sl 23 1, 1, false, [.slice none 0 0]⟩),
  (65, ⟨.st [(0, 1, false), (1, 1, false), (2, 1, false)], 3, true, [.int .i64 0, vs [], .int .i64 0]⟩),
  (70, ⟨.ot, 1, false, [.nilFunc]⟩),
  (74, ⟨.sl 65 3, 1, false, [.slice none 0 0]⟩),
  (76, ⟨.ot, 1, false, [.nilFunc]⟩)], [4, 5, 6, 7, 8, 9, 10, 11, 12, 13, 14, 15, 16, 17, 18, 19, 20, 21, 22, 23, 24, 25, 26, 27, 28, 29, 30, 31, 32, 33, 34, 35, 36, 37, 38, 39, 40, 41, 42, 43, 44, 45, 46]⟩
theorem TT_ok : Tab.Ok Try.prog TT := ⟨by kernel_rfl, by kernel_rfl, by kernel_rfl⟩
theorem pow_fol : Try.prog.follows .mixedOrders = true := by kernel_rfl

end Go.Proofs.Ytibdadobdhojaaa
set_option maxRecDepth 100000
namespace Go.Proofs.Ytibdadobdhojaaa
open Go Go.Dx Go.RowKit
theorem c_letter (b : UInt8) (w0 : World) (h0 : View) (hv : VLe h0 (Full w0)) : Calls Try.prog 42 #[v8 b] w0 (Ret w0 h0 fun u _ => u = .bool (isLet b)) := by
  refine ent (args := [v8 b]) TT_ok [] [] Try.func42 rfl Try.ntmps42 rfl rfl hv ?_
  refine ew (low b) rfl ?_
  refine ew (low b) (fun _ => rfl) ?_
  exact rfl
theorem c_digit (b : UInt8) (w0 : World) (h0 : View) (hv : VLe h0 (Full w0)) : Calls Try.prog 45 #[v8 b] w0 (Ret w0 h0 fun u _ => u = .bool (isDig b)) := by
  refine ent (args := [v8 b]) TT_ok [] [] Try.func45 rfl Try.ntmps45 rfl rfl hv ?_
  exact rfl
theorem c_word1 (b : UInt8) (w0 : World) (h0 : View) (hv : VLe h0 (Full w0)) : Calls Try.prog 44 #[v8 b] w0 (Ret w0 h0 fun u _ => u = .bool (isWord b)) := by
  refine ent (args := [v8 b]) TT_ok [] [] Try.func44 rfl Try.ntmps44 rfl rfl hv ?_
  refine cl (c_letter b) ?_
  refine clg (fun _ => c_digit b) ?_
  exact rfl
theorem all_snocW {p : UInt8 → Bool} {s : List UInt8} {k : Nat} (hk : k < s.length) (ha : (s.take k).all p = true) (h : p (s.getD k 0) = true) : (s.take (k + 1)).all p = true := by
  rw [take_snocD s k 0 hk, List.all_append, ha]; simp only [List.all_cons, h, List.all_nil, Bool.and_self]
theorem c_runW (s : List UInt8) (hs : s.length ≤ 1000000) (w0 : World) (h0 : View) (hv : VLe h0 (Full w0)) : Calls Try.prog 43 #[vs s, .func (.func 44) #[] #[]] w0 (Ret w0 h0 fun u _ => u = .int .i64 ((s.takeWhile isWord).length : Nat)) := by
  refine ent (args := [vs s, .func (.func 44) #[] #[]]) TT_ok [] [] Try.func43 rfl Try.ntmps43 rfl rfl hv ?_
  refine w_loop TT_ok (fun k : Nat => [(8, .v (.int .i64 k))]) 0 (fun k => k ≤ s.length ∧ (s.take k).all isWord = true) (fun k => s.length - k) ?_
  refine And.intro ⟨⟨Nat.zero_le _, by simp⟩, gs⟩ ?_
  intro k ⟨hk, ha⟩
  refine cnd (fun h => ?_) (fun h => ?_)
  · refine ix k ?_
    refine cl (c_word1 (s.getD k 0)) ?_
    refine cnd (fun h1 => ?_) (fun h1 => ?_)
    · show Value.int .i64 (k : Int) = _
      rw [tw_len isWord s k ha hk (.inr h1)]
    · refine wi ?_
      exact ⟨k + 1, ⟨⟨by omega, all_snocW (by omega) ha h1⟩, by omega⟩, gs⟩
  · show Value.int .i64 (s.length : Int) = _
    rw [tw_len isWord s k ha hk (.inl (by omega))]
    rw [show k = s.length by omega]
theorem word_emp {s : List UInt8} (h : s = [] ∨ isLet (s.getD 0 0) = false) : wordN s = 0 := wordN_zero s h
theorem c_word (s : List UInt8) (hs : s.length ≤ 1000000) (w0 : World) (h0 : View) (hv : VLe h0 (Full w0)) : Calls Try.prog 33 #[vs s] w0 (Ret w0 h0 fun u _ => u = .int .i64 (wordN s : Nat)) := by
  refine ent (args := [vs s]) TT_ok [] [] Try.func33 rfl Try.ntmps33 rfl rfl hv ?_
  refine ixg 0 ?_ (fun h => ⟨rfl, by rcases s with _ | ⟨b, s⟩ <;> simp_all⟩)
  refine clg (fun _ => c_letter (s.getD 0 0)) ?_
  refine cnd (fun h => ?_) (fun h => ?_)
  · show Value.int .i64 0 = _
    rw [wordN_zero s h]; rfl
  · refine cl (c_runW s hs) ?_
    show Value.int .i64 _ = _
    rw [wordN_pos s h.1 h.2]
theorem c_reserved (s : List UInt8) (w0 : World) (h0 : View) (hv : VLe h0 (Full w0)) : Calls Try.prog 34 #[vs s] w0 (Ret w0 h0 fun u _ => u = .bool (resS s)) := by
  refine ent (args := [vs s]) TT_ok [] [11] Try.func34 rfl Try.ntmps34 rfl rfl hv ?_
  refine w_cut TT_ok (fun _ : Unit => [(4, .v (.bool (resS s)))]) (fun _ => True) ?_
  refine And.intro ?_ ?_
  · repeat (refine cnd (fun h => ⟨(), trivial, gs (by subst h; rfl)⟩) (fun h => ?_))
    exact ⟨(), trivial, gs (by rw [show resS s = decide (s = [110, 117, 108, 108]) by simp_all [resS, resvL]]; rfl)⟩
  · intro _ _
    refine cnd (fun h => ?_) (fun h => ?_)
    · exact congrArg Value.bool h.symm
    · exact congrArg Value.bool h.symm
theorem c_Name (s : List UInt8) (hs : s.length ≤ 1000000) (w0 : World) (h0 : View) (hv : VLe h0 (Full w0)) : Calls Try.prog 23 #[vs s] w0 (Ret w0 h0 fun u _ => u = .bool (nameOk s)) := by
  refine ent (args := [vs s]) TT_ok [] [] Try.func23 rfl Try.ntmps23 rfl rfl hv ?_
  refine clg (fun _ => c_word s hs) ?_
  refine clg (fun _ => c_reserved s) ?_
  show Value.bool _ = _
  simp only [nameOk, Bool.and_assoc]
end Go.Proofs.Ytibdadobdhojaaa
set_option maxRecDepth 100000
namespace Go.Proofs.Ytibdadobdhojaaa
open Go Go.Dx Go.RowKit
theorem slc_lm {α : Type} {T sz n cp : Nat} {f : View → List Value → α → Prop} {h : View} {ad : Option Addr} {l : List α} (hs : SlC T sz f h (.slice ad n cp) l) : l.length ≤ 9223372036854775807 := by
  obtain ⟨_, _, _, h1, h2⟩ := hs.parts
  simp only [maxLen] at h2
  omega
theorem c_plain (s : List UInt8) (w0 : World) (h0 : View) (hv : VLe h0 (Full w0)) : Calls Try.prog 32 #[vs s] w0 (Ret w0 h0 fun u _ => u = .bool (plainS s)) := by
  refine ent (args := [vs s]) TT_ok [] [] Try.func32 rfl Try.ntmps32 rfl rfl hv ?_
  refine cnd (fun h0 => ?_) (fun h0 => ?_)
  · exact congrArg Value.bool (plain_long (by omega)).symm
  refine rgS TT_ok 900 (fun b => ?_)
  refine w_loopB TT_ok (fun _ : Nat => []) (fun k => [(900, .e (some b, IterC s k))]) 0 (fun k => k ≤ s.length ∧ ∀ j, j < k → plB (s.getD j 0) = true) (fun k => s.length - k) ?_
  refine And.intro ⟨⟨Nat.zero_le _, fun j hj => absurd hj (Nat.not_lt_zero j)⟩, gs⟩ ?_
  intro k ⟨hk, hn⟩
  refine nxS TT_ok 900 (fun h => ?_) (fun h => ?_)
  · refine cndT rfl ?_
    refine cnd (fun h1 => ?_) (fun h1 => ?_)
    · exact congrArg Value.bool (plain_not (k := k) h (dec_bad h h1)).symm
    · obtain ⟨e1, e2⟩ := dec_plain (s := s) (k := k) h h1.1 h1.2
      refine ⟨k + 1, ⟨⟨by omega, fun j hj => ?_⟩, by omega⟩, gs (bl := by rw [e2]; rfl)⟩
      rcases Nat.lt_or_ge j k with h2 | h2
      · exact hn j h2
      · rw [show j = k by omega]; exact e1
  · refine cndF rfl ?_
    exact congrArg Value.bool (plain_all (by omega) (fun j hj => hn j (by omega))).symm
theorem eqV : EqT Try.prog 25 valC := EqT.of [(0, .i .i64), (1, .i .i64), (2, .s)] (by kernel_rfl) (by kernel_rfl) (by kernel_rfl) (by kernel_rfl)
  (fun a b s hs => by
    simp only [List.mem_cons, List.mem_nil_iff, or_false] at hs
    rcases hs with rfl | rfl | rfl
    · exact ⟨_, _, rfl, rfl, ⟨_, rfl⟩, ⟨_, rfl⟩⟩
    · exact ⟨_, _, rfl, rfl, ⟨_, rfl⟩, ⟨_, rfl⟩⟩
    · exact ⟨_, _, rfl, rfl, ⟨_, rfl⟩, ⟨_, rfl⟩⟩)
  (fun a b => by
    obtain ⟨k, n, s⟩ := a
    obtain ⟨k', n', s'⟩ := b
    simp [valC, eqC, vs, Bool.and_assoc])
theorem c_VCheck (v : Val) (hvb : valB v) (w0 : World) (h0 : View) (hv : VLe h0 (Full w0)) : Calls Try.prog 22 #[.agg (valC v).toArray] w0 (Ret w0 h0 fun u _ => u = .int .i64 (if valOk v then 0 else 2)) := by
  refine ent (args := [.agg (valC v).toArray]) TT_ok [] [11] Try.func22 rfl Try.ntmps22 rfl rfl hv ?_
  intro b1
  refine w_cut TT_ok (fun _ : Unit => [(3, .v (.bool (valOk v)))]) (fun _ => True) ?_
  refine And.intro ?_ ?_
  · refine cnd (fun h => ?_) (fun h => ?_)
    · refine aq eqV v v0 ?_
      exact ⟨(), trivial, gs (by rw [show valOk v = decide (v = v0) by obtain ⟨vk, vn, vt⟩ := v; simp at h; simp [valOk, v0, h]]; rfl)⟩
    refine cnd (fun h2 => ?_) (fun h2 => ?_)
    · exact ⟨(), trivial, gs (by rw [show valOk v = decide (v.s = []) by simp [valOk, h2]]; rfl)⟩
    refine cnd (fun h3 => ?_) (fun h3 => ?_)
    · refine clg (fun _ => c_plain v.s) ?_
      exact ⟨(), trivial, gs (by rw [show valOk v = (decide (v.n = 0) && plainS v.s) by simp [valOk, h3]]; rfl)⟩
    refine cnd (fun h4 => ?_) (fun h4 => ?_)
    · refine ew _ (fun _ => rfl) ?_
      have e := andnot1 (h := hvb.2) (hr := rfl)
      have e4 : valOk v = (decide (v.s = []) && decide (IntKind.i64.wrap ((BitVec.ofInt IntKind.i64.bits v.n &&& ~~~ BitVec.ofInt IntKind.i64.bits 1).toNat : Int) = 0)) := by
        rw [show decide (IntKind.i64.wrap ((BitVec.ofInt IntKind.i64.bits v.n &&& ~~~ BitVec.ofInt IntKind.i64.bits 1).toNat : Int) = 0) = decide (v.n = 0 ∨ v.n = 1) from decide_eq_decide.2 e]
        simp [valOk, h4]
      exact ⟨(), trivial, gs (by rw [e4]; rfl)⟩
    · exact ⟨(), trivial, gs (by rw [show valOk v = false by simp [valOk, h, h2, h3, h4]]; rfl)⟩
  · intro _ _
    refine cnd (fun h => ?_) (fun h => ?_)
    · show Value.int .i64 2 = _
      rw [if_neg (by rw [h]; decide)]
    · show Value.int .i64 0 = _
      rw [if_pos h]
end Go.Proofs.Ytibdadobdhojaaa
set_option maxRecDepth 100000
namespace Go.Proofs.Ytibdadobdhojaaa
open Go Go.Dx Go.RowKit
theorem bin_len (b : Int × List UInt8 × Int) : (binC b).length = 3 := rfl
theorem c_binaries (w0 : World) (h0 : View) (hv : VLe h0 (Full w0)) : Calls Try.prog 41 #[] w0 (Ret w0 h0 fun u h => ∃ b : Nat, u = .slice (some ⟨b, 0, none⟩) 12 12 ∧ SlC 65 3 (flatR binC) h (.slice (some ⟨b, 0, none⟩) 12 12) binL) := by
  refine entA (args := []) TT_ok [0] [] Try.func41 rfl Try.ntmps41 rfl rfl hv (fun _ => Mono.slF) ?_
  refine ⟨rfl, goW TT_ok ?_⟩
  intro b
  refine shutG TT_ok 13 rfl (row_sl (g := binC) (l := binL) (sz := 3) (n := 12) (cp := 12) rfl) ?_ Mono.slF
  exact ⟨b, rfl, fun v _ hF => hF.2⟩
theorem c_find (op : Int) (w0 : World) (h0 : View) (hv : VLe h0 (Full w0)) : Calls Try.prog 31 #[.int .i64 op] w0 (Ret w0 h0 fun u _ => u = .agg (binC (findS op)).toArray) := by
  refine ent (args := [.int .i64 op]) TT_ok [] [] Try.func31 rfl Try.ntmps31 rfl rfl hv ?_
  intro b2
  refine cA TT_ok (fun w v h1 h2 h3 => c_binaries w v h3) (fun _ => Mono.slF) (fun mb => ?_)
  refine w_loop TT_ok (fun k : Nat => [(7, .v (.int .i64 k))]) 0 (fun k => k ≤ 12 ∧ ∀ j, j < k → ¬ (binL.getD j (0, [], 0)).1 = op) (fun k => 12 - k) ?_
  refine And.intro ⟨⟨Nat.zero_le _, fun j hj => absurd hj (Nat.not_lt_zero j)⟩, gs⟩ ?_
  intro k ⟨hk, hn⟩
  have hlen : binL.length = 12 := rfl
  refine cnd (fun h => ?_) (fun h => ?_)
  · refine ixf (fun v hF => hF.2) k (0, [], 0) ?_ (by omega)
    intro b4
    refine cnd (fun h1 => ?_) (fun h1 => ?_)
    · show _ = Value.agg (binC (findS op)).toArray
      rw [find_hit op k (by omega) hn h1]; rfl
    · refine wi ?_
      exact ⟨k + 1, ⟨⟨by omega, upto_snoc hn h1⟩, by omega⟩, gs⟩
  · show _ = Value.agg (binC (findS op)).toArray
    rw [find_none op (fun j hj => hn j (by omega))]; rfl
theorem c_count (op : Int) (w0 : World) (h0 : View) (hv : VLe h0 (Full w0)) : Calls Try.prog 21 #[.int .i64 op] w0 (Ret w0 h0 fun u _ => u = .int .i64 (cntS op)) := by
  refine ent (args := [.int .i64 op]) TT_ok [] [] Try.func21 rfl Try.ntmps21 rfl rfl hv ?_
  refine cnd (fun h => ?_) (fun h => ?_)
  · exact congrArg (Value.int .i64) (by rw [cntS, if_pos h])
  refine cnd (fun h2 => ?_) (fun h2 => ?_)
  · exact congrArg (Value.int .i64) (by rw [cntS, if_neg (by omega), if_pos h2])
  refine cnd (fun h3 => ?_) (fun h3 => ?_)
  · exact congrArg (Value.int .i64) (by rw [cntS, if_neg (by omega), if_neg h2, if_pos h3])
  refine cl (c_find op) ?_
  refine cnd (fun h4 => ?_) (fun h4 => ?_)
  · have := (find_lev op).1 h4
    exact congrArg (Value.int .i64) (by rw [cntS, if_neg (by omega), if_neg h2, if_neg h3, if_pos this])
  · have : ¬ (4 ≤ op ∧ op ≤ 15) := fun hh => h4 ((find_lev op).2 hh)
    exact congrArg (Value.int .i64) (by rw [cntS, if_neg (by omega), if_neg h2, if_neg h3, if_neg this])
end Go.Proofs.Ytibdadobdhojaaa
set_option maxRecDepth 100000
namespace Go.Proofs.Ytibdadobdhojaaa
open Go Go.Dx Go.RowKit
/-- a part of an expression -/
theorem ixE {c : Cx} {F : FV} {n : Nat} {ad : Option Addr} {cap : Nat} {l : List Ex} {i : Int} {X : Nat → List Value → Prop} (H : XL c.h0 ad cap l) (j : Nat)
    (k : ∀ a2 c2, XL c.h0 a2 c2 (l.getD j ex0).l → i64 (l.getD j ex0).op → valB (l.getD j ex0).v → X j (exC (l.getD j ex0).op (l.getD j ex0).v (l.getD j ex0).s (.slice a2 (l.getD j ex0).l.length c2)))
    (h : i = (j : Int) ∧ j < l.length := by omega) (hn : n = l.length := by rfl) : ∃ (j : Nat) (cs : List Value), (i = (j : Int) ∧ j < n ∧ ElC c.h0 F ad (j * 6) cs) ∧ X j cs := by
  obtain ⟨g, off, a2, c2, ha, h1, h2, h3, hc⟩ := H.at2 h.2
  subst hn
  exact ⟨j, _, ⟨h.1, h.2, fun v hv _ => ⟨by rw [ha]; rfl, fun w hw => by rw [ha]; exact hc w (hv.trans hw)⟩⟩, k a2 c2 h1 h2 h3⟩
theorem c_IndexX (ad : Option Addr) (cap : Nat) (l : List Ex) (p : Ex → Bool) (w0 : World) (h0 : View) (hv : VLe h0 (Full w0)) (hx : XL h0 ad cap l)
    (hp : ∀ j, j < l.length → ∀ a2 c2, XL h0 a2 c2 (l.getD j ex0).l → i64 (l.getD j ex0).op → valB (l.getD j ex0).v → ∀ w, VLe h0 (Full w) → Calls Try.prog 25 #[.agg (exC (l.getD j ex0).op (l.getD j ex0).v (l.getD j ex0).s (.slice a2 (l.getD j ex0).l.length c2)).toArray] w (Ret w h0 fun u _ => u = .bool (p (l.getD j ex0)))) :
    Calls Try.prog 35 #[.slice ad l.length cap, .func (.func 25) #[] #[]] w0 (Ret w0 h0 fun u _ => u = .int .i64 (idxS p l)) := by
  have hlm := hx.lm
  refine ent (args := [.slice ad l.length cap, .func (.func 25) #[] #[]]) TT_ok [] [] Try.func35 rfl Try.ntmps35 rfl rfl hv ?_
  refine w_loop TT_ok (fun k : Nat => [(8, .v (.int .i64 k))]) 0 (fun k => k ≤ l.length ∧ ∀ j, j < k → p (l.getD j ex0) = false) (fun k => l.length - k) ?_
  refine And.intro ⟨⟨Nat.zero_le _, fun j hj => absurd hj (Nat.not_lt_zero j)⟩, gs⟩ ?_
  intro k ⟨hk, hn⟩
  refine cnd (fun h => ?_) (fun h => ?_)
  · refine ixE hx k (fun a2 c2 h1 h2 h3 => ?_)
    refine cb (fun w hw => hp k (by omega) a2 c2 h1 h2 h3 w hw) ?_
    refine cnd (fun h4 => ?_) (fun h4 => ?_)
    · exact congrArg (Value.int .i64) (idx_hit ex0 (by omega) hn h4).symm
    · refine wi ?_
      exact ⟨k + 1, ⟨⟨by omega, upto_snoc hn h4⟩, by omega⟩, gs⟩
  · exact congrArg (Value.int .i64) (idx_none ex0 (fun j hj => hn j (by omega))).symm
theorem c_ContainsX (ad : Option Addr) (cap : Nat) (l : List Ex) (p : Ex → Bool) (w0 : World) (h0 : View) (hv : VLe h0 (Full w0)) (hx : XL h0 ad cap l)
    (hp : ∀ j, j < l.length → ∀ a2 c2, XL h0 a2 c2 (l.getD j ex0).l → i64 (l.getD j ex0).op → valB (l.getD j ex0).v → ∀ w, VLe h0 (Full w) → Calls Try.prog 25 #[.agg (exC (l.getD j ex0).op (l.getD j ex0).v (l.getD j ex0).s (.slice a2 (l.getD j ex0).l.length c2)).toArray] w (Ret w h0 fun u _ => u = .bool (p (l.getD j ex0)))) :
    Calls Try.prog 24 #[.slice ad l.length cap, .func (.func 25) #[] #[]] w0 (Ret w0 h0 fun u _ => u = .bool (l.any p)) := by
  refine ent (args := [.slice ad l.length cap, .func (.func 25) #[] #[]]) TT_ok [] [] Try.func24 rfl Try.ntmps24 rfl rfl hv ?_
  refine cb (fun w hw => c_IndexX ad cap l p w h0 hw hx hp) ?_
  exact congrArg Value.bool (idx_any (p := p) (l := l))
theorem any_right (l : List Ex) : (!(l.any fun y => !rightS y)) = l.all rightS := any_all rightS l
set_option maxHeartbeats 1000000 in
theorem c_right : ∀ (k : Nat) (x : Ex) (ad : Option Addr) (cap : Nat), SizeOf.sizeOf x < k → ∀ (w0 : World) (h0 : View), VLe h0 (Full w0) → GX h0 ad cap x → Calls Try.prog 12 #[.agg (exC x.op x.v x.s (.slice ad x.l.length cap)).toArray] w0 (Ret w0 h0 fun u _ => u = .bool (rightS x)) := by
  intro k
  induction k with
  | zero => intro x ad cap h; omega
  | succ k ih =>
    intro x ad cap hk w0 h0 hv hx
    have hsm := hx.sm.parts
    have hp : ∀ j, j < x.l.length → ∀ a2 c2, XL h0 a2 c2 (x.l.getD j ex0).l → i64 (x.l.getD j ex0).op → valB (x.l.getD j ex0).v → ∀ w, VLe h0 (Full w) → Calls Try.prog 25 #[.agg (exC (x.l.getD j ex0).op (x.l.getD j ex0).v (x.l.getD j ex0).s (.slice a2 (x.l.getD j ex0).l.length c2)).toArray] w (Ret w h0 fun u _ => u = .bool (!rightS (x.l.getD j ex0))) := by
      intro j hj a2 c2 g1 g2 g3 w hw
      refine ent (args := [.agg (exC (x.l.getD j ex0).op (x.l.getD j ex0).v (x.l.getD j ex0).s (.slice a2 (x.l.getD j ex0).l.length c2)).toArray]) TT_ok [] [] Try.func25 rfl Try.ntmps25 rfl rfl hw ?_
      intro b
      refine cb (fun w hw => ih _ a2 c2 (by have := Ex.lt (getD_mem x.l j ex0 hj); omega) w h0 hw ⟨g1, g2, g3, hsm.2.2.2 _ (getD_mem x.l j ex0 hj)⟩) ?_
      exact rfl
    refine ent (args := [.agg (exC x.op x.v x.s (.slice ad x.l.length cap)).toArray]) TT_ok [] [] Try.func12 rfl Try.ntmps12 rfl rfl hv ?_
    intro b1
    refine And.intro (by kernel_rfl) ?_
    refine cl (c_count x.op) ?_
    refine cnd (fun h => ?_) (fun h => ?_)
    · exact congrArg Value.bool (by rw [right_eq, decide_eq_false h, Bool.false_and])
    refine cnd (fun h1 => ?_) (fun h1 => ?_)
    · refine clg (fun _ => c_VCheck x.v hx.v) ?_
      exact congrArg Value.bool (by rw [right_eq, decide_eq_true h, if_pos h1]; simp [Bool.and_assoc])
    refine cnd (fun h2 => ?_) (fun h2 => ?_)
    · refine aq eqV x.v v0 ?_
      refine clg (fun _ => c_Name x.s (by omega)) ?_
      exact congrArg Value.bool (by rw [right_eq, decide_eq_true h, if_neg h1, if_pos h2]; simp)
    · refine aq eqV x.v v0 ?_
      refine cbg (fun _ w hw => c_ContainsX ad cap x.l (fun y => !rightS y) w h0 hw hx.xl hp) ?_
      exact congrArg Value.bool (by rw [right_eq, decide_eq_true h, if_neg h1, if_neg h2, any_right]; simp)
theorem c_Check (x : Ex) (ad : Option Addr) (cap : Nat) (w0 : World) (h0 : View) (hv : VLe h0 (Full w0)) (hx : GX h0 ad cap x) : Calls Try.prog 6 #[.agg (exC x.op x.v x.s (.slice ad x.l.length cap)).toArray] w0 (Ret w0 h0 fun u _ => u = .int .i64 (if rightS x then 0 else 2)) := by
  refine ent (args := [.agg (exC x.op x.v x.s (.slice ad x.l.length cap)).toArray]) TT_ok [] [] Try.func6 rfl Try.ntmps6 rfl rfl hv ?_
  intro b1
  refine cb (fun w hw => c_right _ x ad cap (Nat.lt_succ_self _) w h0 hw hx) ?_
  refine cnd (fun h => ?_) (fun h => ?_)
  · exact congrArg (Value.int .i64) (by rw [if_neg (by rw [h]; decide)])
  · exact congrArg (Value.int .i64) (by rw [if_pos h])
end Go.Proofs.Ytibdadobdhojaaa
set_option maxRecDepth 100000
namespace Go.Proofs.Ytibdadobdhojaaa
open Go Go.Dx Go.RowKit
theorem c_Fits (p q : Int) (w0 : World) (h0 : View) (hv : VLe h0 (Full w0)) : Calls Try.prog 17 #[.int .i64 p, .int .i64 q] w0 (Ret w0 h0 fun u _ => u = .bool (fitS p q)) := by
  refine ent (args := [.int .i64 p, .int .i64 q]) TT_ok [] [] Try.func17 rfl Try.ntmps17 rfl rfl hv ?_
  exact congrArg Value.bool (by rw [fitS, Bool.or_assoc])
theorem c_either (p q : Int) (w0 : World) (h0 : View) (hv : VLe h0 (Full w0)) : Calls Try.prog 39 #[.int .i64 p, .int .i64 q] w0 (Ret w0 h0 fun u _ => u = .int .i64 (eith p q)) := by
  refine ent (args := [.int .i64 p, .int .i64 q]) TT_ok [] [] Try.func39 rfl Try.ntmps39 rfl rfl hv ?_
  refine cnd (fun h => ?_) (fun h => ?_)
  · exact congrArg (Value.int .i64) (by rw [eith, if_pos h])
  · exact congrArg (Value.int .i64) (by rw [eith, if_neg (by simpa using h)])
def intC (n : Int) : List Value := [.int .i64 n]
theorem c_all (want : Int) (ad : Option Addr) (cap : Nat) (l : List Int) (w0 : World) (h0 : View) (hv : VLe h0 (Full w0)) (hb : SlC 23 1 (flatR intC) h0 (.slice ad l.length cap) l) : Calls Try.prog 38 #[.int .i64 want, .slice ad l.length cap] w0 (Ret w0 h0 fun u _ => u = .bool (l.all (fitS · want))) := by
  have hlm := slc_lm hb
  refine ent (args := [.int .i64 want, .slice ad l.length cap]) TT_ok [] [] Try.func38 rfl Try.ntmps38 rfl rfl hv ?_
  refine w_loop TT_ok (fun k : Nat => [(9, .v (.int .i64 k))]) 0 (fun k => k ≤ l.length ∧ ∀ j, j < k → fitS (l.getD j 0) want = true) (fun k => l.length - k) ?_
  refine And.intro ⟨⟨Nat.zero_le _, fun j hj => absurd hj (Nat.not_lt_zero j)⟩, gs⟩ ?_
  intro k ⟨hk, hn⟩
  refine cnd (fun h => ?_) (fun h => ?_)
  · refine ixs hb k 0 ?_
    refine cl (c_Fits (l.getD k 0) want) ?_
    refine cnd (fun h4 => ?_) (fun h4 => ?_)
    · exact congrArg Value.bool (all_not (p := (fitS · want)) 0 (by omega) h4).symm
    · refine wi ?_
      exact ⟨k + 1, ⟨⟨by omega, upto_snoc hn h4⟩, by omega⟩, gs⟩
  · exact congrArg Value.bool (all_upto (p := (fitS · want)) 0 (fun j hj => hn j (by omega))).symm
theorem c_IndexK (ad : Option Addr) (cap : Nat) (l : List Int) (v : Int) (w0 : World) (h0 : View) (hv : VLe h0 (Full w0)) (hb : SlC 23 1 (flatR intC) h0 (.slice ad l.length cap) l) : Calls Try.prog 46 #[.slice ad l.length cap, .int .i64 v] w0 (Ret w0 h0 fun u _ => u = .int .i64 (idxS (fun x => decide (v = x)) l)) := by
  have hlm := slc_lm hb
  refine ent (args := [.slice ad l.length cap, .int .i64 v]) TT_ok [] [] Try.func46 rfl Try.ntmps46 rfl rfl hv ?_
  refine w_loop TT_ok (fun k : Nat => [(8, .v (.int .i64 k))]) 0 (fun k => k ≤ l.length ∧ ∀ j, j < k → (fun x => decide (v = x)) (l.getD j 0) = false) (fun k => l.length - k) ?_
  refine And.intro ⟨⟨Nat.zero_le _, fun j hj => absurd hj (Nat.not_lt_zero j)⟩, gs⟩ ?_
  intro k ⟨hk, hn⟩
  refine cnd (fun h => ?_) (fun h => ?_)
  · refine ixs hb k 0 ?_
    refine cnd (fun h4 => ?_) (fun h4 => ?_)
    · exact congrArg (Value.int .i64) (idx_hit (p := fun x => decide (v = x)) 0 (by omega) hn (decide_eq_true h4)).symm
    · refine wi ?_
      exact ⟨k + 1, ⟨⟨by omega, upto_snoc hn (decide_eq_false h4)⟩, by omega⟩, gs⟩
  · exact congrArg (Value.int .i64) (idx_none (p := fun x => decide (v = x)) 0 (fun j hj => hn j (by omega))).symm
theorem c_ContainsK (ad : Option Addr) (cap : Nat) (l : List Int) (v : Int) (w0 : World) (h0 : View) (hv : VLe h0 (Full w0)) (hb : SlC 23 1 (flatR intC) h0 (.slice ad l.length cap) l) : Calls Try.prog 40 #[.slice ad l.length cap, .int .i64 v] w0 (Ret w0 h0 fun u _ => u = .bool (l.contains v)) := by
  refine ent (args := [.slice ad l.length cap, .int .i64 v]) TT_ok [] [] Try.func40 rfl Try.ntmps40 rfl rfl hv ?_
  refine cb (fun w hw => c_IndexK ad cap l v w h0 hw hb) ?_
  exact congrArg Value.bool (contains_idx l v)
theorem c_at1 (c : Col) (s : List UInt8) (b : Nat) (w0 : World) (h0 : View) (hv : VLe h0 (Full w0)) (hb : ∀ w, VLe h0 (Full w) → w.cell? ⟨b, 0, none⟩ = some (vs s)) : Calls Try.prog 37 #[.agg (colC c).toArray, .pointer (some ⟨b, 0, none⟩)] w0 (Ret w0 h0 fun u _ => u = .bool (decide (c.name = s))) := by
  refine ent (args := [.agg (colC c).toArray, .pointer (some ⟨b, 0, none⟩)]) TT_ok [] [] Try.func37 rfl Try.ntmps37 rfl rfl hv ?_
  intro b2
  refine ew (vs s) (fun v' w h1 _ h3 => hb w (h1.trans h3)) ?_
  exact rfl
theorem c_IndexC (adc : Option Addr) (capc : Nat) (cl : List Col) (s : List UInt8) (b : Nat) (w0 : World) (h0 : View) (hv : VLe h0 (Full w0)) (hcl : SlC 39 3 (flatR colC) h0 (.slice adc cl.length capc) cl) (hb : ∀ w, VLe h0 (Full w) → w.cell? ⟨b, 0, none⟩ = some (vs s)) :
    Calls Try.prog 36 #[.slice adc cl.length capc, .func (.func 37) #[] #[.pointer (some ⟨b, 0, none⟩)]] w0 (Ret w0 h0 fun u _ => u = .int .i64 (atS cl s)) := by
  have hlm := slc_lm hcl
  refine ent (args := [.slice adc cl.length capc, .func (.func 37) #[] #[.pointer (some ⟨b, 0, none⟩)]]) TT_ok [] [] Try.func36 rfl Try.ntmps36 rfl rfl hv ?_
  refine w_loop TT_ok (fun k : Nat => [(8, .v (.int .i64 k))]) 0 (fun k => k ≤ cl.length ∧ ∀ j, j < k → (fun c : Col => decide (c.name = s)) (cl.getD j c0) = false) (fun k => cl.length - k) ?_
  refine And.intro ⟨⟨Nat.zero_le _, fun j hj => absurd hj (Nat.not_lt_zero j)⟩, gs⟩ ?_
  intro k ⟨hk, hn⟩
  refine cnd (fun h => ?_) (fun h => ?_)
  · refine ixs hcl k c0 ?_
    refine cb (fun w hw => c_at1 (cl.getD k c0) s b w h0 hw hb) ?_
    refine cnd (fun h4 => ?_) (fun h4 => ?_)
    · exact congrArg (Value.int .i64) (idx_hit (p := fun c : Col => decide (c.name = s)) c0 (by omega) hn (decide_eq_true h4)).symm
    · refine wi ?_
      exact ⟨k + 1, ⟨⟨by omega, upto_snoc hn (decide_eq_false h4)⟩, by omega⟩, gs⟩
  · exact congrArg (Value.int .i64) (idx_none (p := fun c : Col => decide (c.name = s)) c0 (fun j hj => hn j (by omega))).symm
theorem c_at (adc : Option Addr) (capc : Nat) (cl : List Col) (s : List UInt8) (w0 : World) (h0 : View) (hv : VLe h0 (Full w0)) (hcl : SlC 39 3 (flatR colC) h0 (.slice adc cl.length capc) cl) : Calls Try.prog 26 #[.slice adc cl.length capc, vs s] w0 (Ret w0 h0 fun u _ => u = .int .i64 (atS cl s)) := by
  refine ent (args := [.slice adc cl.length capc, vs s]) TT_ok [] [] Try.func26 rfl Try.ntmps26 rfl rfl hv ?_
  intro b3
  refine co (fun w hS => c_IndexC adc capc cl s b3 w (Full w) (VLe.refl _) (hcl.monoF hS.st.base) (fun w2 hw2 => (cell_row (hw2 _ _ (hS.wok.own 3 _ _ _ rfl))).trans rfl)) ?_
  exact rfl
end Go.Proofs.Ytibdadobdhojaaa
set_option maxRecDepth 100000
namespace Go.Proofs.Ytibdadobdhojaaa
open Go Go.Dx Go.RowKit
def kbR (r : Int × Bool) : Value := .tuple #[.int .i64 r.1, .bool r.2]
set_option maxRecDepth 100000 in
set_option maxHeartbeats 2000000 in
theorem c_rule (op : Int) (ad : Option Addr) (cap : Nat) (l : List Int) (hop : 3 ≤ op ∧ op ≤ 16) (hlen : (l.length : Int) = cntS op) (w0 : World) (h0 : View) (hv : VLe h0 (Full w0)) (hb : SlC 23 1 (flatR intC) h0 (.slice ad l.length cap) l) : Calls Try.prog 30 #[.int .i64 op, .slice ad l.length cap] w0 (Ret w0 h0 fun u _ => u = kbR (rulS op l)) := by
  have hc := cnt_pos hop
  refine ent (args := [.int .i64 op, .slice ad l.length cap]) TT_ok [] [11] Try.func30 rfl Try.ntmps30 rfl rfl hv ?_
  refine cnd (fun h1 => ?_) (fun h1 => ?_)
  · refine cndT (decide_eq_true h1) ?_
    refine cb (fun w hw => c_all 1 ad cap l w h0 hw hb) ?_
    rw [rul1 (by omega)]; exact rfl
  refine cnd (fun h2 => ?_) (fun h2 => ?_)
  · refine cndT (decide_eq_true h2) ?_
    refine cb (fun w hw => c_all 1 ad cap l w h0 hw hb) ?_
    rw [rul1 (by omega)]; exact rfl
  refine cnd (fun h3 => ?_) (fun h3 => ?_)
  · refine cndT (decide_eq_true h3) ?_
    refine cb (fun w hw => c_all 1 ad cap l w h0 hw hb) ?_
    rw [rul1 (by omega)]; exact rfl
  refine cnd (fun h4 => ?_) (fun h4 => ?_)
  · refine cb (fun w hw => c_all 1 ad cap l w h0 hw hb) ?_
    rw [rul1 (by omega)]; exact rfl
  refine cnd (fun h5 => ?_) (fun h5 => ?_)
  · have hl2 := hc.2.2.1 (by omega)
    refine And.intro (by kernel_rfl) ?_
    refine ixs hb 0 0 ?_
    refine ixs hb 1 0 ?_
    refine cl (c_either (l.getD 0 0) (l.getD 1 0)) ?_
    refine w_cut TT_ok (fun _ : Unit => [(6, .v (.int .i64 (addK (l.getD 0 0) (l.getD 1 0))))]) (fun _ => True) ?_
    refine And.intro ?_ ?_
    · refine cnd (fun h => ?_) (fun h => ?_)
      · exact ⟨(), trivial, gs (by rw [addK, if_neg h]; rfl)⟩
      · exact ⟨(), trivial, gs (by rw [addK, if_pos h, h]; rfl)⟩
    · intro _ _
      refine cb (fun w hw => c_all (addK (l.getD 0 0) (l.getD 1 0)) ad cap l w h0 hw hb) ?_
      rw [rul2 h5]; exact rfl
  refine cnd (fun h6 => ?_) (fun h6 => ?_)
  · have hl2 := hc.2.2.1 (by omega)
    refine cndT (decide_eq_true h6) ?_
    refine And.intro (by kernel_rfl) ?_
    refine ixs hb 0 0 ?_
    refine ixs hb 1 0 ?_
    refine cl (c_Fits (l.getD 0 0) (l.getD 1 0)) ?_
    rw [rul3 (by omega)]; exact rfl
  refine cnd (fun h7 => ?_) (fun h7 => ?_)
  · have hl2 := hc.2.2.1 (by omega)
    refine And.intro (by kernel_rfl) ?_
    refine ixs hb 0 0 ?_
    refine ixs hb 1 0 ?_
    refine cl (c_Fits (l.getD 0 0) (l.getD 1 0)) ?_
    rw [rul3 (by omega)]; exact rfl
  have four : 10 ≤ op ∧ op ≤ 13 → Value.tuple #[.int .i64 3, .bool (fitS (l.getD 0 0) (l.getD 1 0) && !l.contains 3)] = kbR (rulS op l) := fun h => by rw [rul4 h]; rfl
  refine cnd (fun h8 => ?_) (fun h8 => ?_)
  · have hl2 := hc.2.2.1 (by omega)
    refine cndT (decide_eq_true h8) ?_
    refine And.intro (by kernel_rfl) ?_
    refine ixs hb 0 0 ?_
    refine ixs hb 1 0 ?_
    refine cl (c_Fits (l.getD 0 0) (l.getD 1 0)) ?_
    refine cbg (fun _ w hw => c_ContainsK ad cap l 3 w h0 hw hb) ?_
    exact four (by omega)
  refine cnd (fun h9 => ?_) (fun h9 => ?_)
  · have hl2 := hc.2.2.1 (by omega)
    refine cndT (decide_eq_true h9) ?_
    refine And.intro (by kernel_rfl) ?_
    refine ixs hb 0 0 ?_
    refine ixs hb 1 0 ?_
    refine cl (c_Fits (l.getD 0 0) (l.getD 1 0)) ?_
    refine cbg (fun _ w hw => c_ContainsK ad cap l 3 w h0 hw hb) ?_
    exact four (by omega)
  refine cnd (fun h10 => ?_) (fun h10 => ?_)
  · have hl2 := hc.2.2.1 (by omega)
    refine cndT (decide_eq_true h10) ?_
    refine And.intro (by kernel_rfl) ?_
    refine ixs hb 0 0 ?_
    refine ixs hb 1 0 ?_
    refine cl (c_Fits (l.getD 0 0) (l.getD 1 0)) ?_
    refine cbg (fun _ w hw => c_ContainsK ad cap l 3 w h0 hw hb) ?_
    exact four (by omega)
  refine cnd (fun h11 => ?_) (fun h11 => ?_)
  · have hl2 := hc.2.2.1 (by omega)
    refine And.intro (by kernel_rfl) ?_
    refine ixs hb 0 0 ?_
    refine ixs hb 1 0 ?_
    refine cl (c_Fits (l.getD 0 0) (l.getD 1 0)) ?_
    refine cbg (fun _ w hw => c_ContainsK ad cap l 3 w h0 hw hb) ?_
    exact four (by omega)
  refine cnd (fun h12 => ?_) (fun h12 => ?_)
  · refine cndT (decide_eq_true h12) ?_
    refine cb (fun w hw => c_all 3 ad cap l w h0 hw hb) ?_
    rw [rul5 (by omega)]; exact rfl
  refine cnd (fun h13 => ?_) (fun h13 => ?_)
  · refine cb (fun w hw => c_all 3 ad cap l w h0 hw hb) ?_
    rw [rul5 (by omega)]; exact rfl
  have hl3 := hc.2.2.2 (by omega)
  refine And.intro (by kernel_rfl) ?_
  refine ixs hb 1 0 ?_
  refine ixs hb 2 0 ?_
  refine cl (c_either (l.getD 1 0) (l.getD 2 0)) ?_
  refine ixs hb 0 0 ?_
  refine cl (c_Fits (l.getD 0 0) 3) ?_
  refine ixsg hb 1 0 ?_ (fun _ => by omega)
  refine kg1 ?_
  refine ixsg hb 2 0 ?_ (fun _ => by omega)
  refine kg1 ?_
  refine clg (fun _ => c_Fits (l.getD 1 0) (l.getD 2 0)) ?_
  rw [rul6 (by omega)]; exact rfl
def kiR (p : Int × Int) : Value := .tuple #[.int .i64 p.1, .int .i64 p.2]
theorem flatI (l : List Int) : (l.map intC).flatten.length = l.length := flat1_len l
set_option maxRecDepth 100000 in
set_option maxHeartbeats 2000000 in
theorem c_kind (adc : Option Addr) (capc : Nat) (cl : List Col) (h0 : View) (hcl : SlC 39 3 (flatR colC) h0 (.slice adc cl.length capc) cl) : ∀ (n : Nat) (x : Ex) (ad : Option Addr) (cap : Nat), SizeOf.sizeOf x < n → rightS x = true → GX h0 ad cap x → ∀ w0 : World, VLe h0 (Full w0) →
    Calls Try.prog 20 #[.agg (exC x.op x.v x.s (.slice ad x.l.length cap)).toArray, .slice adc cl.length capc] w0 (Ret w0 h0 fun u _ => u = kiR (kindS cl x)) := by
  intro n
  induction n with
  | zero => intro x ad cap h; omega
  | succ n ih =>
    intro x ad cap hk hr hx w0 hv
    have hsm := hx.sm.parts
    refine ent (args := [.agg (exC x.op x.v x.s (.slice ad x.l.length cap)).toArray, .slice adc cl.length capc]) TT_ok [56] [] Try.func20 rfl Try.ntmps20 rfl rfl hv ?_
    intro b2
    refine cnd (fun h1 => ?_) (fun h1 => ?_)
    · rw [kind_eq, if_pos h1]; exact rfl
    refine cnd (fun h2 => ?_) (fun h2 => ?_)
    · rw [kind_eq, if_neg h1, if_pos h2]
      refine cb (fun w hw => c_at adc capc cl x.s w h0 hw hcl) ?_
      refine cnd (fun h3 => ?_) (fun h3 => ?_)
      · rw [if_pos h3]; exact rfl
      · rw [if_neg h3]
        obtain ⟨m, hm, hml⟩ := at_get h3
        refine ixs hcl m c0 ?_ (by omega)
        rw [hm]; exact rfl
    obtain ⟨hop, hlen, hch⟩ := right_sub hr h1 h2
    refine nilC 900 23 1 ?_
    refine w_loopB TT_ok (fun z : Option Addr × Nat × Nat => [(7, .v (.slice z.1 z.2.1 z.2.2)), (37, .v (.int .i64 z.2.1))]) (fun z => [(900, .e (bufE 23 1 (.slice z.1 z.2.1 z.2.2) (((x.l.take z.2.1).map fun y => (kindS cl y).1).map intC).flatten)), (2, .c b2 28 (exC x.op x.v x.s (.slice ad x.l.length cap)))]) (none, 0, 0)
      (fun z => z.2.1 ≤ x.l.length ∧ ∀ j, j < z.2.1 → (kindS cl (x.l.getD j ex0)).2 = 0) (fun z => x.l.length - z.2.1) ?_
    refine And.intro ⟨⟨Nat.zero_le _, fun j h => absurd h (Nat.not_lt_zero _)⟩, gs⟩ ?_
    rintro ⟨a0, k, cp⟩ ⟨hkl, hz⟩
    dsimp only at hkl hz ⊢
    refine cnd (fun h3 => ?_) (fun h3 => ?_)
    · have hk' : k < x.l.length := by omega
      have hm := getD_mem x.l k ex0 hk'
      refine ixE hx.xl k (fun a2 c2 g1 g2 g3 => ?_)
      intro b9
      refine cb (fun w hw => ih _ a2 c2 (by have := Ex.lt hm; omega) (hch _ hm) ⟨g1, g2, g3, hsm.2.2.2 _ hm⟩ w hw) ?_
      refine cnd (fun h4 => ?_) (fun h4 => ?_)
      · rw [kind_er h1 h2 hk' hz h4]; exact rfl
      · intro b52
        refine ap TT_ok 900 (AppT.of (bytes := 8) (sz := 0) (by kernel_rfl) (by kernel_rfl) (by kernel_rfl)) rfl rfl rfl rfl rfl rfl rfl (by rw [flatI, List.length_map, List.length_take]; show (_ + 1) * 9 ≤ _; omega) (fun a1 n1 c1 e1 => ?_)
        refine wi ?_
        have hn1 : n1 = k + 1 := by
          rw [flatI, List.length_map, List.length_take] at e1
          have e1 : n1 * 1 = min k x.l.length + 1 := e1
          omega
        subst hn1
        refine ⟨(a1, k + 1, c1), ⟨⟨hk', upto_snoc hz h4⟩, ?_⟩, ?_⟩
        · show x.l.length - (k + 1) < x.l.length - k; omega
        · refine gs rfl ?_
          show [(900, OB.e (bufE 23 1 (.slice a1 (k + 1) c1) _)), _] = [(900, OB.e (bufE 23 1 (.slice a1 (k + 1) c1) _)), _]
          rw [take_snocD x.l k ex0 hk', List.map_append, List.map_append, List.flatten_append]; rfl
    · have hkk : k = x.l.length := by omega
      subst hkk
      have hks := kind_ok (cl := cl) h1 h2 hz
      refine And.intro rfl ?_
      refine sealW (g := intC) (l := x.l.map fun y => (kindS cl y).1) 900 (by rw [List.take_length]; rfl) (by rw [List.length_map]) ?_
      refine goW TT_ok ?_
      refine cf (x := kbR (rulS x.op (x.l.map fun y => (kindS cl y).1))) (fun w v g1 g2 g3 => by
        have := c_rule x.op a0 cp (x.l.map fun y => (kindS cl y).1) hop (by rw [List.length_map]; exact hlen) w v g3 (by rw [List.length_map]; exact g2.2)
        rw [List.length_map] at this
        exact this) ?_
      rw [hks]
      refine cnd (fun h4 => ?_) (fun h4 => ?_)
      · rw [ofK, if_neg (by rw [h4]; decide)]; exact rfl
      · rw [ofK, if_pos h4]; exact rfl
theorem c_Kind (adc : Option Addr) (capc : Nat) (cl : List Col) (x : Ex) (ad : Option Addr) (cap : Nat) (w0 : World) (h0 : View) (hv : VLe h0 (Full w0)) (hx : GX h0 ad cap x) (hcl : SlC 39 3 (flatR colC) h0 (.slice adc cl.length capc) cl) :
    Calls Try.prog 9 #[.agg (exC x.op x.v x.s (.slice ad x.l.length cap)).toArray, .slice adc cl.length capc] w0 (Ret w0 h0 fun u _ => u = kiR (kindT cl x)) := by
  refine ent (args := [.agg (exC x.op x.v x.s (.slice ad x.l.length cap)).toArray, .slice adc cl.length capc]) TT_ok [] [] Try.func9 rfl Try.ntmps9 rfl rfl hv ?_
  intro b2
  refine cb (fun w hw => c_Check x ad cap w h0 hw hx) ?_
  refine cnd (fun h => ?_) (fun h => ?_)
  · have e : kindT cl x = (0, 2) := by rw [kindT, if_neg (right_not h)]
    rw [e, if_neg (right_not h)]
    exact rfl
  · have hr := right_only h
    have e : kindT cl x = kindS cl x := by rw [kindT, if_pos hr]
    rw [e]
    refine cb (x := .tuple #[.int .i64 (kindS cl x).1, .int .i64 (kindS cl x).2]) (fun w hw => c_kind adc capc cl h0 hcl _ x ad cap (Nat.lt_succ_self _) hr hx w hw) ?_
    show tupV _ = _
    rfl

end Go.Proofs.Ytibdadobdhojaaa
set_option maxRecDepth 100000
namespace Go.Proofs.Ytibdadobdhojaaa
open Go Go.Dx Go.RowKit
set_option maxRecDepth 100000 in
theorem c_small : ∀ (d : Nat), d ≤ 1000 → ∀ (x : Ex) (ad : Option Addr) (cap : Nat) (w0 : World) (h0 : View), VLe h0 (Full w0) → XL h0 ad cap x.l → Calls Try.prog 10 #[.agg (exC x.op x.v x.s (.slice ad x.l.length cap)).toArray, .int .i64 (d : Nat)] w0 (Ret w0 h0 fun u _ => u = .bool (smallX d x)) := by
  intro d
  induction d with
  | zero =>
    intro hd x ad cap w0 h0 hv hx
    refine ent (args := [.agg (exC x.op x.v x.s (.slice ad x.l.length cap)).toArray, .int .i64 ((0 : Nat) : Int)]) TT_ok [] [] Try.func10 rfl Try.ntmps10 rfl rfl hv ?_
    intro b2
    refine cnd (fun h => ?_) (fun h => by exfalso; omega)
    exact rfl
  | succ d ih =>
    intro hd x ad cap w0 h0 hv hx
    have hlm := hx.lm
    refine ent (args := [.agg (exC x.op x.v x.s (.slice ad x.l.length cap)).toArray, .int .i64 ((d + 1 : Nat) : Int)]) TT_ok [] [] Try.func10 rfl Try.ntmps10 rfl rfl hv ?_
    intro b2
    refine cnd (fun h => ?_) (fun h => ?_)
    · exact congrArg Value.bool (small_no (d + 1) x (by omega)).symm
    · refine w_loop TT_ok (fun k : Nat => [(5, .v (.int .i64 k))]) 0 (fun k => k ≤ x.l.length ∧ ∀ j, j < k → smallX d (x.l.getD j ex0) = true) (fun k => x.l.length - k) ?_
      refine And.intro ⟨⟨Nat.zero_le _, fun j hj => absurd hj (Nat.not_lt_zero j)⟩, gs⟩ ?_
      intro k ⟨hk, hn⟩
      refine cnd (fun h1 => ?_) (fun h1 => ?_)
      · refine ixE hx k (fun a2 c2 g1 g2 g3 => ?_)
        refine ew ((d : Nat) : Int) (show IntKind.i64.wrap (((d + 1 : Nat) : Int) - 1) = ((d : Nat) : Int) by rw [show ((d + 1 : Nat) : Int) - 1 = ((d : Nat) : Int) by omega]; exact wrap_i64 (by omega) (by omega)) ?_
        refine cb (fun w hw => ih (by omega) _ a2 c2 w h0 hw g1) ?_
        refine cnd (fun h4 => ?_) (fun h4 => ?_)
        · exact congrArg Value.bool (by rw [small_eq (by omega)]; simp only [Nat.add_sub_cancel]; rw [all_not ex0 (k := k) (by omega) h4]; simp)
        · refine wi ?_
          exact ⟨k + 1, ⟨⟨by omega, upto_snoc hn h4⟩, by omega⟩, gs⟩
      · exact congrArg Value.bool (by rw [small_eq (by omega)]; simp only [Nat.add_sub_cancel]; rw [all_upto ex0 (p := smallX d) (fun j hj => hn j (by omega))]; simp; omega)
theorem c_Size : ∀ (k : Nat) (x : Ex) (ad : Option Addr) (cap : Nat), SizeOf.sizeOf x < k → ∀ (w0 : World) (h0 : View), VLe h0 (Full w0) → XL h0 ad cap x.l → Calls Try.prog 11 #[.agg (exC x.op x.v x.s (.slice ad x.l.length cap)).toArray] w0 (Ret w0 h0 fun u _ => u = .int .i64 (szF x)) := by
  intro k
  induction k with
  | zero => intro x ad cap h; omega
  | succ k ih =>
    intro x ad cap hk w0 h0 hv hx
    have hlm := hx.lm
    refine ent (args := [.agg (exC x.op x.v x.s (.slice ad x.l.length cap)).toArray]) TT_ok [] [] Try.func11 rfl Try.ntmps11 rfl rfl hv ?_
    intro b2
    refine w_loop TT_ok (fun k : Nat => [(4, .v (.int .i64 k)), (3, .v (.int .i64 (szL 1 (x.l.take k))))]) 0 (fun k => k ≤ x.l.length) (fun k => x.l.length - k) ?_
    refine And.intro ⟨Nat.zero_le _, gs⟩ ?_
    intro i hi
    refine cnd (fun h1 => ?_) (fun h1 => ?_)
    · refine ixE hx i (fun a2 c2 g1 g2 g3 => ?_)
      refine cb (fun w hw => ih _ a2 c2 (by have := Ex.lt (getD_mem x.l i ex0 (by omega)); omega) w h0 hw g1) ?_
      refine ew _ rfl ?_
      refine wi ?_
      exact ⟨i + 1, ⟨by omega, by omega⟩, gs (by rw [show szL 1 (x.l.take (i + 1)) = IntKind.i64.wrap (szL 1 (x.l.take i) + szF (x.l.getD i ex0)) by rw [take_snocD x.l i ex0 (by omega), szL_snoc]]; rfl)⟩
    · exact congrArg (Value.int .i64) (by rw [sz_eq, List.take_of_length_le (by omega)])
theorem c_XSmall (x : Ex) (ad : Option Addr) (cap : Nat) (w0 : World) (h0 : View) (hv : VLe h0 (Full w0)) (hx : XL h0 ad cap x.l) : Calls Try.prog 4 #[.agg (exC x.op x.v x.s (.slice ad x.l.length cap)).toArray] w0 (Ret w0 h0 fun u _ => u = .bool (XSm x)) := by
  refine ent (args := [.agg (exC x.op x.v x.s (.slice ad x.l.length cap)).toArray]) TT_ok [] [] Try.func4 rfl Try.ntmps4 rfl rfl hv ?_
  intro b1
  refine cb (fun w hw => c_small 30 (by decide) x ad cap w h0 hw hx) ?_
  refine cbg (fun _ w hw => c_Size _ x ad cap (Nat.lt_succ_self _) w h0 hw hx) ?_
  exact rfl
theorem c_Few (adc : Option Addr) (capc : Nat) (cl : List Col) (w0 : World) (h0 : View) (hv : VLe h0 (Full w0)) (hcl : SlC 39 3 (flatR colC) h0 (.slice adc cl.length capc) cl) : Calls Try.prog 5 #[.slice adc cl.length capc] w0 (Ret w0 h0 fun u _ => u = .bool (fewS cl)) := by
  have hlm := slc_lm hcl
  refine ent (args := [.slice adc cl.length capc]) TT_ok [] [] Try.func5 rfl Try.ntmps5 rfl rfl hv ?_
  refine cnd (fun h => ?_) (fun h => ?_)
  · exact congrArg Value.bool (by rw [fewS, decide_eq_false (by omega), Bool.false_and])
  refine w_loop TT_ok (fun k : Nat => [(3, .v (.int .i64 k))]) 0 (fun k => k ≤ cl.length ∧ ∀ j, j < k → (cl.getD j c0).name.length ≤ 300) (fun k => cl.length - k) ?_
  refine And.intro ⟨⟨Nat.zero_le _, fun j hj => absurd hj (Nat.not_lt_zero j)⟩, gs⟩ ?_
  intro k ⟨hk, hn⟩
  refine cnd (fun h1 => ?_) (fun h1 => ?_)
  · refine ixs hcl k c0 ?_
    refine cnd (fun h2 => ?_) (fun h2 => ?_)
    · exact congrArg Value.bool (by rw [fewS, all_not c0 (k := k) (p := fun c => decide (c.name.length ≤ 300)) (by omega) (by simp only [decide_eq_false_iff_not]; omega), Bool.and_false])
    · refine wi ?_
      exact ⟨k + 1, ⟨⟨by omega, upto_snoc hn (by omega)⟩, by omega⟩, gs⟩
  · exact congrArg Value.bool (by rw [fewS, all_upto c0 (p := fun c => decide (c.name.length ≤ 300)) (fun j hj => decide_eq_true (hn j (by omega))), Bool.and_true, decide_eq_true (by omega)])
def fewR (l : List Val) : Bool := decide (l.length ≤ 12) && l.all fun v => decide (v.s.length ≤ 300)
end Go.Proofs.Ytibdadobdhojaaa
set_option maxRecDepth 100000
namespace Go.Proofs.Ytibdadobdhojaaa
open Go Go.Dx Go.RowKit
theorem contains_idxT (l : List (List UInt8)) (v : List UInt8) : decide (idxS (fun x => decide (v = x)) l ≥ 0) = l.contains v := by
  have := idx_any (p := fun x => decide (v = x)) (l := l)
  rw [show decide (idxS (fun x => decide (v = x)) l ≥ 0) = decide (0 ≤ idxS (fun x => decide (v = x)) l) from rfl, this, List.contains_eq_any_beq]
  congr 1
  funext x
  by_cases h : v = x <;> simp [h]
theorem c_IndexT (ad : Option Addr) (cap : Nat) (l : List (List UInt8)) (v : List UInt8) (w0 : World) (h0 : View) (hv : VLe h0 (Full w0)) (hb : SlC 9 1 (flatR fun s => [vs s]) h0 (.slice ad l.length cap) l) : Calls Try.prog 29 #[.slice ad l.length cap, vs v] w0 (Ret w0 h0 fun u _ => u = .int .i64 (idxS (fun x => decide (v = x)) l)) := by
  have hlm := slc_lm hb
  refine ent (args := [.slice ad l.length cap, vs v]) TT_ok [] [] Try.func29 rfl Try.ntmps29 rfl rfl hv ?_
  refine w_loop TT_ok (fun k : Nat => [(8, .v (.int .i64 k))]) 0 (fun k => k ≤ l.length ∧ ∀ j, j < k → decide (v = l.getD j []) = false) (fun k => l.length - k) ?_
  refine And.intro ⟨⟨Nat.zero_le _, fun j hj => absurd hj (Nat.not_lt_zero j)⟩, gs⟩ ?_
  intro k ⟨hk, hn⟩
  refine cnd (fun h => ?_) (fun h => ?_)
  · refine ixs hb k [] ?_
    refine cnd (fun h1 => ?_) (fun h1 => ?_)
    · exact congrArg (Value.int .i64) (idx_hit [] (by omega) hn (decide_eq_true h1)).symm
    · refine wi ?_
      exact ⟨k + 1, ⟨⟨by omega, upto_snoc hn (decide_eq_false h1)⟩, by omega⟩, gs⟩
  · exact congrArg (Value.int .i64) (idx_none [] (fun j hj => hn j (by omega))).symm
theorem c_ContainsT (ad : Option Addr) (cap : Nat) (l : List (List UInt8)) (v : List UInt8) (w0 : World) (h0 : View) (hv : VLe h0 (Full w0)) (hb : SlC 9 1 (flatR fun s => [vs s]) h0 (.slice ad l.length cap) l) : Calls Try.prog 19 #[.slice ad l.length cap, vs v] w0 (Ret w0 h0 fun u _ => u = .bool (l.contains v)) := by
  refine ent (args := [.slice ad l.length cap, vs v]) TT_ok [] [] Try.func19 rfl Try.ntmps19 rfl rfl hv ?_
  refine cb (fun w hw => c_IndexT ad cap l v w h0 hw hb) ?_
  exact congrArg Value.bool (contains_idxT l v)
/-- texts that are gathered in a cell -/
structure NmG where
  a : Option Addr
  n : Nat
  cp : Nat
  l : List (List UInt8)
def nmR (bc : Nat) (s : NmG) (k : Nat := 900) : BL := [(k, .c bc 35 [.slice s.a s.n s.cp]), (901, .e (bufE 9 1 (.slice s.a s.n s.cp) (s.l.map fun s => [vs s]).flatten))]
def nmJ (bc l : Nat) (rec : Loop) (s : NmG) : BL := nmR bc s ++ [(902, .e (some l, LoopC rec))]
/-- names: each name is handed to yield -/
theorem c_names (bc l : Nat) (rec : Loop) (h00 : View) (hy : ∀ (x : List UInt8) (s : NmG), s.n = s.l.length → s.l.length + 1 ≤ 2000000 → ∀ w v, VLe h00 v → VLe v (Full w) → (∀ b ∈ ids (oes (nmJ bc l rec s)), v b = none) → OwnJ w (oes (nmJ bc l rec s)) →
    YC Try.prog (nmJ bc l rec) s l [vs x] w fun u s' => u = .bool true ∧ (s'.l = addS s.l x ∧ s'.n = s'.l.length)) :
    ∀ (k : Nat) (x : Ex) (ad : Option Addr) (cap : Nat), SizeOf.sizeOf x < k → ∀ (s : NmG), s.n = s.l.length → s.l.length + (nmS x).length ≤ 2000000 → ∀ (w0 : World) (h0 : View), VLe h00 h0 → VLe h0 (Full w0) → (∀ b ∈ ids (oes (nmJ bc l rec s)), h0 b = none) → OwnJ w0 (oes (nmJ bc l rec s)) → XL h0 ad cap x.l →
    Calls Try.prog 28 #[.agg (exC x.op x.v x.s (.slice ad x.l.length cap)).toArray, .func (.yield l) #[] #[]] w0 (RetJ (nmJ bc l rec) s w0 fun u s' => u = .bool true ∧ (s'.l = (nmS x).foldl addS s.l ∧ s'.n = s'.l.length)) := by
  intro k
  induction k with
  | zero => intro x _ _ h; omega
  | succ k ih =>
  intro x ad cap hk s hn hlen w0 h0 hle hv hno ho hx
  have hlm := hx.lm
  have hne := nm_eq x
  refine entJR (nmJ bc l rec) s (g := fun _ => .bool true) (args := [.agg (exC x.op x.v x.s (.slice ad x.l.length cap)).toArray, .func (.yield l) #[] #[]]) TT_ok [4000014] [3] [.v (.agg (exC x.op x.v x.s (.slice ad x.l.length cap)).toArray), .v (.func (.yield l) #[] #[])] Try.func28 rfl Try.ntmps28 rfl rfl hv hno ho rfl ?_
  intro b2
  refine w_cutB TT_ok (fun _ : NmG => []) (fun y => nmJ bc l rec y ++ [(2, .c b2 28 (exC x.op x.v x.s (.slice ad x.l.length cap)))]) (fun y => y.l = (if x.op = 2 then [x.s] else []).foldl addS s.l ∧ y.n = y.l.length) ?_
  refine And.intro ?_ ?_
  · refine cnd (fun h => ?_) (fun h => ?_)
    · have h : x.op = 2 := by simpa using h
      rw [if_pos h] at hne
      have hl1 : s.l.length + 1 ≤ 2000000 := by rw [hne] at hlen; simp only [List.length_append, List.length_cons, List.length_nil] at hlen; omega
      refine yJ TT_ok (nmJ bc l rec) s (g := fun _ => .bool true) (fun w v h1 h2 h3 h4 h5 => hy x.s s hn hl1 w v (hle.trans h1) h3 h4 h5) ?_ (hl := ⟨rfl, rfl, rfl, trivial⟩)
      rintro y ⟨g1, g2⟩
      refine cndF (by rw [decide_eq_true h]; rfl) ?_
      exact ⟨y, ⟨by rw [if_pos h]; exact g1, g2⟩, gsJ ⟨rfl, rfl, rfl, rfl, trivial⟩⟩
    · have h : ¬ x.op = 2 := by simpa using h
      refine ⟨.bool false, ?_⟩
      refine cndF (by rw [decide_eq_false h]; rfl) ?_
      exact ⟨s, ⟨by rw [if_neg h]; rfl, hn⟩, gsJ ⟨rfl, rfl, rfl, rfl, trivial⟩⟩
  · rintro s1 ⟨e1, n1⟩
    have hl1 : s1.l.length + (nmL x.l).length ≤ 2000000 := by
      have := adds_len (if x.op = 2 then [x.s] else []) s.l
      rw [hne, List.length_append] at hlen
      rw [e1]; omega
    refine w_loopB TT_ok (fun z : Nat × NmG => [(20, .v (.int .i64 z.1))]) (fun z => nmJ bc l rec z.2 ++ [(2, .c b2 28 (exC x.op x.v x.s (.slice ad x.l.length cap)))]) (0, s1) (fun z => z.1 ≤ x.l.length ∧ z.2.l = (nmL (x.l.take z.1)).foldl addS s1.l ∧ z.2.n = z.2.l.length) (fun z => x.l.length - z.1) ?_
    refine And.intro ⟨⟨Nat.zero_le _, rfl, n1⟩, gsJ ⟨rfl, rfl, rfl, rfl, trivial⟩⟩ ?_
    rintro ⟨j, y⟩ ⟨hj, hy1, hy2⟩
    have hj : j ≤ x.l.length := hj
    have hy1 : y.l = (nmL (x.l.take j)).foldl addS s1.l := hy1
    refine cnd (fun h => ?_) (fun h => ?_)
    · have hj2 : j < x.l.length := by have : (j : Int) < x.l.length := h; omega
      have hin := getD_mem x.l j ex0 hj2
      refine ixE hx j (fun a2 c2 g1 g2 g3 => ?_)
      intro b6
      have hroom : y.l.length + (nmS (x.l.getD j ex0)).length ≤ 2000000 := by
        have h1 := nmL_take x.l j hj2
        have h2 := nmL_drop x.l (j + 1)
        rw [h1, List.length_append] at h2
        have h3 := adds_len (nmL (x.l.take j)) s1.l
        rw [hy1]; omega
      refine cJ TT_ok (nmJ bc l rec) y (g := fun _ => .bool true) (fun w v h1 _ h3 h4 h5 => ih (x.l.getD j ex0) a2 c2 (by have := Ex.lt hin; omega) y hy2 hroom w v (hle.trans h1) h3 h4 h5 (g1.mono h1)) ?_ (hl := ⟨rfl, rfl, rfl, trivial⟩)
      rintro z ⟨z1, z2⟩
      refine cndF rfl ?_
      refine wi ?_
      exact ⟨(j + 1, z), ⟨⟨by show j + 1 ≤ _; omega, by rw [nmL_take x.l j hj2, List.foldl_append, ← hy1]; exact z1, z2⟩, by show x.l.length - (j + 1) < x.l.length - j; omega⟩, gsJ ⟨rfl, rfl, rfl, rfl, trivial⟩⟩
    · have hj2 : j = x.l.length := by have : ¬ (j : Int) < x.l.length := h; omega
      refine ⟨y, rfl, ⟨?_, hy2⟩, rfl, rfl, rfl, rfl, trivial⟩
      rw [hy1, hj2, List.take_length, e1, ← List.foldl_append, ← hne]
theorem fl1 (l : List (List UInt8)) : (l.map fun t => [vs t]).flatten.length = l.length := by
  induction l <;> simp_all
/-- the iterator -/
theorem c_each1 (bc l : Nat) (rec : Loop) (h00 : View) (hy : ∀ (x : List UInt8) (s : NmG), s.n = s.l.length → s.l.length + 1 ≤ 2000000 → ∀ w v, VLe h00 v → VLe v (Full w) → (∀ b ∈ ids (oes (nmJ bc l rec s)), v b = none) → OwnJ w (oes (nmJ bc l rec s)) →
      YC Try.prog (nmJ bc l rec) s l [vs x] w fun u s' => u = .bool true ∧ (s'.l = addS s.l x ∧ s'.n = s'.l.length))
    (x : Ex) (ad : Option Addr) (cap b : Nat) (s : NmG) (hn : s.n = s.l.length) (hlen : s.l.length + (nmS x).length ≤ 2000000) (w0 : World) (h0 : View) (hle : VLe h00 h0) (hv : VLe h0 (Full w0)) (hno : ∀ b ∈ ids (oes (nmJ bc l rec s)), h0 b = none) (ho : OwnJ w0 (oes (nmJ bc l rec s))) (hx : XL h0 ad cap x.l)
    (hb : h0 b = some (.cells (exC x.op x.v x.s (.slice ad x.l.length cap)).toArray 28 (0, 0))) :
    Calls Try.prog 27 #[.func (.yield l) #[] #[], .pointer (some ⟨b, 0, none⟩)] w0 (RetJ (nmJ bc l rec) s w0 fun u s' => u = .tuple #[] ∧ (s'.l = (nmS x).foldl addS s.l ∧ s'.n = s'.l.length)) := by
  refine entJR (nmJ bc l rec) s (g := fun _ => .tuple #[]) (args := [.func (.yield l) #[] #[], .pointer (some ⟨b, 0, none⟩)]) TT_ok [] [] [.v (.func (.yield l) #[] #[]), .v (.pointer (some ⟨b, 0, none⟩))] Try.func27 rfl Try.ntmps27 rfl rfl hv hno ho rfl ?_
  refine ⟨exC x.op x.v x.s (.slice ad x.l.length cap), ⟨rfl, fun v w g1 _ g3 j u hj => by rw [add_mk, cell_row (g3 _ _ (g1 _ _ hb)), Nat.zero_add]; exact hj⟩, ?_⟩
  refine cJ TT_ok (nmJ bc l rec) s (g := fun _ => .bool true) (fun w v h1 _ h3 h4 h5 => c_names bc l rec h00 hy _ x ad cap (Nat.lt_succ_self _) s hn hlen w v (hle.trans h1) h3 h4 h5 (hx.mono h1)) ?_ (hl := ⟨rfl, rfl, rfl, trivial⟩)
  rintro y ⟨g1, g2⟩
  exact ⟨y, rfl, ⟨g1, g2⟩, rfl, rfl, rfl, rfl, trivial⟩
theorem c_each (x : Ex) (ad : Option Addr) (cap : Nat) (w0 : World) (h0 : View) (hv : VLe h0 (Full w0)) : Calls Try.prog 18 #[.agg (exC x.op x.v x.s (.slice ad x.l.length cap)).toArray] w0 (Ret w0 h0 fun u hh => ∃ b : Nat, u = .func (.func 27) #[] #[.pointer (some ⟨b, 0, none⟩)] ∧ hh b = some (.cells (exC x.op x.v x.s (.slice ad x.l.length cap)).toArray 28 (0, 0))) := by
  refine entA (args := [.agg (exC x.op x.v x.s (.slice ad x.l.length cap)).toArray]) TT_ok [3] [] Try.func18 rfl Try.ntmps18 rfl rfl hv (fun _ _ _ hle hx => hle _ _ hx) ?_
  intro b1
  refine shutG TT_ok (Φ := fun h => h b1 = some (.cells (exC x.op x.v x.s (.slice ad x.l.length cap)).toArray 28 (0, 0))) 1 rfl (fun hh _ _ hb => hb) ?_ (fun _ _ hle hx => hle _ _ hx)
  exact ⟨b1, rfl, fun v _ hF => hF.2⟩
theorem c_Names (x : Ex) (ad : Option Addr) (cap : Nat) (hlen : (nmS x).length ≤ 2000000) (w0 : World) (h0 : View) (hv : VLe h0 (Full w0)) (hx : XL h0 ad cap x.l) : Calls Try.prog 8 #[.agg (exC x.op x.v x.s (.slice ad x.l.length cap)).toArray] w0 (Ret w0 h0 fun u hh => ∃ a : Option Addr × Nat, u = .slice a.1 (namesS x).length a.2 ∧ SlC 9 1 (flatR fun t => [vs t]) hh (.slice a.1 (namesS x).length a.2) (namesS x)) := by
  refine entDM (E := fun B F us => ∃ a : Option Addr × Nat, tupV us = .slice a.1 (namesS x).length a.2 ∧ ∀ v, F v → SlC 9 1 (flatR fun t => [vs t]) v (.slice a.1 (namesS x).length a.2) (namesS x)) (args := [.agg (exC x.op x.v x.s (.slice ad x.l.length cap)).toArray]) TT_ok [] [] 2 Try.func8 rfl Try.ntmps8 rfl rfl hv ?_ ?_
  · rintro B F us w ⟨a, h1, h2⟩ hS
    rw [h1]
    exact hS.st.ret (fun _ _ hle ⟨b, e, hs⟩ => ⟨b, e, hs.monoF hle⟩) fun hh hF => ⟨a, rfl, h2 hh hF⟩
  intro b1 b3
  intro a w hD hS
  refine c_seq (c_seq (hand (c := ⟨Try.prog, TT, .wp, 17, w0, h0, [], fun _ => False, [], []⟩) TT_ok hD hS ?_ (fun _ _ _ h _ _ => h.elim)))
  refine cA TT_ok (fun w v h1 h2 h3 => c_each x ad cap w v h3) (fun _ _ _ hle hx => hle _ _ hx) (fun be => ?_)
  intro a w hD hS
  refine n_then (c_block ?_)
  have hS := nil_sx (T := 9) (sz := 1) (k := 901) hS
  have hD := nil_dn 901 (bufE 9 1 (.slice none 0 0) []) hD
  have e6 : a.eval (.tmp 6) = .func (.func 27) #[] #[.pointer (some ⟨be, 0, none⟩)] := hD.fr.kv (t := 6) rfl
  have e3 : a.tmps.getD 3 undef = .pointer (some ⟨b3, 0, none⟩) := hD.fr.kv (t := 3) rfl
  have hsz := hD.fr.sz
  have hdf := hD.fr.df
  refine rangeJ TT_ok (fun s => nmR b3 s 3) ⟨none, 0, 0, []⟩ 902 903 (Ψ := fun s' => s'.l = namesS x ∧ s'.n = s'.l.length) (lb := [.pointer (some ⟨be, 0, none⟩)]) hD hS e6 (TT_ok.call rfl) ⟨rfl, rfl, trivial⟩ rfl (fun _ _ => rfl) (fun _ => rfl) (fun _ => rfl) ?_ ?_
  · intro rec l hr1 hr2 hr3 hr4 hr5 hr6 w1 v g1 g2 g3 g4 g5
    refine (c_each1 b3 l rec v ?_ x ad cap be ⟨none, 0, 0, []⟩ rfl (by simpa using hlen) w1 v (fun _ _ h => h) g3 g4 g5 (hx.mono g1) g2.2).mono ?_
    · intro y s hn hl w2 v2 q1 q3 q4 q5
      have hl2 : w2.heap[l]? = some (.loop rec) := q5.own (some l, LoopC rec) (by unfold nmJ; rw [oes_app]; exact List.mem_append_right _ (List.mem_singleton.2 rfl))
      refine ⟨_, _, _, _, run_yield1 hl2 hr4, ?_⟩
      obtain ⟨t7, tx⟩ := set_tmp (v := vs y) hsz (show 7 < 17 by decide)
      refine roundJ TT_ok (nmR b3) 902 (Ψ := fun s' => s'.l = addS s.l y ∧ s'.n = s'.l.length) hr1 hr2 s [] [] [(7, .v (vs y)), (3, .o 900 0)] (n := 17) q3 q4 q5 (by rw [Array.size_setIfInBounds, hr3]; exact hsz) ?_ ?_
      · intro t u hu
        rw [hr3]
        by_cases h7 : t = 7
        · subst h7
          rw [t7]; exact Option.some.inj hu
        · rw [tx t h7]
          by_cases h3 : t = 3
          · subst h3
            rw [e3]; exact Option.some.inj hu
          · have hn : lkA [(7, SV.v (vs y)), (3, SV.o 900 0)] t = none := by rw [lkA_ne (Ne.symm h7), lkA_ne (Ne.symm h3)]; rfl
            rw [kv_none hn] at hu; cases hu
      · generalize LoopC { rec with state := .busy } = LC
        rw [hr5]
        refine ⟨rfl, ?_⟩
        show vcC _ rec.body _ _ _ _ _ _
        rw [hr6]
        refine co (x := .bool (s.l.contains y)) ?_ ?_
        · intro w hS
          have h1 := own_sl (T := 9) (sz := 1) (g := fun t => [vs t]) (k := 901) (a0 := s.a) (nn := s.n) (cp := s.cp) (l := s.l) rfl hn (by intros; rfl) hS
          rw [hn] at h1 ⊢
          exact c_ContainsT s.a s.cp s.l y w (Full w) (VLe.refl _) h1
        refine cnd (fun h => ?_) (fun h => ?_)
        · have h : s.l.contains y = false := by simpa using h
          intro b14
          refine ap TT_ok 901 (AppT.of (bytes := 16) (sz := 0) (by kernel_rfl) (by kernel_rfl) (by kernel_rfl)) rfl rfl rfl rfl rfl rfl rfl (by rw [fl1]; show (s.l.length + 1) * 17 ≤ 140737488355328; omega) (fun a0 nn cp' hnn => ?_)
          rw [fl1] at hnn
          have hnn : nn * 1 = s.l.length + 1 := hnn
          refine ⟨⟨a0, nn, cp', s.l ++ [y]⟩, ⟨by rw [addS, if_neg (by rw [h]; decide)], by show nn = (s.l ++ [y]).length; rw [List.length_append]; show nn = s.l.length + 1; omega⟩, rfl, rfl, ?_, rfl, trivial⟩
          exact congrArg some (by rw [show ((s.l ++ [y]).map fun t => [vs t]).flatten = (s.l.map fun t => [vs t]).flatten ++ [vs y] by simp]; rfl)
        · have h : s.l.contains y = true := by simpa using h
          exact ⟨s, ⟨by rw [addS, if_pos h], hn⟩, rfl, rfl, rfl, rfl, trivial⟩
    · rintro e w2 ⟨u, s', rfl, ⟨_, h1, h2⟩, h3⟩
      exact ⟨u, s', rfl, ⟨h1, h2⟩, h3⟩
  · rintro s' D w2 ⟨hl, hn⟩ hD2 hS2
    show codeM Md.wp Try.prog _ _ _ _
    rw [hdf]
    generalize hds : [(⟨.collected D, #[]⟩ : Deferred)] = ds
    refine c_seq (regM TT_ok rfl (K := fun L B F => ∀ a w, Dn _ L [] B a → Sx _ B F w → _) hD2 hS2 (fun o ho => ?_) ?_ (fun _ _ _ a w hk hD hS => hk a w hD hS) (fun _ _ _ h _ _ => h.elim))
    · simp only [List.mem_cons, List.not_mem_nil, or_false] at ho
      rcases ho with rfl | rfl
      all_goals exact nodef_quiet rfl
    intro a3 w3 hD3 hS3
    refine n_then (c_ret ?_)
    show LeavesInM Fence.wide 1 Try.prog _ a3.tmps _ ds .returning w3
    rw [← hds]
    refine retM TT_ok (rs := [.tmp 2]) (E := fun B F us => (∃ s' : NmG, tupV us = .slice s'.a s'.n s'.cp ∧ s'.l = namesS x ∧ s'.n = s'.l.length ∧ lkA B 901 = some (.e (bufE 9 1 (.slice s'.a s'.n s'.cp) (s'.l.map fun t => [vs t]).flatten))) ∧ delE B 901 fun _ => True) 903 rfl rfl ?_ hD3 hS3 ?_
    · exact ⟨⟨s', rfl, hl, hn, rfl⟩, trivial⟩
    · rintro B F us w ⟨⟨s2, h1, h2, h3, h4⟩, h5⟩ hS
      obtain ⟨B', _, _, hs⟩ := seal_sx (c := ⟨Try.prog, TT, .wp, 17, w0, h0, [], fun _ => False, [], []⟩) (g := fun t => [vs t]) rfl h4 h3 (by intros; rfl) h5
      have hS' := hs w hS
      rw [h1]
      refine hS'.st.ret (fun _ _ hle ⟨b, e, hs⟩ => ⟨b, e, hs.monoF hle⟩) fun hh hF => ⟨(s2.a, s2.cp), ?_, ?_⟩
      · rw [h3, h2]
      · have := hF.2
        rw [h3, h2] at this
        exact this

end Go.Proofs.Ytibdadobdhojaaa
set_option maxRecDepth 100000
namespace Go.Proofs.Ytibdadobdhojaaa
open Go Go.Dx Go.RowKit
theorem xl_mono (ad : Option Addr) (cap : Nat) (l : List Ex) : Mono fun h => XL h ad cap l := fun _ _ hle hx => hx.mono hle
theorem c_Columns (ad : Option Addr) (cap : Nat) (co : List Col) (hs : ∀ c ∈ co, c.name.length ≤ 1000000) (w0 : World) (h0 : View) (hv : VLe h0 (Full w0)) (hcl : SlC 39 3 (flatR colC) h0 (.slice ad co.length cap) co) : Calls Try.prog 16 #[.slice ad co.length cap] w0 (Ret w0 h0 fun u _ => u = .int .i64 (colsS co)) := by
  have hlm := slc_lm hcl
  refine ent (args := [.slice ad co.length cap]) TT_ok [] [] Try.func16 rfl Try.ntmps16 rfl rfl hv ?_
  refine cnd (fun h => ?_) (fun h => ?_)
  · exact congrArg (Value.int .i64) (by rw [colsS, if_pos (by omega)])
  rw [colsS, if_neg (by omega)]
  refine w_loop TT_ok (fun k : Nat => [(10, .v (.int .i64 k))]) 0 (fun k => k ≤ co.length ∧ colsG co k = colsG co 0) (fun k => co.length - k) ?_
  refine And.intro ⟨⟨Nat.zero_le _, rfl⟩, gs⟩ ?_
  intro k ⟨hk, hg⟩
  refine cnd (fun h1 => ?_) (fun h1 => ?_)
  · have hkl : k < co.length := by omega
    have hm := getD_mem co k c0 hkl
    refine ixs hcl k c0 ?_
    intro b4
    refine cl (c_Name (co.getD k c0).name (hs _ hm)) ?_
    refine cbg (fun _ w hw => c_at ad cap co (co.getD k c0).name w h0 hw hcl) ?_
    refine cnd (fun h2 => ?_) (fun h2 => ?_)
    · exact congrArg (Value.int .i64) (by rw [← hg, cg_name hkl (by
        rcases h2 with h2 | h2
        · exact .inl (by simpa using h2)
        · exact .inr h2)])
    have hnb : ¬ badN co k := nbN (by simpa using h2.1) (by simpa using h2.2)
    refine cnd (fun h3 => ?_) (fun h3 => ?_)
    · exact congrArg (Value.int .i64) (by rw [← hg, cg_kind hkl hnb ⟨h3.1.1, h3.1.2, h3.2⟩])
    · refine wi ?_
      exact ⟨k + 1, ⟨⟨by omega, by rw [← hg, cg_next hkl hnb (nbK (by omega))]⟩, by omega⟩, gs⟩
  · exact congrArg (Value.int .i64) (by rw [← hg, cg_over (by omega)])
theorem c_name15 (s : List UInt8) (w0 : World) (h0 : View) (hv : VLe h0 (Full w0)) : Calls Try.prog 14 #[vs s] w0 (Ret w0 h0 fun u _ => u = .agg (leafC 2 v0 s).toArray) := by
  refine ent (args := [vs s]) TT_ok [] [] Try.func14 rfl Try.ntmps14 rfl rfl hv ?_
  intro b1
  exact rfl
theorem c_val15 (v : Val) (w0 : World) (h0 : View) (hv : VLe h0 (Full w0)) : Calls Try.prog 15 #[.agg (valC v).toArray] w0 (Ret w0 h0 fun u _ => u = .agg (leafC 1 v []).toArray) := by
  refine ent (args := [.agg (valC v).toArray]) TT_ok [] [] Try.func15 rfl Try.ntmps15 rfl rfl hv ?_
  intro b1 b2
  exact rfl
theorem c_plus15 (v1 v2 : Val) (o1 o2 : Int) (s1 s2 : List UInt8) (a1 a2 : Value) (x y : Ex) (w0 : World) (h0 : View) (hv : VLe h0 (Full w0)) (hx : RX h0 (exC o1 v1 s1 a1) x) (hy : RX h0 (exC o2 v2 s2 a2) y) (n1 : notAgg a1 = true) (n2 : notAgg a2 = true) :
    Calls Try.prog 13 #[.agg (exC o1 v1 s1 a1).toArray, .agg (exC o2 v2 s2 a2).toArray] w0 (Ret w0 h0 fun u h => ∃ b : Nat, u = .agg (exC 4 v0 [] (.slice (some ⟨b, 0, none⟩) 2 2)).toArray ∧ XL h (some ⟨b, 0, none⟩) 2 [x, y]) := by
  refine entA (args := [.agg (exC o1 v1 s1 a1).toArray, .agg (exC o2 v2 s2 a2).toArray]) TT_ok [8] [] Try.func13 rfl Try.ntmps13 rfl rfl hv (fun _ => xl_mono _ _ _) ?_
  intro b2 b3 b4 b7
  refine shutG TT_ok (Φ := fun h => XL h (some ⟨b7, 0, none⟩) 2 [x, y]) 7 rfl (fun hh hle _ hb => xl_two (c1 := exC o1 v1 s1 a1) (c2 := exC o2 v2 s2 a2) hb rfl rfl (hx.mono hle) (hy.mono hle)) ?_ (xl_mono _ _ _)
  exact ⟨b7, rfl, fun v _ hF => hF.2⟩
def colA15 : Col := ⟨[97], 1, none, 0, 0⟩
theorem c_KindK {p : Int × Int} (x : Ex) (ax : Option Addr) (cx : Nat) (ad : Option Addr) (cap : Nat) (l : List Col) (hp : kindT l x = p) (w0 : World) (h0 : View) (hv : VLe h0 (Full w0)) (hx : GX h0 ax cx x) (hb : SlC 39 3 (flatR colC) h0 (.slice ad l.length cap) l) :
    Calls Try.prog 9 #[.agg (exC x.op x.v x.s (.slice ax x.l.length cx)).toArray, .slice ad l.length cap] w0 (Ret w0 h0 fun u _ => u = kiR p) := by
  subst hp
  exact c_Kind ad cap l x ax cx w0 h0 hv hx hb
theorem i64n {n : Int} (h : -9223372036854775808 ≤ n ∧ n ≤ 9223372036854775807) : i64 n := h
theorem vB (k n : Int) (s : List UInt8) (h : -9223372036854775808 ≤ k ∧ k ≤ 9223372036854775807) (h2 : -9223372036854775808 ≤ n ∧ n ≤ 9223372036854775807) : valB ⟨k, n, s⟩ := ⟨h, h2⟩
theorem vB0 : valB v0 := vB 0 0 [] (by decide) (by decide)
theorem kt_1 : kindT [colA15] (plusX (nameX [97]) (valX ⟨1, 1, []⟩)) = (1, 0) := by decide +kernel
theorem kt_2 : kindT [colA15] (plusX (nameX [97]) (valX ⟨2, 0, [120]⟩)) = (0, 14) := by decide +kernel
theorem co_1 : colsS [colA15] = 0 := by decide +kernel
theorem c_lives15 (w0 : World) (h0 : View) (hv : VLe h0 (Full w0)) : Calls Try.prog 7 #[] w0 (Ret w0 h0 fun u _ => u = .bool true) := by
  refine ent (args := []) TT_ok [9] [] Try.func7 rfl Try.ntmps7 rfl rfl hv ?_
  intro b7
  refine shutG TT_ok (Φ := fun h => SlC 39 3 (flatR colC) h (.slice (some ⟨b7, 0, none⟩) 1 1) [colA15]) 7 rfl (row_sl (g := colC) (l := [colA15]) (sz := 3) (n := 1) (cp := 1) rfl) ?_ Mono.slF
  refine cl (c_name15 [97]) ?_
  refine cl (c_val15 ⟨1, 1, []⟩) ?_
  refine cA TT_ok (fun w v h1 h2 h3 => c_plus15 v0 ⟨1, 1, []⟩ 2 1 [97] [] nilS nilS (nameX [97]) (valX ⟨1, 1, []⟩) w v h3 (rx_leaf (v := v0) (i64n (by decide)) vB0) (rx_leaf (v := ⟨1, 1, []⟩) (i64n (by decide)) (vB _ _ _ (by decide) (by decide))) rfl rfl) (fun _ => xl_mono _ _ _) (fun b12 => ?_)
  refine cf (fun w v h1 h2 h3 => c_KindK (plusX (nameX [97]) (valX ⟨1, 1, []⟩)) (some ⟨b12, 0, none⟩) 2 (some ⟨b7, 0, none⟩) 1 [colA15] kt_1 w v h3 ⟨h2.2, i64n (by decide), vB0, 5, by decide⟩ h2.1.2) ?_
  refine cl (c_name15 [97]) ?_
  refine cl (c_val15 ⟨2, 0, [120]⟩) ?_
  refine cA TT_ok (fun w v h1 h2 h3 => c_plus15 v0 ⟨2, 0, [120]⟩ 2 1 [97] [] nilS nilS (nameX [97]) (valX ⟨2, 0, [120]⟩) w v h3 (rx_leaf (v := v0) (i64n (by decide)) vB0) (rx_leaf (v := ⟨2, 0, [120]⟩) (i64n (by decide)) (vB _ _ _ (by decide) (by decide))) rfl rfl) (fun _ => xl_mono _ _ _) (fun b21 => ?_)
  refine cf (fun w v h1 h2 h3 => c_KindK (plusX (nameX [97]) (valX ⟨2, 0, [120]⟩)) (some ⟨b21, 0, none⟩) 2 (some ⟨b7, 0, none⟩) 1 [colA15] kt_2 w v h3 ⟨h2.2, i64n (by decide), vB0, 5, by decide⟩ h2.1.1.2) ?_
  refine cfg (fun _ w v h1 h2 h3 => c_Columns (some ⟨b7, 0, none⟩) 1 [colA15] (by decide) w v h3 h2.1.1.2) ?_
  refine clg (fun _ => c_Fits 0 2) ?_
  refine congrArg Value.bool ?_
  rw [co_1]; rfl
theorem col_one (c : Col) : ∀ u ∈ colC c, u.oneCell' = true := by
  intro u hu
  simp [colC] at hu
  rcases hu with rfl | rfl | rfl <;> rfl
theorem flatC (l : List Col) : (l.map colC).flatten.length = 3 * l.length := by
  induction l with
  | nil => rfl
  | cons a l ih => simp [ih, colC]; omega
def optB (p : List Col) (o : Option Col) : Bool → List Col
  | true => p ++ o.toList
  | false => p
set_option maxHeartbeats 2000000 in
theorem c_TypingNames (x : Ex) (ad : Option Addr) (cap : Nat) (adl : Option Addr) (capl : Nat) (l : List Col) (adm : Option Addr) (capm : Nat) (m : List Col) (w0 : World) (h0 : View) (hv : VLe h0 (Full w0)) (hx : XL h0 ad cap x.l) (hop : i64 x.op) (hvb : valB x.v)
    (hl : SlC 39 3 (flatR colC) h0 (.slice adl l.length capl) l) (hm : SlC 39 3 (flatR colC) h0 (.slice adm m.length capm) m) :
    Calls Try.prog 3 #[.agg (exC x.op x.v x.s (.slice ad x.l.length cap)).toArray, .slice adl l.length capl, .slice adm m.length capm] w0 (Ret w0 h0 fun u _ => u = .bool true) := by
  refine ent (args := [.agg (exC x.op x.v x.s (.slice ad x.l.length cap)).toArray, .slice adl l.length capl, .slice adm m.length capm]) TT_ok [91, 103, 1000021] [] Try.func3 rfl Try.ntmps3 rfl rfl hv ?_
  intro b3
  refine cb (fun w hw => c_XSmall x ad cap w h0 hw hx) ?_
  refine cbg (fun _ w hw => c_Few adl capl l w h0 hw hl) ?_
  refine cbg (fun _ w hw => c_Few adm capm m w h0 hw hm) ?_
  refine cbg (fun hp w hw => c_Check x ad cap w h0 hw ⟨hx, hop, hvb, sm_of hp.1.1⟩) ?_
  refine cnd (fun h => ?_) (fun h => ?_)
  · refine cl c_lives15 ?_
    exact rfl
  have hsm : XSm x = true := h.1.1.1
  have hfl : fewS l = true := h.1.1.2
  have hfm : fewS m = true := h.1.2
  have hr : rightS x = true := right_only h.2
  have hkt : ∀ q, kindT q x = kindS q x := fun q => by rw [kindT, if_pos hr]
  have hgx : GX h0 ad cap x := ⟨hx, hop, hvb, sm_of hsm⟩
  obtain ⟨hs1, hs2⟩ := Bool.and_eq_true_iff.1 hsm
  have hnm := names_few hs1 hr (of_decide_eq_true hs2)
  have hN : (namesS x).length ≤ 300 := by have := adds_len (nmS x) []; rw [namesS]; simp only [List.length_nil] at this; omega
  have hl12 : l.length ≤ 12 := by simp only [fewS, Bool.and_eq_true, decide_eq_true_eq] at hfl; exact hfl.1
  have hm12 : m.length ≤ 12 := by simp only [fewS, Bool.and_eq_true, decide_eq_true_eq] at hfm; exact hfm.1
  refine cA TT_ok (fun w v h1 h2 h3 => c_Names x ad cap (by omega) w v h3 (hx.mono h1)) (fun _ => Mono.slF) (fun nm => ?_)
  have hun := fun hu => unk_err (cl := l) hr hu
  have hkp := fun hu => kind_pick (cl := l) (x := x) hu
  have hkm := fun hu => kind_more (cl := l) (m := m) (x := x) hu
  have hko := fun hu => known_ok (cl := l) hr hu
  generalize namesS x = N at hN hun hkp hkm hko ⊢
  refine nilC 900 39 3 ?_
  refine w_loopB TT_ok (fun z : (Option Addr × Nat × Nat) × Nat => [(10, .v (.int .i64 z.2)), (9, .v (.bool (unkS l (N.take z.2)))), (8, .v (.slice z.1.1 z.1.2.1 z.1.2.2))]) (fun z => [(900, .e (bufE 39 3 (.slice z.1.1 z.1.2.1 z.1.2.2) ((pickC l (N.take z.2)).map colC).flatten)), (3, .c b3 28 (exC x.op x.v x.s (.slice ad x.l.length cap)))]) ((none, 0, 0), 0) (fun z => z.2 ≤ N.length ∧ z.1.2.1 = (pickC l (N.take z.2)).length) (fun z => N.length - z.2) ?_
  refine And.intro ⟨⟨Nat.zero_le _, rfl⟩, gs⟩ ?_
  rintro ⟨⟨a1, n1, c1⟩, i⟩ ⟨hi, hn1⟩
  dsimp only at hi hn1 ⊢
  refine cnd (fun hlt => ?_) (fun hlt => ?_)
  · have hil : i < N.length := by omega
    have hpl := pick_len l (N.take i)
    rw [List.length_take] at hpl
    refine w_loopB TT_ok (fun z : (Option Addr × Nat × Nat) × Nat × Bool => [(12, .v (.int .i64 z.2.1)), (11, .v (.bool z.2.2)), (8, .v (.slice z.1.1 z.1.2.1 z.1.2.2))]) (fun z => [(900, .e (bufE 39 3 (.slice z.1.1 z.1.2.1 z.1.2.2) ((optB (pickC l (N.take i)) (colOf l (N.getD i [])) z.2.2).map colC).flatten)), (3, .c b3 28 (exC x.op x.v x.s (.slice ad x.l.length cap)))]) ((a1, n1, c1), 0, false)
      (fun z => z.2.1 ≤ l.length ∧ z.1.2.1 = (optB (pickC l (N.take i)) (colOf l (N.getD i [])) z.2.2).length ∧ (z.2.2 = true → (colOf l (N.getD i [])).isSome = true) ∧ (z.2.2 = false → ∀ j, j < z.2.1 → (l.getD j c0).name ≠ N.getD i [])) (fun z => l.length - z.2.1) ?_
    refine And.intro ⟨⟨Nat.zero_le _, hn1, fun h => by simp at h, fun _ j hj => absurd hj (Nat.not_lt_zero j)⟩, gs⟩ ?_
    rintro ⟨⟨a2, n2, c2⟩, k, th⟩ ⟨hk, hn2, ht, hf⟩
    dsimp only at hk hn2 ht hf ⊢
    refine cnd (fun h1 => ?_) (fun h1 => ?_)
    · have hkl : k < l.length := by omega
      have hth : th = false := by simpa using h1.2
      subst hth
      have hn2 : n2 = (pickC l (N.take i)).length := hn2
      refine And.intro (by kernel_rfl) ?_
      refine ixs hl k c0 ?_
      refine ixf (fun v hF => hF.2) i [] ?_
      have hpre := hf rfl
      refine cnd (fun h2 => ?_) (fun h2 => ?_)
      · have hco := find_at hkl hpre h2
        refine ixs hl k c0 ?_
        intro b71
        refine ap TT_ok 900 (AppT.of (bytes := 48) (sz := 2) (by kernel_rfl) (by kernel_rfl) (by kernel_rfl)) rfl rfl rfl rfl rfl rfl rfl (by show (((pickC l (N.take i)).map colC).flatten.length + 3) * 49 ≤ 140737488355328; rw [flatC]; show (3 * (pickC l (N.take i)).length + 3) * 49 ≤ 140737488355328; omega) (fun a3 n3 c3 hn3 => ?_)
        have hn3 : n3 * 3 = ((pickC l (N.take i)).map colC).flatten.length + 3 := hn3
        rw [flatC] at hn3
        refine wi ?_
        refine ⟨((a3, n3, c3), k + 1, true), ⟨⟨hkl, ?_, fun _ => by rw [hco]; rfl, fun h => by simp at h⟩, by show l.length - (k + 1) < l.length - k; omega⟩, gs rfl ?_⟩
        · show n3 = (pickC l (N.take i) ++ (colOf l (N.getD i [])).toList).length
          rw [hco, List.length_append]
          show n3 = _ + 1
          omega
        · show [(900, OB.e (bufE 39 3 (.slice a3 n3 c3) _)), _] = [(900, OB.e (bufE 39 3 (.slice a3 n3 c3) _)), _]
          rw [hco]
          show _ = [(900, OB.e (bufE 39 3 (.slice a3 n3 c3) ((pickC l (N.take i) ++ [l.getD k c0]).map colC).flatten)), _]
          rw [List.map_append, List.flatten_append]; rfl
      · refine wi ?_
        refine ⟨((a2, n2, c2), k + 1, false), ⟨⟨hkl, hn2, fun h => by simp at h, fun _ j hj => ?_⟩, by show l.length - (k + 1) < l.length - k; omega⟩, gs⟩
        by_cases hjk : j = k
        · subst hjk; exact h2
        · exact hpre j (by have hj : j < k + 1 := hj; omega)
    · have hend : optB (pickC l (N.take i)) (colOf l (N.getD i [])) th = pickC l (N.take (i + 1)) ∧ (colOf l (N.getD i [])).isNone = !th := by
        rw [pick_snoc l N i hil]
        cases hth : th with
        | true =>
          refine ⟨rfl, ?_⟩
          have := ht hth
          cases hc : colOf l (N.getD i []) with
          | none => rw [hc] at this; cases this
          | some c => rfl
        | false =>
          have hno := find_no (cl := l) (s := N.getD i []) fun j hj => hf hth j (by
            rw [hth] at h1
            simp at h1
            omega)
          rw [hno]
          exact ⟨(List.append_nil _).symm, rfl⟩
      rw [hend.1] at hn2 ⊢
      refine wi ?_
      refine ⟨((a2, n2, c2), i + 1), ⟨⟨hil, hn2⟩, by show N.length - (i + 1) < N.length - i; omega⟩, gs ?_⟩
      rw [unk_snoc l N i hil, hend.2]
      rfl
  · have hie : i = N.length := by omega
    subst hie
    rw [List.take_length] at hn1 ⊢
    refine cb (fun w hw => c_Kind adl capl l x ad cap w h0 hw hgx hl) ?_
    refine cnd (fun hu => ?_) (fun hu => ?_)
    · refine clg (fun _ => c_lives15) ?_
      refine congrArg Value.bool ?_
      have := hun hu
      rw [hkt]
      simp [this]
    have hu : unkS l N = false := hu
    refine And.intro rfl ?_
    subst hn1
    refine sealW (g := colC) (l := pickC l N) 900 rfl rfl ?_
    refine goW TT_ok ?_
    refine cf (fun w v h1 h2 h3 => c_Kind a1 c1 (pickC l N) x ad cap w v h3 (hgx.mono h1) h2.2) ?_
    refine regPh TT_ok [([0, 2, 4], [1, 3, 5, 6]), ([7, 8, 9, 10, 11], [])] [] ?_
    refine kq ?_
    intro b98
    refine kq ?_
    refine ⟨rfl, rowE (k := 98) (n := 0) (cp := 0) (sz := 3) 901 rfl rfl rfl (by decide) (Nat.le_refl _) ?_⟩
    refine ⟨rfl, ?_⟩
    refine apF TT_ok (g := colC) (l := l) 901 (AppT.of (bytes := 48) (sz := 2) (by kernel_rfl) (by kernel_rfl) (by kernel_rfl)) (fun v h1 _ => Mono.slF _ _ h1 hl) (fun _ _ => rfl) (fun c _ => col_one c) rfl rfl rfl rfl (by rw [flatC]; show (0 + 3 * l.length) * 49 ≤ 140737488355328; omega) (fun a3 n3 c3 hn3 => ?_)
    refine kq ?_
    refine ⟨rfl, ?_⟩
    refine apF TT_ok (g := colC) (l := m) 901 (AppT.of (bytes := 48) (sz := 2) (by kernel_rfl) (by kernel_rfl) (by kernel_rfl)) (fun v h1 _ => Mono.slF _ _ h1 hm) (fun _ _ => rfl) (fun c _ => col_one c) rfl rfl rfl rfl (by rw [List.nil_append, flatC, flatC]; show (3 * l.length + 3 * m.length) * 49 ≤ 140737488355328; omega) (fun a4 n4 c4 hn4 => ?_)
    have hn4 : n4 * 3 = (l.map colC).flatten.length + (m.map colC).flatten.length := hn4
    rw [flatC, flatC] at hn4
    have hn4 : n4 = (l ++ m).length := by rw [List.length_append]; omega
    subst hn4
    refine kq ?_
    refine And.intro rfl ?_
    refine sealW (g := colC) (l := l ++ m) 901 (by rw [List.map_append, List.flatten_append]; rfl) rfl ?_
    refine goW TT_ok ?_
    refine cf (fun w v h1 h2 h3 => c_Kind a4 c4 (l ++ m) x ad cap w v h3 (hgx.mono h1) h2.2) ?_
    refine kq ?_
    refine kq ?_
    refine clg (fun _ => c_lives15) ?_
    refine congrArg Value.bool ?_
    rw [hkt, hkt, hkt, hkp hu, hkm hu]
    have := hko hu
    simp [this]

end Go.Proofs.Ytibdadobdhojaaa
