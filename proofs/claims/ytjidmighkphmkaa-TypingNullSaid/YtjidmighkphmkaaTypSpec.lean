/- Plain functions: values, expressions and their kinds, on trees; and what memory holds of them. -/
import Derived.Test.YtjidmighkphmkaaDxV
import Derived.Test.YtjidmighkphmkaaLexSpec
set_option linter.unusedSimpArgs false
set_option linter.unusedVariables false
namespace Go.Proofs.Ytjidmighkphmkaa
open Go Go.Dx Go.RowKit
structure Val where
  k : Int
  n : Int
  s : List UInt8
deriving DecidableEq
def v0 : Val := ⟨0, 0, []⟩
def valC (v : Val) : List Value := [.int .i64 v.k, .int .i64 v.n, vs v.s]
inductive Ex where
  | mk (op : Int) (v : Val) (s : List UInt8) (l : List Ex)
def Ex.op : Ex → Int
  | .mk op _ _ _ => op
def Ex.v : Ex → Val
  | .mk _ v _ _ => v
def Ex.s : Ex → List UInt8
  | .mk _ _ s _ => s
def Ex.l : Ex → List Ex
  | .mk _ _ _ l => l
@[simp] theorem ex_op (op : Int) (v : Val) (s : List UInt8) (l : List Ex) : (Ex.mk op v s l).op = op := rfl
@[simp] theorem ex_v (op : Int) (v : Val) (s : List UInt8) (l : List Ex) : (Ex.mk op v s l).v = v := rfl
@[simp] theorem ex_s (op : Int) (v : Val) (s : List UInt8) (l : List Ex) : (Ex.mk op v s l).s = s := rfl
@[simp] theorem ex_l (op : Int) (v : Val) (s : List UInt8) (l : List Ex) : (Ex.mk op v s l).l = l := rfl
theorem Ex.lt {x y : Ex} (h : y ∈ x.l) : SizeOf.sizeOf y < SizeOf.sizeOf x := by
  cases x with
  | mk op v s l =>
    have := List.sizeOf_lt_of_mem (show y ∈ l from h)
    simp only [Ex.mk.sizeOf_spec]; omega
def i64 (n : Int) : Prop := -9223372036854775808 ≤ n ∧ n ≤ 9223372036854775807
def valB (v : Val) : Prop := i64 v.k ∧ i64 v.n
def exC (op : Int) (v : Val) (s : List UInt8) (sl : Value) : List Value := [.int .i64 op, .int .i64 v.k, .int .i64 v.n, vs v.s, vs s, sl]
/-- what memory holds of an expression -/
inductive RX (h : View) : List Value → Ex → Prop
  | mk (op : Int) (v : Val) (s : List UInt8) (l : List Ex) (ad : Option Addr) (cap : Nat) (c : Nat → List Value) (hb : i64 op ∧ valB v)
      (hs : SlC 0 6 (flatR c) h (.slice ad (List.range l.length).length cap) (List.range l.length)) (hc : ∀ i y, l[i]? = some y → RX h (c i) y) : RX h (exC op v s (.slice ad l.length cap)) (.mk op v s l)
theorem RX.mono {h h' : View} (hle : VLe h h') {cs : List Value} {x : Ex} (hx : RX h cs x) : RX h' cs x := by
  induction hx with
  | mk op v s l ad cap c hb hs hc ih => exact .mk op v s l ad cap c hb (hs.monoF hle) ih
/-- an expression's parts -/
def XL (h : View) (ad : Option Addr) (cap : Nat) (l : List Ex) : Prop := ∃ c : Nat → List Value, SlC 0 6 (flatR c) h (.slice ad l.length cap) (List.range l.length) ∧ ∀ i y, l[i]? = some y → RX h (c i) y
theorem RX.inv {h : View} {cs : List Value} {x : Ex} (hx : RX h cs x) : ∃ ad cap, cs = exC x.op x.v x.s (.slice ad x.l.length cap) ∧ i64 x.op ∧ valB x.v ∧ XL h ad cap x.l := by
  cases hx with
  | mk op v s l ad cap c hb hs hc => exact ⟨ad, cap, rfl, hb.1, hb.2, c, by simpa [Ex.l] using hs, hc⟩
theorem XL.mono {h h' : View} (hle : VLe h h') {ad : Option Addr} {cap : Nat} {l : List Ex} (hx : XL h ad cap l) : XL h' ad cap l := by
  obtain ⟨c, h1, h2⟩ := hx
  exact ⟨c, h1.monoF hle, fun i y hi => (h2 i y hi).mono hle⟩
def ex0 : Ex := .mk 0 v0 [] []
theorem XL.at {h : View} {ad : Option Addr} {cap : Nat} {l : List Ex} (hx : XL h ad cap l) {i : Nat} (hi : i < l.length) : ∃ g off cs, ad = some ⟨g, off, none⟩ ∧ RX h cs (l.getD i ex0) ∧ cs.length = 6 ∧ ∀ w, VLe h (Full w) → ∀ j v, cs[j]? = some v → w.cell? ⟨g, off + i * 6 + j, none⟩ = some v := by
  obtain ⟨c, h1, h2⟩ := hx
  obtain ⟨g, off, ha, H⟩ := h1.at (i := i) (x := i) (by simp [hi])
  have hg : l[i]? = some (l.getD i ex0) := by rw [getD_lt l i ex0 hi]; exact List.getElem?_eq_getElem hi
  have hr := h2 i _ hg
  refine ⟨g, off, c i, ha, hr, ?_, H⟩
  obtain ⟨ad', cap', e, _⟩ := hr.inv
  rw [e]; rfl
/-! values -/
def plainS (s : List UInt8) : Bool := decide (s.length ≤ 40) && s.all fun b => decide (32 ≤ (b.toNat : Int)) && decide ((b.toNat : Int) ≤ 126)
def valOk (v : Val) : Bool :=
  if v.k = 0 then decide (v.n = 0) && decide (v.s = []) else if v.k = 1 then decide (v.s = []) else if v.k = 2 then decide (v.n = 0) && plainS v.s
  else if v.k = 3 then decide (v.s = []) && (decide (v.n = 0) || decide (v.n = 1)) else false
def plB (b : UInt8) : Bool := decide (32 ≤ (b.toNat : Int)) && decide ((b.toNat : Int) ≤ 126)
theorem pl_yes {b : UInt8} (h1 : ¬ (b.toNat : Int) < 32) (h2 : ¬ (b.toNat : Int) > 126) : plB b = true := by simp [plB]; omega
theorem pl_no {b : UInt8} (h : (b.toNat : Int) < 32 ∨ (b.toNat : Int) > 126) : plB b = false := by simp [plB]; omega
theorem plain_not {s : List UInt8} {k : Nat} (hk : k < s.length) (h : plB (s.getD k 0) = false) : plainS s = false := by
  have := all_not (p := plB) 0 hk h
  rw [plainS, show (s.all fun b => decide (32 ≤ (b.toNat : Int)) && decide ((b.toNat : Int) ≤ 126)) = s.all plB from rfl, this, Bool.and_false]
theorem plain_no {s : List UInt8} {k : Nat} (hk : k < s.length) (h : ((s.getD k 0).toNat : Int) < 32 ∨ ((s.getD k 0).toNat : Int) > 126) : plainS s = false := plain_not hk (pl_no h)
theorem plain_len (s : List UInt8) (h : ∀ j, j < s.length → plB (s.getD j 0) = true) : decide ((s.length : Int) ≤ 40) = plainS s := by
  have := all_upto (p := plB) 0 h
  rw [plainS, show (s.all fun b => decide (32 ≤ (b.toNat : Int)) && decide ((b.toNat : Int) ≤ 126)) = s.all plB from rfl, this, Bool.and_true]
  exact Bool.eq_iff_iff.2 (by simp; omega)
theorem plain_long {s : List UInt8} (h : 40 < s.length) : plainS s = false := by rw [plainS, decide_eq_false (by omega), Bool.false_and]
theorem plain_all {s : List UInt8} (h0 : s.length ≤ 40) (h : ∀ j, j < s.length → plB (s.getD j 0) = true) : plainS s = true := by rw [← plain_len s h]; simp; omega
theorem dec_plain {s : List UInt8} {k : Nat} (hk : k < s.length) (h1 : ¬ ((Utf8.decode ⟨s.toArray⟩ k).1 : Int) < 32) (h2 : ¬ ((Utf8.decode ⟨s.toArray⟩ k).1 : Int) > 126) : plB (s.getD k 0) = true ∧ (Utf8.decode ⟨s.toArray⟩ k).2 = 1 := by
  rcases Nat.lt_or_ge (s.getD k 0).toNat 128 with h | h
  · have e := decode_lo hk h
    rw [e] at h1 h2 ⊢
    exact ⟨pl_yes h1 h2, rfl⟩
  · have := (decode_hi hk h).1
    omega
theorem dec_bad {s : List UInt8} {k : Nat} (hk : k < s.length) (h1 : ((Utf8.decode ⟨s.toArray⟩ k).1 : Int) < 32 ∨ ((Utf8.decode ⟨s.toArray⟩ k).1 : Int) > 126) : plB (s.getD k 0) = false := by
  rcases Nat.lt_or_ge (s.getD k 0).toNat 128 with h | h
  · have e := decode_lo hk h
    rw [e] at h1
    exact pl_no h1
  · exact pl_no (by omega)
theorem andnot1 {n : Int} (h : i64 n) {r : Int} (hr : IntKind.i64.wrap ((BitVec.ofInt IntKind.i64.bits n &&& ~~~ BitVec.ofInt IntKind.i64.bits 1).toNat : Int) = r) : (r = 0) ↔ (n = 0 ∨ n = 1) := by
  subst hr
  constructor
  · intro hw
    have hz : (BitVec.ofInt IntKind.i64.bits n &&& ~~~ BitVec.ofInt IntKind.i64.bits 1).toNat = 0 := by
      have hlt := (BitVec.ofInt IntKind.i64.bits n &&& ~~~ BitVec.ofInt IntKind.i64.bits 1).isLt
      generalize (BitVec.ofInt IntKind.i64.bits n &&& ~~~ BitVec.ofInt IntKind.i64.bits 1).toNat = m at *
      have hb : IntKind.i64.bits = 64 := rfl
      rw [hb] at hlt
      simp only [IntKind.wrap, IntKind.bits, IntKind.signed] at hw
      omega
    have hx : (BitVec.ofInt IntKind.i64.bits n).toNat < 2 ^ 1 := by
      refine Nat.lt_pow_two_of_testBit _ fun i hi => ?_
      have e : (BitVec.ofInt IntKind.i64.bits n &&& ~~~ BitVec.ofInt IntKind.i64.bits 1) = 0#_ := BitVec.eq_of_toNat_eq (by simpa using hz)
      have e2 := congrArg (fun x => x.getLsbD i) e
      simp only [BitVec.getLsbD_and, BitVec.getLsbD_not, BitVec.getLsbD_zero] at e2
      rw [BitVec.testBit_toNat]
      by_cases hi2 : i < IntKind.i64.bits
      · have : (BitVec.ofInt IntKind.i64.bits 1).getLsbD i = false := by
          rw [show BitVec.ofInt IntKind.i64.bits 1 = 1#IntKind.i64.bits from rfl, BitVec.getLsbD_one]
          simp; omega
        rw [this] at e2
        simpa only [hi2, decide_true, Bool.true_and, Bool.not_false, Bool.and_true] using e2
      · exact BitVec.getLsbD_of_ge _ _ (by omega)
    rw [BitVec.toNat_ofInt] at hx
    have hb : IntKind.i64.bits = 64 := rfl
    rw [hb] at hx
    unfold i64 at h
    omega
  · rintro (rfl | rfl) <;> decide
/-! expressions -/
def cntS (op : Int) : Int := if op = 1 ∨ op = 2 then 0 else if op = 3 then 1 else if op = 16 then 3 else if 4 ≤ op ∧ op ≤ 15 then 2 else -1
def allX (p : Ex → Bool) : List Ex → Bool
  | [] => true
  | x :: l => p x && allX p l
mutual
def rightS : Ex → Bool
  | .mk op v s l => decide ((l.length : Int) = cntS op) && (if op = 1 then decide (s = []) && valOk v && (!decide (v.k = 1) || decide (0 ≤ v.n)) else if op = 2 then decide (v = v0) && nameOk s else decide (v = v0) && decide (s = []) && rightL l)
def rightL : List Ex → Bool
  | [] => true
  | x :: l => rightS x && rightL l
end
theorem rightL_all : ∀ l : List Ex, rightL l = l.all rightS
  | [] => rfl
  | x :: l => by rw [rightL, List.all_cons, rightL_all l]
theorem right_mk (op : Int) (v : Val) (s : List UInt8) (l : List Ex) : rightS (.mk op v s l) = (decide ((l.length : Int) = cntS op) && (if op = 1 then decide (s = []) && valOk v && (!decide (v.k = 1) || decide (0 ≤ v.n)) else if op = 2 then decide (v = v0) && nameOk s else decide (v = v0) && decide (s = []) && l.all rightS)) := by
  rw [rightS, rightL_all]
theorem right_eq (x : Ex) : rightS x = (decide ((x.l.length : Int) = cntS x.op) && (if x.op = 1 then decide (x.s = []) && valOk x.v && (!decide (x.v.k = 1) || decide (0 ≤ x.v.n)) else if x.op = 2 then decide (x.v = v0) && nameOk x.s else decide (x.v = v0) && decide (x.s = []) && x.l.all rightS)) := by
  cases x with
  | mk op v s l => rw [rightS, rightL_all]; rfl
mutual
def szF : Ex → Int
  | .mk _ _ _ l => szL 1 l
def szL (n : Int) : List Ex → Int
  | [] => n
  | x :: l => szL (IntKind.i64.wrap (n + szF x)) l
end
theorem szL_snoc : ∀ (l : List Ex) (n : Int) (x : Ex), szL n (l ++ [x]) = IntKind.i64.wrap (szL n l + szF x)
  | [], n, x => rfl
  | y :: l, n, x => by simp only [List.cons_append, szL]; exact szL_snoc l _ x
theorem sz_eq (x : Ex) : szF x = szL 1 x.l := by
  cases x with
  | mk op v s l => rw [szF]; rfl
def smallX : Nat → Ex → Bool
  | 0, _ => false
  | d + 1, x => decide (x.s.length ≤ 300) && decide (x.v.s.length ≤ 300) && decide (x.l.length ≤ 5) && x.l.all (smallX d)
theorem small_eq {d : Nat} (hd : 0 < d) (x : Ex) : smallX d x = (decide (x.s.length ≤ 300) && decide (x.v.s.length ≤ 300) && decide (x.l.length ≤ 5) && x.l.all (smallX (d - 1))) := by
  cases d with
  | zero => omega
  | succ d => rfl
def looseX : Nat → Ex → Bool
  | 0, _ => false
  | d + 1, x => decide (x.s.length ≤ 1000000) && decide (x.v.s.length ≤ 9223372036854775807) && decide (x.l.length ≤ 5) && x.l.all (looseX d)
theorem loose_small : ∀ (d : Nat) (x : Ex), smallX d x = true → looseX d x = true
  | 0, x, h => by simp [smallX] at h
  | d + 1, x, h => by
    simp only [smallX, looseX, Bool.and_eq_true, decide_eq_true_eq, List.all_eq_true] at h ⊢
    exact ⟨⟨⟨by omega, by omega⟩, h.1.2⟩, fun y hy => loose_small d y (h.2 y hy)⟩
def SmX (x : Ex) : Prop := ∃ d, looseX d x = true
theorem SmX.parts {x : Ex} (h : SmX x) : x.s.length ≤ 1000000 ∧ x.v.s.length ≤ 9223372036854775807 ∧ x.l.length ≤ 5 ∧ ∀ y ∈ x.l, SmX y := by
  obtain ⟨d, h⟩ := h
  cases d with
  | zero => simp [looseX] at h
  | succ d =>
    simp only [looseX, Bool.and_eq_true, decide_eq_true_eq, List.all_eq_true] at h
    exact ⟨h.1.1.1, h.1.1.2, h.1.2, fun y hy => ⟨d, h.2 y hy⟩⟩
/-- an expression in memory, of few parts, with short texts -/
structure GX (h : View) (ad : Option Addr) (cap : Nat) (x : Ex) : Prop where
  xl : XL h ad cap x.l
  op : i64 x.op
  v : valB x.v
  sm : SmX x
def GL (h : View) (ad : Option Addr) (cap : Nat) (l : List Ex) : Prop := XL h ad cap l ∧ ∀ y ∈ l, SmX y
theorem GX.gl {h : View} {ad : Option Addr} {cap : Nat} {x : Ex} (hx : GX h ad cap x) : GL h ad cap x.l := ⟨hx.xl, hx.sm.parts.2.2.2⟩
theorem GX.mono {h h' : View} (hle : VLe h h') {ad : Option Addr} {cap : Nat} {x : Ex} (hx : GX h ad cap x) : GX h' ad cap x := ⟨hx.xl.mono hle, hx.op, hx.v, hx.sm⟩
theorem XL.at2 {h : View} {ad : Option Addr} {cap : Nat} {l : List Ex} (hx : XL h ad cap l) {i : Nat} (hi : i < l.length) : ∃ g off ad2 cap2, ad = some ⟨g, off, none⟩ ∧ XL h ad2 cap2 (l.getD i ex0).l ∧ i64 (l.getD i ex0).op ∧ valB (l.getD i ex0).v ∧
    ∀ w, VLe h (Full w) → ∀ j v, (exC (l.getD i ex0).op (l.getD i ex0).v (l.getD i ex0).s (.slice ad2 (l.getD i ex0).l.length cap2))[j]? = some v → w.cell? ⟨g, off + i * 6 + j, none⟩ = some v := by
  obtain ⟨g, off, cs, ha, hr, _, H⟩ := hx.at hi
  obtain ⟨ad2, cap2, rfl, h1, h2, h3⟩ := hr.inv
  exact ⟨g, off, ad2, cap2, ha, h3, h1, h2, H⟩
theorem GL.at {h : View} {ad : Option Addr} {cap : Nat} {l : List Ex} (hx : GL h ad cap l) {i : Nat} (hi : i < l.length) : ∃ g off ad2 cap2, ad = some ⟨g, off, none⟩ ∧ GX h ad2 cap2 (l.getD i ex0) ∧
    ∀ w, VLe h (Full w) → ∀ j v, (exC (l.getD i ex0).op (l.getD i ex0).v (l.getD i ex0).s (.slice ad2 (l.getD i ex0).l.length cap2))[j]? = some v → w.cell? ⟨g, off + i * 6 + j, none⟩ = some v := by
  obtain ⟨g, off, ad2, cap2, ha, h1, h2, h3, H⟩ := hx.1.at2 hi
  exact ⟨g, off, ad2, cap2, ha, ⟨h1, h2, h3, hx.2 _ (getD_mem l i ex0 hi)⟩, H⟩
theorem any_all (p : Ex → Bool) (l : List Ex) : (!(l.any fun y => !p y)) = l.all p := by
  induction l with
  | nil => rfl
  | cons y l ih => rw [List.any_cons, List.all_cons, ← ih]; cases p y <;> simp
theorem XL.lm {h : View} {ad : Option Addr} {cap : Nat} {l : List Ex} (hx : XL h ad cap l) : l.length ≤ 9223372036854775807 := by
  obtain ⟨c, hs, _⟩ := hx
  obtain ⟨_, _, _, h1, h2⟩ := hs.parts
  simp only [maxLen] at h2
  simp at h1; omega
/-! columns -/
structure Col where
  name : List UInt8
  kind : Int
  oa : Option Addr
  on : Nat
  oc : Nat
def colC (c : Col) : List Value := [vs c.name, .int .i64 c.kind, .slice c.oa c.on c.oc]
def c0 : Col := ⟨[], 0, none, 0, 0⟩
def atS (l : List Col) (s : List UInt8) : Int := idxS (fun c => decide (c.name = s)) l
def fewS (l : List Col) : Bool := decide (l.length ≤ 12) && l.all fun c => decide (c.name.length ≤ 300)
def fitS (a b : Int) : Bool := decide (a = b) || (decide (a = 0) || decide (b = 0))
def badN (l : List Col) (i : Nat) : Prop := nameOk (l.getD i c0).name = false ∨ atS l (l.getD i c0).name ≠ (i : Int)
def badK (k : Int) : Prop := k ≠ 1 ∧ k ≠ 2 ∧ k ≠ 3
instance (l : List Col) (i : Nat) : Decidable (badN l i) := inferInstanceAs (Decidable (_ ∨ _))
instance (k : Int) : Decidable (badK k) := inferInstanceAs (Decidable (_ ∧ _))
def colsG (l : List Col) (i : Nat) : Int := if i < l.length then (if badN l i then 13 else if badK (l.getD i c0).kind then 14 else colsG l (i + 1)) else 0
termination_by l.length - i
theorem cg_over {l : List Col} {i : Nat} (h : ¬ i < l.length) : colsG l i = 0 := by rw [colsG, if_neg h]
theorem cg_name {l : List Col} {i : Nat} (h : i < l.length) (h1 : badN l i) : colsG l i = 13 := by rw [colsG, if_pos h, if_pos h1]
theorem cg_kind {l : List Col} {i : Nat} (h : i < l.length) (h1 : ¬ badN l i) (h2 : badK (l.getD i c0).kind) : colsG l i = 14 := by rw [colsG, if_pos h, if_neg h1, if_pos h2]
theorem cg_next {l : List Col} {i : Nat} (h : i < l.length) (h1 : ¬ badN l i) (h2 : ¬ badK (l.getD i c0).kind) : colsG l i = colsG l (i + 1) := by rw [colsG, if_pos h, if_neg h1, if_neg h2]
theorem at_le {l : List Col} {i : Nat} (h : i < l.length) : ∃ k : Nat, atS l (l.getD i c0).name = (k : Int) ∧ k ≤ i := by
  rcases idx_cases (p := fun c : Col => decide (c.name = (l.getD i c0).name)) (l := l) c0 with ⟨_, hn⟩ | ⟨k, hk, _, _, hn⟩
  · have := hn i h; simp at this
  · refine ⟨k, hk, ?_⟩
    rcases Nat.lt_or_ge i k with h1 | h1
    · have := hn i h1; simp at this
    · exact h1
def colsS (l : List Col) : Int := if 6 < l.length then 24 else colsG l 0
/-! kinds -/
def eith (a b : Int) : Int := if a ≠ 0 then a else b
def addK (a b : Int) : Int := if eith a b = 2 then 2 else 1
def rulS (op : Int) (k : List Int) : Int × Bool :=
  if op = 3 ∨ op = 5 ∨ op = 6 ∨ op = 7 then (1, k.all (fitS · 1))
  else if op = 4 then (addK (k.getD 0 0) (k.getD 1 0), k.all (fitS · (addK (k.getD 0 0) (k.getD 1 0))))
  else if op = 8 ∨ op = 9 then (3, fitS (k.getD 0 0) (k.getD 1 0))
  else if 10 ≤ op ∧ op ≤ 13 then (3, fitS (k.getD 0 0) (k.getD 1 0) && !k.contains 3)
  else if op = 14 ∨ op = 15 then (3, k.all (fitS · 3))
  else (eith (k.getD 1 0) (k.getD 2 0), fitS (k.getD 0 0) 3 && fitS (k.getD 1 0) (k.getD 2 0))
def ofK (r : Int × Bool) : Int × Int := if r.2 then (r.1, 0) else (0, 14)
mutual
def kindS (cl : List Col) : Ex → Int × Int
  | .mk op v s l => if op = 1 then (v.k, 0) else if op = 2 then (if atS cl s < 0 then (0, 13) else ((cl.getD (atS cl s).toNat c0).kind, 0)) else match kindL cl l with
    | (_, some e) => (0, e)
    | (ks, none) => ofK (rulS op ks)
def kindL (cl : List Col) : List Ex → List Int × Option Int
  | [] => ([], none)
  | x :: l => if (kindS cl x).2 ≠ 0 then ([], some (kindS cl x).2) else match kindL cl l with
    | (_, some e) => ([], some e)
    | (ks, none) => ((kindS cl x).1 :: ks, none)
end
theorem kind_eq (cl : List Col) (x : Ex) : kindS cl x = if x.op = 1 then (x.v.k, 0) else if x.op = 2 then (if atS cl x.s < 0 then (0, 13) else ((cl.getD (atS cl x.s).toNat c0).kind, 0)) else match kindL cl x.l with
    | (_, some e) => (0, e)
    | (ks, none) => ofK (rulS x.op ks) := by
  cases x with
  | mk op v s l => rw [kindS]; rfl
theorem kindL_ok (cl : List Col) : ∀ l : List Ex, (∀ y ∈ l, (kindS cl y).2 = 0) → kindL cl l = (l.map fun y => (kindS cl y).1, none)
  | [], _ => rfl
  | x :: l, h => by
    rw [kindL, if_neg (by simp [h x (by simp)]), kindL_ok cl l fun y hy => h y (by simp [hy])]
    rfl
theorem kindL_err (cl : List Col) : ∀ (l : List Ex) (k : Nat), k < l.length → (∀ j, j < k → (kindS cl (l.getD j ex0)).2 = 0) → (kindS cl (l.getD k ex0)).2 ≠ 0 → kindL cl l = ([], some (kindS cl (l.getD k ex0)).2)
  | [], k, h, _, _ => absurd h (Nat.not_lt_zero k)
  | x :: l, 0, _, _, he => by rw [kindL, if_pos (show (kindS cl x).2 ≠ 0 from he)]; rfl
  | x :: l, k + 1, h, hn, he => by
    rw [kindL, if_neg (by have := hn 0 (by omega); simpa using this), kindL_err cl l k (by simpa using h) (fun j hj => by have := hn (j + 1) (by omega); simpa using this) (by simpa using he)]
    rfl
def kindT (cl : List Col) (x : Ex) : Int × Int := if rightS x then kindS cl x else (0, 2)
theorem nbN {l : List Col} {i : Nat} (h1 : nameOk (l.getD i c0).name = true) (h2 : atS l (l.getD i c0).name = (i : Int)) : ¬ badN l i := by
  rintro (h | h)
  · rw [h1] at h; cases h
  · exact h h2
theorem nbK {k : Int} (h : k = 1 ∨ k = 2 ∨ k = 3) : ¬ badK k := by unfold badK; omega
theorem few_of {l : List Col} (h : fewS l = true) : ∀ j, j < l.length → (l.getD j c0).name.length ≤ 300 := by
  intro j hj
  simp only [fewS, Bool.and_eq_true, List.all_eq_true, decide_eq_true_eq] at h
  exact h.2 _ (getD_mem l j c0 hj)
theorem at_get {l : List Col} {s : List UInt8} (h : ¬ atS l s < 0) : ∃ m : Nat, atS l s = (m : Int) ∧ m < l.length := by
  rcases idx_cases (p := fun c : Col => decide (c.name = s)) (l := l) c0 with ⟨h1, _⟩ | ⟨k, hk, hl, _⟩
  · exact absurd (show atS l s < 0 by unfold atS; omega) h
  · exact ⟨k, hk, hl⟩
theorem flat1_len (l : List Int) : (l.map fun n => [Value.int .i64 n]).flatten.length = l.length := by
  induction l with
  | nil => rfl
  | cons n l ih => simp only [List.map_cons, List.flatten_cons, List.length_append, ih, List.length_cons, List.length_nil]; omega
theorem cnt_pos {op : Int} (h : 3 ≤ op ∧ op ≤ 16) : 1 ≤ cntS op ∧ (op = 3 → cntS op = 1) ∧ (4 ≤ op ∧ op ≤ 15 → cntS op = 2) ∧ (op = 16 → cntS op = 3) := by
  unfold cntS
  refine ⟨?_, ?_, ?_, ?_⟩ <;> intros <;> split <;> (try split) <;> (try split) <;> (try split) <;> omega
theorem cnt_some {op : Int} (h : 0 ≤ cntS op) (h1 : op ≠ 1) (h2 : op ≠ 2) : 3 ≤ op ∧ op ≤ 16 := by
  unfold cntS at h
  split at h <;> (try split at h) <;> (try split at h) <;> (try split at h) <;> omega
theorem right_sub {x : Ex} (h : rightS x = true) (h1 : ¬ x.op = 1) (h2 : ¬ x.op = 2) : (3 ≤ x.op ∧ x.op ≤ 16) ∧ (x.l.length : Int) = cntS x.op ∧ ∀ y ∈ x.l, rightS y = true := by
  rw [right_eq, if_neg h1, if_neg h2] at h
  simp only [Bool.and_eq_true, decide_eq_true_eq, List.all_eq_true] at h
  exact ⟨cnt_some (by omega) h1 h2, h.1, h.2.2⟩
theorem all_1 {p : Int → Bool} {l : List Int} (h : l.length = 1) : l.all p = p (l.getD 0 0) := by
  match l, h with
  | [a], _ => simp
theorem all_2 {p : Int → Bool} {l : List Int} (h : l.length = 2) : l.all p = (p (l.getD 0 0) && p (l.getD 1 0)) := by
  match l, h with
  | [a, b], _ => simp
theorem con_2 {l : List Int} (h : l.length = 2) : (!l.contains 3) = (!decide (l.getD 0 0 = 3) && !decide (l.getD 1 0 = 3)) := by
  match l, h with
  | [a, b], _ =>
    simp [List.contains_cons]
    exact Bool.eq_iff_iff.2 (by simp; constructor <;> (rintro ⟨h1, h2⟩; exact ⟨fun h => h1 h.symm, fun h => h2 h.symm⟩))
section
variable {op : Int} {l : List Int}
theorem rul1 (h : op = 3 ∨ op = 5 ∨ op = 6 ∨ op = 7) : rulS op l = (1, l.all (fitS · 1)) := by rw [rulS, if_pos h]
theorem rul2 (h : op = 4) : rulS op l = (addK (l.getD 0 0) (l.getD 1 0), l.all (fitS · (addK (l.getD 0 0) (l.getD 1 0)))) := by rw [rulS, if_neg (by omega), if_pos h]
theorem rul3 (h : op = 8 ∨ op = 9) : rulS op l = (3, fitS (l.getD 0 0) (l.getD 1 0)) := by rw [rulS, if_neg (by omega), if_neg (by omega), if_pos h]
theorem rul4 (h : 10 ≤ op ∧ op ≤ 13) : rulS op l = (3, fitS (l.getD 0 0) (l.getD 1 0) && !l.contains 3) := by rw [rulS, if_neg (by omega), if_neg (by omega), if_neg (by omega), if_pos h]
theorem rul5 (h : op = 14 ∨ op = 15) : rulS op l = (3, l.all (fitS · 3)) := by rw [rulS, if_neg (by omega), if_neg (by omega), if_neg (by omega), if_neg (by omega), if_pos h]
theorem rul6 (h : op = 16) : rulS op l = (eith (l.getD 1 0) (l.getD 2 0), fitS (l.getD 0 0) 3 && fitS (l.getD 1 0) (l.getD 2 0)) := by rw [rulS, if_neg (by omega), if_neg (by omega), if_neg (by omega), if_neg (by omega), if_neg (by omega)]
end
theorem right_only {x : Ex} (h : (if rightS x = true then (0 : Int) else 2) = 0) : rightS x = true := by
  by_cases h2 : rightS x = true
  · exact h2
  · rw [if_neg h2] at h; omega
def nameX (s : List UInt8) : Ex := .mk 2 v0 s []
def valX (v : Val) : Ex := .mk 1 v [] []
def plusX (x y : Ex) : Ex := .mk 4 v0 [] [x, y]
def nilS : Value := .slice none 0 0
def leafC (op : Int) (v : Val) (s : List UInt8) : List Value := exC op v s nilS
def KX (op : Int) (v : Val) (s : List UInt8) : Ex := .mk op v s []
theorem xl_nil (h : View) : XL h none 0 [] := ⟨fun _ => [], SlC.nil (by simp [maxLen]), fun i y hi => by simp at hi⟩
theorem rx_leaf {h : View} {op : Int} {v : Val} {s : List UInt8} (ho : i64 op) (hv : valB v) : RX h (leafC op v s) (KX op v s) := .mk op v s [] none 0 (fun _ => []) ⟨ho, hv⟩ (SlC.nil (by simp [maxLen])) (fun i y hi => by simp at hi)
theorem leaf_len (op : Int) (v : Val) (s : List UInt8) : (leafC op v s).length = 6 := rfl
/-- two leaves that stand in one row -/
theorem xl_two {h : View} {T b : Nat} {c1 c2 : List Value} {x y : Ex} (hb : CellsC T (c1 ++ c2) (h b)) (l1 : c1.length = 6) (l2 : c2.length = 6) (h1 : RX h c1 x) (h2 : RX h c2 y) : XL h (some ⟨b, 0, none⟩) 2 [x, y] := by
  refine ⟨fun i => if i = 0 then c1 else c2, ?_, fun i z hi => ?_⟩
  · refine SlC.ofRow (T := T) (fun i hi => ?_) hb (by simp) (by simp) (by simp [maxLen]) ?_
    · split <;> assumption
    · show ((c1 ++ c2).drop 0).take (2 * 6) = _
      have e : List.range [x, y].length = [0, 1] := rfl
      rw [e]
      simp [l1, l2]
      exact List.take_of_length_le (by simp [l1, l2])
  · match i, hi with
    | 0, hi => simp at hi; subst hi; exact h1
    | 1, hi => simp at hi; subst hi; exact h2
/-! with an expression in place of each null -/
mutual
def withS (y : Ex) : Ex → Ex
  | .mk op v s l => if op = 1 ∧ v = v0 then y else .mk op v s (withL y l)
def withL (y : Ex) : List Ex → List Ex
  | [] => []
  | x :: l => withS y x :: withL y l
end
theorem withL_map (y : Ex) : ∀ l : List Ex, withL y l = l.map (withS y)
  | [] => rfl
  | x :: l => by rw [withL, withL_map y l]; rfl
theorem with_null {y x : Ex} (h1 : x.op = 1) (h2 : x.v = v0) : withS y x = y := by
  cases x with
  | mk op v s l => rw [withS, if_pos ⟨h1, h2⟩]
theorem with_other {y x : Ex} (h : ¬ (x.op = 1 ∧ x.v = v0)) : withS y x = .mk x.op x.v x.s (x.l.map (withS y)) := by
  cases x with
  | mk op v s l => rw [withS, if_neg (show ¬ (op = 1 ∧ v = v0) from h), withL_map]; rfl
def upd (c : Nat → List Value) (k : Nat) (cs : List Value) : Nat → List Value := fun j => if j = k then cs else c j
theorem rangeC_snoc (c : Nat → List Value) (k : Nat) (cs : List Value) : ((List.range (k + 1)).map (upd c k cs)).flatten = ((List.range k).map c).flatten ++ cs := by
  rw [List.range_succ, List.map_append, List.flatten_append]
  congr 1
  · congr 1
    refine List.map_congr_left fun j hj => ?_
    have := List.mem_range.1 hj
    simp [upd, show j ≠ k by omega]
  · simp [upd]
theorem rangeC_len (c : Nat → List Value) (k n : Nat) (h : ∀ j, j < k → (c j).length = n) : ((List.range k).map c).flatten.length = k * n := by
  induction k with
  | zero => simp
  | succ k ih =>
    rw [List.range_succ, List.map_append, List.flatten_append, List.length_append, ih fun j hj => h j (by omega)]
    simp [h k (by omega), Nat.add_mul]
theorem RX.len {h : View} {cs : List Value} {x : Ex} (hx : RX h cs x) : cs.length = 6 := by
  obtain ⟨_, _, e, _⟩ := hx.inv
  rw [e]; rfl
/-- a value that reads as an expression -/
def XV (z : Ex) (v : Value) (h : View) : Prop := ∃ cs : List Value, v = .agg cs.toArray ∧ RX h cs z
theorem XV.mono {z : Ex} (v : Value) : Mono (XV z v) := fun _ _ hle ⟨cs, e, hx⟩ => ⟨cs, e, hx.mono hle⟩
theorem kids_mono (k : Nat) (c : Nat → List Value) (f : Nat → Ex) : Mono fun h => ∀ j, j < k → RX h (c j) (f j) := fun _ _ hle hx j hj => (hx j hj).mono hle
theorem loose_val {v : Val} (h : v.s.length ≤ 9223372036854775807) : looseX 1 (valX v) = true := by simp [looseX, valX, h]
theorem RX.one {h : View} {cs : List Value} {x : Ex} (hx : RX h cs x) : allOne (cellsL [Value.agg cs.toArray]) = true := by
  obtain ⟨_, _, e, _⟩ := hx.inv
  rw [e]; rfl
theorem RX.of {h : View} {ad : Option Addr} {cap : Nat} {x : Ex} (ho : i64 x.op) (hv : valB x.v) (hx : XL h ad cap x.l) : RX h (exC x.op x.v x.s (.slice ad x.l.length cap)) x := by
  obtain ⟨c, h1, h2⟩ := hx
  cases x with
  | mk op v s l => exact .mk op v s l ad cap c ⟨ho, hv⟩ (by simpa [Ex.l] using h1) h2
theorem loose_with {y : Ex} (hy : looseX 1 y = true) : ∀ (d : Nat) (x : Ex), looseX d x = true → looseX d (withS y x) = true
  | 0, x, h => by simp [looseX] at h
  | d + 1, x, h => by
    by_cases hn : x.op = 1 ∧ x.v = v0
    · rw [with_null hn.1 hn.2]
      simp only [looseX, Bool.and_eq_true, decide_eq_true_eq, List.all_eq_true] at hy ⊢
      exact ⟨hy.1, fun z hz => by have := hy.2 z hz; cases this⟩
    · rw [with_other hn]
      simp only [looseX, Bool.and_eq_true, decide_eq_true_eq, List.all_eq_true] at h ⊢
      refine ⟨⟨h.1.1, by simpa using h.1.2⟩, fun z hz => ?_⟩
      simp only [ex_l, List.mem_map] at hz
      obtain ⟨w, hw, rfl⟩ := hz
      exact loose_with hy d w (h.2 w hw)
theorem right_val {v : Val} : rightS (valX v) = (valOk v && (!decide (v.k = 1) || decide (0 ≤ v.n))) := by
  rw [right_eq]
  simp only [valX, ex_op, ex_l, ex_s, ex_v, if_true]
  rfl
theorem right_with {v : Val} (hv : rightS (valX v) = true) : ∀ (n : Nat) (x : Ex), SizeOf.sizeOf x < n → rightS x = true → rightS (withS (valX v) x) = true := by
  intro n
  induction n with
  | zero => intro x h; omega
  | succ n ih =>
    intro x hn hx
    by_cases h1 : x.op = 1
    · by_cases h2 : x.v = v0
      · rw [with_null h1 h2]; exact hv
      · rw [with_other (fun h => h2 h.2), right_mk]
        rw [right_eq, if_pos h1] at hx
        rw [List.length_map, if_pos h1]
        exact hx
    · rw [with_other (fun h => h1 h.1), right_mk]
      rw [right_eq, if_neg h1] at hx
      by_cases h2 : x.op = 2
      · rw [if_pos h2] at hx
        rw [List.length_map, if_neg h1, if_pos h2]
        exact hx
      · rw [if_neg h2] at hx
        simp only [Bool.and_eq_true, decide_eq_true_eq, List.all_eq_true] at hx
        rw [List.length_map, if_neg h1, if_neg h2]
        simp only [Bool.and_eq_true, decide_eq_true_eq, List.all_eq_true, List.mem_map]
        refine ⟨hx.1, hx.2.1, ?_⟩
        rintro z ⟨w, hw, rfl⟩
        exact ih w (by have := Ex.lt hw; omega) (hx.2.2 w hw)
theorem fit_iff {a b : Int} : fitS a b = true ↔ a = b ∨ a = 0 ∨ b = 0 := by simp [fitS]
theorem eith_spec (a b : Int) : (a ≠ 0 ∧ eith a b = a) ∨ (a = 0 ∧ eith a b = b) := by
  unfold eith
  by_cases h : a = 0
  · right; rw [if_neg (by simpa using h)]; exact ⟨h, rfl⟩
  · left; rw [if_pos h]; exact ⟨h, rfl⟩
theorem addK_spec (a b : Int) : (addK a b = 2 ∧ eith a b = 2) ∨ (addK a b = 1 ∧ eith a b ≠ 2) := by
  unfold addK
  by_cases h : eith a b = 2
  · left; rw [if_pos h]; exact ⟨rfl, h⟩
  · right; rw [if_neg h]; exact ⟨rfl, h⟩
def relK (v : Val) (a b : Int) : Prop := b = a ∨ (a = 0 ∧ b = v.k) ∨ (a = 1 ∧ b = 2)
theorem rel_rul {v : Val} {op : Int} (hop : 3 ≤ op ∧ op ≤ 16) {as bs : List Int} (hl : (as.length : Int) = cntS op) (hbl : bs.length = as.length) (hr : ∀ j, j < as.length → relK v (as.getD j 0) (bs.getD j 0)) (ha : (rulS op as).2 = true) (hb : (rulS op bs).2 = true) : relK v (rulS op as).1 (rulS op bs).1 := by
  have hc := cnt_pos hop
  have r0 := hr 0
  have r1 := hr 1
  have r2 := hr 2
  by_cases h1 : op = 3 ∨ op = 5 ∨ op = 6 ∨ op = 7
  · rw [rul1 h1, rul1 h1]; exact .inl rfl
  by_cases h2 : op = 4
  · have hl2 : as.length = 2 := by have := hc.2.2.1 (by omega); omega
    rw [rul2 h2] at ha hb ⊢
    rw [rul2 h2]
    rw [all_2 hl2] at ha
    rw [all_2 (by omega)] at hb
    have r0 := r0 (by omega)
    have r1 := r1 (by omega)
    generalize as.getD 0 0 = a0 at *
    generalize as.getD 1 0 = a1 at *
    generalize bs.getD 0 0 = b0 at *
    generalize bs.getD 1 0 = b1 at *
    simp only [relK, fit_iff, Bool.and_eq_true] at *
    have s1 := addK_spec a0 a1
    have s2 := addK_spec b0 b1
    have s3 := eith_spec a0 a1
    have s4 := eith_spec b0 b1
    omega
  by_cases h3 : op = 8 ∨ op = 9
  · rw [rul3 h3, rul3 h3]; exact .inl rfl
  by_cases h4 : 10 ≤ op ∧ op ≤ 13
  · rw [rul4 h4, rul4 h4]; exact .inl rfl
  by_cases h5 : op = 14 ∨ op = 15
  · rw [rul5 h5, rul5 h5]; exact .inl rfl
  have h6 : op = 16 := by omega
  have hl3 : as.length = 3 := by have := hc.2.2.2 h6; omega
  rw [rul6 h6] at ha hb ⊢
  rw [rul6 h6]
  have r0 := r0 (by omega)
  have r1 := r1 (by omega)
  have r2 := r2 (by omega)
  generalize as.getD 0 0 = a0 at *
  generalize as.getD 1 0 = a1 at *
  generalize as.getD 2 0 = a2 at *
  generalize bs.getD 0 0 = b0 at *
  generalize bs.getD 1 0 = b1 at *
  generalize bs.getD 2 0 = b2 at *
  simp only [relK, fit_iff, Bool.and_eq_true] at *
  have s3 := eith_spec a1 a2
  have s4 := eith_spec b1 b2
  omega
/-- what holds of the kinds of an expression and of the one with a value in place of null -/
def nullR (v : Val) (p q : Int × Int) : Prop := (p.2 = 13 → q.2 = 13 ∨ q.2 = 14) ∧ (p.2 = 0 → q.2 = 14 ∨ (q.2 = 0 ∧ relK v p.1 q.1))
theorem ofK_err (r : Int × Bool) : (ofK r).2 = 0 ∨ (ofK r).2 = 14 := by
  unfold ofK; split
  · exact .inl rfl
  · exact .inr rfl
theorem ofK_ok {r : Int × Bool} (h : (ofK r).2 = 0) : r.2 = true ∧ (ofK r).1 = r.1 := by
  unfold ofK at h ⊢
  by_cases h2 : r.2 = true
  · rw [if_pos h2]; exact ⟨h2, rfl⟩
  · rw [if_neg h2] at h; cases h
/-- the parts' errors, from left to right -/
theorem kindL_cases (cl : List Col) (l : List Ex) : ((∀ y ∈ l, (kindS cl y).2 = 0) ∧ kindL cl l = (l.map fun y => (kindS cl y).1, none)) ∨
    ∃ k, k < l.length ∧ (∀ j, j < k → (kindS cl (l.getD j ex0)).2 = 0) ∧ (kindS cl (l.getD k ex0)).2 ≠ 0 ∧ kindL cl l = ([], some (kindS cl (l.getD k ex0)).2) := by
  by_cases h : ∀ y ∈ l, (kindS cl y).2 = 0
  · exact .inl ⟨h, kindL_ok cl l h⟩
  · right
    have hex : ∃ k, k < l.length ∧ (kindS cl (l.getD k ex0)).2 ≠ 0 := by
      rw [Classical.not_forall] at h
      obtain ⟨y, hy⟩ := h
      rw [Classical.not_imp] at hy
      obtain ⟨k, hk⟩ := List.mem_iff_getElem?.1 hy.1
      exact ⟨k, (List.getElem?_eq_some_iff.1 hk).1, by simpa [List.getD, hk] using hy.2⟩
    have key : ∀ n, (∃ k, k < n ∧ k < l.length ∧ (kindS cl (l.getD k ex0)).2 ≠ 0) → ∃ k, k < l.length ∧ (∀ j, j < k → (kindS cl (l.getD j ex0)).2 = 0) ∧ (kindS cl (l.getD k ex0)).2 ≠ 0 := by
      intro n
      induction n with
      | zero => rintro ⟨k, h, _⟩; omega
      | succ n ih =>
        rintro ⟨k, hk, hkl, he⟩
        by_cases hlow : ∃ k, k < n ∧ k < l.length ∧ (kindS cl (l.getD k ex0)).2 ≠ 0
        · exact ih hlow
        · refine ⟨k, hkl, fun j hj => ?_, he⟩
          by_cases hz : (kindS cl (l.getD j ex0)).2 = 0
          · exact hz
          · exact absurd ⟨j, by omega, by omega, hz⟩ hlow
    obtain ⟨k, hk, he⟩ := hex
    obtain ⟨k, h1, h2, h3⟩ := key (k + 1) ⟨k, by omega, hk, he⟩
    exact ⟨k, h1, h2, h3, kindL_err cl l k h1 h2 h3⟩
theorem getD_map (f : Ex → Ex) (l : List Ex) (j : Nat) (h : j < l.length) : (l.map f).getD j ex0 = f (l.getD j ex0) := by
  simp [List.getD, h]
theorem null_kind {cl : List Col} {v : Val} (hv : rightS (valX v) = true) : ∀ (n : Nat) (x : Ex), SizeOf.sizeOf x < n → rightS x = true → nullR v (kindS cl x) (kindS cl (withS (valX v) x)) := by
  intro n
  induction n with
  | zero => intro x h; omega
  | succ n ih =>
    intro x hn hx
    by_cases h1 : x.op = 1
    · rw [kind_eq cl x, if_pos h1]
      by_cases h2 : x.v = v0
      · rw [with_null h1 h2, kind_eq cl (valX v)]
        have e : (valX v).op = 1 := rfl
        rw [if_pos e]
        refine ⟨fun h => (by simp at h), fun _ => .inr ⟨rfl, ?_⟩⟩
        rw [h2]
        exact .inr (.inl ⟨rfl, rfl⟩)
      · rw [with_other (fun h => h2 h.2), kind_eq]
        rw [if_pos (show (Ex.mk x.op x.v x.s (x.l.map (withS (valX v)))).op = 1 from h1)]
        exact ⟨fun h => (by simp at h), fun _ => .inr ⟨rfl, .inl rfl⟩⟩
    by_cases h2 : x.op = 2
    · rw [with_other (fun h => h1 h.1), kind_eq cl x, kind_eq]
      rw [if_neg h1, if_pos h2, if_neg (show ¬ (Ex.mk x.op x.v x.s (x.l.map (withS (valX v)))).op = 1 from h1), if_pos (show (Ex.mk x.op x.v x.s (x.l.map (withS (valX v)))).op = 2 from h2)]
      show nullR v (if atS cl x.s < 0 then (0, 13) else ((cl.getD (atS cl x.s).toNat c0).kind, 0)) (if atS cl x.s < 0 then (0, 13) else ((cl.getD (atS cl x.s).toNat c0).kind, 0))
      exact ⟨fun h => .inl h, fun h => .inr ⟨h, .inl rfl⟩⟩
    · obtain ⟨hop, hlen, hch⟩ := right_sub hx h1 h2
      have IH : ∀ y ∈ x.l, nullR v (kindS cl y) (kindS cl (withS (valX v) y)) := fun y hy => ih y (by have := Ex.lt hy; omega) (hch y hy)
      have hz : withS (valX v) x = .mk x.op x.v x.s (x.l.map (withS (valX v))) := with_other (fun h => h1 h.1)
      have hk : kindS cl (withS (valX v) x) = match kindL cl (x.l.map (withS (valX v))) with
          | (_, some e) => (0, e)
          | (ks, none) => ofK (rulS x.op ks) := by
        rw [hz, kind_eq]
        rw [if_neg (show ¬ (Ex.mk x.op x.v x.s (x.l.map (withS (valX v)))).op = 1 from h1), if_neg (show ¬ (Ex.mk x.op x.v x.s (x.l.map (withS (valX v)))).op = 2 from h2)]
        rfl
      have hkx : kindS cl x = match kindL cl x.l with
          | (_, some e) => (0, e)
          | (ks, none) => ofK (rulS x.op ks) := by rw [kind_eq cl x, if_neg h1, if_neg h2]
      have gm : ∀ j, j < x.l.length → (x.l.map (withS (valX v))).getD j ex0 = withS (valX v) (x.l.getD j ex0) := fun j hj => getD_map _ _ j hj
      rcases kindL_cases cl x.l with ⟨ha, ea⟩ | ⟨k, hkl, hbef, hne, ea⟩
      · rw [ea] at hkx
        rcases kindL_cases cl (x.l.map (withS (valX v))) with ⟨hb, eb⟩ | ⟨m, hml, _, hme, eb⟩
        · rw [eb] at hk
          have hk : kindS cl (withS (valX v) x) = ofK (rulS x.op ((x.l.map (withS (valX v))).map fun y => (kindS cl y).1)) := hk
          have hkx : kindS cl x = ofK (rulS x.op (x.l.map fun y => (kindS cl y).1)) := hkx
          refine ⟨fun h => ?_, fun h => ?_⟩
          · rw [hkx] at h; rcases ofK_err (rulS x.op (x.l.map fun y => (kindS cl y).1)) with e | e <;> (rw [e] at h; simp at h)
          · rw [hk]
            rcases ofK_err (rulS x.op ((x.l.map (withS (valX v))).map fun y => (kindS cl y).1)) with e | e
            · right
              rw [hkx] at h
              obtain ⟨p1, p2⟩ := ofK_ok h
              obtain ⟨q1, q2⟩ := ofK_ok e
              refine ⟨e, ?_⟩
              rw [hkx, p2, q2]
              refine rel_rul hop (by rw [List.length_map]; exact hlen) (by simp) (fun j hj => ?_) p1 q1
              rw [List.length_map] at hj
              have hin := getD_mem x.l j ex0 hj
              have e1 : (x.l.map fun y => (kindS cl y).1).getD j 0 = (kindS cl (x.l.getD j ex0)).1 := by simp [List.getD, hj]
              have e2 : ((x.l.map (withS (valX v))).map fun y => (kindS cl y).1).getD j 0 = (kindS cl (withS (valX v) (x.l.getD j ex0))).1 := by simp [List.getD, hj]
              rw [e1, e2]
              rcases (IH _ hin).2 (ha _ hin) with h14 | h0
              · have := hb (withS (valX v) (x.l.getD j ex0)) (List.mem_map_of_mem hin)
                rw [this] at h14; simp at h14
              · exact h0.2
            · exact .inl e
        · rw [eb] at hk
          have hk2 : (kindS cl (withS (valX v) x)).2 = (kindS cl ((x.l.map (withS (valX v))).getD m ex0)).2 := by rw [hk]
          rw [List.length_map] at hml
          have hin := getD_mem x.l m ex0 hml
          rw [gm m hml] at hk2 hme
          have h14 : (kindS cl (withS (valX v) (x.l.getD m ex0))).2 = 14 := by
            rcases (IH _ hin).2 (ha _ hin) with h | h
            · exact h
            · exact absurd h.1 hme
          rw [h14] at hk2
          exact ⟨fun _ => .inr hk2, fun _ => .inl hk2⟩
      · have hkx2 : (kindS cl x).2 = (kindS cl (x.l.getD k ex0)).2 := by rw [hkx, ea]
        refine ⟨fun h => ?_, fun h => absurd (hkx2.symm.trans h) hne⟩
        have hin := getD_mem x.l k ex0 hkl
        have hck := (IH _ hin).1 (hkx2.symm.trans h)
        rcases kindL_cases cl (x.l.map (withS (valX v))) with ⟨hb, eb⟩ | ⟨m, hml, hmb, hme, eb⟩
        · have := hb (withS (valX v) (x.l.getD k ex0)) (List.mem_map_of_mem hin)
          rw [this] at hck
          rcases hck with h | h <;> simp at h
        · rw [eb] at hk
          have hk2 : (kindS cl (withS (valX v) x)).2 = (kindS cl ((x.l.map (withS (valX v))).getD m ex0)).2 := by rw [hk]
          rw [List.length_map] at hml
          have hmk : m ≤ k := by
            rcases Nat.lt_or_ge k m with hlt | hge
            · have := hmb k hlt
              rw [gm k hkl] at this
              rw [this] at hck
              rcases hck with h | h <;> simp at h
            · exact hge
          rw [gm m hml] at hk2 hme
          rw [hk2]
          rcases Nat.lt_or_ge m k with hlt | hge
          · have hin2 := getD_mem x.l m ex0 hml
            rcases (IH _ hin2).2 (hbef m hlt) with h | h
            · exact .inr h
            · exact absurd h.1 hme
          · have : m = k := by omega
            rw [this]; exact hck
theorem null_kindT {cl : List Col} {v : Val} (hv : rightS (valX v) = true) (x : Ex) : nullR v (kindT cl x) (kindT cl (withS (valX v) x)) := by
  unfold kindT
  by_cases hx : rightS x = true
  · rw [if_pos hx, if_pos (right_with hv _ x (Nat.lt_succ_self _) hx)]
    exact null_kind hv _ x (Nat.lt_succ_self _) hx
  · rw [if_neg hx]
    exact ⟨fun h => (by simp at h), fun h => (by simp at h)⟩
theorem right_not {x : Ex} (h : ¬ (if rightS x = true then (0 : Int) else 2) = 0) : ¬ rightS x = true := fun h2 => h (by rw [if_pos h2])
end Go.Proofs.Ytjidmighkphmkaa
