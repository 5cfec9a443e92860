/- Pure operations, reckoned. No condition. -/
import Derived.Test.YtopbpdgnjnoddaaDoorDx2
set_option linter.unusedSimpArgs false
set_option linter.unusedVariables false
namespace Go.Dx
open Go Go.RowKit

def AggEq (P : Program) (t : Nat) (a b : List Value) (r : Bool) : Prop :=
  P.eqGuardType P.depth t = false ∧ ∀ w, (Op.equalIn 10000 t (.agg a.toArray) (.agg b.toArray)).run P w = .ok r w
theorem EqT.ag {P : Program} {t : Nat} {α : Type} [DecidableEq α] {f : α → List Value} (h : EqT P t f) (a b : α) : AggEq P t (f a) (f b) (decide (a = b)) := ⟨h.1, fun w => h.2 w a b⟩

def ikb : IntKind → IntKind → Bool
  | .i8, .i8 | .i16, .i16 | .i32, .i32 | .i64, .i64 | .u8, .u8 | .u16, .u16 | .u32, .u32 | .u64, .u64 => true
  | _, _ => false
theorem ikb_eq {k l : IntKind} (h : ikb k l = true) : k = l := by cases k <;> cases l <;> first | rfl | cases h

def pvArith (og : Option Bool) (b : BinOp) (k : IntKind) (m n : Int) (K : SV → Prop) : Prop := match b with
  | .add => ∃ r, gc og (k.wrap (m + n) = r) ∧ K (.v (.int k r))
  | .sub => ∃ r, gc og (k.wrap (m - n) = r) ∧ K (.v (.int k r))
  | .mul => ∃ r, gc og (k.wrap (m * n) = r) ∧ K (.v (.int k r))
  | .quo => ∃ r, gc og (n ≠ 0 ∧ k.wrap (m.tdiv n) = r) ∧ K (.v (.int k r))
  | .rem => ∃ r, gc og (n ≠ 0 ∧ m.tmod n = r) ∧ K (.v (.int k r))
  | .and => ∃ r, gc og (k.wrap ((BitVec.ofInt k.bits m &&& BitVec.ofInt k.bits n).toNat : Int) = r) ∧ K (.v (.int k r))
  | .or => ∃ r, gc og (k.wrap ((BitVec.ofInt k.bits m ||| BitVec.ofInt k.bits n).toNat : Int) = r) ∧ K (.v (.int k r))
  | .xor => ∃ r, gc og (k.wrap ((BitVec.ofInt k.bits m ^^^ BitVec.ofInt k.bits n).toNat : Int) = r) ∧ K (.v (.int k r))
  | .andNot => ∃ r, gc og (k.wrap ((BitVec.ofInt k.bits m &&& ~~~ BitVec.ofInt k.bits n).toNat : Int) = r) ∧ K (.v (.int k r))
  | .eql => K (.v (.bool (decide (m = n))))
  | .neq => K (.v (.bool (!decide (m = n))))
  | .lss => K (.v (.bool (decide (m < n))))
  | .leq => K (.v (.bool (decide (m ≤ n))))
  | .gtr => K (.v (.bool (decide (n < m))))
  | .geq => K (.v (.bool (decide (n ≤ m))))
  | _ => False
def pvInt (og : Option Bool) (b : BinOp) (k : IntKind) (m : Int) (k2 : IntKind) (n : Int) (K : SV → Prop) : Prop := match b with
  | .shl => ∃ r, gc og (0 ≤ n ∧ k.wrap (m * 2 ^ (min n.toNat k.bits)) = r) ∧ K (.v (.int k r))
  | .shr => ∃ r, gc og (0 ≤ n ∧ m.fdiv (2 ^ (min n.toNat k.bits)) = r) ∧ K (.v (.int k r))
  | b => bif ikb k k2 then pvArith og b k m n K else False
def pvStr (og : Option Bool) (b : BinOp) (l l' : List UInt8) (K : SV → Prop) : Prop := match b with
  | .add => gc og (l.length + l'.length ≤ 9223372036854775807) ∧ K (.v (vs (l ++ l')))
  | .eql => K (.v (.bool (decide (l = l'))))
  | .neq => K (.v (.bool (!decide (l = l'))))
  | .lss => K (.v (.bool (decide (Lib.compareBytes l l' = -1))))
  | _ => False
def ldK (td : TD) (cs : List Value) (f : Nat) (K : SV → Prop) : Prop :=
  bif td.ag then (bif Nat.beq f 0 && lenB cs td.sz then K (.v (.agg cs.toArray)) else subK cs f td.sz fun l => K (.v (.agg l.toArray)))
  else match nthV cs f with
    | some v => K (.v v)
    | none => False
def kg (og g : Option Bool) (X : Prop) : Prop := match g with
  | none => X
  | some g1 => gc og (g1 = true) ∧ X
def pvLoad (h0 : View) (F : View → Prop) (B : BL) (og : Option Bool) (td : TD) (K : SV → Prop) : SV → Prop
  | .o k f => match lkA B k with
    | some (.c _ _ cs) => ldK td cs f K
    | some (.k g _ _ cs) => kg og g (ldK td cs f K)
    | _ => False
  | .v (.pointer (some ad)) => bif td.ag then (∃ cs : List Value, gc og (cs.length = td.sz ∧ ∀ v w, VLe h0 v → F v → VLe v (Full w) → ∀ j v, cs[j]? = some v → w.cell? (ad.add j) = some v) ∧ K (.v (.agg cs.toArray)))
    else ∃ v, gc og (∀ v' w, VLe h0 v' → F v' → VLe v' (Full w) → w.cell? ad = some v) ∧ K (.v v)
  | _ => False
def argK (ρ : Operand → Option SV) (B : BL) : List Operand → (List Value → Prop) → Prop
  | [], K => K []
  | x :: r, K => match ρ x with
    | some s => match dvO B s with
      | some v => argK ρ B r fun l => K (v :: l)
      | none => False
    | none => False
def bldK (ρ : Operand → Option SV) (B : BL) (fs : List (Nat × Nat × Bool)) : List (Nat × Operand) → List Value → (List Value → Prop) → Prop
  | [], z, K => K z
  | (i, x) :: r, z, K => match nthV fs i, ρ x with
    | some (off, sz, _), some s => celK B s fun cs => bif lenB cs sz then setK z off cs fun z' => bldK ρ B fs r z' K else False
    | _, _ => False
def hasN (B : BL) (s : SV) (X : Prop) : Prop := match dvO B s with
  | some _ => X
  | none => False
def pvSlice (og : Option Bool) (td : TD) (x : SV) (lo hi : Option SV) (K : SV → Prop) : Prop := match x with
  | .v (.string ⟨⟨l⟩⟩) => match td.u, lo, hi with
    | .str, some (.v (.int _ i)), none => ∃ j : Nat, gc og (i = (j : Int) ∧ j ≤ l.length) ∧ K (.v (vs (l.drop j)))
    | .str, none, some (.v (.int _ i)) => ∃ j : Nat, gc og (i = (j : Int) ∧ j ≤ l.length) ∧ K (.v (vs (l.take j)))
    | .str, some (.v (.int _ i)), some (.v (.int _ i2)) => ∃ j j2 : Nat, gc og (i = (j : Int) ∧ i2 = (j2 : Int) ∧ j ≤ j2 ∧ j2 ≤ l.length) ∧ K (.v (vs ((l.drop j).take (j2 - j))))
    | _, _, _ => False
  | .v (.slice ad n c) => match td.u, lo, hi with
    | .sl _ sz, some (.v (.int _ i)), none => ∃ j : Nat, gc og (i = (j : Int) ∧ j ≤ n ∧ n ≤ c) ∧ K (.v (.slice (if c = j then ad else ad.map (·.add (j * sz))) (n - j) (c - j)))
    | .sl _ _, none, some (.v (.int _ i)) => ∃ j : Nat, gc og (i = (j : Int) ∧ j ≤ c) ∧ K (.v (.slice ad j c))
    | _, _, _ => False
  | _ => False
def pvField (cs : List Value) (f : Option (Nat × Nat × Bool)) (K : SV → Prop) : Prop := match f with
  | some (off, _, false) => match nthV cs off with
    | some v => K (.v v)
    | none => False
  | _ => False
def optR (ρ : Operand → Option SV) (x : Option Operand) (K : Option SV → Prop) : Prop := match x with
  | none => K none
  | some y => match ρ y with
    | some s => K (some s)
    | none => False
def pvBin (P : Program) (T : Tab) (og : Option Bool) (b : BinOp) (t : Nat) (x y : SV) (K : SV → Prop) : Prop := match x, y with
  | .v (.int k m), .v (.int k2 n) => pvInt og b k m k2 n K
  | .v (.string ⟨⟨l⟩⟩), .v (.string ⟨⟨l'⟩⟩) => pvStr og b l l' K
  | .v (.bool p), .v (.bool q) => match lkA T.tys t with
    | some ⟨.bool, _, _, _⟩ => match b with
      | .eql => K (.v (.bool (p == q)))
      | .neq => K (.v (.bool (!(p == q))))
      | _ => False
    | _ => False
  | .v (.agg ⟨a⟩), .v (.agg ⟨c⟩) => match b with
    | .eql => ∃ r, gc og (AggEq P t a c r) ∧ K (.v (.bool r))
    | .neq => ∃ r, gc og (AggEq P t a c r) ∧ K (.v (.bool (!r)))
    | _ => False
  | _, _ => False
def pvNil (B : BL) (x : SV) (K : SV → Prop) : Prop := match x with
  | .o k f => hasN B (.o k f) (K (.o k f))
  | .v (.pointer (some ad)) => K (.v (.pointer (some ad)))
  | .v (.func (.func f) a c) => K (.v (.func (.func f) a c))
  | _ => False
def pvUn (og : Option Bool) (o : UnOp) (x : SV) (K : SV → Prop) : Prop := match o, x with
  | .not, .v (.bool b) => K (.v (.bool (!b)))
  | .neg, .v (.int k m) => ∃ r, gc og (k.wrap (0 - m) = r) ∧ K (.v (.int k r))
  | _, _ => False
def pvFA (B : BL) (f : Option (Nat × Nat × Bool)) (x : SV) (K : SV → Prop) : Prop := match f with
  | some (off, _ + 1, _) => match x with
    | .o k o => hasN B (.o k o) (K (.o k (o + off)))
    | .v (.pointer (some ⟨b, o, none⟩)) => K (.v (.pointer (some ⟨b, o + off, none⟩)))
    | _ => False
  | _ => False
def pvMM (og : Option Bool) (mx : Bool) (x y : SV) (K : SV → Prop) : Prop := match x, y with
  | .v (.int k m), .v (.int _ n) => match mx with
    | true => ∃ r, gc og ((if m < n then n else m) = r) ∧ K (.v (.int k r))
    | false => ∃ r, gc og ((if n < m then n else m) = r) ∧ K (.v (.int k r))
  | _, _ => False
def pvLen (B : BL) (td : Option TD) (x : SV) (K : SV → Prop) : Prop := match td, x with
  | some ⟨.str, _, _, _⟩, .v (.string ⟨⟨l⟩⟩) => K (.v (.int .i64 l.length))
  | some ⟨.sl _ _, _, _, _⟩, .v (.slice _ n _) => K (.v (.int .i64 n))
  | some ⟨.sl _ _, _, _, _⟩, .s k f n cp => hasN B (.s k f n cp) (K (.v (.int .i64 n)))
  | _, _ => False
def pvConv (og : Option Bool) (a b : Option TD) (x : SV) (K : SV → Prop) : Prop := match a, b, x with
  | some _, some ⟨.int k', _, _, _⟩, .v (.int _ m) => ∃ r, gc og (k'.wrap m = r) ∧ K (.v (.int k' r))
  | _, _, _ => False
def pvIdx (og : Option Bool) (td : Option TD) (x y : SV) (K : SV → Prop) : Prop := match td, x, y with
  | some ⟨.str, _, _, _⟩, .v (.string ⟨⟨l⟩⟩), .v (.int _ i) => ∃ j : Nat, gc og (i = (j : Int) ∧ j < l.length) ∧ K (.v (v8 (l.getD j 0)))
  | _, _, _ => False
def rd1 (ρ : Operand → Option SV) (x : Operand) (K : SV → Prop) : Prop := match ρ x with
  | some s => K s
  | none => False
def pv (P : Program) (T : Tab) (h0 : View) (F : View → Prop) (B : BL) (og : Option Bool) (ρ : Operand → Option SV) (K : SV → Prop) : Op → Prop
  | .move x => rd1 ρ x fun s => hasN B s (K s)
  | .assign x => rd1 ρ x fun s => hasN B s (K s)
  | .nilCheck x => rd1 ρ x fun s => pvNil B s K
  | .binOp b t x y _ => rd1 ρ x fun s => rd1 ρ y fun s' => pvBin P T og b t s s' K
  | .unOp o _ x => rd1 ρ x fun s => pvUn og o s K
  | .convert a b x => rd1 ρ x fun s => pvConv og (lkA T.tys a) (lkA T.tys b) s K
  | .extract x i => rd1 ρ x fun s => match s with
    | .v (.tuple ⟨l⟩) => match nthV l i with
      | some v => K (.v v)
      | none => False
    | _ => False
  | .makeFunc fn ⟨[]⟩ ⟨cs⟩ => argK ρ B cs fun l => K (.v (.func fn #[] l.toArray))
  | .fieldAddr t x i => match lkA T.tys t with
    | some ⟨.st fs, _, _, _⟩ => rd1 ρ x fun s => pvFA B (nthV fs i) s K
    | _ => False
  | .field t x i => match lkA T.tys t with
    | some ⟨.st fs, _, _, _⟩ => rd1 ρ x fun s => match s with
      | .v (.agg ⟨cs⟩) => pvField cs (nthV fs i) K
      | _ => False
    | _ => False
  | .index t x y => rd1 ρ x fun s => rd1 ρ y fun s' => pvIdx og (lkA T.tys t) s s' K
  | .slice t x lo hi none => match lkA T.tys t with
    | some td => rd1 ρ x fun s => optR ρ lo fun a => optR ρ hi fun b => pvSlice og td s a b K
    | none => False
  | .load t x => match lkA T.tys t with
    | some td => rd1 ρ x fun s => pvLoad h0 F B og td K s
    | none => False
  | .build t ⟨ps⟩ => match lkA T.tys t with
    | some ⟨.st fs, _, _, z⟩ => bldK ρ B fs ps z fun l => K (.v (.agg l.toArray))
    | _ => False
  | .call ⟨.builtin .len, ⟨[x]⟩, ⟨t :: _⟩⟩ => rd1 ρ x fun s => pvLen B (lkA T.tys t) s K
  | .call ⟨.builtin .min, ⟨[x, y]⟩, _⟩ => rd1 ρ x fun s => rd1 ρ y fun s' => pvMM og false s s' K
  | .call ⟨.builtin .max, ⟨[x, y]⟩, _⟩ => rd1 ρ x fun s => rd1 ρ y fun s' => pvMM og true s s' K
  | _ => False

/-! ### It is so -/
structure WOk (h0 : View) (F : View → Prop) (B : BL) (w : World) : Prop where
  vw : ∃ v, VLe h0 v ∧ F v ∧ VLe v (Full w)
  own : ∀ k b T cs, lkA B k = some (.c b T cs) → w.heap[b]? = some (.cells cs.toArray T (0, 0))
def KnC (h0 : View) (F : View → Prop) (b o : Nat) (cs : List Value) : Prop := ∀ v w, VLe h0 v → F v → VLe v (Full w) → ∀ j x, cs[j]? = some x → w.cell? ⟨b, o + j, none⟩ = some x
def BOk (h0 : View) (F : View → Prop) (B : BL) : Prop := ∀ k g b o cs, (k, OB.k g b o cs) ∈ B → gc g (KnC h0 F b o cs)
/-- the operation gives what `K` was asked of -/
def Good (P : Program) (B : BL) (L : FL) (h0 : View) (F : View → Prop) (op : Op) (og : Option Bool) (K : SV → Prop) : Prop :=
  ∃ s v, K s ∧ dvO B s = some v ∧ (yes og → ∀ w, WOk h0 F B w → ∀ d ty pos af g, Pu P L ⟨d, op, ty, pos, af, g⟩ w v)

section sound
variable {P : Program} {T : Tab} {h0 : View} {F : View → Prop} {B : BL} {og : Option Bool} {ρ : Operand → Option SV} {K : SV → Prop} {L : FL} (hT : T.Ok P) (hB : BOk h0 F B)
  (hρ : yes og → ∀ x s v, ρ x = some s → dvO B s = some v → ev L x = some v)
include hρ
theorem ev_v {x : Operand} {v : Value} (hy : yes og) (h : ρ x = some (.v v)) : ev L x = some v := hρ hy x _ v h rfl
theorem argK_sound : ∀ {l : List Operand} {K : List Value → Prop}, argK ρ B l K → ∃ vsl, K vsl ∧ (yes og → evs L l = some vsl)
  | [], K, h => ⟨[], h, fun _ => rfl⟩
  | x :: r, K, h => by
    unfold argK at h
    split at h
    · rename_i s hs
      split at h
      · rename_i v hv
        obtain ⟨vsl, h1, h2⟩ := argK_sound h
        exact ⟨_, h1, fun hy => by simp only [evs, hρ hy x s v hs hv, h2 hy]⟩
      · exact h.elim
    · exact h.elim
theorem bldK_sound {fs : List (Nat × Nat × Bool)} : ∀ {ps : List (Nat × Operand)} {z : List Value} {K : List Value → Prop}, bldK ρ B fs ps z K →
    ∃ cs vsl, K cs ∧ (yes og → evs L (ps.map (·.2)) = some vsl) ∧ fillL (fs.map fun p => (p.1, p.2.1)) z ((ps.map (·.1)).zip vsl) = some cs
  | [], z, K, h => ⟨z, [], h, fun _ => rfl, rfl⟩
  | (i, x) :: r, z, K, h => by
    unfold bldK at h
    split at h
    · rename_i off sz ag s hf hs
      obtain ⟨cs, v, h1, hv, hc⟩ := celK_sound h
      cases hl : lenB cs sz with
      | false => rw [hl] at h1; exact h1.elim
      | true =>
        rw [hl] at h1
        obtain ⟨h2, hle⟩ := setK_sound h1
        obtain ⟨cs', vsl, g1, g2, g3⟩ := bldK_sound h2
        refine ⟨cs', v :: vsl, g1, fun hy => by simp only [List.map_cons, evs, hρ hy x s v hs hv, g2 hy], ?_⟩
        simp only [List.map_cons, List.zip_cons_cons]
        have hlen := lenB_eq hl
        unfold fillL
        have hp : (fs.map fun p => (p.1, p.2.1))[i]? = some (off, sz) := by
          rw [nthV_eq] at hf; simp [hf]
        simp only [hp, hc]
        rw [if_neg (by simp; omega)]
        exact g3
    · exact h.elim
omit hρ in
theorem rd1_sound {x : Operand} {K : SV → Prop} (h : rd1 ρ x K) : ∃ s, ρ x = some s ∧ K s := by
  unfold rd1 at h
  split at h
  · exact ⟨_, by assumption, h⟩
  · exact h.elim
omit hρ in
theorem gc_mk {og : Option Bool} {C : Prop} (h : yes og → C) : gc og C := by
  cases og with
  | none => exact h (fun g hg => by cases hg)
  | some g => exact fun hg => h fun g' hg' => by cases hg'; exact hg
theorem pvArith_sound {b : BinOp} {k : IntKind} {m n : Int} {x y : Operand} {t t' : Nat} (hx : ρ x = some (.v (.int k m))) (hy : ρ y = some (.v (.int k n))) (h : pvArith og b k m n K) : Good P B L h0 F (.binOp b t x y t') og K := by
  have ex := fun hy => ev_v hρ hy hx
  have ey := fun hz => ev_v hρ hz hy
  cases b <;> simp only [pvArith] at h <;> first | exact h.elim | skip
  case eql => exact ⟨_, _, h, rfl, fun hz w _ d ty pos af g => pu_ieq (ex hz) (ey hz)⟩
  case neq => exact ⟨_, _, h, rfl, fun hz w _ d ty pos af g => pu_ine (ex hz) (ey hz)⟩
  case lss => exact ⟨_, _, h, rfl, fun hz w _ d ty pos af g => pu_ilt (ex hz) (ey hz)⟩
  case leq => exact ⟨_, _, h, rfl, fun hz w _ d ty pos af g => pu_ile (ex hz) (ey hz)⟩
  case gtr => exact ⟨_, _, h, rfl, fun hz w _ d ty pos af g => pu_igt (ex hz) (ey hz)⟩
  case geq => exact ⟨_, _, h, rfl, fun hz w _ d ty pos af g => pu_ige (ex hz) (ey hz)⟩
  all_goals obtain ⟨r, hr, hk⟩ := h
  case add => exact ⟨_, _, hk, rfl, fun hz w _ d ty pos af g => pu_add (ex hz) (ey hz) (gc_yes hr hz)⟩
  case sub => exact ⟨_, _, hk, rfl, fun hz w _ d ty pos af g => pu_sub (ex hz) (ey hz) (gc_yes hr hz)⟩
  case mul => exact ⟨_, _, hk, rfl, fun hz w _ d ty pos af g => pu_mul (ex hz) (ey hz) (gc_yes hr hz)⟩
  case quo => exact ⟨_, _, hk, rfl, fun hz w _ d ty pos af g => pu_quo (ex hz) (ey hz) (gc_yes hr hz).1 (gc_yes hr hz).2⟩
  case rem => exact ⟨_, _, hk, rfl, fun hz w _ d ty pos af g => pu_rem (ex hz) (ey hz) (gc_yes hr hz).1 (gc_yes hr hz).2⟩
  case and => exact ⟨_, _, hk, rfl, fun hz w _ d ty pos af g => pu_and (ex hz) (ey hz) (gc_yes hr hz)⟩
  case or => exact ⟨_, _, hk, rfl, fun hz w _ d ty pos af g => pu_or (ex hz) (ey hz) (gc_yes hr hz)⟩
  case xor => exact ⟨_, _, hk, rfl, fun hz w _ d ty pos af g => pu_xor (ex hz) (ey hz) (gc_yes hr hz)⟩
  case andNot => exact ⟨_, _, hk, rfl, fun hz w _ d ty pos af g => pu_andnot (ex hz) (ey hz) (gc_yes hr hz)⟩
theorem pvInt_sound {b : BinOp} {k k2 : IntKind} {m n : Int} {x y : Operand} {t t' : Nat} (hx : ρ x = some (.v (.int k m))) (hy : ρ y = some (.v (.int k2 n))) (h : pvInt og b k m k2 n K) : Good P B L h0 F (.binOp b t x y t') og K := by
  have key : (bif ikb k k2 then pvArith og b k m n K else False) → Good P B L h0 F (.binOp b t x y t') og K := by
    intro h1
    cases hk : ikb k k2 with
    | false => rw [hk] at h1; exact h1.elim
    | true =>
      rw [hk] at h1
      obtain rfl := ikb_eq hk
      exact pvArith_sound hρ hx hy h1
  cases b
  case shl =>
    obtain ⟨r, hr, hk⟩ := h
    exact ⟨_, _, hk, rfl, fun hz w _ d ty pos af g => pu_shl (ev_v hρ hz hx) (ev_v hρ hz hy) (gc_yes hr hz).1 (gc_yes hr hz).2⟩
  case shr =>
    obtain ⟨r, hr, hk⟩ := h
    exact ⟨_, _, hk, rfl, fun hz w _ d ty pos af g => pu_shr (ev_v hρ hz hx) (ev_v hρ hz hy) (gc_yes hr hz).1 (gc_yes hr hz).2⟩
  all_goals exact key h
theorem pvStr_sound {b : BinOp} {l l' : List UInt8} {x y : Operand} {t t' : Nat} (hx : ρ x = some (.v (vs l))) (hy : ρ y = some (.v (vs l'))) (h : pvStr og b l l' K) : Good P B L h0 F (.binOp b t x y t') og K := by
  have ex := fun hy => ev_v hρ hy hx
  have ey := fun hz => ev_v hρ hz hy
  cases b <;> simp only [pvStr] at h <;> first | exact h.elim | skip
  case eql => exact ⟨_, _, h, rfl, fun hz w _ d ty pos af g => pu_seq (ex hz) (ey hz)⟩
  case neq => exact ⟨_, _, h, rfl, fun hz w _ d ty pos af g => pu_sne (ex hz) (ey hz)⟩
  case lss => exact ⟨_, _, h, rfl, fun hz w _ d ty pos af g => pu_slt (ex hz) (ey hz)⟩
  case add => exact ⟨_, _, h.2, rfl, fun hz w _ d ty pos af g => pu_cat (ex hz) (ey hz) (gc_yes h.1 hz)⟩
include hT in
theorem pvBin_sound {b : BinOp} {x y : Operand} {s s' : SV} {t t' : Nat} (hx : ρ x = some s) (hy : ρ y = some s') (h : pvBin P T og b t s s' K) : Good P B L h0 F (.binOp b t x y t') og K := by
  unfold pvBin at h
  split at h
  · exact pvInt_sound hρ hx hy h
  · exact pvStr_sound hρ hx hy h
  · split at h
    · rename_i hl
      have ht := td_bool (hT.td hl) rfl
      split at h
      · exact ⟨_, _, h, rfl, fun hz w _ d ty pos af g => pu_beq ht (ev_v hρ hz hx) (ev_v hρ hz hy)⟩
      · exact ⟨_, _, h, rfl, fun hz w _ d ty pos af g => pu_bne ht (ev_v hρ hz hx) (ev_v hρ hz hy)⟩
      · exact h.elim
    · exact h.elim
  · split at h
    · obtain ⟨r, hr, hk⟩ := h
      refine ⟨_, _, hk, rfl, fun hz w _ d ty pos af g => ?_⟩
      have ha := gc_yes hr hz
      intro σ hσ
      simp only [execOp, hσ x (by simp [Op.operands]) _ (ev_v hρ hz hx), hσ y (by simp [Op.operands]) _ (ev_v hρ hz hy), Sem.run_bind, run_eqGuard_agg w _ _ _ _ _ _ ha.1, Result.andThen_ok, run_eql_struct, ha.2]
      rfl
    · obtain ⟨r, hr, hk⟩ := h
      refine ⟨_, _, hk, rfl, fun hz w _ d ty pos af g => ?_⟩
      have ha := gc_yes hr hz
      intro σ hσ
      simp only [execOp, hσ x (by simp [Op.operands]) _ (ev_v hρ hz hx), hσ y (by simp [Op.operands]) _ (ev_v hρ hz hy), Sem.run_bind, run_eqGuard_agg w _ _ _ _ _ _ ha.1, Result.andThen_ok, run_neq_struct, ha.2]
      rfl
    · exact h.elim
  · exact h.elim
omit hρ in
theorem hasN_sound {s : SV} {X : Prop} (h : hasN B s X) : ∃ v, dvO B s = some v ∧ X := by
  unfold hasN at h
  split at h
  · exact ⟨_, by assumption, h⟩
  · exact h.elim
include hT hB in
theorem pvLoad_sound {x : Operand} {s : SV} {t : Nat} {td : TD} (ht : lkA T.tys t = some td) (hx : ρ x = some s) (h : pvLoad h0 F B og td K s) : Good P B L h0 F (.load t x) og K := by
  have ht := hT.td ht
  have key : ∀ (cs : List Value) (b o f : Nat), (yes og → ev L x = some (.pointer (some ⟨b, o + f, none⟩))) → (yes og → ∀ w, WOk h0 F B w → ∀ j v, cs[j]? = some v → w.cell? ⟨b, o + j, none⟩ = some v) → ldK td cs f K → Good P B L h0 F (.load t x) og K := by
    intro cs b o f hx hc h
    unfold ldK at h
    cases hag : td.ag with
    | true =>
      rw [hag] at h
      have hsub : ∀ l : List Value, l.length = td.sz → (∀ j v, l[j]? = some v → cs[f + j]? = some v) → K (.v (.agg l.toArray)) → Good P B L h0 F (.load t x) og K := by
        intro l hl hj hk
        refine ⟨_, _, hk, rfl, fun hz w hw d ty pos af g => pu_loadA (by rw [hl]; exact td_agg ht hag) (hx hz) fun j v hjv => ?_⟩
        rw [add_mk, Nat.add_assoc]
        exact hc hz w hw _ _ (hj j v hjv)
      simp only [cond_true] at h
      cases hw : (Nat.beq f 0 && lenB cs td.sz) with
      | true =>
        rw [hw] at h
        simp only [Bool.and_eq_true] at hw
        obtain rfl := Nat.eq_of_beq_eq_true hw.1
        exact hsub cs (lenB_eq hw.2) (fun j v hjv => by simpa using hjv) h
      | false =>
        rw [hw] at h
        obtain ⟨hk, hle⟩ := subK_sound h
        refine hsub _ (by simp; omega) (fun j v hjv => ?_) hk
        rw [List.getElem?_take] at hjv
        split at hjv
        · simpa using hjv
        · cases hjv
    | false =>
      rw [hag] at h
      simp only [cond_false] at h
      split at h
      · rename_i v hv
        rw [nthV_eq] at hv
        exact ⟨_, _, h, rfl, fun hz w hw d ty pos af g => pu_load1 (td_one ht hag) (hx hz) (hc hz w hw _ _ hv)⟩
      · exact h.elim
  unfold pvLoad at h
  split at h
  · rename_i k f
    split at h
    · rename_i b T' cs hl
      refine key cs b 0 f (fun hz => ?_) (fun hz w hw j v hj => ?_) h
      · have := hρ hz x (.o k f) (.pointer (some ⟨b, f, none⟩)) hx (by simp [dvO, hl])
        rwa [Nat.zero_add]
      · rw [cell_row (hw.own _ _ _ _ hl), Nat.zero_add]; exact hj
    · rename_i g b o cs hl
      have hg : ldK td cs f K ∧ (yes og → yes g) := by
        unfold kg at h
        split at h
        · exact ⟨h, fun _ g' hg' => by cases hg'⟩
        · rename_i g1; exact ⟨h.2, fun hz g' hg' => by cases hg'; exact gc_yes h.1 hz⟩
      refine key cs b o f (fun hz => ?_) (fun hz w hw j v hj => ?_) hg.1
      · exact hρ hz x (.o k f) (.pointer (some ⟨b, o + f, none⟩)) hx (by simp [dvO, hl])
      · obtain ⟨v', q1, q2, q3⟩ := hw.vw
        exact gc_yes (hB _ _ _ _ _ (lkA_mem hl)) (hg.2 hz) v' w q1 q2 q3 j v hj
    · exact h.elim
  · rename_i ad
    cases hag : td.ag with
    | true =>
      rw [hag] at h
      obtain ⟨cs, hc, hk⟩ := h
      exact ⟨_, _, hk, rfl, fun hz w hw d ty pos af g => pu_loadA (by rw [(gc_yes hc hz).1]; exact td_agg ht hag) (ev_v hρ hz hx) (let ⟨v', q1, q2, q3⟩ := hw.vw; (gc_yes hc hz).2 v' w q1 q2 q3)⟩
    | false =>
      rw [hag] at h
      obtain ⟨v, hc, hk⟩ := h
      exact ⟨_, _, hk, rfl, fun hz w hw d ty pos af g => pu_load1 (td_one ht hag) (ev_v hρ hz hx) (let ⟨v', q1, q2, q3⟩ := hw.vw; gc_yes hc hz v' w q1 q2 q3)⟩
  · exact h.elim
omit hρ in
theorem optR_sound {x : Option Operand} {K : Option SV → Prop} (h : optR ρ x K) : (x = none ∧ K none) ∨ ∃ y s, x = some y ∧ ρ y = some s ∧ K (some s) := by
  unfold optR at h
  split at h
  · exact .inl ⟨rfl, h⟩
  · split at h
    · exact .inr ⟨_, _, rfl, by assumption, h⟩
    · exact h.elim
include hT in
theorem pvSlice_sound {x : Operand} {lo hi : Option Operand} {s : SV} {t : Nat} {td : TD} (ht : lkA T.tys t = some td) (hx : ρ x = some s) (h : optR ρ lo fun a => optR ρ hi fun b => pvSlice og td s a b K) : Good P B L h0 F (.slice t x lo hi none) og K := by
  have ht := hT.td ht
  rcases optR_sound h with ⟨rfl, h1⟩ | ⟨ya, sa, rfl, ha, h1⟩ <;> clear h <;> rcases optR_sound h1 with ⟨rfl, h⟩ | ⟨yb, sb, rfl, hb, h⟩ <;> clear h1 <;> unfold pvSlice at h
  · split at h <;> (try exact h.elim) <;> split at h <;> first | exact h.elim | simp_all
  · split at h
    · split at h
      · simp_all
      · rename_i hu _ e
        cases e
        obtain ⟨j, hj, hk⟩ := h
        refine ⟨_, _, hk, rfl, fun hz w _ d ty pos af g => ?_⟩
        have := pu_to (P := P) (w := w) (d := d) (ty := ty) (pos := pos) (af := af) (g := g) (td_str ht hu) (ev_v hρ hz hx) (ev_v hρ hz hb) (by have := gc_yes hj hz; omega) (by have := gc_yes hj hz; omega)
        rw [(gc_yes hj hz).1] at this
        simpa using this
      · simp_all
      · exact h.elim
    · split at h
      · simp_all
      · rename_i hu _ e
        cases e
        obtain ⟨j, hj, hk⟩ := h
        exact ⟨_, _, hk, rfl, fun hz w _ d ty pos af g => pu_sl_ton (td_sl ht hu) (ev_v hρ hz hx) (ev_v hρ hz hb) (gc_yes hj hz).1 (gc_yes hj hz).2⟩
      · exact h.elim
    · exact h.elim
  · split at h
    · split at h
      · rename_i hu e _
        cases e
        obtain ⟨j, hj, hk⟩ := h
        refine ⟨_, _, hk, rfl, fun hz w _ d ty pos af g => ?_⟩
        have := pu_from (P := P) (w := w) (d := d) (ty := ty) (pos := pos) (af := af) (g := g) (td_str ht hu) (ev_v hρ hz hx) (ev_v hρ hz ha) (by have := gc_yes hj hz; omega) (by have := gc_yes hj hz; omega)
        rw [(gc_yes hj hz).1] at this
        simpa using this
      · simp_all
      · simp_all
      · exact h.elim
    · split at h
      · rename_i hu e _
        cases e
        obtain ⟨j, hj, hk⟩ := h
        exact ⟨_, _, hk, rfl, fun hz w _ d ty pos af g => pu_sl_fromn (td_sl ht hu) (ev_v hρ hz hx) (ev_v hρ hz ha) (gc_yes hj hz).1 (gc_yes hj hz).2.1 (gc_yes hj hz).2.2⟩
      · simp_all
      · exact h.elim
    · exact h.elim
  · split at h
    · split at h
      · simp_all
      · simp_all
      · rename_i hu e e2
        cases e; cases e2
        obtain ⟨j, j2, hj, hk⟩ := h
        refine ⟨_, _, hk, rfl, fun hz w _ d ty pos af g => ?_⟩
        have := pu_fromto (P := P) (w := w) (d := d) (ty := ty) (pos := pos) (af := af) (g := g) (td_str ht hu) (ev_v hρ hz hx) (ev_v hρ hz ha) (ev_v hρ hz hb) (by have := gc_yes hj hz; omega) (by have := gc_yes hj hz; omega) (by have := gc_yes hj hz; omega)
        rw [(gc_yes hj hz).1, (gc_yes hj hz).2.1] at this
        simpa using this
      · exact h.elim
    · split at h
      · simp_all
      · simp_all
      · exact h.elim
    · exact h.elim
theorem pvNil_sound {x : Operand} {s : SV} (hx : ρ x = some s) (h : pvNil B s K) : Good P B L h0 F (.nilCheck x) og K := by
  unfold pvNil at h
  split at h
  · obtain ⟨v, hv, hk⟩ := hasN_sound h
    refine ⟨_, v, hk, hv, fun hz w _ d ty pos af g => ?_⟩
    have e := hρ hz _ _ _ hx hv
    have : ∃ ad, v = .pointer (some ad) := by
      simp only [dvO] at hv
      split at hv <;> cases hv <;> exact ⟨_, rfl⟩
    obtain ⟨ad, rfl⟩ := this
    exact pu_nil e
  · exact ⟨_, _, h, rfl, fun hz w _ d ty pos af g => pu_nil (ev_v hρ hz hx)⟩
  · refine ⟨_, _, h, rfl, fun hz w _ d ty pos af g => ?_⟩
    intro σ hσ
    simp [execOp, hσ x (by simp [Op.operands]) _ (ev_v hρ hz hx)]
  · exact h.elim
theorem pvUn_sound {x : Operand} {s : SV} {o : UnOp} {t : Nat} (hx : ρ x = some s) (h : pvUn og o s K) : Good P B L h0 F (.unOp o t x) og K := by
  unfold pvUn at h
  split at h
  · exact ⟨_, _, h, rfl, fun hz w _ d ty pos af g => pu_not (ev_v hρ hz hx)⟩
  · obtain ⟨r, hr, hk⟩ := h
    exact ⟨_, _, hk, rfl, fun hz w _ d ty pos af g => pu_neg (ev_v hρ hz hx) (gc_yes hr hz)⟩
  · exact h.elim
include hT in
theorem pvConv_sound {x : Operand} {s : SV} {a b : Nat} (hx : ρ x = some s) (h : pvConv og (lkA T.tys a) (lkA T.tys b) s K) : Good P B L h0 F (.convert a b x) og K := by
  unfold pvConv at h
  split at h
  · rename_i ha hb
    obtain ⟨r, hr, hk⟩ := h
    obtain ⟨u, _, _, hu, _⟩ := tdOf_parts (hT.td ha)
    exact ⟨_, _, hk, rfl, fun hz w _ d ty pos af g => pu_conv (td_int (hT.td hb) rfl) ⟨u, hu⟩ (ev_v hρ hz hx) (gc_yes hr hz)⟩
  · exact h.elim
include hT in
theorem pvFA_sound {x : Operand} {s : SV} {t i : Nat} {td : TD} {fs : List (Nat × Nat × Bool)} (ht : lkA T.tys t = some td) (hu : td.u = .st fs) (hx : ρ x = some s) (h : pvFA B (nthV fs i) s K) : Good P B L h0 F (.fieldAddr t x i) og K := by
  unfold pvFA at h
  split at h
  · rename_i off sz ag hf
    rw [nthV_eq] at hf
    obtain ⟨fa, f, g1, g2, g3, g4, _⟩ := td_fld (hT.td ht) hu hf
    have hfld : FldAt P t i off := ⟨fa, f, sz + 1, g1, g2, g4, by omega, g3⟩
    split at h
    · rename_i k o
      obtain ⟨v, hv, hk⟩ := hasN_sound h
      have hv2 : ∃ b p, v = .pointer (some ⟨b, p, none⟩) ∧ dvO B (.o k (o + off)) = some (.pointer (some ⟨b, p + off, none⟩)) := by
        simp only [dvO] at hv ⊢
        split at hv <;> cases hv
        · exact ⟨_, _, rfl, rfl⟩
        · exact ⟨_, _, rfl, by rw [Nat.add_assoc]⟩
      obtain ⟨b, p, rfl, hv2⟩ := hv2
      exact ⟨_, _, hk, hv2, fun hz w _ d ty pos af g => pu_faddr hfld (hρ hz _ _ _ hx hv)⟩
    · exact ⟨_, _, h, rfl, fun hz w _ d ty pos af g => pu_faddr hfld (ev_v hρ hz hx)⟩
    · exact h.elim
  · exact h.elim
include hT in
theorem pvIdx_sound {x y : Operand} {s s' : SV} {t : Nat} (hx : ρ x = some s) (hy : ρ y = some s') (h : pvIdx og (lkA T.tys t) s s' K) : Good P B L h0 F (.index t x y) og K := by
  unfold pvIdx at h
  split at h
  · rename_i ht
    obtain ⟨j, hj, hk⟩ := h
    exact ⟨_, _, hk, rfl, fun hz w _ d ty pos af g => pu_idxn (td_str (hT.td ht) rfl) (ev_v hρ hz hx) (ev_v hρ hz hy) (gc_yes hj hz).1 (gc_yes hj hz).2⟩
  · exact h.elim
include hT in
theorem pvLen_sound {x : Operand} {s : SV} {t : Nat} {r : List TypeId} (hx : ρ x = some s) (h : pvLen B (lkA T.tys t) s K) : Good P B L h0 F (.call ⟨.builtin .len, ⟨[x]⟩, ⟨t :: r⟩⟩) og K := by
  unfold pvLen at h
  split at h
  · rename_i ht
    exact ⟨_, _, h, rfl, fun hz w _ d ty pos af g => pu_len_s (td_str (hT.td ht) rfl) rfl (ev_v hρ hz hx)⟩
  · rename_i ht
    exact ⟨_, _, h, rfl, fun hz w _ d ty pos af g => pu_len_sl (td_sl (hT.td ht) rfl).1 rfl (ev_v hρ hz hx)⟩
  · rename_i k f n cp ht
    obtain ⟨v, hv, hk⟩ := hasN_sound h
    have : ∃ a, v = .slice a n cp := by
      simp only [dvO] at hv
      split at hv <;> cases hv <;> exact ⟨_, rfl⟩
    obtain ⟨a, rfl⟩ := this
    exact ⟨_, _, hk, rfl, fun hz w _ d ty pos af g => pu_len_sl (td_sl (hT.td ht) rfl).1 rfl (hρ hz _ _ _ hx hv)⟩
  · exact h.elim
include hT hB in
/-- **A pure operation gives what was reckoned.** -/
theorem pv_sound {op : Op} (h : pv P T h0 F B og ρ K op) : Good P B L h0 F op og K := by
  unfold pv at h
  split at h
  · obtain ⟨s, hx, h⟩ := rd1_sound h
    obtain ⟨v, hv, hk⟩ := hasN_sound h
    exact ⟨s, v, hk, hv, fun hz w _ d ty pos af g => pu_move (hρ hz _ _ _ hx hv)⟩
  · obtain ⟨s, hx, h⟩ := rd1_sound h
    obtain ⟨v, hv, hk⟩ := hasN_sound h
    exact ⟨s, v, hk, hv, fun hz w _ d ty pos af g => pu_assign (hρ hz _ _ _ hx hv)⟩
  · obtain ⟨s, hx, h⟩ := rd1_sound h
    exact pvNil_sound hρ hx h
  · obtain ⟨s, hx, h⟩ := rd1_sound h
    obtain ⟨s', hy, h⟩ := rd1_sound h
    exact pvBin_sound hT hρ hx hy h
  · obtain ⟨s, hx, h⟩ := rd1_sound h
    exact pvUn_sound hρ hx h
  · obtain ⟨s, hx, h⟩ := rd1_sound h
    exact pvConv_sound hT hρ hx h
  · obtain ⟨s, hx, h⟩ := rd1_sound h
    split at h
    · split at h
      · rename_i v hv
        rw [nthV_eq] at hv
        exact ⟨_, _, h, rfl, fun hz w _ d ty pos af g => pu_extract (ev_v hρ hz hx) hv⟩
      · exact h.elim
    · exact h.elim
  · obtain ⟨vsl, hk, hv⟩ := argK_sound hρ h
    exact ⟨_, _, hk, rfl, fun hz w _ d ty pos af g => pu_mkfunc (hv hz)⟩
  · split at h
    · rename_i ht
      obtain ⟨s, hx, h⟩ := rd1_sound h
      exact pvFA_sound hT hρ ht rfl hx h
    · exact h.elim
  · split at h
    · rename_i ht
      obtain ⟨s, hx, h⟩ := rd1_sound h
      split at h
      · unfold pvField at h
        split at h
        · rename_i hf
          rw [nthV_eq] at hf
          obtain ⟨fa, f, g1, g2, g3, g4, g5⟩ := td_fld (hT.td ht) rfl hf
          split at h
          · rename_i v hv
            rw [nthV_eq] at hv
            exact ⟨_, _, h, rfl, fun hz w _ d ty pos af g => pu_field ⟨fa, f, g1, g2, g3, g5⟩ (ev_v hρ hz hx) hv⟩
          · exact h.elim
        · exact h.elim
      · exact h.elim
    · exact h.elim
  · obtain ⟨s, hx, h⟩ := rd1_sound h
    obtain ⟨s', hy, h⟩ := rd1_sound h
    exact pvIdx_sound hT hρ hx hy h
  · split at h
    · rename_i ht
      obtain ⟨s, hx, h⟩ := rd1_sound h
      exact pvSlice_sound hT hρ ht hx h
    · exact h.elim
  · split at h
    · rename_i ht
      obtain ⟨s, hx, h⟩ := rd1_sound h
      exact pvLoad_sound hT hB hρ ht hx h
    · exact h.elim
  · split at h
    · rename_i ht
      obtain ⟨cs, vsl, hk, hv, hf⟩ := bldK_sound hρ h
      exact ⟨_, _, hk, rfl, fun hz w _ d ty pos af g => pu_build_st (td_strb (hT.td ht) rfl) (hv hz) hf⟩
    · exact h.elim
  · obtain ⟨s, hx, h⟩ := rd1_sound h
    exact pvLen_sound hT hρ hx h
  · obtain ⟨s, hx, h⟩ := rd1_sound h
    obtain ⟨s', hy, h⟩ := rd1_sound h
    unfold pvMM at h
    split at h
    · obtain ⟨r, hr, hk⟩ := h
      exact ⟨_, _, hk, rfl, fun hz w _ d ty pos af g => pu_min (ev_v hρ hz hx) (ev_v hρ hz hy) (gc_yes hr hz)⟩
    · exact h.elim
  · obtain ⟨s, hx, h⟩ := rd1_sound h
    obtain ⟨s', hy, h⟩ := rd1_sound h
    unfold pvMM at h
    split at h
    · obtain ⟨r, hr, hk⟩ := h
      exact ⟨_, _, hk, rfl, fun hz w _ d ty pos af g => pu_max (ev_v hρ hz hx) (ev_v hρ hz hy) (gc_yes hr hz)⟩
    · exact h.elim
  · exact h.elim
end sound
end Go.Dx
