/- A run of operations, reckoned: in turn, or in whatever order. No condition. -/
import Derived.Test.YtopbpdgnjnoddaaDoorDx3
set_option linter.unusedSimpArgs false
set_option linter.unusedVariables false
namespace Go.Dx
open Go Go.RowKit

structure Cx where
  P : Program
  T : Tab
  md : Md
  n : Nat
  w0 : World
  h0 : View
  M : List Nat
  kp : List PanicEntry → Prop
  stop : List Nat
  cut : List Nat
abbrev FV := View → Prop
abbrev KR := SL → IL → BL → FV → Prop

def oeOf : OB → Option OE
  | .c b T cs => some (some b, CellsC T cs)
  | .k .. => none
  | .e e => some e
def oes (B : BL) : List OE := B.filterMap fun p => oeOf p.2
structure Sx (c : Cx) (B : BL) (F : FV) (w : World) : Prop where
  st : St c.w0 c.h0 c.M w (oes B) F
  bk : BOk c.h0 F B
structure Dn (c : Cx) (L : SL) (I : IL) (B : BL) (a : Act) : Prop where
  fr : Fr a c.n (fl L I B)
  inv : Inv L I
def PanOk (c : Cx) (Q : Exit → Act → World → Prop) : Prop := ∀ ch a w, c.kp ch → a.defers = [] → Keep c.M c.w0 w → Q (.panic ch) a w
def NormOk (c : Cx) (K : KR) (Q : Exit → Act → World → Prop) : Prop := ∀ L I B F a w, K L I B F → Dn c L I B a → Sx c B F w → Q .normal a w
/-- what stands behind the rest of a region -/
structure WP (c : Cx) (al l : List Oper) (L : SL) (I : IL) (B : BL) (F : FV) (K : KR) : Prop where
  run : ∀ Q a w, NormOk c K Q → PanOk c Q → Dn c L I B a → Sx c B F w → wpM c.md c.P al.toArray Q l a w

def noNm : SL → Nat → Bool
  | [], _ => true
  | (_, .o k _) :: r, d => bif Nat.beq k d then false else noNm r d
  | (_, .s k _ _ _) :: r, d => bif Nat.beq k d then false else noNm r d
  | (_, _) :: r, d => noNm r d
def noNmI : IL → Nat → Bool
  | [], _ => true
  | (_, ⟨_, _, _, .o k _⟩) :: r, d => bif Nat.beq k d then false else noNmI r d
  | (_, ⟨_, _, _, .s k _ _ _⟩) :: r, d => bif Nat.beq k d then false else noNmI r d
  | (_, _) :: r, d => noNmI r d
def noLab : IL → Nat → Bool
  | [], _ => true
  | (_, e) :: r, d => bif Nat.beq e.t d then false else noLab r d
def delK : IL → Nat → (IL → Prop) → Prop
  | [], _, K => K []
  | (k, e) :: r, d, K => bif Nat.beq k d then delK r d K else delK r d fun r' => K ((k, e) :: r')
def wr (n d : Nat) (s : SV) (L : SL) (I : IL) (X : SL → IL → Prop) : Prop :=
  bif Nat.blt d n && noLab I d then delK I d fun I' => X ((d, s) :: L) I' else False
def wrG (n d t : Nat) (c g : Bool) (s : SV) (L : SL) (I : IL) (X : SL → IL → Prop) : Prop :=
  bif Nat.blt d n && noLab I d && !Nat.beq d t then X ((d, .u) :: L) ((d, ⟨t, c, g, s⟩) :: I) else False
def fresh (d : Nat) (L : SL) (I : IL) (B : BL) (X : Prop) : Prop := match lkA B d with
  | some _ => False
  | none => bif noNm L d && noNmI I d then X else False
def setAK : BL → Nat → OB → (BL → Prop) → Prop
  | [], _, _, _ => False
  | (k, o) :: r, d, o', K => bif Nat.beq k d then K ((k, o') :: r) else setAK r d o' fun r' => K ((k, o) :: r')
def adB (a : Option Addr) : Nat := match a with
  | some x => x.block
  | none => 0
def adO (a : Option Addr) : Nat := match a with
  | some x => x.off
  | none => 0

/-- a call: by its answer, or by whatever it does -/
inductive CallG (c : Cx) (sq : Bool) (og : Option Bool) (B : BL) (F : FV) (f : Nat) (vsl : List Value) (Kv : SV → Prop) (W : Prop) : Prop where
  | v (x : Value) (H : gc og (∀ w, Sx c B F w → ∃ h, Calls c.P f vsl.toArray w (Ret w h fun u _ => u = x))) (k : Kv (.v x)) : CallG c sq og B F f vsl Kv W
  | w (hs : sq = true) (h : W) : CallG c sq og B F f vsl Kv W
  | r (e n : Nat) (cs : List Value) (hs : sq = false) (ho : og = none) (H : ∀ w, Sx c B F w → Calls c.P f vsl.toArray w (RetM [] w fun v w' => ∃ b, v = .slice (some ⟨b, 0, none⟩) n n ∧ NewRow w e cs b w')) (k : Kv (.r e n cs)) : CallG c sq og B F f vsl Kv W
def calG (c : Cx) (sq : Bool) (og : Option Bool) (B : BL) (F : FV) (ρ : Operand → Option SV) (f : Operand) (args : List Operand) (Kv : SV → Prop) (W : Prop) : Prop := match f with
  | .func g => bif memF c.T.fs g then argK ρ B args fun vsl => CallG c sq og B F g vsl Kv W else False
  | x => rd1 ρ x fun s => match s with
    | .v (.func (.func g) ⟨first⟩ ⟨cap⟩) => bif memF c.T.fs g then argK ρ B args fun vsl => CallG c sq og B F g (first ++ vsl ++ cap) Kv W else False
    | _ => False
def ElC (h0 : View) (F : FV) (ad : Option Addr) (o : Nat) (cs : List Value) : Prop := ∀ v, VLe h0 v → F v → ad = some ⟨adB ad, adO ad, none⟩ ∧ ∀ w, VLe v (Full w) → ∀ j x, cs[j]? = some x → w.cell? ⟨adB ad, adO ad + o + j, none⟩ = some x
/-- an element of a slice -/
def ixG (c : Cx) (F : FV) (og : Option Bool) (td : Option TD) (s s' : SV) (X : Nat → Nat → List Value → Prop) : Prop := match td, s, s' with
  | some ⟨.sl _ sz, _, _, _⟩, .v (.slice ad n _), .v (.int _ i) => ∃ (j : Nat) (cs : List Value), gc og (i = (j : Int) ∧ j < n ∧ ElC c.h0 F ad (j * sz) cs) ∧ X (adB ad) (adO ad + j * sz) cs
  | _, _, _ => False
def isSl (td : Option TD) : Bool := match td with
  | some ⟨.sl _ _, _, _, _⟩ => true
  | _ => false
def usC (I : IL) (cx : Option (Nat × Bool)) (t : Nat) (c : Bool) : Bool := match cx with
  | none => false
  | some (t0, c0) => usb I 8 t0 c0 t c
/-- an arm of a choice -/
def armS (L : SL) (I : IL) (cx : Option (Nat × Bool)) (tc : Nat) (p : Bool) : Operand → Option SV
  | .tmp t => match lkA I t with
    | some e => bif (Nat.beq e.t tc && bq e.c p) || usC I cx e.t e.c then some e.s else none
    | none => lkA L t
  | .const v => some (.v v)
  | _ => none
def pickK (b : Bool) (x y : Operand) (sx sy : Option SV) (K : SV → Prop) : Prop := match sx, sy with
  | some (.v vx), some (.v vy) => match x, y with
    | .const (.bool true), _ => match vy with
      | .bool q => K (.v (.bool (b || q)))
      | _ => False
    | _, .const (.bool false) => match vx with
      | .bool p => K (.v (.bool (b && p)))
      | _ => False
    | _, _ => match vx, vy with
      | .bool p, .bool q => K (.v (.bool (bif b then p else q)))
      | .int k m, .int k2 n => bif ikb k k2 then K (.v (.int k (bif b then m else n))) else False
      | .string ⟨⟨l⟩⟩, .string ⟨⟨l'⟩⟩ => K (.v (vs (bif b then l else l')))
      | _, _ => K (.v (bif b then vx else vy))
  | _, _ => False
def pkG (L : SL) (I : IL) (cx : Option (Nat × Bool)) (x y z : Operand) (K : SV → Prop) : Prop := match x with
  | .tmp tc => match rdT L I cx tc with
    | some (.v (.bool b)) => pickK b y z (armS L I cx tc true y) (armS L I cx tc false z) K
    | _ => False
  | _ => False
/-- the operands of a row that is built, in their order -/
def unEnum : Nat → List (Nat × Operand) → Option (List Operand)
  | _, [] => some []
  | k, (i, x) :: r => bif Nat.beq i k then (match unEnum (k + 1) r with
    | some l => some (x :: l)
    | none => none) else none
def bslK (ρ : Operand → Option SV) (B : BL) (sz : Nat) : List Operand → (List Value → Prop) → Prop
  | [], K => K []
  | x :: r, K => rd1 ρ x fun s => celK B s fun cs => bif lenB cs sz then bslK ρ B sz r fun rest => K (cs ++ rest) else False
def bsl (ρ : Operand → Option SV) (B : BL) (T : Tab) (t len : Nat) (ps : List (Nat × Operand)) (X : Nat → List Value → Prop) : Prop := match lkA T.tys t with
  | some ⟨.sl e sz, _, _, _⟩ => match lkA T.tys e, unEnum 0 ps with
    | some te, some xs => bif lenB te.z sz && Nat.beq xs.length len && Nat.ble (len * sz) 16777216 then bslK ρ B sz xs fun cs => X e cs else False
    | _, _ => False
  | _ => False
/-- bytes to text -/
def strS (sq : Bool) (B : BL) (x : SV) (X : List Value → Prop) : Prop := match x with
  | .r _ n cs => bif !sq && lenB cs n then X cs else False
  | .s k f n _ => match lkA B k with
    | some (.c _ _ cs) => bif Nat.beq f 0 && lenB cs n then X cs else False
    | _ => False
  | _ => False
def isBytes (T : Tab) (a b : Nat) : Bool := match lkA T.tys a, lkA T.tys b with
  | some ⟨.sl e _, _, _, _⟩, some ⟨.str, _, _, _⟩ => match lkA T.tys e with
    | some ⟨.int .u8, _, _, _⟩ => true
    | _ => false
  | _, _ => false
/-- a call with a new row among its arguments -/
def splitR (ρ : Operand → Option SV) : List Operand → Option (List Operand × List Operand × Nat × Nat × List Value)
  | [] => none
  | x :: r => match ρ x with
    | some (.r e n cs) => some ([], r, e, n, cs)
    | _ => match splitR ρ r with
      | some (l, q) => some (x :: l, q)
      | none => none
structure CallR (c : Cx) (B : BL) (F : FV) (f : Nat) (vsl vsr : List Value) (e n : Nat) (cs : List Value) (Kv : SV → Prop) : Prop where
  ex : ∃ x : Value, (∀ (w : World) (b : Nat), Sx c B F w → w.heap[b]? = some (.cells cs.toArray e (0, 0)) → ∃ h, Calls c.P f (vsl ++ Value.slice (some ⟨b, 0, none⟩) n n :: vsr).toArray w (Ret w h fun u _ => u = x)) ∧ Kv (.v x)
def isPure : Op → Bool
  | .move _ | .assign _ | .nilCheck _ | .binOp .. | .unOp .. | .convert .. | .extract .. | .makeFunc .. | .fieldAddr .. | .field .. | .index .. | .slice .. | .load .. | .build .. => true
  | .call ⟨.builtin .len, _, _⟩ | .call ⟨.builtin .min, _, _⟩ | .call ⟨.builtin .max, _, _⟩ => true
  | _ => false
def stepB (c : Cx) (sq : Bool) (dst : Option Nat) (op : Op) (L : SL) (I : IL) (B : BL) (F : FV) (X : SL → IL → BL → FV → Prop) (W : Prop) : Prop := match dst with
  | some d => match op with
    | .alloc t => match sq, lkA c.T.tys t with
      | true, some td => fresh d L I B (∀ b : Nat, wr c.n d (.o d 0) L I fun L I => X L I ((d, .c b t td.z) :: B) F)
      | _, _ => False
    | .box t x => match sq with
      | true => rd1 (rdS L I none) x fun s => celK B s fun cs => fresh d L I B (∀ b : Nat, wr c.n d (.o d 0) L I fun L I => X L I ((d, .c b t cs) :: B) F)
      | false => False
    | .pick x y z => pkG L I none x y z fun s => hasN B s (wr c.n d s L I fun L I => X L I B F)
    | .call ⟨.value f, ⟨args⟩, _⟩ => match splitR (rdS L I none) args, f with
      | some (xs, ys, e, n, cs), .func g => bif memF c.T.fs g && !sq then argK (rdS L I none) B xs fun vsl => argK (rdS L I none) B ys fun vsr => CallR c B F g vsl vsr e n cs fun s => wr c.n d s L I fun L I => X L I B F else False
      | _, _ => calG c sq none B F (rdS L I none) f args (fun s => wr c.n d s L I fun L I => X L I B F) W
    | .buildSlice t len ⟨ps⟩ => bsl (rdS L I none) B c.T t len ps fun e cs => match sq with
      | true => fresh d L I B (∀ b : Nat, wr c.n d (.s d 0 len len) L I fun L I => X L I ((d, .c b e cs) :: B) F)
      | false => wr c.n d (.r e len cs) L I fun L I => X L I B F
    | .convert a b x => bif isBytes c.T a b then rd1 (rdS L I none) x fun s => strS sq B s fun cs => ∃ l : List UInt8, cs = l.map v8 ∧ wr c.n d (.v (vs l)) L I fun L I => X L I B F
      else pv c.P c.T c.h0 F B none (rdS L I none) (fun s => wr c.n d s L I fun L I => X L I B F) (.convert a b x)
    | .indexAddr t x y => bif isSl (lkA c.T.tys t) then rd1 (rdS L I none) x fun s => rd1 (rdS L I none) y fun s' => ixG c F none (lkA c.T.tys t) s s' fun b o cs =>
        fresh d L I B (wr c.n d (.o d 0) L I fun L I => X L I ((d, .k none b o cs) :: B) F) else False
    | op => bif isPure op then pv c.P c.T c.h0 F B none (rdS L I none) (fun s => wr c.n d s L I fun L I => X L I B F) op else sq = true ∧ W
  | none => match op with
    | .store t a x => match sq, lkA c.T.tys t with
      | true, some td => rd1 (rdS L I none) a fun s => match s with
        | .o k f => match lkA B k with
          | some (.c b T' cs) => rd1 (rdS L I none) x fun s' => celK B s' fun new => bif lenB new td.sz && allOne new then setK cs f new fun cs' => setAK B k (.c b T' cs') fun B' => X L I B' F else False
          | _ => W
        | _ => W
      | _, _ => False
    | .call ⟨.value f, ⟨args⟩, _⟩ => calG c sq none B F (rdS L I none) f args (fun _ => X L I B F) W
    | _ => sq = true ∧ W
def stepU (c : Cx) (sq : Bool) (dst : Option Nat) (op : Op) (L : SL) (I : IL) (B : BL) (F : FV) (X : SL → IL → BL → FV → Prop) (W : Prop) : Prop := match dst with
  | some d => bif memF c.stop d then sq = true ∧ W else stepB c sq (some d) op L I B F X W
  | none => stepB c sq none op L I B F X W
def stepG' (c : Cx) (sq : Bool) (d : Nat) (op : Op) (t : Nat) (b g : Bool) (L : SL) (I : IL) (B : BL) (F : FV) (X : SL → IL → BL → FV → Prop) : Prop := match op with
  | .pick x y z => pkG L I (some (t, b)) x y z fun s => hasN B s (wrG c.n d t b g s L I fun L I => X L I B F)
  | .call ⟨.value f, ⟨args⟩, _⟩ => calG c sq (some g) B F (rdS L I (some (t, b))) f args (fun s => wrG c.n d t b g s L I fun L I => X L I B F) False
  | .indexAddr t' x y => bif isSl (lkA c.T.tys t') then rd1 (rdS L I (some (t, b))) x fun s => rd1 (rdS L I (some (t, b))) y fun s' => ixG c F (some g) (lkA c.T.tys t') s s' fun bb o cs =>
      fresh d L I B (wrG c.n d t b g (.o d 0) L I fun L I => X L I ((d, .k (some g) bb o cs) :: B) F) else False
  | op => bif isPure op then pv c.P c.T c.h0 F B (some g) (rdS L I (some (t, b))) (fun s => wrG c.n d t b g s L I fun L I => X L I B F) op else False
def stepG (c : Cx) (sq : Bool) (d : Nat) (op : Op) (t : Nat) (b g : Bool) (L : SL) (I : IL) (B : BL) (F : FV) (X : SL → IL → BL → FV → Prop) (W : Prop) : Prop :=
  bif memF c.stop (2000000 + d) then g = true ∧ stepB c sq (some d) op L I B F X W else stepG' c sq d op t b g L I B F X
def guardAt (al : List Oper) (L : SL) (I : IL) (j : Nat) (b : Bool) (X : Nat → Bool → Prop) : Prop := match nthV al j with
  | some ⟨some t, _, _, _, _, _⟩ => match gx L I t b with
    | some g => X t g
    | none => False
  | _ => False
def runs (c : Cx) (al : List Oper) (sq : Bool) (K : KR) : List Oper → SL → IL → BL → FV → Prop
  | [], L, I, B, F => K L I B F
  | ⟨dst, op, ty, pos, af, none⟩ :: r, L, I, B, F => stepU c sq dst op L I B F (fun L I B F => runs c al sq K r L I B F) (WP c al (⟨dst, op, ty, pos, af, none⟩ :: r) L I B F K)
  | ⟨some d, op, ty, pos, af, some (j, b)⟩ :: r, L, I, B, F => guardAt al L I j b fun t g => stepG c sq d op t b g L I B F (fun L I B F => runs c al sq K r L I B F) (WP c al (⟨some d, op, ty, pos, af, none⟩ :: r) L I B F K)
  | ⟨none, _, _, _, _, some _⟩ :: _, _, _, _, _ => False

/-! ### Frames, as they go on -/
def nmOf : SV → Option Nat
  | .o k _ => some k
  | .s k _ _ _ => some k
  | _ => none
theorem noNm_ne : ∀ {L : SL} {d : Nat}, noNm L d = true → ∀ i s, (i, s) ∈ L → nmOf s ≠ some d
  | [], _, _, i, s, h => by cases h
  | (k, s0) :: r, d, h, i, s, hm => by
    have key : nmOf s0 ≠ some d ∧ noNm r d = true := by
      cases s0 with
      | o k' f' =>
        by_cases hk : k' = d
        · subst hk; simp [noNm] at h
        · exact ⟨by simpa [nmOf] using hk, by simpa [noNm, beq_ne hk] using h⟩
      | s k' f' n cp =>
        by_cases hk : k' = d
        · subst hk; simp [noNm] at h
        · exact ⟨by simpa [nmOf] using hk, by simpa [noNm, beq_ne hk] using h⟩
      | _ => exact ⟨by simp [nmOf], h⟩
    rcases List.mem_cons.1 hm with e | hm
    · obtain ⟨-, rfl⟩ := Prod.mk.inj e
      exact key.1
    · exact noNm_ne key.2 i s hm
theorem noNmI_ne : ∀ {I : IL} {d : Nat}, noNmI I d = true → ∀ i e, (i, e) ∈ I → nmOf e.s ≠ some d
  | [], _, _, i, s, h => by cases h
  | (k, ⟨t, c, g, s0⟩) :: r, d, h, i, e, hm => by
    have key : nmOf s0 ≠ some d ∧ noNmI r d = true := by
      cases s0 with
      | o k' f' =>
        by_cases hk : k' = d
        · subst hk; simp [noNmI] at h
        · exact ⟨by simpa [nmOf] using hk, by simpa [noNmI, beq_ne hk] using h⟩
      | s k' f' n cp =>
        by_cases hk : k' = d
        · subst hk; simp [noNmI] at h
        · exact ⟨by simpa [nmOf] using hk, by simpa [noNmI, beq_ne hk] using h⟩
      | _ => exact ⟨by simp [nmOf], h⟩
    rcases List.mem_cons.1 hm with e | hm
    · obtain ⟨-, rfl⟩ := Prod.mk.inj e
      exact key.1
    · exact noNmI_ne key.2 i e hm
theorem dvO_new {B : BL} {d : Nat} {ob : OB} {s : SV} (h : nmOf s ≠ some d) : dvO ((d, ob) :: B) s = dvO B s := by
  cases s with
  | o k f =>
    have : d ≠ k := fun e => h (by rw [e]; rfl)
    simp only [dvO, lkA_ne this]
  | s k f n cp =>
    have : d ≠ k := fun e => h (by rw [e]; rfl)
    simp only [dvO, lkA_ne this]
  | _ => rfl
theorem fl_new {L : SL} {I : IL} {B : BL} {d : Nat} {ob : OB} (h1 : noNm L d = true) (h2 : noNmI I d = true) : fl L I ((d, ob) :: B) = fl L I B := by
  unfold fl
  congr 1
  · apply List.map_congr_left
    intro p hp
    have := noNmI_ne h2 p.1 p.2 hp
    simp only [kI, dv, dvO_new this]
  · apply List.map_congr_left
    intro p hp
    have := noNm_ne h1 p.1 p.2 hp
    simp only [entS, dvO_new this]
theorem fresh_sound {d : Nat} {L : SL} {I : IL} {B : BL} {X : Prop} (h : fresh d L I B X) : lkA B d = none ∧ (∀ ob, fl L I ((d, ob) :: B) = fl L I B) ∧ X := by
  unfold fresh at h
  split at h
  · exact h.elim
  · rename_i hl
    cases hn : (noNm L d && noNmI I d) with
    | false => rw [hn] at h; exact h.elim
    | true =>
      rw [hn] at h
      simp only [Bool.and_eq_true] at hn
      exact ⟨hl, fun ob => fl_new hn.1 hn.2, h⟩
theorem delK_sound : ∀ {I : IL} {d : Nat} {K : IL → Prop}, delK I d K → ∃ I', K I' ∧ ∀ i, lkA I' i = if i = d then none else lkA I i
  | [], d, K, h => ⟨[], h, fun i => by simp [lkA]⟩
  | (k, e) :: r, d, K, h => by
    unfold delK at h
    by_cases hk : k = d
    · subst hk
      simp only [Nat.beq_refl, cond_true] at h
      obtain ⟨I', h1, h2⟩ := delK_sound h
      refine ⟨I', h1, fun i => ?_⟩
      rw [h2]
      split
      · rfl
      · rename_i hi; rw [lkA_ne (Ne.symm hi)]
    · simp only [beq_ne hk, cond_false] at h
      obtain ⟨I', h1, h2⟩ := delK_sound h
      refine ⟨_, h1, fun i => ?_⟩
      by_cases hi : k = i
      · subst hi; rw [lkA_eq, lkA_eq, if_neg hk]
      · rw [lkA_ne hi, lkA_ne hi, h2]
theorem noLab_ne : ∀ {I : IL} {d : Nat}, noLab I d = true → ∀ i e, (i, e) ∈ I → e.t ≠ d
  | [], _, _, _, _, h => by cases h
  | (k, e0) :: r, d, h, i, e, hm => by
    unfold noLab at h
    by_cases hk : e0.t = d
    · rw [hk] at h; simp at h
    · simp only [beq_ne hk, cond_false] at h
      rcases List.mem_cons.1 hm with e1 | hm
      · cases e1; exact hk
      · exact noLab_ne h i e hm
theorem gx_ne {L L' : SL} {I I' : IL} {t : Nat} {c : Bool} (h1 : lkA I' t = lkA I t) (h2 : lkA L' t = lkA L t) : gx L' I' t c = gx L I t c := by
  unfold gx; rw [h1, h2]
/-- rows known behind a write -/
def RwOk (d : Nat) (s : Option SV) (L : SL) (I : IL) (L' : SL) (I' : IL) : Prop := ∀ t e m cs, lkA I' t = none → lkA L' t = some (.r e m cs) → (t = d ∧ s = some (.r e m cs)) ∨ (t ≠ d ∧ lkA I t = none ∧ lkA L t = some (.r e m cs))
/-- values known behind a write -/
theorem wr_sound {n d : Nat} {s : SV} {L : SL} {I : IL} {X : SL → IL → Prop} (hI : Inv L I) (h : wr n d s L I X) :
    ∃ L' I', X L' I' ∧ Inv L' I' ∧ Nat.blt d n = true ∧ (∀ B t, kv L' I' B t = if t = d then dvO B s else kv L I B t) ∧ RwOk d (some s) L I L' I' := by
  unfold wr at h
  cases hb : (Nat.blt d n && noLab I d) with
  | false => rw [hb] at h; exact h.elim
  | true =>
    rw [hb] at h
    simp only [Bool.and_eq_true] at hb
    obtain ⟨I', hX, hI'⟩ := delK_sound h
    refine ⟨_, I', hX, fun i e hi => ?_, hb.1, fun B t => ?_, fun t e m cs h1 h2 => ?_⟩
    rotate_left
    rotate_left
    · by_cases ht : t = d
      · subst ht; rw [lkA_eq] at h2; exact .inl ⟨rfl, h2⟩
      · rw [lkA_ne (Ne.symm ht)] at h2
        rw [hI', if_neg ht] at h1
        exact .inr ⟨ht, h1, h2⟩
    · rw [hI'] at hi
      split at hi
      · cases hi
      · have hne := noLab_ne hb.2 i e (lkA_mem hi)
        rw [← hI i e hi]
        exact gx_ne (by rw [hI', if_neg hne]) (lkA_ne (Ne.symm hne) _ _)
    · unfold kv
      rw [hI']
      by_cases ht : t = d
      · subst ht; simp only [if_true]; rw [lkA_eq]
      · simp only [if_neg ht]; rw [lkA_ne (Ne.symm ht)]
theorem wrG_sound {n d t0 : Nat} {c g : Bool} {s : SV} {L : SL} {I : IL} {X : SL → IL → Prop} (hI : Inv L I) (hg : gx L I t0 c = some g) (h : wrG n d t0 c g s L I X) :
    ∃ L' I', X L' I' ∧ Inv L' I' ∧ Nat.blt d n = true ∧ (∀ B t, kv L' I' B t = if t = d then some (bif g then dv B s else undef) else kv L I B t) ∧ RwOk d none L I L' I' := by
  unfold wrG at h
  cases hb : (Nat.blt d n && noLab I d && !Nat.beq d t0) with
  | false => rw [hb] at h; exact h.elim
  | true =>
    rw [hb] at h
    simp only [Bool.and_eq_true, Bool.not_eq_true'] at hb
    have hdt : d ≠ t0 := fun e => by subst e; simp at hb
    refine ⟨_, _, h, fun i e hi => ?_, hb.1.1, fun B t => ?_, fun t e m cs h1 h2 => ?_⟩
    rotate_left
    rotate_left
    · by_cases ht : t = d
      · subst ht; rw [lkA_eq] at h1; cases h1
      · rw [lkA_ne (Ne.symm ht)] at h1 h2
        exact .inr ⟨ht, h1, h2⟩
    · by_cases hid : d = i
      · subst hid
        rw [lkA_eq] at hi
        cases hi
        rw [← hg]
        exact gx_ne (lkA_ne hdt _ _) (lkA_ne hdt _ _)
      · rw [lkA_ne hid] at hi
        have hne := noLab_ne hb.1.2 i e (lkA_mem hi)
        rw [← hI i e hi]
        exact gx_ne (lkA_ne (Ne.symm hne) _ _) (lkA_ne (Ne.symm hne) _ _)
    · unfold kv
      by_cases ht : t = d
      · subst ht; rw [lkA_eq]; simp [kI]
      · rw [lkA_ne (Ne.symm ht), lkA_ne (Ne.symm ht), if_neg ht]
theorem Fr.of_kv {a : Act} {n : Nat} {L : SL} {I : IL} {B : BL} (hd : a.defers = []) (hs : a.tmps.size = n) (h : ∀ t v, kv L I B t = some v → a.tmps.getD t undef = v) : Fr a n (fl L I B) :=
  ⟨hd, hs, fun t v ht => h t v (by rwa [vl_fl] at ht)⟩
theorem Fr.kv {a : Act} {n : Nat} {L : SL} {I : IL} {B : BL} (hF : Fr a n (fl L I B)) {t : Nat} {v : Value} (h : kv L I B t = some v) : a.tmps.getD t undef = v := hF.at_ t v (by rwa [vl_fl])
theorem put_at {a : Act} {n d : Nat} {v : Value} (hs : a.tmps.size = n) (hd : Nat.blt d n = true) (t : Nat) : (a.put (some d) v).tmps.getD t undef = if t = d then v else a.tmps.getD t undef := by
  have hlt : d < n := by simpa [Nat.blt_eq] using hd
  by_cases ht : t = d
  · subst ht; simp [Act.put, hs, hlt]
  · simp [Act.put, Array.getElem?_setIfInBounds_ne (Ne.symm ht), ht]
theorem Dn.put {c : Cx} {L L' : SL} {I I' : IL} {B : BL} {a : Act} {d : Nat} {r : Option Value} {v : Value} (hD : Dn c L I B a) (hd : Nat.blt d c.n = true) (hI : Inv L' I') (hk : ∀ t, kv L' I' B t = if t = d then r else kv L I B t) (hr : ∀ u, r = some u → u = v) :
    Dn c L' I' B (a.put (some d) v) := by
  refine ⟨Fr.of_kv (by rw [put_df]; exact hD.fr.df) (by rw [put_size]; exact hD.fr.sz) fun t u hu => ?_, hI⟩
  rw [put_at hD.fr.sz hd]
  rw [hk] at hu
  by_cases ht : t = d
  · rw [if_pos ht] at hu ⊢; exact (hr u hu).symm
  · rw [if_neg ht] at hu ⊢; exact hD.fr.kv hu

/-! ### The memory, as it goes on -/
theorem oes_mem {B : BL} {k : Nat} {ob : OB} {e : OE} (h : lkA B k = some ob) (he : oeOf ob = some e) : e ∈ oes B :=
  List.mem_filterMap.2 ⟨(k, ob), lkA_mem h, he⟩
theorem Sx.wok {c : Cx} {B : BL} {F : FV} {w : World} (h : Sx c B F w) : WOk c.h0 F B w :=
  ⟨⟨_, h.st.base_cv, h.st.facts, h.st.view⟩, fun k b T cs hl => by
    have := h.st.own _ (oes_mem hl rfl)
    simpa [CellsC] using this⟩
theorem setAK_sound : ∀ {B : BL} {k : Nat} {b T : Nat} {cs cs' : List Value} {K : BL → Prop}, lkA B k = some (.c b T cs) → setAK B k (.c b T cs') K →
    ∃ B' i, K B' ∧ (oes B)[i]? = some (some b, CellsC T cs) ∧ oes B' = (oes B).set i (some b, CellsC T cs') ∧ (∀ m, lkA B' m = if m = k then some (.c b T cs') else lkA B m) ∧ ∀ p ∈ B', p ∈ B ∨ p.2 = .c b T cs'
  | [], k, b, T, cs, cs', K, h, _ => by simp [lkA] at h
  | (k0, o0) :: r, k, b, T, cs, cs', K, h, hK => by
    unfold setAK at hK
    by_cases hk : k0 = k
    · subst hk
      rw [lkA_eq] at h
      cases h
      simp only [Nat.beq_refl, cond_true] at hK
      refine ⟨_, 0, hK, rfl, rfl, fun m => ?_, fun p hp => ?_⟩
      · by_cases hm : m = k0
        · subst hm; rw [lkA_eq, if_pos rfl]
        · rw [lkA_ne (Ne.symm hm), lkA_ne (Ne.symm hm), if_neg hm]
      · rcases List.mem_cons.1 hp with rfl | hp
        · exact .inr rfl
        · exact .inl (List.mem_cons_of_mem _ hp)
    · rw [lkA_ne hk] at h
      simp only [beq_ne hk, cond_false] at hK
      obtain ⟨B', i, h1, h2, h3, h4, h5⟩ := setAK_sound h hK
      have hmem : ∀ p ∈ (k0, o0) :: B', p ∈ (k0, o0) :: r ∨ p.2 = .c b T cs' := fun p hp => by
        rcases List.mem_cons.1 hp with rfl | hp
        · exact .inl (by simp)
        · rcases h5 p hp with h | h
          · exact .inl (List.mem_cons_of_mem _ h)
          · exact .inr h
      have hl : ∀ m, lkA ((k0, o0) :: B') m = if m = k then some (.c b T cs') else lkA ((k0, o0) :: r) m := fun m => by
        by_cases hm : k0 = m
        · subst hm; rw [lkA_eq, lkA_eq, if_neg hk]
        · rw [lkA_ne hm, lkA_ne hm, h4]
      cases ho : oeOf o0 with
      | none =>
        have e : ∀ r : BL, oes ((k0, o0) :: r) = oes r := fun r => by unfold oes; rw [List.filterMap_cons]; simp only [ho]
        exact ⟨_, i, h1, by rw [e]; exact h2, by rw [e, e]; exact h3, hl, hmem⟩
      | some e0 =>
        have e : ∀ r : BL, oes ((k0, o0) :: r) = e0 :: oes r := fun r => by unfold oes; rw [List.filterMap_cons]; simp only [ho]
        exact ⟨_, i + 1, h1, by rw [e]; simpa using h2, by rw [e, e, h3]; rfl, hl, hmem⟩
theorem dvO_setA {B B' : BL} {k b T : Nat} {cs cs' : List Value} (hl : lkA B k = some (.c b T cs)) (h : ∀ m, lkA B' m = if m = k then some (.c b T cs') else lkA B m) (s : SV) : dvO B' s = dvO B s := by
  cases s with
  | o m f =>
    simp only [dvO, h]
    by_cases hm : m = k
    · subst hm; rw [if_pos rfl, hl]
    · rw [if_neg hm]
  | s m f n cp =>
    simp only [dvO, h]
    by_cases hm : m = k
    · subst hm; rw [if_pos rfl, hl]
    · rw [if_neg hm]
  | _ => rfl
theorem fl_congr {L : SL} {I : IL} {B B' : BL} (h : ∀ s, dvO B' s = dvO B s) : fl L I B' = fl L I B := by
  unfold fl
  have e1 : kI B' = kI B := by funext e; simp only [kI, dv, h]
  have e2 : entS B' = entS B := by funext s; simp only [entS, h]
  rw [e1, e2]
end Go.Dx
