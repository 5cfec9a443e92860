/- Laws of walks, and what functions of the program compute: part 3. Each with the conditions that it names. -/
import Derived.OrdersHeld
import Derived.Lib.Builder
import Derived.Lib.UnsafeStr
import Derived.Laws.Pointers
import Derived.Laws.Externs
import Derived.RangeFuncRecord
import Derived.Lib.ItoaNum
import Derived.Lib.ItoaLen
import Derived.Lib.Join
import Derived.Test.YtcdbgeefhpmjfaaGreatDoorEaMb
set_option linter.unusedSimpArgs false
set_option linter.unusedVariables false
namespace Go.Dx
open Go Go.RowKit
def Closed (ops : Array Oper) (listed : Array Bool) : Prop := ∀ j oj, ops[j]? = some oj → listed.getD j false = true → ∀ e ∈ oj.after, Region.binds .any e = true → listed.getD e.on false = true
def depB (ops : Array Oper) : Nat → Nat → Nat → Bool
  | 0, _, _ => false
  | f + 1, j, i => match ops[j]? with
    | some o => o.after.any fun e => Region.binds .any e && (Nat.beq e.on i || depB ops f e.on i)
    | none => false
theorem depB_listed {ops : Array Oper} {listed : Array Bool} (hc : Closed ops listed) : ∀ (f j i : Nat) (oj : Oper), ops[j]? = some oj → (∀ e ∈ oj.after, Region.binds .any e = true → listed.getD e.on false = true) → depB ops f j i = true → listed.getD i false = true
  | 0, j, i, oj, _, _, h => by simp [depB] at h
  | f + 1, j, i, oj, ho, he, h => by
    unfold depB at h
    rw [ho] at h
    obtain ⟨e, hm, hb⟩ := Array.any_eq_true'.1 h
    simp only [Bool.and_eq_true, Bool.or_eq_true] at hb
    have hl := he e hm hb.1
    rcases hb.2 with h1 | h1
    · rw [← Nat.eq_of_beq_eq_true h1]; exact hl
    · cases hoe : ops[e.on]? with
      | none => cases f <;> simp [depB, hoe] at h1
      | some o2 => exact depB_listed hc f e.on i o2 hoe (hc e.on o2 hoe hl) h1
theorem Closed.set {ops : Array Oper} {listed : Array Bool} {i : Nat} (hc : Closed ops listed) (hi : i ∈ Region.ready .any ops listed) : Closed ops (listed.setIfInBounds i true) := by
  have mono : ∀ k, listed.getD k false = true → (listed.setIfInBounds i true).getD k false = true := fun k h => by
    by_cases hk : i = k
    · subst hk
      have : i < listed.size := by
        rcases Nat.lt_or_ge i listed.size with h' | h'
        · exact h'
        · simp [Array.getElem?_eq_none h'] at h
      simp [this]
    · simpa [Array.getElem?_setIfInBounds_ne hk] using h
  intro j oj hj hl e he hb
  by_cases hk : i = j
  · subst hk
    obtain ⟨_, o, ho, hall⟩ := mem_ready.1 hi
    rw [hj] at ho; cases ho
    exact mono _ (hall e he hb)
  · refine mono _ (hc j oj hj ?_ e he hb)
    simpa [Array.getElem?_setIfInBounds_ne hk] using hl
section anyS
variable {P : Program} {ops : Array Oper} {Q : Exit → Act → World → Prop} {S : World → Prop} {nd : Nat → Bool}
def wpAnyS (P : Program) (ops : Array Oper) (Q : Exit → Act → World → Prop) (nd : Nat → Bool) (S : World → Prop) : Nat → Array Bool → Act → World → Prop
  | 0, listed, a, w => Region.ready .any ops listed = [] ∧ Q .normal a w
  | f + 1, listed, a, w => (Region.ready .any ops listed = [] → Q .normal a w) ∧ ∀ i ∈ Region.ready .any ops listed, wpOp P ops Q i (fun a' w' => (nd i = true → S w') ∧ wpAnyS P ops Q nd S f (listed.setIfInBounds i true) a' w') a w
theorem wpAny_of_S : ∀ (f : Nat) (listed : Array Bool) (a : Act) (w : World), wpAnyS P ops Q nd S f listed a w → wpAny P .any ops Q f listed a w
  | 0, _, _, _, h => h
  | f + 1, _, _, _, h => ⟨h.1, fun i hi => wpOp_mono (fun a' w' h' => wpAny_of_S f _ a' w' h'.2) (h.2 i hi)⟩
theorem getD_set_ne' {listed : Array Bool} {i j : Nat} (b : Bool) (h : i ≠ j) : (listed.setIfInBounds i true).getD j b = listed.getD j b := by
  simp [Array.getElem?_setIfInBounds_ne h]
theorem wpAnyS_first {i : Nat} {oi : Oper} {v : Value} (hi : ops[i]? = some oi) (hsel : Region.noSelect ops = true) (hQ : ∀ c a w, Q (.panic c) (a.put oi.dst v) w → Q (.panic c) a w)
    (hnd : ∀ j, nd j = false → j ≠ i → ∃ f, depB ops f j i = true) : ∀ (f : Nat) (listed : Array Bool) (a : Act) (w : World), Closed ops listed →
      (∀ j oj, ops[j]? = some oj → j ≠ i → listed.getD j true = false → (∀ e ∈ oj.after, Region.binds .any e = true → e.on ≠ i) → oi.apart ops oj = true) →
      i ∈ Region.ready .any ops listed → YieldsIf P ops S oi v a → S w → wpAnyS P ops Q nd S f (listed.setIfInBounds i true) (a.put oi.dst v) w → wpAnyS P ops Q nd S (f + 1) listed a w := by
  intro f
  induction f with
  | zero =>
    intro listed a w _ _ hr hy hS H
    refine ⟨fun h => (by rw [h] at hr; cases hr), fun j hj => ?_⟩
    by_cases hji : j = i
    · subst hji; exact hy.wpOp hi hS ⟨fun _ => hS, H⟩
    · exfalso
      obtain ⟨h1, o, ho, hall⟩ := mem_ready.1 hj
      have : j ∈ Region.ready .any ops (listed.setIfInBounds i true) := mem_ready.2 ⟨by rw [getD_set_ne' true (Ne.symm hji)]; exact h1, o, ho, fun e he hb => by
        have := hall e he hb
        by_cases hk : i = e.on
        · have h2 := (mem_ready.1 hr).1
          rw [hk] at h2
          rw [getD_both h2] at this; cases this
        · rw [getD_set_ne' false hk]; exact this⟩
      rw [H.1] at this
      cases this
  | succ f ih =>
    intro listed a w hc hfree hr hy hS H
    refine ⟨fun h => (by rw [h] at hr; cases hr), fun j hj => ?_⟩
    by_cases hji : j = i
    · subst hji; exact hy.wpOp hi hS ⟨fun _ => hS, H⟩
    · obtain ⟨hjun, oj, hoj, hall⟩ := mem_ready.1 hj
      have hiun := (mem_ready.1 hr).1
      have hnot : ∀ e ∈ oj.after, Region.binds .any e = true → e.on ≠ i := fun e he hb heq => by
        have h1 := hall e he hb
        rw [heq, getD_both hiun] at h1; cases h1
      have hjr : j ∈ Region.ready .any ops (listed.setIfInBounds i true) := mem_ready.2 ⟨by rw [getD_set_ne' true (Ne.symm hji)]; exact hjun, oj, hoj, fun e he hb => by
        rw [getD_set_ne' false (Ne.symm (hnot e he hb))]; exact hall e he hb⟩
      have h1 := H.2 j hjr
      have h2 := wpOp_putIf hoj (hfree j oj hoj hji hjun hnot) (fun cs b => Region.noSelect_spec hsel i oi cs b hi) (fun cs b => Region.noSelect_spec hsel j oj cs b hoj) hQ hy h1
      have hSn : ∀ w', (nd j = true → S w') → S w' := fun w' h => by
        cases hn : nd j with
        | true => exact h hn
        | false =>
          obtain ⟨f', hf'⟩ := hnd j hn hji
          have := depB_listed hc f' j i oj hoj hall hf'
          rw [getD_both hiun] at this; cases this
      refine wpOp_mono (fun a' w' h3 => ⟨h3.2.1, ih (listed.setIfInBounds j true) a' w' (hc.set hj) (fun k ok hk hki hun hno => ?_) ?_ h3.1 (hSn w' h3.2.1) ?_⟩) h2
      · refine hfree k ok hk hki ?_ hno
        by_cases hjk : j = k
        · subst hjk; exact hjun
        · rw [getD_set_ne' true hjk] at hun; exact hun
      · obtain ⟨h4, o, ho, hall2⟩ := mem_ready.1 hr
        refine mem_ready.2 ⟨by rw [getD_set_ne' true hji]; exact h4, o, ho, fun e he hb => ?_⟩
        by_cases hk : j = e.on
        · have := hall2 e he hb
          rw [← hk, getD_both hjun] at this; cases this
        · rw [getD_set_ne' false hk]; exact hall2 e he hb
      · rw [Array.setIfInBounds_comm _ _ hji]
        exact h3.2.2
end anyS
def chkM (ops : Array Oper) : List Nat → Array Bool → (Array Bool → Bool) → Bool
  | [], listed, k => k listed
  | i :: r, listed, k => (Region.ready .any ops listed).contains i && Region.free .any ops listed i && chkM ops r (listed.setIfInBounds i true) k
def chkR (ops : Array Oper) : List Nat → Array Bool → Bool
  | [], listed => (Region.ready .any ops listed).isEmpty
  | j :: r, listed => decide (Region.ready .any ops listed = [j]) && chkR ops r (listed.setIfInBounds j true)
def lastOf : List Nat → Nat → Nat
  | [], d => d
  | [x], _ => x
  | _ :: r, d => lastOf r d
def ndB (free : Bool) (rest : List Nat) (j : Nat) : Bool := !(free && Nat.beq j (lastOf rest 0))
def chkQ (l : List Oper) (mv rest : List Nat) (free : Bool) : Bool :=
  Region.noSelect l.toArray && (!free || mv.all fun i => depB l.toArray l.length (lastOf rest 0) i) && Nat.beq (mv.length + rest.length) l.length && chkM l.toArray mv (Array.replicate l.length false) (chkR l.toArray rest)
def exB (ex : List Nat) : BL → BL
  | [] => []
  | (k, .c b T cs) :: r => (k, bif memF ex k then .k none b 0 [] else .c b T cs) :: exB ex r
  | (k, .k g b o cs) :: r => (k, .k g b o cs) :: exB ex r
  | (k, .e e) :: r => (k, .e e) :: exB ex r
theorem exB_lk {ex : List Nat} : ∀ (B : BL) (k : Nat), lkA (exB ex B) k = (lkA B k).map fun o => match o with
    | .c b T cs => bif memF ex k then .k none b 0 [] else .c b T cs
    | o => o
  | [], k => rfl
  | (k0, o0) :: r, k => by
    have ih := exB_lk (ex := ex) r k
    by_cases hk : k0 = k
    · subst hk
      cases o0 <;> simp only [exB, lkA_eq] <;> rfl
    · cases o0 <;> simp only [exB, lkA_ne hk] <;> exact ih
theorem exB_dv {ex : List Nat} {B : BL} {s : SV} {v : Value} (h : dvO (exB ex B) s = some v) : dvO B s = some v := by
  cases s with
  | o k f =>
    simp only [dvO, exB_lk] at h ⊢
    cases hl : lkA B k with
    | none => rw [hl] at h; cases h
    | some o =>
      rw [hl] at h
      cases o with
      | c b T cs =>
        simp only [Option.map_some] at h
        cases hm : memF ex k with
        | true => rw [hm] at h; simpa using h
        | false => rw [hm] at h; simpa using h
      | k g b o cs => exact h
      | e e => exact h
  | s k f n cp =>
    simp only [dvO, exB_lk] at h ⊢
    cases hl : lkA B k with
    | none => rw [hl] at h; cases h
    | some o =>
      rw [hl] at h
      cases o with
      | c b T cs =>
        simp only [Option.map_some] at h
        cases hm : memF ex k with
        | true => rw [hm] at h; simp at h
        | false => rw [hm] at h; simpa using h
      | k g b o cs => exact h
      | e e => exact h
  | v x => exact h
  | r e n cs => exact h
  | u => exact h
theorem exB_bok {h0 : View} {F : FV} {ex : List Nat} : ∀ {B : BL}, BOk h0 F B → BOk h0 F (exB ex B)
  | [], h => fun k g b o cs hm => by cases hm
  | (k0, o0) :: r, h => by
    have hr : BOk h0 F r := fun k g b o cs hm => h k g b o cs (List.mem_cons_of_mem _ hm)
    have ih := exB_bok (ex := ex) hr
    intro k g b o cs hm
    cases o0 with
    | c b0 T0 cs0 =>
      rcases List.mem_cons.1 hm with e | hm
      · cases hx : memF ex k0 with
        | true =>
          rw [hx] at e
          cases e
          exact fun v w _ _ _ j x hj => by cases hj
        | false => rw [hx] at e; cases e
      · exact ih _ _ _ _ _ hm
    | k g0 b0 o0 cs0 =>
      rcases List.mem_cons.1 hm with e | hm
      · cases e; exact h _ _ _ _ _ (List.mem_cons_self ..)
      · exact ih _ _ _ _ _ hm
    | e e0 =>
      rcases List.mem_cons.1 hm with e | hm
      · cases e
      · exact ih _ _ _ _ _ hm
theorem exB_wok {h0 : View} {F : FV} {ex : List Nat} {B : BL} {w : World} (h : WOk h0 F B w) : WOk h0 F (exB ex B) w := by
  refine ⟨h.vw, fun k b T cs hl => ?_⟩
  rw [exB_lk] at hl
  cases hl2 : lkA B k with
  | none => rw [hl2] at hl; cases hl
  | some o =>
    rw [hl2] at hl
    cases o with
    | c b0 T0 cs0 =>
      cases hm : memF ex k with
      | true => simp [hm] at hl
      | false =>
        simp [hm] at hl
        obtain ⟨rfl, rfl, rfl⟩ := hl
        exact h.own k _ _ _ hl2
    | k g b o cs => simp at hl
    | e e => simp at hl
def mvK (c : Cx) (al : List Oper) (F : FV) (ex : List Nat) : List Nat → SL → BL → (SL → BL → Prop) → Prop
  | [], L, B, K => K L B
  | i :: r, L, B, K => match nthV al i with
    | some ⟨some d, op, _, _, _, none⟩ => match op with
      | .indexAddr t x y => rd1 (rdS L [] none) x fun s => rd1 (rdS L [] none) y fun s' => ixG c F none (lkA c.T.tys t) s s' fun b o cs =>
          fresh d L [] B (bif Nat.blt d c.n then mvK c al F ex r ((d, .o d 0) :: L) ((d, .k none b o cs) :: B) K else False)
      | op => bif isPure op && Nat.blt d c.n then pv c.P c.T c.h0 F (exB ex B) none (rdS L [] none) (fun s => hasN (exB ex B) s (mvK c al F ex r ((d, s) :: L) B K)) op else False
    | _ => False
def keepsB (BS : BL) (F : FV) (B' : BL) (F' : FV) : Prop := (∀ h, F' h → F h) ∧ BS.map (fun p => match p.2 with
  | .c b T cs => lkA B' p.1
  | o => some o) = BS.map fun p => some p.2
def tlK (c : Cx) (al : List Oper) (nd : Nat → Bool) (BS : BL) (F0 : FV) : List Nat → SL → IL → BL → FV → KR → Prop
  | [], L, I, B, F, K => K L I B F
  | j :: r, L, I, B, F, K => match nthV al j with
    | some o => runs c al true (fun L I B F => bif nd j then keepsB BS F0 B F ∧ tlK c al nd BS F0 r L I B F K else tlK c al nd BS F0 r L I B F K) [o] L I B F
    | none => False
theorem kq {BS : BL} {F0 F : FV} {B : BL} {X : Prop} (h : X) (h1 : ∀ h, F h → F0 h := by first | exact fun _ h => h | exact fun _ h => h.1 | exact fun _ h => h.1.1 | exact fun _ h => h.1.1.1) (h2 : BS.map (fun p => match p.2 with
  | .c b T cs => lkA B p.1
  | o => some o) = BS.map (fun p => some p.2) := by rfl) : keepsB BS F0 B F ∧ X := ⟨⟨h1, h2⟩, h⟩
theorem keepsB_wok {c : Cx} {BS : BL} {F0 F : FV} {B : BL} {w : World} (h : keepsB BS F0 B F) (hS : Sx c B F w) (hu : ∀ k b T cs, lkA BS k = some (.c b T cs) → (k, OB.c b T cs) ∈ BS) : WOk c.h0 F0 BS w := by
  obtain ⟨v, h1, h2, h3⟩ := hS.wok.vw
  refine ⟨⟨v, h1, h.1 v h2, h3⟩, fun k b T cs hl => ?_⟩
  have := map_eq_mem h.2 _ (hu k b T cs hl)
  exact hS.wok.own k b T cs this
section reg
variable {c : Cx} (hT : c.T.Ok c.P)
include hT
def panQ (c : Cx) (Q : Exit → Act → World → Prop) : Exit → Act → World → Prop
  | .panic ch, a, w => c.kp ch ∧ a.defers = [] ∧ Keep c.M c.w0 w
  | e, a, w => Q e a w
omit hT in
theorem oper_wpQ {o : Oper} {a : Act} {w : World} {K : Act → World → Prop} {Q Q' : Exit → Act → World → Prop} (hp : ∀ ch a w, Q (.panic ch) a w → Q' (.panic ch) a w) (ho : LetsOut Q → LetsOut Q') (h : o.wp c.P a w K Q) : o.wp c.P a w K Q' := by
  unfold Oper.wp at *
  generalize (execOp a.eval o).run c.P w = r at *
  cases r with
  | ok nx w' =>
    cases nx <;> simp only [Oper.upon] at h ⊢
    case value v => exact h
    case skip => exact h
    case defer d => exact h
    case enter f args =>
      refine h.mono fun e w'' he => ?_
      cases e with
      | returned v => exact he
      | panicked chain => exact hp _ _ _ he
      | outgrown => exact ho he
    case row q args => exact h
  | halt x w' =>
    cases x <;> simp only [Oper.upon] at h ⊢
    exact hp _ _ _ h
theorem tl_sound {l : List Oper} {nd : Nat → Bool} {BS : BL} {F0 : FV} {K : KR} {Q : Exit → Act → World → Prop} (hmd : c.md = .wp) (hn : NormOk c K Q) (hu : ∀ k b T cs, lkA BS k = some (.c b T cs) → (k, OB.c b T cs) ∈ BS) :
    ∀ (rest : List Nat) (L : SL) (I : IL) (B : BL) (F : FV) (listed : Array Bool) (a : Act) (w : World), chkR l.toArray rest listed = true → tlK c l nd BS F0 rest L I B F K → Dn c L I B a → Sx c B F w → wpAnyS c.P l.toArray (panQ c Q) nd (WOk c.h0 F0 BS) rest.length listed a w
  | [], L, I, B, F, listed, a, w, hk, h, hD, hS => ⟨by simpa [chkR] using hk, hn L I B F a w h hD hS⟩
  | j :: r, L, I, B, F, listed, a, w, hk, h, hD, hS => by
    simp only [chkR, Bool.and_eq_true, decide_eq_true_eq] at hk
    unfold tlK at h
    split at h
    · rename_i o ho
      have hrd := hk.1
      have hoj : l.toArray[j]? = some o := by rw [nthV_eq] at ho; simpa using ho
      refine ⟨fun h0 => (by rw [hrd] at h0; cases h0), fun i hi => ?_⟩
      rw [hrd] at hi
      obtain rfl := List.mem_singleton.1 hi
      have ih := fun L I B F a w => tl_sound (nd := nd) (F0 := F0) hmd hn hu r L I B F (listed.setIfInBounds i true) a w hk.2
      have hrun := (runs_sound hT [o] L I B F h hD.inv).run (fun e a' w' => match e with
        | .normal => (nd i = true → WOk c.h0 F0 BS w') ∧ wpAnyS c.P l.toArray (panQ c Q) nd (WOk c.h0 F0 BS) r.length (listed.setIfInBounds i true) a' w'
        | e => panQ c Q e a' w') a w (fun L' I' B' F' a' w' hk' hD' hS' => by
          cases hnd : nd i with
          | true => rw [hnd] at hk'; exact ⟨fun _ => keepsB_wok hk'.1 hS' hu, ih _ _ _ _ _ _ hk'.2 hD' hS'⟩
          | false => rw [hnd] at hk'; exact ⟨fun e => (by cases e), ih _ _ _ _ _ _ hk' hD' hS'⟩) (fun ch a w h1 h2 h3 => ⟨h1, h2, h3⟩) hD hS
      rw [hmd] at hrun
      simp only [wpM, wpList] at hrun
      unfold wpOp
      rw [hoj]
      simp only
      split
      · rename_i hw
        rw [if_pos hw] at hrun
        rcases hrun with hrun | ⟨h1, h2⟩
        · exact .inl (oper_wpQ (fun _ _ _ h => h) (fun ⟨a, w, h⟩ => ⟨a, w, h⟩) hrun)
        · exact .inr ⟨h1, let ⟨a, w, h⟩ := h2; ⟨a, w, h⟩⟩
      · rename_i hw
        rw [if_neg hw] at hrun
        exact hrun
    · exact h.elim
theorem mv_sound {l : List Oper} {nd : Nat → Bool} {ex : List Nat} {F : FV} {K : SL → BL → Prop} {Q : Exit → Act → World → Prop} {S : World → Prop} {k : Array Bool → Bool} {m : Nat} (hsel : Region.noSelect l.toArray = true) :
    ∀ (mv : List Nat) (L : SL) (B : BL) (listed : Array Bool) (a : Act) (w : World), chkM l.toArray mv listed k = true → (∀ i ∈ mv, ∀ j, nd j = false → j ≠ i → ∃ f, depB l.toArray f j i = true) → Closed l.toArray listed → (∀ w, S w → WOk c.h0 F (exB ex B) w) → S w →
      mvK c l F ex mv L B K → Dn c L [] B a → Sx c B F w →
      (∀ L' B' a' listed', K L' B' → k listed' = true → Dn c L' [] B' a' → Sx c B' F w → wpAnyS c.P l.toArray (panQ c Q) nd S m listed' a' w) → wpAnyS c.P l.toArray (panQ c Q) nd S (m + mv.length) listed a w
  | [], L, B, listed, a, w, hk, _, _, _, _, h, hD, hS, H => H L B a listed h hk hD hS
  | i :: r, L, B, listed, a, w, hk, hnd, hc, hSw, hw, h, hD, hS, H => by
    simp only [chkM, Bool.and_eq_true] at hk
    obtain ⟨⟨hr, hfree⟩, hk⟩ := hk
    have hr : i ∈ Region.ready .any l.toArray listed := by simpa using hr
    unfold mvK at h
    split at h
    · rename_i d op ty pos af ho
      have hoi : l.toArray[i]? = some ⟨some d, op, ty, pos, af, none⟩ := by rw [nthV_eq] at ho; simpa using ho
      have go : ∀ (v : Value) (L' : SL) (B' : BL), (∀ w, S w → Pu c.P (fl L [] B) ⟨some d, op, ty, pos, af, none⟩ w v) → Dn c L' [] B' (a.put (some d) v) → Sx c B' F w → (∀ w, S w → WOk c.h0 F (exB ex B') w) → mvK c l F ex r L' B' K →
          wpAnyS c.P l.toArray (panQ c Q) nd S (m + (r.length + 1)) listed a w := by
        intro v L' B' hpu hD' hS' hSw' h'
        refine wpAnyS_first (v := v) hoi hsel (fun ch a w h => ⟨h.1, by rw [← put_df a (some d) v]; exact h.2.1, h.2.2⟩) (hnd i (List.mem_cons_self ..)) (m + r.length) listed a w hc (Region.free_spec hoi hfree) hr ?_ hw ?_
        · exact .inl ⟨by simp [Region.wanted], fun w hw => hpu w hw a.eval fun x _ u hu => hD.fr.ev hu⟩
        · exact mv_sound hsel r L' B' _ _ w hk (fun i hi => hnd i (List.mem_cons_of_mem _ hi)) (hc.set hr) hSw' hw h' hD' hS' H
      split at h
      · rename_i t x y
        obtain ⟨s, hs, h⟩ := rd1_sound h
        obtain ⟨s', hs', h⟩ := rd1_sound h
        have hρ : yes none → ∀ x s v, rdS L [] none x = some s → dvO (exB ex B) s = some v → ev (fl L [] B) x = some v := fun _ x s v h1 h2 => rdS_ev inv_nil (cx := none) (og := none) rfl yes_none h1 (exB_dv h2)
        obtain ⟨b, o, cs, h, hkn, hpu⟩ := ixG_sound (B := exB ex B) hT hρ hs hs' h
        obtain ⟨hl, hfl, h⟩ := fresh_sound h
        cases hd : Nat.blt d c.n with
        | false => rw [hd] at h; exact h.elim
        | true =>
          rw [hd] at h
          have hB' : Sx c ((d, .k none b o cs) :: B) F w := ⟨by rw [oes_k]; exact hS.st, bok_k hS.bk hkn⟩
          refine go (.pointer (some ⟨b, o, none⟩)) _ _ (fun w hw => hpu yes_none w (hSw w hw) _ _ _ _ _) ?_ hB' (fun w hw => ⟨(hSw w hw).vw, fun k b T cs hk => ?_⟩) h
          · refine Dn.cons (rr := some (.pointer (some ⟨b, o, none⟩))) (hD.fr.put hd _) inv_nil (fun t => ?_) (fun u hu => (Option.some.inj hu).symm)
            unfold kv
            simp only [lkA]
            by_cases ht : t = d
            · subst ht; simp [dvO, lkA_eq]
            · rw [beq_ne (Ne.symm ht), if_neg ht]
              simp only [cond_false]
              have := kv_fl (L := L) (I := []) (hfl (.k none b o cs)) t
              unfold kv at this
              simpa only [lkA] using this
          · refine (hSw w hw).own k b T cs ?_
            simp only [exB] at hk
            by_cases hkd : d = k
            · subst hkd; rw [lkA_eq] at hk; cases hk
            · rwa [lkA_ne hkd] at hk
      · cases hd : (isPure op && Nat.blt d c.n) with
        | false => rw [hd] at h; exact h.elim
        | true =>
          rw [hd] at h
          simp only [Bool.and_eq_true] at hd
          have hρ : yes none → ∀ x s v, rdS L [] none x = some s → dvO (exB ex B) s = some v → ev (fl L [] B) x = some v := fun _ x s v h1 h2 => rdS_ev inv_nil (cx := none) (og := none) rfl yes_none h1 (exB_dv h2)
          obtain ⟨s, v, hs, hv, hpu⟩ := pv_sound (L := fl L [] B) hT (exB_bok (ex := ex) hS.bk) hρ h
          obtain ⟨_, _, h⟩ := hasN_sound hs
          refine go v _ _ (fun w hw => hpu yes_none w (hSw w hw) _ _ _ _ _) ?_ hS hSw h
          have hv' := exB_dv hv
          exact Dn.cons (rr := some v) (hD.fr.put hd.2 _) inv_nil (fun t => by
            unfold kv
            simp only [lkA]
            by_cases ht : t = d
            · subst ht; simp [hv']
            · rw [beq_ne (Ne.symm ht), if_neg ht]; rfl) (fun u hu => (Option.some.inj hu).symm)
    · exact h.elim
omit hT in
theorem exB_mem {ex : List Nat} {B : BL} {k b T : Nat} {cs : List Value} (h : lkA (exB ex B) k = some (.c b T cs)) : (k, OB.c b T cs) ∈ exB ex B := lkA_mem h
theorem regQ {i : Nat} {l : List Oper} (mv rest : List Nat) (ex : List Nat) (free : Bool) {L : SL} {B : BL} {F : FV} {kn : KN} {kx : Nat → KN} {kr : KN}
    (h : mvK c l F ex mv L B fun L' B' => tlK c l (ndB free rest) (exB ex B) F rest L' [] B' F fun L I B F => pushK I L fun L => kn L B F)
    (hq : chkQ l mv rest free = true := by kernel_rfl) (hmd : c.md = .wp := by rfl) : CP c (.region i ⟨l⟩ true) L B F kn kx kr := by
  simp only [chkQ, Bool.and_eq_true, Bool.or_eq_true, Bool.not_eq_true'] at hq
  obtain ⟨⟨⟨hsel, hfr⟩, hlen⟩, hchk⟩ := hq
  have hlen := Nat.eq_of_beq_eq_true hlen
  refine ⟨fun Q a w hn _ _ hp hD hS => ?_⟩
  rw [hmd]
  refine wp_mono (wp_region_any (Q := panQ c Q) hT.mix (wpAny_of_S (nd := ndB free rest) (S := WOk c.h0 F (exB ex B)) _ _ _ _ ?_)) fun e a w he => ?_
  · have hS1 : Sx c B F { w with drawn := w.drawn + 1 } := hS.step (keep_drawn w)
    have e : l.toArray.size = rest.length + mv.length := by rw [List.size_toArray]; omega
    rw [e]
    refine mv_sound hT (F := F) (ex := ex) (k := chkR l.toArray rest) hsel mv L B _ a _ (by rw [← e, List.size_toArray]; exact hchk) (fun i hi j hj hji => ?_) (fun j oj hj hl => ?_) (fun w hw => hw) (exB_wok hS1.wok) h hD hS1 (fun L' B' a' listed' hk hc hD' hS' => tl_sound hT hmd (push_ok hn) (fun k b T cs h => exB_mem h) rest L' [] B' F listed' a' _ hc hk hD' hS')
    · unfold ndB at hj
      simp only [Bool.not_eq_false', Bool.and_eq_true] at hj
      rcases hfr with hfr | hfr
      · rw [hfr] at hj; cases hj.1
      · have := List.all_eq_true.1 hfr i hi
        rw [Nat.eq_of_beq_eq_true hj.2]
        exact ⟨_, this⟩
    · rw [getD_replicate_false] at hl; cases hl
  · cases e with
    | panic ch => exact hp ch a w he.1 he.2.1 he.2.2
    | _ => exact he
end reg
end Go.Dx
namespace Go.Dx
open Go Go.RowKit
theorem WP.ofInv {c : Cx} {al l : List Oper} {L : SL} {I : IL} {B : BL} {F : FV} {K : KR} (h : Inv L I → WP c al l L I B F K) : WP c al l L I B F K := ⟨fun Q a w hn hp hD hS => (h hD.inv).run Q a w hn hp hD hS⟩
section callI
variable {c : Cx} (hT : c.T.Ok c.P)
include hT
theorem cMI {b Tb : Nat} {cs cs' : List Value} {x : Value} {al : List Oper} {K : KR} {d f : Nat} {args : List Operand} {ats : Array TypeId} {ty : TypeId} {pos : String} {af : Array Edge} {rest : List Oper} {L : SL} {I : IL} {B : BL} {F : FV} {vsl : List Value} {Kv : SV → Prop} (kb : Nat)
    (H : ∀ w v, VLe c.h0 v → F v → VLe v (Full w) → v b = none → w.heap[b]? = some (.cells cs.toArray Tb (0, 0)) → Calls c.P f vsl.toArray w (RetM [b] w fun u w' => u = x ∧ w'.heap[b]? = some (.cells cs'.toArray Tb (0, 0))))
    (k : setAK B kb (.c b Tb cs') fun B' => wr c.n d (.v x) L I fun L I => runs c al true K rest L I B' F) (hB : lkA B kb = some (.c b Tb cs) := by rfl)
    (hf : memF c.T.fs f = true := by rfl) (hv : argK (rdS L I none) B args fun l => l = vsl := by exact rfl) :
    CallG c true none B F f vsl Kv (WP c al (⟨some d, .call ⟨.value (.func f), ⟨args⟩, ats⟩, ty, pos, af, none⟩ :: rest) L I B F K) := by
  obtain ⟨B', i, hrun, hi, hset, hlB, hmB⟩ := setAK_sound hB k
  have hdv := dvO_setA hB hlB
  have hin : b ∈ ids (oes B) := List.mem_filterMap.2 ⟨_, List.mem_of_getElem? hi, rfl⟩
  refine .w rfl (WP.ofInv fun hInv => ?_)
  obtain ⟨L', I', hX, hI', hdn, hkv, hrw⟩ := wr_sound hInv hrun
  obtain ⟨l, rfl, hev⟩ := argK_sound (hρ_of (B := B) hInv (cx := none) (og := none) rfl) hv
  refine ⟨fun Q a w hn hp hD hS => ?_⟩
  have hds : Ds c.P (fl L I B) ⟨some d, .call ⟨.value (.func f), args.toArray, ats⟩, ty, pos, af, none⟩ w fun v w' => Keep [b] w w' ∧ v = x ∧ w'.heap[b]? = some (.cells cs'.toArray Tb (0, 0)) := ds_call (hT.call hf) (hev yes_none) ((H w _ hS.st.base_cv hS.st.facts hS.st.view (cv_own hin) (hS.wok.own _ _ _ _ hB)).mono (by rintro e w' ⟨v, rfl, hk, hu⟩; exact ⟨v, rfl, hk, hu⟩))
  refine s_ds hD.fr hds hdn fun v w' a' hp' hF' => ?_
  obtain ⟨hk, rfl, hw'⟩ := hp'
  refine (runs_sound hT rest _ _ _ _ hX hI').run Q a' w' hn hp (Dn.cons (rr := some v) hF' hI' (fun t => ?_) (fun u hu => (Option.some.inj hu).symm)) ⟨by rw [hset]; exact hS.st.write hi hk hw', fun m g b' o cs' hm => ?_⟩
  · rw [hkv B' t, kv_fl (fl_congr hdv)]; rfl
  · rcases hmB _ hm with hm | hm
    · exact hS.bk _ _ _ _ _ hm
    · cases hm
theorem ofV {k : Code} {L : SL} {B : BL} {F : FV} {kn : KN} {kx : Nat → KN} {kr : KN} (h : vcC c k L B F kn kx kr) : CP c k L B F kn kx kr := vcC_sound hT k L B F kn kx kr h
omit hT in
theorem CP.kx {k : Code} {L : SL} {B : BL} {F : FV} {kn : KN} {kx kx' : Nat → KN} {kr : KN} (h : CP c k L B F kn kx kr) (hx : ∀ i L B F, kx i L B F → kx' i L B F) : CP c k L B F kn kx' kr :=
  ⟨fun Q a w hn hxo hr hp hD hS => h.run Q a w hn ⟨fun i hi L B F a w hk hD hS => hxo.ex i hi L B F a w (hx i L B F hk) hD hS, fun l L B F a w hk hD hS => hxo.go l L B F a w (hx _ L B F hk) hD hS⟩ hr hp hD hS⟩
def jmpX {α : Type} (l : Nat) (md : α → SL) (Bx : α → BL) (Fx : α → FV) (Lk : SL) (I : α → Prop) (kx : Nat → KN) : Nat → KN := fun j L' B' F' => bif Nat.blt j 1000000 then kx j L' B' F' else bif Nat.beq j (1000000 + l) then ∃ x', I x' ∧ Goes (md x' ++ Lk) (Bx x') (Fx x') L' B' F' else False
theorem w_jumps {α : Type} (l : Nat) {T : Code} (md : α → SL) (Bx : α → BL) (Fx : α → FV) (I : α → Prop) (μ : α → Nat) {k : Code} {L : SL} {B : BL} {F : FV} {kn : KN} {kx : Nat → KN} {kr : KN} (hm : ∀ x, Mono (Fx x))
    (h : wrsK k [] fun ws => keepK ws [] L fun Lk => (∀ x, I x → CP c T (md x ++ Lk) (Bx x) (Fx x) kn (jmpX l md Bx Fx Lk (fun x' => I x' ∧ μ x' < μ x) kx) kr) ∧ ((∀ x, I x → CP c T (md x ++ Lk) (Bx x) (Fx x) kn (jmpX l md Bx Fx Lk I kx) kr) → CP c k L B F kn (jmpX l md Bx Fx Lk I kx) kr))
    (hf : findLabel k l = some (.seq .skip T) := by kernel_rfl) (hmd : c.md = .wp := by rfl) : CP c (.scope k) L B F kn kx kr := by
  have _hu := hT
  obtain ⟨ws, h⟩ := wrsK_sound h
  obtain ⟨Lk, ⟨h1, h2⟩, _⟩ := keepK_sound h
  have h2 := h2 fun x hx => (h1 x hx).kx fun j L' B' F' hk => by
    unfold jmpX at hk ⊢
    cases hb : Nat.blt j 1000000 with
    | true => rw [hb] at hk; exact hk
    | false =>
      rw [hb] at hk
      simp only [cond_false] at hk ⊢
      cases hb2 : Nat.beq j (1000000 + l) with
      | false => rw [hb2] at hk; exact hk
      | true => rw [hb2] at hk; exact let ⟨x', hh, hg⟩ := hk; ⟨x', hh.1, hg⟩
  refine ⟨fun Q a w hn hx hret hp hD hS => ?_⟩
  rw [hmd]
  have hgo : ∀ (I' : α → Prop) (J : Act → World → Prop), (∀ x a w, I' x → Dn c (md x ++ Lk) [] (Bx x) a → Sx c (Bx x) (Fx x) w → J a w) → XOk c (jmpX l md Bx Fx Lk I' kx) (Exit.jump l J Q) := fun I' J hJ => by
    refine ⟨fun j hj L' B' F' a' w' hk hD' hS' => hx.ex j hj L' B' F' a' w' (by unfold jmpX at hk; rw [hj] at hk; exact hk) hD' hS', fun j L' B' F' a' w' hk hD' hS' => ?_⟩
    unfold jmpX at hk
    rw [no_blt] at hk
    simp only [cond_false] at hk
    cases hb : Nat.beq (1000000 + j) (1000000 + l) with
    | false => rw [hb] at hk; exact hk.elim
    | true =>
      rw [hb] at hk
      obtain ⟨x', hI', hg'⟩ := hk
      have := Nat.eq_of_beq_eq_true hb
      exact ⟨by omega, hJ x' a' w' hI' (hg'.dn hD') (hg'.sx (hm x') hS')⟩
  refine c_jumps (α := α) l (fun x a w => I x ∧ Dn c (md x ++ Lk) [] (Bx x) a ∧ Sx c (Bx x) (Fx x) w) μ hf ?_ fun x a w ⟨hI, hD, hS⟩ => ?_
  · have := h2.run (Exit.jump l (fun a w => ∃ x, I x ∧ Dn c (md x ++ Lk) [] (Bx x) a ∧ Sx c (Bx x) (Fx x) w) Q) a w hn (hgo I _ fun x a w h1 h2 h3 => ⟨x, h1, h2, h3⟩) hret hp hD hS
    rwa [hmd] at this
  · have := (h1 x hI).run (Exit.jump l (fun a' w' => ∃ x', (I x' ∧ Dn c (md x' ++ Lk) [] (Bx x') a' ∧ Sx c (Bx x') (Fx x') w') ∧ μ x' < μ x) Q) a w hn (hgo _ _ fun x' a w h1 h2 h3 => ⟨x', ⟨h1.1, h2, h3⟩, h1.2⟩) hret hp hD hS
    rw [hmd] at this
    exact wp_seq (wp_skip this)
theorem w_lab {α : Type} {l : Nat} {T a : Code} {md : α → SL} {Bx : α → BL} {Fx : α → FV} {Lk : SL} {I : α → Prop} {L : SL} {B : BL} {F : FV} {kn : KN} {kx : Nat → KN} {kr : KN} (hk : ∀ x, I x → CP c T (md x ++ Lk) (Bx x) (Fx x) kn kx kr) (hm : ∀ x, Mono (Fx x))
    (h : vcC c a L B F (fun L' B' F' => ∃ x, I x ∧ Goes (md x ++ Lk) (Bx x) (Fx x) L' B' F') kx kr) (hmd : c.md = .wp := by rfl) : CP c (.seq a (.seq (.label l) T)) L B F kn kx kr := by
  refine ⟨fun Q ac w hn hx hret hp hD hS => c_seq ((vcC_sound hT a _ _ _ _ _ _ h).run _ ac w ?_ ⟨hx.ex, hx.go⟩ hret hp hD hS)⟩
  rintro L' B' F' a' w' ⟨x, hI, hg⟩ hD' hS'
  have := (hk x hI).run Q a' w' hn hx hret hp (hg.dn hD') (hg.sx (hm x) hS')
  rw [hmd] at this ⊢
  exact c_seq (c_label this)
end callI
theorem entW {α : Type} {g : α → Value} {cs' : α → List Value} {Φ : α → FV} {P : Program} {T : Tab} (hT : T.Ok P) {f : FuncId} {fn : Func} {code : Code} {args : List Value} {w0 : World} {h0 : View} {rs : List ResultVar} {n b Tb : Nat} {cs : List Value} (stop cut : List Nat) (as : List SV)
    (hf : P.funcs[f]? = some fn) (hb : fn.body = some code) (hn : fn.ntmps = n) (hle : Nat.ble as.length n = true) (hr : fn.results = rs.toArray) (hv : VLe h0 (Full w0)) (hbl : w0.heap[b]? = some (.cells cs.toArray Tb (0, 0))) (hno : h0 b = none) (ha : args = as.map (dv [(900, .c b Tb cs)]))
    (hm : ∀ x, Mono (Φ x))
    (h : vcC ⟨P, T, .wp, n, w0, h0, [b], fun _ => False, stop, cut⟩ code (argV as 0) [(900, .c b Tb cs)] (fun _ => True) (fun L B F => resK T L B rs fun vs => ∃ x, tupV vs = g x ∧ lkA B 900 = some (.c b Tb (cs' x)) ∧ ∀ v, VLe h0 v → F v → Φ x v) (fun _ _ _ _ => False)
      (fun L B F => resK T L B rs fun vs => ∃ x, tupV vs = g x ∧ lkA B 900 = some (.c b Tb (cs' x)) ∧ ∀ v, VLe h0 v → F v → Φ x v)) : Calls P f args.toArray w0 (RetV [b] w0 h0 fun u w' hh => ∃ x, u = g x ∧ w'.heap[b]? = some (.cells (cs' x).toArray Tb (0, 0)) ∧ Φ x hh) := by
  rw [ha]
  refine entG (E := fun B F vs => ∃ x, tupV vs = g x ∧ lkA B 900 = some (.c b Tb (cs' x)) ∧ ∀ v, VLe h0 v → F v → Φ x v) (h0 := h0) (kp := fun _ => False) hT stop cut [b] as [(900, .c b Tb cs)] hf hb hn hle hr (fun _ _ h _ => h.elim) (sx_one hv rfl hbl hno)
    (fun B F vs w ⟨x, h0', h1, h2⟩ hS => ⟨_, rfl, hS.st.keep, x, h0', hS.wok.own _ _ _ _ h1, ?_⟩) h
  have hle : VLe (cv w0.heap.size h0 (ids (oes B)) w) (nv h0 w0 w) := fun k o hk => by
    unfold cv at hk
    unfold nv
    split at hk
    · cases hk
    · split at hk
      · rename_i hlt
        rw [if_pos hlt]; exact hk
      · rename_i hlt
        rw [if_neg hlt]; exact hk
  exact hm _ _ _ hle (h2 _ hS.st.base_cv hS.st.facts)
end Go.Dx
namespace Go.Dx
open Go Go.RowKit
structure OwnJ (w : World) (O : List OE) : Prop where
  own : ∀ e ∈ O, e.2 (e.1.bind fun b => w.heap[b]?)
  nd : (ids O).Nodup
  lt : ∀ b ∈ ids O, b < w.heap.size
def RetJ {σ : Type} (J : σ → BL) (s : σ) (w : World) (Ψ : Value → σ → Prop) : Ending → World → Prop := fun e w' => ∃ u s', e = .returned u ∧ Ψ u s' ∧ Keep (ids (oes (J s))) w w' ∧ OwnJ w' (oes (J s')) ∧ ∀ b ∈ ids (oes (J s')), b ∈ ids (oes (J s)) ∨ w.heap.size ≤ b
theorem St.go {w0 w w' : World} {h0 : View} {M : List Nat} {A A' R : List OE} {F : View → Prop} (hS : St w0 h0 M w (A ++ R) F) (hk : Keep (ids A) w w') (ho : OwnJ w' A') (hf : ∀ b ∈ ids A', b ∈ ids A ∨ w.heap.size ≤ b) : St w0 h0 M w' (A' ++ R) F := by
  have hidsAR : ids (A ++ R) = ids A ++ ids R := ids_app A R
  have hnd := hS.nd
  rw [hidsAR] at hnd
  obtain ⟨hndA, hndR, hdis⟩ := List.nodup_append.1 hnd
  have hfr : ∀ b, b ∈ ids A → w0.heap.size ≤ b ∨ b ∈ M := fun b hb => (hS.fresh b (by rw [hidsAR]; exact List.mem_append_left _ hb)).1
  have hltR : ∀ b, b ∈ ids R → (w0.heap.size ≤ b ∨ b ∈ M) ∧ b < w.heap.size := fun b hb => hS.fresh b (by rw [hidsAR]; exact List.mem_append_right _ hb)
  have hdis2 : ∀ b, b ∈ ids A' → b ∉ ids R := fun b hb hR => by
    rcases hf b hb with h | h
    · exact hdis b h b hR rfl
    · have := (hltR b hR).2; omega
  refine ⟨hS.keep.transIn hk hfr, hS.vw, fun e he => ?_, fun b hb => ?_, ?_, hS.mono, ?_⟩
  · rcases List.mem_append.1 he with he | he
    · exact ho.own e he
    · have := hS.own e (List.mem_append_right _ he)
      cases he1 : e.1 with
      | none => rw [he1] at this; exact this
      | some b =>
        rw [he1] at this
        have hb : b ∈ ids R := List.mem_filterMap.2 ⟨e, he, he1⟩
        simp only [Option.bind_some] at this ⊢
        rw [hk.block b (hltR b hb).2 fun hA => hdis b hA b hb rfl]
        exact this
  · rw [ids_app] at hb
    rcases List.mem_append.1 hb with hb | hb
    · refine ⟨?_, ho.lt b hb⟩
      rcases hf b hb with h | h
      · exact hfr b h
      · exact .inl (Nat.le_trans hS.keep.size h)
    · exact ⟨(hltR b hb).1, Nat.lt_of_lt_of_le (hltR b hb).2 hk.size⟩
  · rw [ids_app]
    exact List.nodup_append.2 ⟨ho.nd, hndR, fun a ha b hb e => hdis2 a ha (e ▸ hb)⟩
  · refine hS.mono _ _ (cv_le (J := ids A) _ _ hk (fun c hc => by rw [hidsAR]; exact List.mem_append_left _ hc) (fun b hb => ?_) hS.keep.size) hS.facts
    rw [ids_app] at hb
    rw [hidsAR]
    rcases List.mem_append.1 hb with hb | hb
    · rcases hf b hb with h | h
      · exact .inl (List.mem_append_left _ h)
      · exact .inr h
    · exact .inl (List.mem_append_right _ hb)
def adOf : OB → Option (Nat × Nat)
  | .c b _ _ => some (b, 0)
  | .k _ b o _ => some (b, o + 1)
  | .e _ => none
theorem lkA_appB (A C : BL) (t : Nat) : lkA (A ++ C) t = match lkA A t with
  | some s => some s
  | none => lkA C t := by
  induction A with
  | nil => rfl
  | cons p r ih =>
    obtain ⟨q, s⟩ := p
    by_cases hq : q = t
    · subst hq; rw [List.cons_append, lkA_eq, lkA_eq]
    · rw [List.cons_append, lkA_ne hq, lkA_ne hq, ih]
theorem delL_lk : ∀ {J B : BL} {m : Nat}, lkA J m = none → lkA (delL B J) m = lkA B m
  | [], B, m, _ => rfl
  | (k, o) :: r, B, m, h => by
    have hk : k ≠ m := fun e => by subst e; rw [lkA_eq] at h; cases h
    rw [lkA_ne hk] at h
    show lkA (delL (delA B k) r) m = _
    rw [delL_lk h, delA_lk (Ne.symm hk)]
theorem ad_lk : ∀ {J J' : BL}, J.map (fun p => (p.1, adOf p.2)) = J'.map (fun p => (p.1, adOf p.2)) → ∀ m, (lkA J m).map adOf = (lkA J' m).map adOf
  | [], [], _, m => rfl
  | [], _ :: _, h, m => by cases h
  | _ :: _, [], h, m => by cases h
  | (k, o) :: r, (k', o') :: r', h, m => by
    simp only [List.map_cons, List.cons.injEq, Prod.mk.injEq] at h
    obtain ⟨⟨rfl, h2⟩, h3⟩ := h
    by_cases hk : k = m
    · subst hk; rw [lkA_eq, lkA_eq]; simp [h2]
    · rw [lkA_ne hk, lkA_ne hk]; exact ad_lk h3 m
theorem lksJ_lk : ∀ {J B : BL} {m : Nat} {o : OB}, lksJ B J → lkA J m = some o → lkA B m = some o
  | [], B, m, o, _, h => by simp [lkA] at h
  | (k, o0) :: r, B, m, o, hl, h => by
    by_cases hk : k = m
    · subst hk; rw [lkA_eq] at h; cases h; exact hl.1
    · rw [lkA_ne hk] at h; exact lksJ_lk hl.2 h
theorem dvO_go {J J' B : BL} (hl : lksJ B J) (ha : J.map (fun p => (p.1, adOf p.2)) = J'.map (fun p => (p.1, adOf p.2))) (s : SV) : dvO (J' ++ delL B J) s = dvO B s := by
  have key : ∀ m, (lkA (J' ++ delL B J) m).map adOf = (lkA B m).map adOf := fun m => by
    rw [lkA_appB]
    have := ad_lk ha m
    cases hj' : lkA J' m with
    | some o' =>
      rw [hj'] at this
      cases hj : lkA J m with
      | none => rw [hj] at this; cases this
      | some o =>
        rw [hj] at this
        simp only
        rw [lksJ_lk hl hj, ← this]
    | none =>
      rw [hj'] at this
      have hj : lkA J m = none := by
        cases hj : lkA J m with
        | none => rfl
        | some o => rw [hj] at this; cases this
      simp only
      rw [delL_lk hj]
  cases s with
  | o k f =>
    simp only [dvO]
    have := key k
    revert this
    cases lkA (J' ++ delL B J) k with
    | none => cases lkA B k with
      | none => intro _; rfl
      | some o => intro h; cases h
    | some o' => cases lkA B k with
      | none => intro h; cases h
      | some o =>
        intro h
        have h : adOf o' = adOf o := Option.some.inj h
        cases o' <;> cases o <;> simp [adOf] at h <;> simp_all
  | s k f n cp =>
    simp only [dvO]
    have := key k
    revert this
    cases lkA (J' ++ delL B J) k with
    | none => cases lkA B k with
      | none => intro _; rfl
      | some o => intro h; cases h
    | some o' => cases lkA B k with
      | none => intro h; cases h
      | some o =>
        intro h
        have h : adOf o' = adOf o := Option.some.inj h
        cases o' <;> cases o <;> simp [adOf] at h <;> simp_all
  | v x => rfl
  | r e n cs => rfl
  | u => rfl
section callJ
variable {c : Cx} (hT : c.T.Ok c.P)
include hT
theorem cJ {σ : Type} (J : σ → BL) (s : σ) {g : σ → Value} {Ψ : σ → Prop} {al : List Oper} {K : KR} {d f : Nat} {args : List Operand} {ats : Array TypeId} {ty : TypeId} {pos : String} {af : Array Edge} {rest : List Oper} {L : SL} {I : IL} {B : BL} {F : FV} {vsl : List Value} {Kv : SV → Prop}
    (H : ∀ w v, VLe c.h0 v → F v → VLe v (Full w) → (∀ b ∈ ids (oes (J s)), v b = none) → OwnJ w (oes (J s)) → Calls c.P f vsl.toArray w (RetJ J s w fun u s' => u = g s' ∧ Ψ s'))
    (k : ∀ s', Ψ s' → wr c.n d (.v (g s')) L I fun L I => runs c al true K rest L I (J s' ++ delL B (J s)) F)
    (hl : lksJ B (J s) := by exact ⟨rfl, rfl, trivial⟩) (hkn : keysN (J s) = true := by rfl) (ha : ∀ s s', (J s).map (fun p => (p.1, adOf p.2)) = (J s').map (fun p => (p.1, adOf p.2)) := by exact fun _ _ => rfl) (hnk : noK (J s) = true := by rfl) (hnk' : ∀ s, noK (J s) = true := by exact fun _ => rfl)
    (hf : memF c.T.fs f = true := by rfl) (hv : argK (rdS L I none) B args fun l => l = vsl := by exact rfl) :
    CallG c true none B F f vsl Kv (WP c al (⟨some d, .call ⟨.value (.func f), ⟨args⟩, ats⟩, ty, pos, af, none⟩ :: rest) L I B F K) := by
  have hperm := lksJ_perm hkn hl
  have hoes : (oes B).Perm (oes (J s) ++ oes (delL B (J s))) := by rw [← oes_app]; exact oes_perm hperm
  refine .w rfl (WP.ofInv fun hInv => ?_)
  obtain ⟨l, rfl, hev⟩ := argK_sound (hρ_of (B := B) hInv (cx := none) (og := none) rfl) hv
  refine ⟨fun Q a w hn hp hD hS => ?_⟩
  have hS1 : St c.w0 c.h0 c.M w (oes (J s) ++ oes (delL B (J s))) F := hS.st.perm hoes
  have hin : ∀ b ∈ ids (oes (J s)), b ∈ ids (oes B) := fun b hb => (ids_perm hoes).mem_iff.2 (by rw [ids_app]; exact List.mem_append_left _ hb)
  have hown : OwnJ w (oes (J s)) := ⟨fun e he => hS1.own e (List.mem_append_left _ he), by have := hS1.nd; rw [ids_app] at this; exact (List.nodup_append.1 this).1, fun b hb => (hS.st.fresh b (hin b hb)).2⟩
  have hds : Ds c.P (fl L I B) ⟨some d, .call ⟨.value (.func f), args.toArray, ats⟩, ty, pos, af, none⟩ w fun v w' => ∃ s', (v = g s' ∧ Ψ s') ∧ Keep (ids (oes (J s))) w w' ∧ OwnJ w' (oes (J s')) ∧ ∀ b ∈ ids (oes (J s')), b ∈ ids (oes (J s)) ∨ w.heap.size ≤ b :=
    ds_call (hT.call hf) (hev yes_none) ((H w _ hS.st.base_cv hS.st.facts hS.st.view (fun b hb => cv_own (hin b hb)) hown).mono (by rintro e w' ⟨u, s', rfl, h1, h2, h3, h4⟩; exact ⟨u, rfl, s', h1, h2, h3, h4⟩))
  obtain ⟨x0, hx0⟩ : ∃ n, n = Nat.blt d c.n := ⟨_, rfl⟩
  refine wpM_plain rfl fun K' hK => opM_of_does ?_
  have hh := hds a.eval (fun x _ u hu => hD.fr.ev hu)
  have fin : ∀ v w', (∃ s', (v = g s' ∧ Ψ s') ∧ Keep (ids (oes (J s))) w w' ∧ OwnJ w' (oes (J s')) ∧ ∀ b ∈ ids (oes (J s')), b ∈ ids (oes (J s)) ∨ w.heap.size ≤ b) → K' (a.put (some d) v) w' := by
    rintro v w' ⟨s', ⟨rfl, hΨ⟩, hk, ho, hfr⟩
    obtain ⟨L', I', hX, hI', hdn, hkv, hrw⟩ := wr_sound hInv (k s' hΨ)
    refine hK _ _ ((runs_sound hT rest _ _ _ _ hX hI').run Q _ w' hn hp (Dn.cons (rr := some (g s')) (hD.fr.put hdn _) hI' (fun t => ?_) (fun u hu => (Option.some.inj hu).symm)) ⟨?_, fun m g' b o cs hm => ?_⟩)
    · rw [hkv, kv_fl (fl_congr fun sv => dvO_go hl (ha s s') sv)]; rfl
    · rw [oes_app]; exact hS1.go hk ho hfr
    · rcases List.mem_append.1 hm with hm | hm
      · exact absurd hm (noK_ne (hnk' s') _ _ _ _ _)
      · exact hS.bk m g' b o cs (hperm.mem_iff.2 (List.mem_append_right _ hm))
  unfold Does at *
  generalize (execOp a.eval _).run c.P w = r at *
  cases r with
  | ok nx w' =>
    cases nx <;> simp only [DoesR] at hh ⊢
    case value u => exact fin _ _ hh
    case enter f args => exact hh.mono fun e w'' ⟨u, he, hv⟩ => ⟨u, he, fin _ _ hv⟩
  | halt x w' => exact hh.elim
end callJ
end Go.Dx
namespace Go.Dx
open Go Go.RowKit
theorem ownJ_sub {c : Cx} {B : BL} {F : FV} {w : World} {J : BL} (hS : Sx c B F w) (hk : keysN J = true) (hl : lksJ B J) : OwnJ w (oes J) ∧ ∀ b ∈ ids (oes J), c.w0.heap.size ≤ b ∨ b ∈ c.M := by
  have hp := oes_perm (lksJ_perm hk hl)
  rw [oes_app] at hp
  have h1 := hS.st.perm hp
  refine ⟨⟨fun e he => h1.own e (List.mem_append_left _ he), ?_, fun b hb => (h1.fresh b (by rw [ids_app]; exact List.mem_append_left _ hb)).2⟩, fun b hb => (h1.fresh b (by rw [ids_app]; exact List.mem_append_left _ hb)).1⟩
  have := h1.nd
  rw [ids_app] at this
  exact (List.nodup_append.1 this).1
theorem entJ {σ : Type} (J : σ → BL) (s : σ) {g : σ → Value} {Ψ : σ → Prop} {P : Program} {T : Tab} (hT : T.Ok P) {f : FuncId} {fn : Func} {code : Code} {args : List Value} {w0 : World} {h0 : View} {rs : List ResultVar} {n : Nat} (stop cut : List Nat) (as : List SV)
    (hf : P.funcs[f]? = some fn) (hb : fn.body = some code) (hn : fn.ntmps = n) (hle : Nat.ble as.length n = true) (hr : fn.results = rs.toArray) (hv : VLe h0 (Full w0)) (hno : ∀ b ∈ ids (oes (J s)), h0 b = none) (ho : OwnJ w0 (oes (J s))) (ha : args = as.map (dv (J s)))
    (h : vcC ⟨P, T, .wp, n, w0, h0, ids (oes (J s)), fun _ => False, stop, cut⟩ code (argV as 0) (J s) (fun _ => True) (fun L B F => resK T L B rs fun vs => ∃ s', tupV vs = g s' ∧ Ψ s' ∧ keysN (J s') = true ∧ lksJ B (J s')) (fun _ _ _ _ => False)
      (fun L B F => resK T L B rs fun vs => ∃ s', tupV vs = g s' ∧ Ψ s' ∧ keysN (J s') = true ∧ lksJ B (J s'))) (hnk : noK (J s) = true := by rfl) : Calls P f args.toArray w0 (RetJ J s w0 fun u s' => u = g s' ∧ Ψ s') := by
  rw [ha]
  refine entG (E := fun B F vs => ∃ s', tupV vs = g s' ∧ Ψ s' ∧ keysN (J s') = true ∧ lksJ B (J s')) (h0 := h0) (kp := fun _ => False) hT stop cut (ids (oes (J s))) as (J s) hf hb hn hle hr (fun _ _ h _ => h.elim) ⟨?_, fun k g b o cs hm => absurd hm (noK_ne hnk _ _ _ _ _)⟩
    (fun B F vs w ⟨s', h1, h2, h3, h4⟩ hS => ?_) h
  · refine ⟨Keep.refl _ _, fun k o hk => ⟨hv k o hk, fun hm => ?_⟩, ho.own, fun b hb => ⟨.inr hb, ho.lt b hb⟩, ho.nd, Mono.tru, trivial⟩
    have hk : h0 k = some o := hk
    rw [hno k hm] at hk; cases hk
  · obtain ⟨g1, g2⟩ := ownJ_sub hS h3 h4
    exact ⟨_, s', rfl, ⟨h1, h2⟩, hS.st.keep, g1, fun b hb => (g2 b hb).symm⟩
section go
variable {c : Cx} (hT : c.T.Ok c.P)
include hT
theorem goPu {al : List Oper} {K : KR} {d : Nat} {op : Op} {ty : TypeId} {pos : String} {af : Array Edge} {r : List Oper} {L : SL} {B : BL} {F : FV} (v : Value)
    (hp : ∀ w, Sx c B F w → Pu c.P (fl L [] B) ⟨some d, op, ty, pos, af, none⟩ w v) (h : runs c al true K r ((d, .v v) :: L) [] B F) (hd : Nat.blt d c.n = true := by rfl) : true = true ∧ WP c al (⟨some d, op, ty, pos, af, none⟩ :: r) L [] B F K :=
  ⟨rfl, ⟨fun Q a w hn hp' hD hS => s_pu hD.fr (hp w hS) hd fun a' hF' => (runs_sound hT r _ _ _ _ h inv_nil).run Q a' w hn hp' ⟨hF', inv_nil⟩ hS⟩⟩
omit hT in
theorem ev_sl {L : SL} {B : BL} {x : Operand} {s : SV} {v : Value} (h : rdS L [] none x = some s) (hv : dvO B s = some v) : ev (fl L [] B) x = some v := rdS_ev inv_nil (cx := none) (og := none) rfl yes_none h hv
end go
section pus
variable {P : Program} {L : FL} {w : World} {d : Option Nat} {ty t t2 : TypeId} {pos : String} {af : Array Edge} {g : Option (Nat × Bool)} {x y : Operand}
theorem pu_pnil {p : Option Addr} {e : TypeId} (ht : P.underlying t = some (.pointer e)) (hx : ev L x = some (.pointer p)) (hy : ev L y = some (.pointer none)) : Pu P L ⟨d, .binOp .eql t x y t2, ty, pos, af, g⟩ w (.bool p.isNone) := by
  intro ρ hρ; simp only [execOp, hρ x (by simp [Op.operands]) _ hx, hρ y (by simp [Op.operands]) _ hy]
  have h2 : P.underlying t = some (.pointer (P.pointee t)) := by unfold Program.pointee; rw [ht]
  simp [eqGuard, run_eql_pointer_nil w t p h2]
theorem pu_psame {a : Addr} {e : TypeId} {j : TypeInfo} (ht : P.underlying t = some (.pointer e)) (hj : P.info? e = some j) (hx : ev L x = some (.pointer (some a))) (hy : ev L y = some (.pointer (some a))) : Pu P L ⟨d, .binOp .neq t x y t2, ty, pos, af, g⟩ w (.bool false) := by
  intro ρ hρ; simp only [execOp, hρ x (by simp [Op.operands]) _ hx, hρ y (by simp [Op.operands]) _ hy]
  simp [eqGuard, Lib.run_neq_ptr_same w a ht hj]
theorem pu_tounsafe {a : Addr} {tt e : TypeId} {j : TypeInfo} {cells : Nat} (hs : P.underlying t = some (.pointer tt)) (hd : P.underlying t2 = some .unsafePointer) (ht : P.info? tt = some j) (hj : j.size ≠ 0) (hsh : w.shape? a.block = some (e, cells)) (hoff : a.off < cells) (hx : ev L x = some (.pointer (some a))) :
    Pu P L ⟨d, .convert t t2 x, ty, pos, af, g⟩ w (.pointer (some a)) := by
  intro ρ hρ; simp only [execOp, hρ x (by simp [Op.operands]) _ hx]
  simp [Lib.run_to_unsafe w a hs hd ht hj hsh hoff]
theorem pu_fromunsafe {a : Addr} {u e : TypeId} {j : TypeInfo} {cells : Nat} (hs : P.underlying t = some .unsafePointer) (hd : P.underlying t2 = some (.pointer u)) (hu : P.info? u = some j) (hsh : w.shape? a.block = some (e, cells)) (hl : liesAt P P.depth e (cells / P.cellsOf e) a.off u 1 = true) (hx : ev L x = some (.pointer (some a))) :
    Pu P L ⟨d, .convert t t2 x, ty, pos, af, g⟩ w (.pointer (some a)) := by
  intro ρ hρ; simp only [execOp, hρ x (by simp [Op.operands]) _ hx]
  simp [Lib.run_from_unsafe w a hs hd hu hsh hl]
theorem pu_noesc {f : FuncId} {fn : Func} {v : Value} {ats : Array TypeId} (hf : P.funcs[f]? = some fn) (hname : (fn.name == "runtime.NumGoroutine") = false) (hb : fn.body.isNone = true) (hn : Extern.findNext fn = none) (he : Extern.find fn = some Extern.AbiNoEscape.same) (hx : ev L x = some v) :
    Pu P L ⟨d, .call ⟨.value (.func f), #[x], ats⟩, ty, pos, af, g⟩ w v := by
  intro ρ hρ
  have h1 : ρ (.func f) = .func (.func f) #[] #[] := hρ (.func f) (by simp [Op.operands, Call.operands]) _ rfl
  have h2 := hρ x (by simp [Op.operands, Call.operands]) _ hx
  simp only [execOp, resolve, List.map_toArray, h1, Deferred.ofValue, Sem.run_bind, Sem.run_pure, Result.andThen_ok, invoke, Array.append_empty, Array.empty_append]
  have : (List.map ρ [x]).toArray = (#[v] : Array Value) := by simp [h2]
  rw [this, run_callFunc_extern hf hname hb hn he]
  rfl
theorem pu_sliceData {a : Addr} {n cp : Nat} {ats : Array TypeId} (hc : cp ≠ 0) (hx : ev L x = some (.slice (some a) n cp)) : Pu P L ⟨d, .call ⟨.builtin .unsafeSliceData, #[x], ats⟩, ty, pos, af, g⟩ w (.pointer (some a)) := by
  intro ρ hρ
  simp [execOp, resolve, invoke, builtin, hρ x (by simp [Op.operands, Call.operands]) _ hx, Lib.run_unsafeSliceData_row w ats ty a n cp hc]
end pus
theorem lies_off {P : Program} {e : TypeId} (hc : P.cellsOf e = 1) (count off n : Nat) (hn : off + n ≤ count) : liesAt P P.depth e count off e n = true := by
  have hd : P.depth = (2 * (P.types.size + Made.depth) + 1) + 1 := rfl
  rw [hd]
  simp only [liesAt, Bool.or_eq_true]
  left
  rw [hd]
  have hm : off % 1 = 0 := Nat.mod_one off
  simp [rowAt, hc, hn, sameLayout, hm]
theorem us_match (p : Option Addr) (x : Value) (f : Option Addr → Value → Sem Value) (g : Array Value → Sem Value) : Builtin.unsafeString_.match_3 (fun _ => Sem Value) #[.pointer p, x] f g = f p x := rfl
theorem run_unsafeStr {P : Program} (w : World) (pt it ty e : TypeId) (hp : P.underlying pt = some (.pointer e)) (hc : P.cellsOf e = 1) (g off cells : Nat) (hsh : w.shape? g = some (e, cells)) (l : List UInt8) (h0 : l ≠ []) (hn : off + l.length ≤ cells) (h63 : l.length ≤ 9223372036854775807)
    (hcell : ∀ j x, l[j]? = some x → w.cell? ((⟨g, off, none⟩ : Addr).add j) = some (.int .u8 x.toNat)) :
    (Builtin.unsafeString_ #[pt, it] ty #[.pointer (some ⟨g, off, none⟩), .int .i64 l.length]).run P w = .ok (.string ⟨l.toArray⟩) (w.freeze ⟨g, off, none⟩ l.length) := by
  have hl : l.length ≠ 0 := by simpa using h0
  have hlb := Lib.run_loadBytes (P := P) w l ⟨g, off, none⟩ .empty hcell
  have hlies := lies_off (P := P) hc (cells / P.cellsOf e) off l.length (by rw [hc]; simpa using hn)
  have h63' : ¬ (9223372036854775807 : Int) < (l.length : Int) := by omega
  have hmax : IntKind.i64.max = 9223372036854775807 := rfl
  have hneg : ¬ (l.length : Int) < 0 := by omega
  delta Builtin.unsafeString_
  rw [us_match]
  simp [asInt, asIntOf, hmax, h63', hneg, hl, variablesAt, hsh, elemOf, run_underlying hp, hlies, hlb]
theorem freeze_keep (w : World) (a : Addr) (n : Nat) : Keep [a.block] w (w.freeze a n) := by
  unfold World.freeze
  split
  · exact ⟨rfl, rfl, rfl, Nat.le_refl _, fun _ _ _ => rfl⟩
  · refine ⟨rfl, rfl, rfl, by simp, fun k hk hn => ?_⟩
    have hne : a.block ≠ k := fun e => hn (by simp [e])
    simp [Array.getElem?_modify, hne]
section str
variable {c : Cx} (hT : c.T.Ok c.P)
include hT
theorem usS {al : List Oper} {K : KR} {d pt it e : Nat} {x y : Operand} {ty : TypeId} {pos : String} {af : Array Edge} {r : List Oper} {L : SL} {B : BL} {F : FV} {a : Addr} {n cp : Nat} (l : List UInt8) (k : Nat)
    (hB : lkA B k = some (.e (bufE e 1 (.slice (some a) n cp) (l.map v8)))) (hp : c.P.underlying pt = some (.pointer e)) (hc : c.P.cellsOf e = 1) (h0 : l ≠ []) (hx : rdS L [] none x = some (.v (.pointer (some a)))) (hy : rdS L [] none y = some (.v (.int .i64 (l.length : Nat))))
    (h : setAK B k (.e (a.block, fun _ => True)) fun B' => runs c al true K r ((d, .v (vs l)) :: L) [] B' F) (hd : Nat.blt d c.n = true := by rfl) :
    true = true ∧ WP c al (⟨some d, .call ⟨.builtin .unsafeString, ⟨[x, y]⟩, ⟨[pt, it]⟩⟩, ty, pos, af, none⟩ :: r) L [] B F K := by
  obtain ⟨i, hi, hset⟩ := lkE_ix hB
  obtain ⟨B', hrun, h3, h4, h5⟩ := hset h
  have hdv := dvO_setE hB h4
  refine ⟨rfl, ⟨fun Q ac w hn hpp hD hS => ?_⟩⟩
  have hC := hS.st.own _ (List.mem_of_getElem? hi)
  rcases hC with ⟨h1, _⟩ | ⟨g, off, n', cap, cur, fz, h1, h2, hfz, hlen, hnc, hcm, hfit, htake⟩
  · cases h1
  simp only [Value.slice.injEq, Option.some.injEq] at h1
  obtain ⟨rfl, rfl, rfl⟩ := h1
  rw [List.length_map, Nat.mul_one] at hlen
  subst hlen
  have h2' : w.heap[g]? = some (.cells cur e fz) := h2
  have hib : (bufE e 1 (.slice (some ⟨g, off, none⟩) l.length cp) (l.map v8)) = (some g, BufC e 1 (.slice (some ⟨g, off, none⟩) l.length cp) (l.map v8)) := rfl
  rw [hib] at hi
  have hus := run_unsafeStr (P := c.P) w pt it ty e hp hc g off cur.size (by simp [World.shape?, h2']) l h0 (by omega) (by simp only [maxLen] at hcm; omega) (fun j x hj => by
    rw [add_mk]
    have : w.cell? ⟨g, off + j, none⟩ = cur[off + j]? := by simp [World.cell?, h2']
    rw [this]
    have hj2 : (l.map v8)[j]? = some (v8 x) := by rw [List.getElem?_map, hj]; rfl
    rw [← htake, List.getElem?_take] at hj2
    split at hj2
    · simpa using hj2
    · cases hj2)
  have hds : Ds c.P (fl L [] B) ⟨some d, .call ⟨.builtin .unsafeString, ⟨[x, y]⟩, ⟨[pt, it]⟩⟩, ty, pos, af, none⟩ w fun v w' => v = vs l ∧ w' = w.freeze ⟨g, off, none⟩ l.length := by
    intro ρ hρ
    have e1 := hρ x (by simp [Op.operands, Call.operands]) _ (ev_sl hx rfl)
    have e2 := hρ y (by simp [Op.operands, Call.operands]) _ (ev_sl hy rfl)
    unfold Does
    have : (execOp ρ ⟨some d, .call ⟨.builtin .unsafeString, ⟨[x, y]⟩, ⟨[pt, it]⟩⟩, ty, pos, af, none⟩).run c.P w = .ok (.value (vs l)) (w.freeze ⟨g, off, none⟩ l.length) := by
      simp [execOp, resolve, invoke, builtin, e1, e2, hus]
    rw [this]
    exact ⟨rfl, rfl⟩
  refine s_ds hD.fr hds hd fun v w' a' ⟨hv, hw⟩ hF' => ?_
  subst hv; subst hw
  refine (runs_sound hT r _ _ _ _ hrun inv_nil).run Q a' _ hn hpp ⟨?_, inv_nil⟩ ⟨?_, fun q g' b' o cs hq => ?_⟩
  · rw [fl_congr hdv]; exact hF'
  · rw [h3]; exact hS.st.write (C' := fun _ => True) hi (freeze_keep w ⟨g, off, none⟩ l.length) trivial
  · rcases h5 _ hq with hq | hq
    · exact hS.bk _ _ _ _ _ hq
    · cases hq
end str
end Go.Dx
namespace Go.Dx
open Go Go.RowKit
def LoopC (r : Loop) : Option Obj → Prop := fun o => o = some (.loop r)
def DefC : Option Obj → Prop := fun o => o = some (.deferred (some []))
def YC {σ : Type} (P : Program) (J : σ → BL) (s : σ) (l : Nat) (args : List Value) (w : World) (Ψ : Value → σ → Prop) : Prop :=
  ∃ fn tmps assign body, (Instr.yield l args.toArray).run P w = .ok (.round l fn tmps assign body) w ∧ RoundIn Fence.wide 0 P l fn tmps assign body w (RetJ J s w Ψ)
theorem wide_some (l : Nat) : wideR (some l) = Fence.wide.inRound l := rfl
section yj
variable {c : Cx} (hT : c.T.Ok c.P)
include hT
theorem yJ {σ : Type} (J : σ → BL) (s : σ) {g : σ → Value} {Ψ : σ → Prop} {al : List Oper} {K : KR} {d l : Nat} {x : Operand} {args : List Operand} {ats : Array TypeId} {ty : TypeId} {pos : String} {af : Array Edge} {rest : List Oper} {L : SL} {B : BL} {F : FV} {vsl : List Value}
    (H : ∀ w v, VLe c.h0 v → F v → VLe v (Full w) → (∀ b ∈ ids (oes (J s)), v b = none) → OwnJ w (oes (J s)) → YC c.P J s l vsl w fun u s' => u = g s' ∧ Ψ s')
    (k : ∀ s', Ψ s' → wr c.n d (.v (g s')) L [] fun L I => runs c al true K rest L I (J s' ++ delL B (J s)) F)
    (hmd : c.md = .rd none := by rfl) (hx : rdS L [] none x = some (.v (.func (.yield l) #[] #[])) := by rfl)
    (hl : lksJ B (J s) := by exact ⟨rfl, rfl, trivial⟩) (hkn : keysN (J s) = true := by rfl) (ha : ∀ s s', (J s).map (fun p => (p.1, adOf p.2)) = (J s').map (fun p => (p.1, adOf p.2)) := by exact fun _ _ => rfl) (hnk : noK (J s) = true := by rfl) (hnk' : ∀ s, noK (J s) = true := by exact fun _ => rfl)
    (hv : argK (rdS L [] none) B args fun l => l = vsl := by exact rfl) :
    true = true ∧ WP c al (⟨some d, .call ⟨.value x, ⟨args⟩, ats⟩, ty, pos, af, none⟩ :: rest) L [] B F K := by
  have hperm := lksJ_perm hkn hl
  have hoes : (oes B).Perm (oes (J s) ++ oes (delL B (J s))) := by rw [← oes_app]; exact oes_perm hperm
  refine ⟨rfl, ⟨fun Q a w hn hp hD hS => ?_⟩⟩
  have hInv : Inv L [] := inv_nil
  obtain ⟨vl, rfl, hev⟩ := argK_sound (hρ_of (B := B) hInv (cx := none) (og := none) rfl) hv
  have hS1 : St c.w0 c.h0 c.M w (oes (J s) ++ oes (delL B (J s))) F := hS.st.perm hoes
  have hin : ∀ b ∈ ids (oes (J s)), b ∈ ids (oes B) := fun b hb => (ids_perm hoes).mem_iff.2 (by rw [ids_app]; exact List.mem_append_left _ hb)
  have hown : OwnJ w (oes (J s)) := ⟨fun e he => hS1.own e (List.mem_append_left _ he), by have := hS1.nd; rw [ids_app] at this; exact (List.nodup_append.1 this).1, fun b hb => (hS.st.fresh b (hin b hb)).2⟩
  obtain ⟨fn, tmps, assign, body, hy, hR⟩ := H w _ hS.st.base_cv hS.st.facts hS.st.view (fun b hb => cv_own (hin b hb)) hown
  refine wpM_plain rfl fun K' hK => ?_
  have fin : ∀ v w', (∃ s', (v = g s' ∧ Ψ s') ∧ Keep (ids (oes (J s))) w w' ∧ OwnJ w' (oes (J s')) ∧ ∀ b ∈ ids (oes (J s')), b ∈ ids (oes (J s)) ∨ w.heap.size ≤ b) → K' (a.put (some d) v) w' := by
    rintro v w' ⟨s', ⟨rfl, hΨ⟩, hk, ho, hfr⟩
    obtain ⟨L', I', hX, hI', hdn, hkv, hrw⟩ := wr_sound hInv (k s' hΨ)
    refine hK _ _ ((runs_sound hT rest _ _ _ _ hX hI').run Q _ w' hn hp (Dn.cons (rr := some (g s')) (hD.fr.put hdn _) hI' (fun t => ?_) (fun u hu => (Option.some.inj hu).symm)) ⟨?_, fun m g' b o cs hm => ?_⟩)
    · rw [hkv, kv_fl (fl_congr fun sv => dvO_go hl (ha s s') sv)]; rfl
    · rw [oes_app]; exact hS1.go hk ho hfr
    · rcases List.mem_append.1 hm with hm | hm
      · exact absurd hm (noK_ne (hnk' s') _ _ _ _ _)
      · exact hS.bk m g' b o cs (hperm.mem_iff.2 (List.mem_append_right _ hm))
  rw [hmd]
  show Oper.wpIn (wideR none) 0 c.P _ a w K' Q
  have e1 : a.eval x = .func (.yield l) #[] #[] := hD.fr.ev (ev_sl hx rfl)
  have e2 : args.map a.eval = vl := evs_map _ vl (hev yes_none) fun y _ u hu => hD.fr.ev hu
  have hrun : (execOp a.eval ⟨some d, .call ⟨.value x, ⟨args⟩, ats⟩, ty, pos, af, none⟩).run c.P w = .ok (.round l fn tmps assign body) w := by
    simp only [execOp, resolve, List.map_toArray, e1, e2, Deferred.ofValue, Sem.run_bind, Sem.run_pure, Result.andThen_ok, invoke, Array.empty_append]
    exact hy
  refine ⟨fun _ _ => trivial, ?_⟩
  rw [Oper.semAt_eq _ _ _ (fun c hc => by cases hc), hrun, Oper.uponIn_round]
  refine ⟨(fun h => by cases h), hR.mono ?_⟩
  rintro e w' ⟨u, s', rfl, ⟨h1, h2⟩, h3, h4, h5⟩
  exact fin u w' ⟨s', ⟨h1, h2⟩, h3, h4, h5⟩
end yj
theorem entGR {P : Program} {T : Tab} (hT : T.Ok P) {f : FuncId} {fn : Func} {code : Code} {w0 : World} {h0 : View} {rs : List ResultVar} {n : Nat} {R : Ending → World → Prop} {kp : List PanicEntry → Prop} {E : BL → FV → List Value → Prop} (stop cut M : List Nat) (as : List SV) (B0 : BL)
    (hf : P.funcs[f]? = some fn) (hb : fn.body = some code) (hn : fn.ntmps = n) (hle : Nat.ble as.length n = true) (hr : fn.results = rs.toArray) (hp : ∀ ch w, kp ch → Keep M w0 w → R (.panicked ch) w)
    (hS : Sx ⟨P, T, .rd none, n, w0, h0, M, kp, stop, cut⟩ B0 (fun _ => True) w0) (hE : ∀ B F vs w, E B F vs → Sx ⟨P, T, .rd none, n, w0, h0, M, kp, stop, cut⟩ B F w → R (.returned (tupV vs)) w)
    (h : vcC ⟨P, T, .rd none, n, w0, h0, M, kp, stop, cut⟩ code (argV as 0) B0 (fun _ => True) (fun L B F => resK T L B rs (E B F)) (fun _ _ _ _ => False) (fun L B F => resK T L B rs (E B F))) : Calls P f (as.map (dv B0)).toArray w0 R := by
  refine f_enterR hf hb hn (by simpa using hle) fun a hF => ?_
  have fin : ∀ L B F a w, resK T L B rs (E B F) → Dn ⟨P, T, .rd none, n, w0, h0, M, kp, stop, cut⟩ L [] B a → Sx ⟨P, T, .rd none, n, w0, h0, M, kp, stop, cut⟩ B F w → bodyPost P fn R .ret a w := by
    intro L B F a w hk hD hS
    obtain ⟨vs, h1, h2⟩ := resK_sound (c := ⟨P, T, .rd none, n, w0, h0, M, kp, stop, cut⟩) hT hD hS.wok hk
    exact f_ret hD.fr hr h2 (hE _ _ _ _ h1 hS)
  refine (vcC_sound (c := ⟨P, T, .rd none, n, w0, h0, M, kp, stop, cut⟩) hT code _ _ _ _ _ _ h).run (bodyPost P fn R) a w0 (fun L B F a w hk hD hS => ?_) ⟨fun _ _ _ _ _ _ _ h => h.elim, fun _ _ _ _ _ _ h => h.elim⟩ fin (fun ch a w hk hd hkeep => ⟨hd, hp ch w hk hkeep⟩) ⟨Fr.of_kv hF.df hF.sz fun t v hv => ?_, inv_nil⟩ hS
  · exact fin L B F a w hk hD hS
  · exact hF.at_ t v (argV_kv as 0 t v hv)
theorem sx_J {c : Cx} {B : BL} {w : World} (hw : c.w0 = w) (hM : c.M = ids (oes B)) (hv : VLe c.h0 (Full w)) (hno : ∀ b ∈ ids (oes B), c.h0 b = none) (ho : OwnJ w (oes B)) (hnk : noK B = true) : Sx c B (fun _ => True) w := by
  refine ⟨?_, fun k g b o cs hm => absurd hm (noK_ne hnk _ _ _ _ _)⟩
  rw [hM, hw]
  refine ⟨Keep.refl _ _, fun k o hk => ⟨hv k o hk, fun hm => ?_⟩, ho.own, fun b hb => ⟨.inr hb, ho.lt b hb⟩, ho.nd, Mono.tru, trivial⟩
  rw [hno k hm] at hk; cases hk
theorem entJR {σ : Type} (J : σ → BL) (s : σ) {g : σ → Value} {Ψ : σ → Prop} {P : Program} {T : Tab} (hT : T.Ok P) {f : FuncId} {fn : Func} {code : Code} {args : List Value} {w0 : World} {h0 : View} {rs : List ResultVar} {n : Nat} (stop cut : List Nat) (as : List SV)
    (hf : P.funcs[f]? = some fn) (hb : fn.body = some code) (hn : fn.ntmps = n) (hle : Nat.ble as.length n = true) (hr : fn.results = rs.toArray) (hv : VLe h0 (Full w0)) (hno : ∀ b ∈ ids (oes (J s)), h0 b = none) (ho : OwnJ w0 (oes (J s))) (ha : args = as.map (dv (J s)))
    (h : vcC ⟨P, T, .rd none, n, w0, h0, ids (oes (J s)), fun _ => False, stop, cut⟩ code (argV as 0) (J s) (fun _ => True) (fun L B F => resK T L B rs fun vs => ∃ s', tupV vs = g s' ∧ Ψ s' ∧ keysN (J s') = true ∧ lksJ B (J s')) (fun _ _ _ _ => False)
      (fun L B F => resK T L B rs fun vs => ∃ s', tupV vs = g s' ∧ Ψ s' ∧ keysN (J s') = true ∧ lksJ B (J s'))) (hnk : noK (J s) = true := by rfl) : Calls P f args.toArray w0 (RetJ J s w0 fun u s' => u = g s' ∧ Ψ s') := by
  rw [ha]
  refine entGR (E := fun B F vs => ∃ s', tupV vs = g s' ∧ Ψ s' ∧ keysN (J s') = true ∧ lksJ B (J s')) (h0 := h0) (kp := fun _ => False) hT stop cut (ids (oes (J s))) as (J s) hf hb hn hle hr (fun _ _ h _ => h.elim) (sx_J rfl rfl hv hno ho hnk)
    (fun B F vs w ⟨s', h1, h2, h3, h4⟩ hS => ?_) h
  obtain ⟨g1, g2⟩ := ownJ_sub hS h3 h4
  exact ⟨_, s', rfl, ⟨h1, h2⟩, hS.st.keep, g1, fun b hb => (g2 b hb).symm⟩
theorem setAK_own {B : BL} {k b : Nat} {C C' : Option Obj → Prop} {K : BL → Prop} {c : Cx} {F : FV} {w w' : World} (hB : lkA B k = some (.e (some b, C))) (h : setAK B k (.e (some b, C')) K) (hS : Sx c B F w) (hk : Keep [b] w w') (hC : C' w'.heap[b]?) :
    ∃ B', K B' ∧ Sx c B' F w' ∧ ∀ s, dvO B' s = dvO B s := by
  obtain ⟨i, hi, hset⟩ := lkE_ix hB
  obtain ⟨B', hrun, h3, h4, h5⟩ := hset h
  have hdv := dvO_setE hB h4
  refine ⟨B', hrun, ⟨?_, fun q g b o cs hq => ?_⟩, hdv⟩
  · rw [h3]; exact hS.st.write hi hk hC
  · rcases h5 _ hq with hq | hq
    · exact hS.bk _ _ _ _ _ hq
    · cases hq
theorem keep_put {w : World} {l : Nat} {o : Obj} : Keep [l] w (w.putObj l o) := ⟨rfl, rfl, rfl, by simp, fun k _ hn => World.putObj_heap_other (by simpa using hn)⟩
theorem roundJ {σ : Type} {P : Program} {T : Tab} (hT : T.Ok P) (JR : σ → BL) (kl : Nat) {rec : Loop} (hrec : rec.state = .ready) (hpe : rec.pending = none) (s : σ) {Ψ : σ → Prop} (stop cut : List Nat) (L0 : SL) {l n : Nat} {v : View} {w : World} {tmps : Array Value}
    (hv : VLe v (Full w)) (hno : ∀ b ∈ ids (oes (JR s ++ [(kl, .e (some l, LoopC rec))])), v b = none) (ho : OwnJ w (oes (JR s ++ [(kl, .e (some l, LoopC rec))]))) (hsz : tmps.size = n)
    (hL : ∀ t x, kv L0 [] (JR s ++ [(kl, .e (some l, LoopC rec))]) t = some x → tmps.getD t undef = x)
    (h : vcC ⟨P, T, .rd (some l), n, w, v, ids (oes (JR s ++ [(kl, .e (some l, LoopC rec))])), fun _ => False, stop, cut⟩ rec.assign L0 (JR s ++ [(kl, .e (some l, LoopC rec))]) (fun _ => True)
      (fun L B F => lkA B kl = some (.e (some l, LoopC rec)) ∧ setAK B kl (.e (some l, LoopC { rec with state := .busy })) fun B =>
        vcC ⟨P, T, .rd (some l), n, w, v, ids (oes (JR s ++ [(kl, .e (some l, LoopC rec))])), fun _ => False, stop, cut⟩ rec.body L B F
          (fun _ B _ => ∃ s', Ψ s' ∧ keysN (JR s' ++ [(kl, .e (some l, LoopC { rec with state := .busy }))]) = true ∧ lksJ B (JR s' ++ [(kl, .e (some l, LoopC { rec with state := .busy }))])) (fun _ _ _ _ => False) (fun _ _ _ => False))
      (fun _ _ _ _ => False) (fun _ _ _ => False)) (hnk : noK (JR s ++ [(kl, .e (some l, LoopC rec))]) = true := by rfl) :
    RoundIn Fence.wide 0 P l rec.fn tmps rec.assign rec.body w (RetJ (fun s => JR s ++ [(kl, .e (some l, LoopC rec))]) s w fun u s' => u = .bool true ∧ Ψ s') := by
  refine roundIn_of_wpIn trivial ?_
  rw [← wide_some]
  have hS0 : Sx ⟨P, T, .rd (some l), n, w, v, ids (oes (JR s ++ [(kl, .e (some l, LoopC rec))])), fun _ => False, stop, cut⟩ (JR s ++ [(kl, .e (some l, LoopC rec))]) (fun _ => True) w := sx_J rfl rfl hv hno ho hnk
  refine (vcC_sound (c := ⟨P, T, .rd (some l), n, w, v, ids (oes (JR s ++ [(kl, .e (some l, LoopC rec))])), fun _ => False, stop, cut⟩) hT rec.assign _ _ _ _ _ _ h).run _ ⟨tmps, []⟩ w (fun L B F a w1 hk hD hS => ?_) ⟨fun _ _ _ _ _ _ _ h => h.elim, fun _ _ _ _ _ _ h => h.elim⟩ (fun _ _ _ _ _ h _ _ => h.elim) (fun _ _ _ h _ _ => h.elim)
    ⟨Fr.of_kv rfl hsz fun t x hx => hL t x hx, inv_nil⟩ hS0
  obtain ⟨hB, hset⟩ := hk
  have hl1 : w1.heap[l]? = some (.loop rec) := by
    obtain ⟨i, hi, _⟩ := lkE_ix hB
    exact hS.st.at hi
  have hlt1 : l < w1.heap.size := (Array.getElem?_eq_some_iff.1 hl1).1
  refine ⟨_, run_beginRound hl1 hrec, ?_⟩
  obtain ⟨B', hvc, hS', hdv⟩ := setAK_own hB hset hS keep_put (C' := LoopC { rec with state := .busy }) (World.putObj_heap_same hlt1)
  refine (vcC_sound (c := ⟨P, T, .rd (some l), n, w, v, ids (oes (JR s ++ [(kl, .e (some l, LoopC rec))])), fun _ => False, stop, cut⟩) hT rec.body _ _ _ _ _ _ hvc).run (roundPost P l _) a _ (fun L B F a w2 hk hD hS => ?_) ⟨fun _ _ _ _ _ _ _ h => h.elim, fun _ _ _ _ _ _ h => h.elim⟩ (fun _ _ _ _ _ h _ _ => h.elim) (fun _ _ _ h _ _ => h.elim)
    ⟨by rw [fl_congr hdv]; exact hD.fr, inv_nil⟩ hS'
  obtain ⟨s', hΨ, hkn, hlk⟩ := hk
  obtain ⟨g1, g2⟩ := ownJ_sub hS hkn hlk
  have eo : ∀ C, oes (JR s' ++ [(kl, OB.e (some l, C))]) = oes (JR s') ++ [(some l, C)] := fun C => by rw [oes_app]; rfl
  have ei : ∀ C : Option Obj → Prop, ids (oes (JR s') ++ [(some l, C)]) = ids (oes (JR s')) ++ [l] := fun C => by rw [ids_app]; rfl
  rw [eo] at g1 g2
  rw [ei] at g2
  have hl2 : w2.heap[l]? = some (.loop { rec with state := .busy }) := g1.own (some l, _) (List.mem_append_right _ (List.mem_singleton.2 rfl))
  have hlt2 : l < w2.heap.size := (Array.getElem?_eq_some_iff.1 hl2).1
  have hnd := g1.nd
  rw [ei] at hnd
  have hnl : ∀ b ∈ ids (oes (JR s')), b ≠ l := fun b hb e => (List.nodup_append.1 hnd).2.2 b hb l (List.mem_singleton.2 rfl) e
  have hrr : ({ ({ rec with state := .busy } : Loop) with state := .ready, pending := none } : Loop) = rec := by cases rec; cases hrec; cases hpe; rfl
  have hend := run_endRound (P := P) none hl2
  refine ⟨_, _, hend, _, s', rfl, ⟨rfl, hΨ⟩, ?_, ?_, ?_⟩
  · refine hS.st.keep.trans (keep_put.mono fun b hb _ => ?_)
    have : b = l := by simpa using hb
    subst this
    show b ∈ ids (oes (JR s ++ [(kl, .e (some b, LoopC rec))]))
    rw [oes_app, ids_app]; exact List.mem_append_right _ (List.mem_singleton.2 rfl)
  · show OwnJ _ (oes (JR s' ++ [(kl, .e (some l, LoopC rec))]))
    rw [eo]
    refine ⟨fun e he => ?_, by rw [ei]; exact hnd, fun b hb => ?_⟩
    · rcases List.mem_append.1 he with he | he
      · have := g1.own e (List.mem_append_left _ he)
        cases h1 : e.1 with
        | none => rw [h1] at this; exact this
        | some b =>
          rw [h1] at this
          have hb : b ∈ ids (oes (JR s')) := List.mem_filterMap.2 ⟨e, he, h1⟩
          simp only [Option.bind_some] at this ⊢
          rw [World.putObj_heap_other (hnl b hb)]; exact this
      · rw [List.mem_singleton.1 he]
        show LoopC rec _
        have h1 := World.putObj_heap_same (o := .loop { ({ rec with state := .busy } : Loop) with state := if (none : Option Code).isNone then .ready else .done, pending := none }) hlt2
        exact h1.trans (congrArg (fun r => some (Obj.loop r)) hrr)
    · rw [World.putObj_size]
      rw [ei] at hb
      have := g1.lt b
      rw [ei] at this
      exact this hb
  · intro b hb
    have hb : b ∈ ids (oes (JR s' ++ [(kl, OB.e (some l, LoopC rec))])) := hb
    rw [eo, ei] at hb
    exact (g2 b hb).symm
theorem rangeJ {c : Cx} (hT : c.T.Ok c.P) {σ : Type} (JR : σ → BL) (s : σ) (kl kd : Nat) {Ψ : σ → Prop} {g : Operand} {ps : Array Tmp} {assign body : Code} {gf : Nat} {lb : List Value} {L : SL} {B : BL} {F : FV} {Q : Exit → Act → World → Prop} {a : Act} {w : World}
    (hD : Dn c L [] B a) (hS : Sx c B F w) (hg : a.eval g = .func (.func gf) #[] lb.toArray) (hgf : CallOk c.P gf)
    (hl : lksJ B (JR s)) (hkn : keysN (JR s) = true) (ha : ∀ s s', (JR s).map (fun p => (p.1, adOf p.2)) = (JR s').map (fun p => (p.1, adOf p.2))) (hnk' : ∀ s, noK (JR s) = true)
    (hkd : ∀ s', lkA (JR s' ++ delL B (JR s)) kd = none)
    (H : ∀ (rec : Loop) (l : Nat), rec.state = .ready → rec.pending = none → rec.tmps = a.tmps → rec.params = ps → rec.assign = assign → rec.body = body → ∀ w1 v, VLe c.h0 v → F v → VLe v (Full w1) →
      (∀ b ∈ ids (oes (JR s ++ [(kl, .e (some l, LoopC rec))])), v b = none) → OwnJ w1 (oes (JR s ++ [(kl, .e (some l, LoopC rec))])) → Calls c.P gf (Value.func (.yield l) #[] #[] :: lb).toArray w1 (RetJ (fun s => JR s ++ [(kl, .e (some l, LoopC rec))]) s w1 fun _ s' => Ψ s'))
    (k : ∀ s' D w', Ψ s' → Dn c L [] ((kd, .e (some D, DefC)) :: (JR s' ++ delL B (JR s))) a → Sx c ((kd, .e (some D, DefC)) :: (JR s' ++ delL B (JR s))) F w' → Q .normal { a with defers := ⟨.collected D, #[]⟩ :: a.defers } w') :
    codeM .wp c.P (.rangeFunc g ps assign body) Q a w := by
  refine (wpIn_wide (n := 1)).1 (wpIn_rangeFunc ?_)
  intro fn _
  have hperm := lksJ_perm hkn hl
  have hoes : (oes B).Perm (oes (JR s) ++ oes (delL B (JR s))) := by rw [← oes_app]; exact oes_perm hperm
  have hS0 : St c.w0 c.h0 c.M w (oes (JR s) ++ oes (delL B (JR s))) F := hS.st.perm hoes
  obtain ⟨rec, hrec⟩ : ∃ rec : Loop, rec = { state := .ready, pending := none, fn, tmps := a.tmps, params := ps, assign, body, defers := w.heap.size } := ⟨_, rfl⟩
  obtain ⟨W1, hW1⟩ : ∃ W1, (w.alloc (.deferred (some []))).alloc (.loop rec) = W1 := ⟨_, rfl⟩
  obtain ⟨D, hDe⟩ : ∃ D, D = w.heap.size := ⟨_, rfl⟩
  obtain ⟨l, hle⟩ : ∃ l, l = w.heap.size + 1 := ⟨_, rfl⟩
  have hS1 := (hS0.new (.deferred (some [])) (C := DefC) rfl).new (.loop rec) (C := LoopC rec) rfl
  rw [hW1, World.size_alloc, ← hDe, show D + 1 = l by omega] at hS1
  have pm : ((some l, LoopC rec) :: (some D, DefC) :: (oes (JR s) ++ oes (delL B (JR s)))).Perm ((oes (JR s) ++ [(some l, LoopC rec)]) ++ ((some D, DefC) :: oes (delL B (JR s)))) := by
    rw [List.append_assoc, List.singleton_append]
    refine (List.Perm.trans ?_ List.perm_middle.symm)
    exact List.Perm.cons _ List.perm_middle.symm
  have hS2 := hS1.perm pm
  have eo : ∀ s', oes (JR s' ++ [(kl, OB.e (some l, LoopC rec))]) = oes (JR s') ++ [(some l, LoopC rec)] := fun s' => by rw [oes_app]; rfl
  have hin : ∀ b ∈ ids (oes (JR s) ++ [(some l, LoopC rec)]), b ∈ ids ((oes (JR s) ++ [(some l, LoopC rec)]) ++ ((some D, DefC) :: oes (delL B (JR s)))) := fun b hb => by rw [ids_app]; exact List.mem_append_left _ hb
  have hown : OwnJ W1 (oes (JR s) ++ [(some l, LoopC rec)]) := ⟨fun e he => hS2.own e (List.mem_append_left _ he), by have := hS2.nd; rw [ids_app] at this; exact (List.nodup_append.1 this).1, fun b hb => (hS2.fresh b (hin b hb)).2⟩
  have hcall := H rec l (by rw [hrec]) (by rw [hrec]) (by rw [hrec]) (by rw [hrec]) (by rw [hrec]) (by rw [hrec]) W1 _ hS2.base_cv hS2.facts hS2.view (fun b hb => cv_own (hin b (by rw [eo] at hb; exact hb))) (by rw [eo]; exact hown)
  refine ⟨l, [⟨.collected D, #[]⟩], W1, { target := .fn (.func gf) lb.toArray, args := #[.func (.yield l) #[] #[]] }, W1, gf, #[.func (.yield l) #[] #[]] ++ lb.toArray, W1, ?_, ?_, fun _ _ => trivial, ?_, fun _ => Nat.le_refl _, ?_⟩
  · have := run_enterLoop_outer (P := c.P) (w := w) fn a.tmps ps assign body
    rw [← hrec, hW1, ← hDe, show D + 1 = l by omega] at this
    exact this
  · simp only [resolve, hg]
    simp [go_sem]
  · simp only [invoke]
    exact run_call hgf
  · refine callsIn_wide.2 ?_
    have e0 : (#[.func (.yield l) #[] #[]] ++ lb.toArray : Array Value) = (Value.func (.yield l) #[] #[] :: lb).toArray := by simp
    rw [e0]
    refine hcall.mono ?_
    rintro e W2 ⟨u, s', rfl, hΨ, hk2, ho2, hf2⟩
    have hk2 : Keep (ids (oes (JR s ++ [(kl, OB.e (some l, LoopC rec))]))) W1 W2 := hk2
    have ho2 : OwnJ W2 (oes (JR s' ++ [(kl, OB.e (some l, LoopC rec))])) := ho2
    have hf2 : ∀ b ∈ ids (oes (JR s' ++ [(kl, OB.e (some l, LoopC rec))])), b ∈ ids (oes (JR s ++ [(kl, OB.e (some l, LoopC rec))])) ∨ W1.heap.size ≤ b := hf2
    rw [eo] at hk2 hf2 ho2
    rw [eo] at hf2
    have hS3 := hS2.go hk2 ho2 hf2
    have pm2 : ((oes (JR s') ++ [(some l, LoopC rec)]) ++ ((some D, DefC) :: oes (delL B (JR s)))).Perm ((some l, LoopC rec) :: (some D, DefC) :: (oes (JR s') ++ oes (delL B (JR s)))) := by
      rw [List.append_assoc, List.singleton_append]
      refine List.Perm.trans List.perm_middle ?_
      exact List.Perm.cons _ List.perm_middle
    have hS4 := hS3.perm pm2
    have hl2 : W2.heap[l]? = some (.loop rec) := hS4.at (i := 0) rfl
    have hlt2 : l < W2.heap.size := (Array.getElem?_eq_some_iff.1 hl2).1
    have hend := run_endLoop (P := c.P) hl2 (by rw [hrec]; simp)
    have hS5 := hS4.write (i := 0) (C' := fun _ => True) rfl (keep_put (o := .loop { rec with state := .exhausted })) trivial
    have hS6 := St.suffix (A := [(some l, fun _ => True)]) hS5
    refine ⟨none, _, hend.trans (congrArg (fun p => Result.ok p (W2.putObj l (.loop { rec with state := .exhausted }))) (show rec.pending = none by rw [hrec])), ?_⟩
    have hdv : ∀ sv, dvO ((kd, .e (some D, DefC)) :: (JR s' ++ delL B (JR s))) sv = dvO B sv := fun sv => (nil_dv (hkd s') (some D, DefC) sv).trans (dvO_go hl (ha s s') sv)
    refine k s' D _ hΨ ⟨by rw [fl_congr hdv]; exact hD.fr, inv_nil⟩ ⟨?_, fun m g' b o cs hm => ?_⟩
    · show St _ _ _ _ ((some D, DefC) :: oes (JR s' ++ delL B (JR s))) _
      rw [oes_app]; exact hS6
    · rcases List.mem_cons.1 hm with hm | hm
      · cases hm
      rcases List.mem_append.1 hm with hm | hm
      · exact absurd hm (noK_ne (hnk' s') _ _ _ _ _)
      · exact hS.bk m g' b o cs (hperm.mem_iff.2 (List.mem_append_right _ hm))
theorem retM {c : Cx} (hT : c.T.Ok c.P) {L : SL} {B : BL} {F : FV} {a : Act} {w : World} {fn : Func} {rs : List ResultVar} {R : Ending → World → Prop} {E : BL → FV → List Value → Prop} (kd : Nat) {D : Nat} (hr : fn.results = rs.toArray) (hB : lkA B kd = some (.e (some D, DefC)))
    (h : setAK B kd (.e (some D, fun _ => True)) fun B => resK c.T L B rs (E B F)) (hD : Dn c L [] B a) (hS : Sx c B F w) (hE : ∀ B F vs w, E B F vs → Sx c B F w → R (.returned (tupV vs)) w) :
    LeavesInM Fence.wide 1 c.P fn a.tmps R [⟨.collected D, #[]⟩] .returning w := by
  have hd : w.heap[D]? = some (.deferred (some [])) := by
    obtain ⟨i, hi, _⟩ := lkE_ix hB
    exact hS.st.at hi
  obtain ⟨B', hk, hS', hdv⟩ := setAK_own hB h hS (keep_put (o := .deferred none)) (C' := fun _ => True) trivial
  refine ⟨by simp, .inl ⟨D, _, rfl, run_takeDeferred hd, ?_⟩⟩
  have hD' : Dn c L [] B' a := ⟨by rw [fl_congr hdv]; exact hD.fr, inv_nil⟩
  obtain ⟨vs, h1, h2⟩ := resK_sound (c := c) hT hD' hS'.wok hk
  obtain ⟨_, v, hv1, hv2⟩ := f_ret (R := R) hD'.fr hr h2 (hE _ _ _ _ h1 hS')
  exact ⟨v, hv1, hv2⟩
theorem entDM {P : Program} {T : Tab} (hT : T.Ok P) {f : FuncId} {fn : Func} {code : Code} {args : List Value} {w0 : World} {h0 : View} {rs : List ResultVar} {n : Nat} {R : Ending → World → Prop} {E : BL → FV → List Value → Prop} (stop cut : List Nat) (m : Nat)
    (hf : P.funcs[f]? = some fn) (hb : fn.body = some code) (hn : fn.ntmps = n) (hle : Nat.ble args.length n = true) (hr : fn.results = rs.toArray) (hv : VLe h0 (Full w0))
    (hE : ∀ B F vs w, E B F vs → Sx ⟨P, T, .wp, n, w0, h0, [], fun _ => False, stop, cut⟩ B F w → R (.returned (tupV vs)) w)
    (h : vcD ⟨P, T, .wp, n, w0, h0, [], fun _ => False, stop, cut⟩ (fun L B F code => ∀ a w, Dn ⟨P, T, .wp, n, w0, h0, [], fun _ => False, stop, cut⟩ L [] B a → Sx ⟨P, T, .wp, n, w0, h0, [], fun _ => False, stop, cut⟩ B F w → codeM .wp P code (bodyPostM Fence.wide 1 P fn R) a w) m code (argS args 0) [] (fun _ => True) (fun _ _ _ _ => False)
      (fun L B F => resK T L B rs (E B F))) : Calls P f args.toArray w0 R := by
  have hle' : args.length ≤ n := Nat.le_of_ble_eq_true hle
  refine callsIn_wide.1 (callsIn_of_wp_marks (F := Fence.wide) (n := 1) hf hb trivial (wpIn_wide.2 ?_))
  generalize hac : ({ tmps := args.toArray ++ Array.replicate (fn.ntmps - args.toArray.size) undef, defers := [] } : Act) = ac
  have hF : Fr ac n (argL args 0) := by
    subst hac
    refine ⟨rfl, ?_, fun i v hi => ?_⟩
    · simp only [hn, Array.size_append, List.size_toArray, Array.size_replicate]; omega
    · obtain ⟨j, rfl, hj⟩ := lk_argL args 0 i v hi
      have hlt : j < args.length := (List.getElem?_eq_some_iff.1 hj).1
      simp only [Nat.zero_add]
      simp [Array.getElem?_append, hlt]
      have := List.getElem?_eq_some_iff.1 hj
      exact this.2
  refine vcD_sound (c := ⟨P, T, .wp, n, w0, h0, [], fun _ => False, stop, cut⟩) hT (Q := bodyPostM Fence.wide 1 P fn R) (fun L B F code a w hW hD hS => hW a w hD hS) ⟨fun _ _ _ _ _ _ _ h => h.elim, fun _ _ _ _ _ _ h => h.elim⟩ ?_ (fun ch a w hk _ _ => hk.elim) m code _ _ _ h ac w0 ⟨Fr.of_kv hF.df hF.sz fun t v hv => ?_, inv_nil⟩ ⟨St.init w0 h0 hv, fun k g b o cs hk => by cases hk⟩
  · intro L B F a w hk hD hS
    obtain ⟨vs, h1, h2⟩ := resK_sound (c := ⟨P, T, .wp, n, w0, h0, [], fun _ => False, stop, cut⟩) hT hD hS.wok hk
    obtain ⟨_, v, hv1, hv2⟩ := f_ret (R := R) hD.fr hr h2 (hE _ _ _ _ h1 hS)
    show LeavesInM Fence.wide 1 P fn a.tmps R a.defers .returning w
    rw [hD.fr.df]
    exact ⟨v, hv1, hv2⟩
  · have e : argS args 0 = argV (args.map .v) 0 := argS_V args 0
    rw [e] at hv
    have := argV_kv (args.map .v) 0 t v hv
    rw [List.map_map] at this
    have e2 : (dv [] ∘ SV.v) = id := by funext x; rfl
    rw [e2, List.map_id] at this
    exact hF.at_ t v this
theorem regM {c : Cx} (hT : c.T.Ok c.P) (hmd : c.md = .wp) {i : Nat} {ops : List Oper} {L : SL} {B : BL} {F : FV} {Q : Exit → Act → World → Prop} {a : Act} {w : World} {ds : List Deferred} {K : KN} (hD : Dn c L [] B a) (hS : Sx c B F w) (hn : ∀ o ∈ ops, NoDef c.P o)
    (h : regK c ops L B F K) (k : ∀ L B F a w, K L B F → Dn c L [] B a → Sx c B F w → Q .normal { a with defers := ds } w) (hp : PanOk c fun e a w => Q e { a with defers := ds } w) : codeM .wp c.P (.region i ops.toArray false) Q { a with defers := ds } w := by
  refine c_reg ?_
  show wpList c.P _ Q _ _ w
  refine wpList_df _ a w hn ?_
  have := (runs_sound hT ops L [] B F h inv_nil).run (fun e a w => Q e { a with defers := ds } w) a w (push_ok (kn := K) (Q := fun e a w => Q e { a with defers := ds } w) k) hp hD hS
  rw [hmd] at this
  exact this
theorem own_sl {c : Cx} {B : BL} {F : FV} {w : World} {α : Type} {T sz nn cp k : Nat} {a0 : Option Addr} {g : α → List Value} {l : List α} (hB : lkA B k = some (.e (bufE T sz (.slice a0 nn cp) (l.map g).flatten))) (hn : nn = l.length) (hg : ∀ x ∈ l, (g x).length = sz) (hS : Sx c B F w) : SlC T sz (flatR g) (Full w) (.slice a0 nn cp) l := by
  obtain ⟨i, hi, _⟩ := lkE_ix hB
  refine BufC.sl (hS.st.own _ (List.mem_of_getElem? hi)) (fun b hb => ?_) hg hn
  show w.heap[b]? = _
  unfold bufE
  rw [hb]; rfl
theorem hand {c : Cx} (hT : c.T.Ok c.P) {k : Code} {L : SL} {B : BL} {F : FV} {Q : Exit → Act → World → Prop} {a : Act} {w : World} (hD : Dn c L [] B a) (hS : Sx c B F w)
    (h : vcC c k L B F (fun L B F => ∀ a w, Dn c L [] B a → Sx c B F w → Q .normal a w) (fun _ _ _ _ => False) (fun _ _ _ => False)) (hp : PanOk c Q) : codeM c.md c.P k Q a w :=
  (vcC_sound hT k L B F _ _ _ h).run Q a w (fun _ _ _ a w hk hD hS => hk a w hD hS) ⟨fun _ _ _ _ _ _ _ h => h.elim, fun _ _ _ _ _ _ h => h.elim⟩ (fun _ _ _ _ _ h _ _ => h.elim) hp hD hS
theorem nil_dn {c : Cx} {L : SL} {B : BL} {a : Act} (k : Nat) (e : OE) (hD : Dn c L [] B a) (hk : lkA B k = none := by rfl) : Dn c L [] ((k, .e e) :: B) a := ⟨by rw [fl_congr (nil_dv hk e)]; exact hD.fr, inv_nil⟩
theorem set_tmp {ts : Array Value} {n p : Nat} {v : Value} (hsz : ts.size = n) (hp : p < n) : (ts.setIfInBounds p v).getD p undef = v ∧ ∀ t, t ≠ p → (ts.setIfInBounds p v).getD t undef = ts.getD t undef := by
  subst hsz
  refine ⟨by simp [Array.getD, hp], fun t ht => ?_⟩
  rw [Array.getD_eq_getD_getElem?, Array.getD_eq_getD_getElem?, Array.getElem?_setIfInBounds_ne (Ne.symm ht)]
theorem run_yield1 {P : Program} {w : World} {l p : Nat} {r : Loop} {v : Value} (h : w.heap[l]? = some (.loop r)) (hp : r.params = #[p]) : (Instr.yield l [v].toArray).run P w = .ok (.round l r.fn (r.tmps.setIfInBounds p v) r.assign r.body) w := by
  have := run_yield (P := P) (args := [v].toArray) h (by rw [hp]; rfl)
  rw [hp] at this
  simpa using this
theorem kv_none {L : SL} {B : BL} {t : Nat} (h : lkA L t = none) : kv L [] B t = none := by
  unfold kv
  rw [h]; rfl
section own
variable {c : Cx} (hT : c.T.Ok c.P)
include hT
end own
end Go.Dx
namespace Go.Dx
open Go Go.RowKit
section reg
variable {c : Cx} (hT : c.T.Ok c.P)
include hT
end reg
end Go.Dx
namespace Go.Dx
open Go Go.RowKit
theorem Src.sl {P : Program} {w : World} {α : Type} {T sz : Nat} {g : α → List Value} {ad : Option Addr} {n cp : Nat} {l : List α} (h : SlC T sz (flatR g) (Full w) (.slice ad n cp) l) (hg : ∀ x ∈ l, (g x).length = sz) (h1 : ∀ x ∈ l, ∀ u ∈ g x, u.oneCell' = true) : Src P w (.slice ad n cp) sz l.length (l.map g).flatten := by
  obtain ⟨a, cap, hv, hle, hm, hx⟩ := h
  cases hv
  have hlen : ∀ l : List α, (∀ x ∈ l, (g x).length = sz) → (l.map g).flatten.length = l.length * sz := by
    intro l
    induction l with
    | nil => intro _; simp
    | cons x l ih =>
      intro hg
      rw [List.map_cons, List.flatten_cons, List.length_append, hg x (by simp), List.length_cons, Nat.succ_mul, ih fun y hy => hg y (by simp [hy])]
      omega
  have hone : ∀ u ∈ (l.map g).flatten, u.oneCell' = true := by
    intro u hu
    obtain ⟨cs, hcs, hu⟩ := List.mem_flatten.1 hu
    obtain ⟨x, hxm, rfl⟩ := List.mem_map.1 hcs
    exact h1 x hxm u hu
  cases l with
  | nil => exact Src.nil
  | cons x0 l0 =>
    obtain ⟨gb, off, arr, fz, rfl, ⟨T', hb⟩, hel⟩ := hx (by simp)
    refine Src.row (fz := fz) (arr := arr) (T := T') hb (hlen _ hg) ?_ hone
    have key : ∀ (l : List α) (o : Nat), (∀ x ∈ l, (g x).length = sz) → (∀ i x, l[i]? = some x → (arr.toList.drop (o + i * sz)).take sz = g x) → (arr.toList.drop o).take (l.length * sz) = (l.map g).flatten := by
      intro l
      induction l with
      | nil => intro o _ _; simp
      | cons x l ih =>
        intro o hg hx
        have h0 := hx 0 x rfl
        rw [Nat.zero_mul, Nat.add_zero] at h0
        have hr := ih (o + sz) (fun y hy => hg y (by simp [hy])) (fun i y hi => by
          have := hx (i + 1) y (by simpa using hi)
          rw [Nat.succ_mul] at this
          rw [show o + sz + i * sz = o + (i * sz + sz) by omega]; exact this)
        rw [List.length_cons, Nat.succ_mul, Nat.add_comm, List.take_add, h0, List.drop_drop, hr]
        rfl
    refine key _ off hg fun i x hi => ?_
    obtain ⟨cs, _, h2, h3⟩ := hel i x hi
    rw [h3]; exact h2
theorem set_perm {α : Type _} : ∀ (l : List α) (i : Nat) (x : α), i < l.length → (l.set i x).Perm (x :: l.eraseIdx i)
  | [], i, x, h => by simp at h
  | a :: l, 0, x, _ => by simp
  | a :: l, i + 1, x, h => by
    simp only [List.set_cons_succ, List.eraseIdx_cons_succ]
    exact ((set_perm l i x (by simpa using h)).cons a).trans (List.Perm.swap ..)
section
variable {c : Cx} (hT : c.T.Ok c.P)
include hT
theorem apF {α : Type} {g : α → List Value} {l : List α} {ad : Option Addr} {al : List Oper} {K : KR} {d t t2 e sz bytes n cp T : Nat} {x y : Operand} {ty : TypeId} {pos : String} {af : Array Edge} {r : List Oper} {L : SL} {B : BL} {F : FV} {sx : SV} {v : Value} {xs : List Value} (k : Nat) (hA : AppT c.P t t2 e sz bytes)
    (H : ∀ v, VLe c.h0 v → F v → SlC T sz (flatR g) v (.slice ad n cp) l) (hg : ∀ x ∈ l, (g x).length = sz) (h1 : ∀ x ∈ l, ∀ u ∈ g x, u.oneCell' = true)
    (hB : lkA B k = some (.e (bufE e sz v xs))) (hx : rdS L [] none x = some sx) (hv : dvO B sx = some v) (hy : rdS L [] none y = some (.v (.slice ad n cp)))
    (hb : (xs.length + (l.map g).flatten.length) * (bytes + 1) ≤ 140737488355328)
    (h : ∀ a0 nn cp, nn * sz = xs.length + (l.map g).flatten.length → setAK B k (.e (bufE e sz (.slice a0 nn cp) (xs ++ (l.map g).flatten))) fun B' => runs c al true K r ((d, .v (.slice a0 nn cp)) :: L) [] B' F) (hd : Nat.blt d c.n = true := by rfl) :
    WP c al (⟨some d, .call ⟨.builtin .append, ⟨[x, y]⟩, ⟨[t, t2]⟩⟩, ty, pos, af, none⟩ :: r) L [] B F K :=
  ap_src hT hA hB hx hv hy (yv := .slice ad n cp) rfl (fun w hS => Src.sl (Mono.slF _ _ hS.st.view (H _ hS.st.base_cv hS.st.facts)) hg h1) hd hb h
omit hT in
theorem rowE {k b T n cp sz : Nat} {cs : List Value} {al : List Oper} {K : KR} {r : List Oper} {L : SL} {B : BL} {F : FV} (kn : Nat) (hB : lkA B k = some (.c b T cs)) (hl : cs.length = n * sz) (hc : cs.length = cp * sz) (hm : cp ≤ maxLen) (hle : n ≤ cp)
    (h : delE B k fun B' => lkA B' kn = none ∧ WP c al r (unL k b L) [] ((kn, .e (bufE T sz (.slice (some ⟨b, 0, none⟩) n cp) cs)) :: B') F K) : WP c al r L [] B F K := by
  obtain ⟨B', i, ⟨hkn, h1⟩, h2, h3, h4, h5⟩ := delC_sound hB h
  have hlt : i < (oes B).length := (List.getElem?_eq_some_iff.1 h2).1
  have hkv := unL_kv (L := L) hB h4
  refine ⟨fun Q a w hn hp hD hS => h1.run Q a w hn hp ⟨?_, inv_nil⟩ ⟨?_, fun q g b' o cs' hq => ?_⟩⟩
  · rw [fl_congr (nil_dv hkn _)]
    exact Fr.of_kv hD.fr.df hD.fr.sz fun t v hv => hD.fr.kv (by rw [hkv] at hv; exact hv)
  · have hC : BufC T sz (.slice (some ⟨b, 0, none⟩) n cp) cs w.heap[b]? := by
      have := hS.st.at h2
      refine .inr ⟨b, 0, n, cp, cs.toArray, (0, 0), rfl, this, by simp [noFz], hl, hle, hm, by simp; omega, by simp [← hl]⟩
    have := (hS.st.write h2 (Keep.refl [b] w) hC).perm (set_perm _ i _ hlt)
    rw [← h3] at this
    exact this
  · rcases List.mem_cons.1 hq with hq | hq
    · cases hq
    · exact (hS.bk.sub h5 fun v h => h) _ _ _ _ _ hq
end
end Go.Dx
namespace Go.Dx
open Go Go.RowKit
section
variable {c : Cx} (hT : c.T.Ok c.P)
include hT
end
end Go.Dx
namespace Go.Dx
open Go Go.RowKit
theorem splL {α : Type _} (xs : List α) (p : Nat) (new : List α) (h : p + new.length ≤ xs.length) : (xs.take p ++ new ++ xs.drop (p + new.length)).length = xs.length := by
  simp only [List.length_append, List.length_take, List.length_drop]; omega
theorem win_upd {α : Type _} (cur new : List α) (off p N : Nat) (hp : p + new.length ≤ N) (hN : off + N ≤ cur.length) :
    ((cur.take (off + p) ++ new ++ cur.drop (off + p + new.length)).drop off).take N = ((cur.drop off).take N).take p ++ new ++ ((cur.drop off).take N).drop (p + new.length) := by
  apply List.ext_getElem?
  intro j
  have l1 : (cur.take (off + p)).length = off + p := by rw [List.length_take]; omega
  have l2 : (((cur.drop off).take N).take p).length = p := by simp only [List.length_take, List.length_drop]; omega
  rw [List.getElem?_take]
  split
  · rename_i hj
    rw [List.getElem?_drop, List.append_assoc, List.append_assoc, List.getElem?_append, List.getElem?_append, List.getElem?_append, List.getElem?_append, l1, l2]
    by_cases h1 : j < p
    · rw [if_pos (by omega), if_pos h1, List.getElem?_take, if_pos (by omega), List.getElem?_take, if_pos h1, List.getElem?_take, if_pos hj, List.getElem?_drop]
    · rw [if_neg (by omega), if_neg h1, show off + j - (off + p) = j - p by omega]
      split
      · rfl
      · rw [List.getElem?_drop, List.getElem?_drop, List.getElem?_take, if_pos (by omega), List.getElem?_drop]
        congr 1; omega
  · rename_i hj
    rw [List.getElem?_eq_none]
    simp only [List.length_append, List.length_take, List.length_drop]; omega
theorem buf_store {P : Program} {w : World} {T t2 sz n cap m g o : Nat} {v : Value} {xs new : List Value} (hC : BufC T sz (.slice (some ⟨g, o, none⟩) n cap) xs w.heap[g]?) (hm : m < n) (hc : v.cells = new.toArray) (hnl : new.length = sz) (hsz : SzIs P t2 new.length) (h1 : allOne new = true) :
    ∃ w', (storeVar t2 ⟨g, o + m * sz, none⟩ v).run P w = .ok () w' ∧ Keep [g] w w' ∧ BufC T sz (.slice (some ⟨g, o, none⟩) n cap) (xs.take (m * sz) ++ new ++ xs.drop (m * sz + new.length)) w'.heap[g]? := by
  rcases hC with ⟨e, _⟩ | ⟨g', off, n', cap', cur, fz, e, hg, hf, hl, hle, hcm, hfit, hx⟩
  · cases e
  cases e
  subst hnl
  have hmn : m * new.length + new.length ≤ n * new.length := by
    have := Nat.mul_le_mul_right new.length (show m + 1 ≤ n by omega)
    rw [Nat.succ_mul] at this; exact this
  have hnc : n * new.length ≤ cap * new.length := Nat.mul_le_mul_right _ hle
  obtain ⟨inf, hi, hs⟩ := hsz
  have hst := run_storeCells_fz P g (o + m * new.length) T fz new 0 cur w hg hf (by omega) (allOne_mem h1)
  simp only [Nat.add_zero] at hst
  refine ⟨w.setRow g (cur.toList.take (o + m * new.length) ++ new ++ cur.toList.drop (o + m * new.length + new.length)).toArray, ?_, keep_setRow _ _ _, .inr ⟨g, o, n, cap, _, fz, rfl, setRow_heap w g cur _ T fz hg, ?_, ?_, hle, hcm, ?_, ?_⟩⟩
  · unfold storeVar
    simp [sizeOf, typeInfo, hi, hs, hc, hst]
  · have : (cur.toList.take (o + m * new.length) ++ new ++ cur.toList.drop (o + m * new.length + new.length)).toArray.size = cur.size := by
      rw [List.size_toArray, splL _ _ _ (by simp; omega)]; simp
    rw [this]; exact hf
  · rw [splL _ _ _ (by omega)]; exact hl
  · rw [List.size_toArray, splL _ _ _ (by simp; omega)]; simpa using hfit
  · rw [win_upd _ _ _ _ _ (by omega) (by simp; omega), hx]
theorem buf_cells {w : World} {T sz n cap m g o : Nat} {xs new : List Value} (hC : BufC T sz (.slice (some ⟨g, o, none⟩) n cap) xs w.heap[g]?) (hm : m < n) (hnew : (xs.drop (m * sz)).take sz = new) (hnl : new.length = sz) : ∀ j v, new[j]? = some v → w.cell? ⟨g, o + m * sz + j, none⟩ = some v := by
  rcases hC with ⟨e, _⟩ | ⟨g', off, n', cap', cur, fz, e, hg, hf, hl, hle, hcm, hfit, hx⟩
  · cases e
  cases e
  intro j v hj
  have hjl : j < sz := by have := (List.getElem?_eq_some_iff.1 hj).1; omega
  have hmn : m * sz + sz ≤ n * sz := by
    have := Nat.mul_le_mul_right sz (show m + 1 ≤ n by omega)
    rw [Nat.succ_mul] at this; exact this
  rw [← hnew, ← hx, List.getElem?_take, if_pos hjl, List.getElem?_drop, List.getElem?_take, if_pos (by omega), List.getElem?_drop] at hj
  have hg' : w.heap[g]? = some (.cells cur T fz) := hg
  simp only [World.cell?, hg']
  rw [Nat.add_assoc]
  simpa using hj
theorem flat_set {α : Type} {g : α → List Value} {sz : Nat} (hg : ∀ x, (g x).length = sz) : ∀ (l : List α) (m : Nat) (v : α), m < l.length → ((l.set m v).map g).flatten = ((l.map g).flatten).take (m * sz) ++ g v ++ ((l.map g).flatten).drop (m * sz + (g v).length)
  | [], m, v, h => by simp at h
  | x :: l, 0, v, _ => by
    simp only [List.set_cons_zero, List.map_cons, List.flatten_cons, Nat.zero_mul, List.take_zero, List.nil_append, Nat.zero_add]
    rw [show (g v).length = (g x).length by rw [hg, hg], List.drop_left]
  | x :: l, m + 1, v, h => by
    simp only [List.set_cons_succ, List.map_cons, List.flatten_cons]
    rw [flat_set hg l m v (by simpa using h), Nat.succ_mul, show m * sz + sz = (g x).length + m * sz by rw [hg]; omega, List.take_length_add_append, Nat.add_assoc, List.drop_length_add_append, List.append_assoc, List.append_assoc, List.append_assoc]
theorem flat_at {α : Type} {g : α → List Value} {sz : Nat} (hg : ∀ x, (g x).length = sz) : ∀ (l : List α) (m : Nat) (d : α), m < l.length → (((l.map g).flatten).drop (m * sz)).take sz = g (l.getD m d)
  | [], m, d, h => by simp at h
  | x :: l, 0, d, _ => by
    simp only [List.map_cons, List.flatten_cons, Nat.zero_mul, List.drop_zero]
    rw [← hg x, List.take_left]; rfl
  | x :: l, m + 1, d, h => by
    simp only [List.map_cons, List.flatten_cons]
    rw [Nat.succ_mul, show m * sz + sz = (g x).length + m * sz by rw [hg]; omega, List.drop_length_add_append, flat_at hg l m d (by simpa using h)]
    simp [List.getD]
section
variable {c : Cx} (hT : c.T.Ok c.P)
include hT
theorem ixBnW {al : List Oper} {K : KR} {d t e T sz : Nat} {x y : Operand} {ty : TypeId} {pos : String} {af : Array Edge} {r : List Oper} {L : SL} {B : BL} {F : FV} {a : Option Addr} {n cp m : Nat} {xs : List Value} {it : IntKind} {i : Int} (k : Nat)
    (hB : lkA B k = some (.e (bufE T sz (.slice a n cp) xs))) (ht : SlT c.P t e sz) (hx : rdS L [] none x = some (.v (.slice a n cp))) (hy : rdS L [] none y = some (.v (.int it i))) (hi : i = (m : Int)) (hm : m < n)
    (h : ∀ b o, a = some ⟨b, o, none⟩ → WP c al r ((d, .v (.pointer (some ⟨b, o + m * sz, none⟩))) :: L) [] B F K) (hd : Nat.blt d c.n = true := by rfl) : WP c al (⟨some d, .indexAddr t x y, ty, pos, af, none⟩ :: r) L [] B F K := by
  have _ := hT
  refine ⟨fun Q ac w hn hp hD hS => ?_⟩
  obtain ⟨q, hq, _⟩ := lkE_ix hB
  have hC := hS.st.own _ (List.mem_of_getElem? hq)
  rcases hC with ⟨h1, _⟩ | ⟨g, off, n', cap, cur, fz, h1, _⟩
  · cases h1; omega
  · cases h1
    have hpu := pu_iaddr_sla (P := c.P) (w := w) (d := some d) (ty := ty) (pos := pos) (af := af) (g := none) (L := fl L [] B) (j := m) rfl ht (ev_sl hx rfl) (ev_sl (v := .int it i) hy rfl) hi hm
    exact s_pu hD.fr hpu hd fun a' hF' => (h g off rfl).run Q a' w hn hp ⟨hF', inv_nil⟩ hS
theorem ldBnW {al : List Oper} {K : KR} {d t T sz : Nat} {x : Operand} {ty : TypeId} {pos : String} {af : Array Edge} {r : List Oper} {L : SL} {B : BL} {F : FV} {b o n cp m : Nat} {xs new : List Value} (k : Nat)
    (hB : lkA B k = some (.e (bufE T sz (.slice (some ⟨b, o, none⟩) n cp) xs))) (ht : AggT c.P t new.length) (hx : rdS L [] none x = some (.v (.pointer (some ⟨b, o + m * sz, none⟩)))) (hm : m < n) (hnew : (xs.drop (m * sz)).take sz = new) (hnl : new.length = sz)
    (h : WP c al r ((d, .v (.agg new.toArray)) :: L) [] B F K) (hd : Nat.blt d c.n = true := by rfl) : WP c al (⟨some d, .load t x, ty, pos, af, none⟩ :: r) L [] B F K := by
  have _ := hT
  refine ⟨fun Q ac w hn hp hD hS => ?_⟩
  obtain ⟨q, hq, _⟩ := lkE_ix hB
  have hC : BufC T sz (.slice (some ⟨b, o, none⟩) n cp) xs w.heap[b]? := hS.st.own _ (List.mem_of_getElem? hq)
  have hpu : Pu c.P (fl L [] B) ⟨some d, .load t x, ty, pos, af, none⟩ w (.agg new.toArray) := pu_loadA ht (ev_sl hx rfl) fun j v hj => by rw [add_mk]; exact buf_cells hC hm hnew hnl j v hj
  exact s_pu hD.fr hpu hd fun a' hF' => h.run Q a' w hn hp ⟨hF', inv_nil⟩ hS
theorem ixStB {al : List Oper} {K : KR} {d t t2 e T sz : Nat} {x y z : Operand} {ty ty2 : TypeId} {pos pos2 : String} {af af2 : Array Edge} {r : List Oper} {L : SL} {B : BL} {F : FV} {a : Option Addr} {n cp m : Nat} {xs new : List Value} {it : IntKind} {i : Int} {v : Value} {sz' : SV} (k : Nat)
    (hB : lkA B k = some (.e (bufE T sz (.slice a n cp) xs))) (ht : SlT c.P t e sz) (hx : rdS L [] none x = some (.v (.slice a n cp))) (hy : rdS L [] none y = some (.v (.int it i))) (hi : i = (m : Int)) (hm : m < n)
    (hz : rdS L [] none z = some sz') (hzv : dvO B sz' = some v) (hzd : z ≠ .tmp d) (hc : v.cells = new.toArray) (hnl : new.length = sz) (hsz : SzIs c.P t2 new.length) (h1 : allOne new = true)
    (h : ∀ b o, a = some ⟨b, o, none⟩ → setAK B k (.e (bufE T sz (.slice a n cp) (xs.take (m * sz) ++ new ++ xs.drop (m * sz + new.length)))) fun B' => runs c al true K r ((d, .v (.pointer (some ⟨b, o + m * sz, none⟩))) :: L) [] B' F) (hd : Nat.blt d c.n = true := by rfl) :
    true = true ∧ WP c al (⟨some d, .indexAddr t x y, ty, pos, af, none⟩ :: ⟨none, .store t2 (.tmp d) z, ty2, pos2, af2, none⟩ :: r) L [] B F K := by
  refine ⟨rfl, ⟨fun Q ac w hn hp hD hS => ?_⟩⟩
  obtain ⟨q, hq, hset⟩ := lkE_ix hB
  have hC0 := hS.st.own _ (List.mem_of_getElem? hq)
  rcases hC0 with ⟨e1, _⟩ | ⟨g, off, n', cap, cur, fz, e1, hrest⟩
  · cases e1; omega
  cases e1
  have hC : BufC T sz (.slice (some ⟨g, off, none⟩) n cp) xs w.heap[g]? := hS.st.own _ (List.mem_of_getElem? hq)
  have hpu := pu_iaddr_sla (P := c.P) (w := w) (d := some d) (ty := ty) (pos := pos) (af := af) (g := none) (L := fl L [] B) (j := m) rfl ht (ev_sl hx rfl) (ev_sl (v := .int it i) hy rfl) hi hm
  refine s_pu hD.fr hpu hd fun a' hF' => ?_
  refine wpM_plain rfl fun K' hK => ?_
  obtain ⟨w', hst, hkeep, hC'⟩ := buf_store (P := c.P) (t2 := t2) (v := v) hC hm hc hnl hsz h1
  have ex : a'.eval (.tmp d) = .pointer (some ⟨g, off + m * sz, none⟩) := hF'.ev (by simp [Dx.ev, lk_cons_eq, vl])
  have hez : ev (fl L [] B) z = some v := rdS_ev inv_nil (cx := none) (og := none) rfl yes_none hz hzv
  have ez : a'.eval z = v := hF'.ev (by
    cases z with
    | tmp q =>
      have hqd : d ≠ q := fun e => hzd (by rw [e])
      simpa [Dx.ev, lk_cons_ne hqd] using hez
    | _ => exact hez)
  have hrun : (execOp a'.eval ⟨none, .store t2 (.tmp d) z, ty2, pos2, af2, none⟩).run c.P w = .ok .skip w' := by
    simp only [execOp, ex, ez, Instr.storeAt, Instr.sureAddr, Sem.run_bind, Sem.run_pure, Result.andThen_ok, hst]
  obtain ⟨B', hr, h3, h4, h5⟩ := hset (h g off rfl)
  have hdv := dvO_setE hB h4
  refine opM_of_skip hrun (hK _ _ ((runs_sound hT r _ _ _ _ hr inv_nil).run Q a' w' hn hp ⟨?_, inv_nil⟩ ⟨by rw [h3]; exact hS.st.write hq hkeep hC', fun q' g' b o cs hq' => ?_⟩))
  · have hF'' : Fr a' c.n (fl ((d, .v (.pointer (some ⟨g, off + m * sz, none⟩))) :: L) [] B) := hF'
    rw [fl_congr hdv]; exact hF''
  · rcases h5 _ hq' with hq' | hq'
    · exact hS.bk _ _ _ _ _ hq'
    · cases hq'
theorem goW1 {al : List Oper} {K : KR} {d : Nat} {op : Op} {ty : TypeId} {pos : String} {af : Array Edge} {r : List Oper} {L : SL} {B : BL} {F : FV}
    (h : stepB c true (some d) op L [] B F (fun L I B F => I = [] ∧ WP c al r L I B F K) (WP c al (⟨some d, op, ty, pos, af, none⟩ :: r) L [] B F K)) : WP c al (⟨some d, op, ty, pos, af, none⟩ :: r) L [] B F K :=
  stepB_sound hT inv_nil (fun _ _ _ _ h _ => h.2) h
theorem pkT {al : List Oper} {K : KR} {d : Nat} {x y z : Operand} {ty : TypeId} {pos : String} {af : Array Edge} {r : List Oper} {L : SL} {B : BL} {F : FV} {b : Bool} {v : Value} (hx : rdS L [] none x = some (.v (.bool b))) (hb : b = true) (hy : rdS L [] none y = some (.v v))
    (h : runs c al true K r ((d, .v v) :: L) [] B F) (hd : Nat.blt d c.n = true := by rfl) : WP c al (⟨some d, .pick x y z, ty, pos, af, none⟩ :: r) L [] B F K :=
  (goPu hT v (fun _ _ => pu_pick_t (ev_sl hx rfl) hb (ev_sl hy rfl)) h hd).2
omit hT in
theorem wpM_skip {P : Program} {al : List Oper} {Q : Exit → Act → World → Prop} {a : Act} {w : World} {o : Oper} {r : List Oper} (hw : Region.wanted o (yielded al.toArray a.tmps) = false) (h : wpM .wp P al.toArray Q r (a.put o.dst undef) w) : wpM .wp P al.toArray Q (o :: r) a w := by
  simp only [wpM, wpList] at h ⊢
  rw [if_neg (by rw [hw]; decide)]
  exact h
omit hT in
theorem unG {al : List Oper} {K : KR} {d j : Nat} {b : Bool} {op : Op} {ty : TypeId} {pos : String} {af : Array Edge} {r : List Oper} {L : SL} {B : BL} {F : FV}
    (h : guardAt al L [] j b fun _ g => (g = true → WP c al (⟨some d, op, ty, pos, af, none⟩ :: r) L [] B F K) ∧ (g = false → Nat.blt d c.n = true ∧ WP c al r ((d, .v undef) :: L) [] B F K)) (hmd : c.md = .wp := by rfl) : WP c al (⟨some d, op, ty, pos, af, some (j, b)⟩ :: r) L [] B F K := by
  obtain ⟨o, t, g, ho, hod, hgx, h⟩ := guardAt_sound h
  refine ⟨fun Q a w hn hp hD hS => ?_⟩
  have hw := wanted_of (o := ⟨some d, op, ty, pos, af, some (j, b)⟩) ho hod (fun v hv => hD.fr.kv hv) hgx rfl
  cases hg : g with
  | true => exact wpM_guard (hw.trans hg) ((h.1 hg).run Q a w hn hp hD hS)
  | false =>
    obtain ⟨hd, h2⟩ := h.2 hg
    have hD' : Dn c ((d, .v undef) :: L) [] B (a.put (some d) undef) := Dn.cons (rr := some undef) (hD.fr.put hd undef) inv_nil (fun t => kv_put t) (fun u hu => (Option.some.inj hu).symm)
    have h3 := h2.run Q _ w hn hp hD' hS
    rw [hmd] at h3 ⊢
    exact wpM_skip (hw.trans hg) h3
end
end Go.Dx
namespace Go.Proofs.YtcdbgeefhpmjfaaGreatDoor
open Go Go.Dx Go.RowKit
def ovr (n : Int) : Int × Int := if -9223372036854775808 ≤ n ∧ n ≤ 9223372036854775807 then (n, 0) else (0, 15)
def niV (r : Int × Int) : Value := .tuple #[.int .i64 r.1, .int .i64 r.2]
def divR (a b : Int) : Int × Int := if b = 0 then (0, 16) else ovr (a.tdiv b)
theorem ovr_in {n : Int} (h : -9223372036854775808 ≤ n ∧ n ≤ 9223372036854775807) : ovr n = (n, 0) := if_pos h
theorem ovr_out {n : Int} (h : n < -9223372036854775808 ∨ 9223372036854775807 < n) : ovr n = (0, 15) := if_neg (by omega)
theorem wrap_hi {n : Int} (h : 9223372036854775807 < n) (h2 : n ≤ 18446744073709551615) : IntKind.i64.wrap n = n - 18446744073709551616 := by
  have e := wrap_i64 (n := n - 18446744073709551616) (by omega) (by omega)
  rw [← e]
  simp [IntKind.wrap, IntKind.bits]
theorem wrap_lo {n : Int} (h : n < -9223372036854775808) (h2 : -18446744073709551616 ≤ n) : IntKind.i64.wrap n = n + 18446744073709551616 := by
  have e := wrap_i64 (n := n + 18446744073709551616) (by omega) (by omega)
  rw [← e]
  simp [IntKind.wrap, IntKind.bits]
theorem natAbs_sz {a : Int} (h : I64 a) : a.natAbs ≤ 9223372036854775808 := by have := h.1; have := h.2; omega
theorem tdiv_in (a b : Int) (ha : I64 a) (hb : I64 b) (h : ¬ b = 0) (h2 : ¬ a = -9223372036854775808 ∨ ¬ b = -1) : -9223372036854775808 ≤ a.tdiv b ∧ a.tdiv b ≤ 9223372036854775807 := by
  have ha1 := ha.1; have ha2 := ha.2
  have e : (a.tdiv b).natAbs = a.natAbs / b.natAbs := Int.natAbs_tdiv a b
  by_cases hb1 : b = 1
  · subst hb1; rw [Int.tdiv_one]; exact ha
  · by_cases hb2 : b = -1
    · subst hb2
      rw [Int.tdiv_neg, Int.tdiv_one]; omega
    · have hge : 2 ≤ b.natAbs := by omega
      have : a.natAbs / b.natAbs ≤ a.natAbs / 2 := Nat.div_le_div_left hge (by decide)
      omega
def Btw (x y : Int) : Prop := (0 ≤ x ∧ x ≤ y) ∨ (y ≤ x ∧ x ≤ 0)
theorem Btw.mul {x y : Int} (a : Int) (h : Btw x y) : Btw (a * x) (a * y) := by
  rcases Int.le_total 0 a with ha | ha
  · rcases h with ⟨h1, h2⟩ | ⟨h1, h2⟩
    · exact .inl ⟨Int.mul_nonneg ha h1, Int.mul_le_mul_of_nonneg_left h2 ha⟩
    · refine .inr ⟨Int.mul_le_mul_of_nonneg_left h1 ha, ?_⟩
      have := Int.mul_nonneg (a := a) (b := -x) ha (by omega)
      rw [Int.mul_neg] at this; omega
  · rcases h with ⟨h1, h2⟩ | ⟨h1, h2⟩
    · refine .inr ⟨?_, ?_⟩
      · have := Int.mul_nonneg (a := -a) (b := y - x) (by omega) (by omega)
        rw [Int.neg_mul, Int.mul_sub] at this; omega
      · have := Int.mul_nonneg (a := -a) (b := x) (by omega) h1
        rw [Int.neg_mul] at this; omega
    · refine .inl ⟨?_, ?_⟩
      · have := Int.mul_nonneg (a := -a) (b := -x) (by omega) (by omega)
        rw [Int.neg_mul_neg] at this; exact this
      · have := Int.mul_nonneg (a := -a) (b := x - y) (by omega) (by omega)
        rw [Int.neg_mul, Int.mul_sub] at this; omega
theorem Btw.out {x y : Int} (h : Btw x y) (ho : x < -9223372036854775808 ∨ 9223372036854775807 < x) : ovr y = (0, 15) := ovr_out (by rcases h with h | h <;> omega)
theorem Btw.trans {x y z : Int} (h : Btw x y) (k : Btw y z) : Btw x z := by unfold Btw at *; omega
end Go.Proofs.YtcdbgeefhpmjfaaGreatDoor
namespace Go.Proofs.YtcdbgeefhpmjfaaGreatDoor
open Go Go.Dx Go.RowKit
abbrev EV := Except Int Val
def truV (b : Bool) : Val := ⟨3, if b then 1 else 0, []⟩
def numR (r : Int × Int) : EV := if r.2 = 0 then .ok ⟨1, r.1, []⟩ else .error r.2
def joinE (s t : List UInt8) : EV := if 40 < s.length + t.length then .error 5 else .ok ⟨2, 0, s ++ t⟩
def reckR (op a b : Int) : Int × Int := if op = 4 then ovr (a + b) else if op = 5 then ovr (a - b) else if op = 6 then ovr (a * b) else divR a b
def reckE (op a b : Int) : EV := numR (reckR op a b)
def ofG (k : Int) : List Val → Bool → Except Int Bool
  | [], nl => .ok nl
  | v :: r, nl => if v.k = k then ofG k r nl else if v.k = 0 then ofG k r true else .error 14
theorem of_here {k : Int} {l : List Val} {i : Nat} {nl : Bool} (h : i < l.length) (h1 : (l.getD i v0).k = k) : ofG k (l.drop i) nl = ofG k (l.drop (i + 1)) nl := by
  rw [List.drop_eq_getElem_cons h, ← getD_lt l i v0 h, ofG, if_pos h1]
theorem of_null {k : Int} {l : List Val} {i : Nat} {nl : Bool} (h : i < l.length) (h1 : ¬ (l.getD i v0).k = k) (h2 : (l.getD i v0).k = 0) : ofG k (l.drop i) nl = ofG k (l.drop (i + 1)) true := by
  rw [List.drop_eq_getElem_cons h, ← getD_lt l i v0 h, ofG, if_neg h1, if_pos h2]
theorem of_bad {k : Int} {l : List Val} {i : Nat} {nl : Bool} (h : i < l.length) (h1 : ¬ (l.getD i v0).k = k) (h2 : ¬ (l.getD i v0).k = 0) : ofG k (l.drop i) nl = .error 14 := by
  rw [List.drop_eq_getElem_cons h, ← getD_lt l i v0 h, ofG, if_neg h1, if_neg h2]
theorem of_end {k : Int} {l : List Val} {i : Nat} {nl : Bool} (h : ¬ i < l.length) : ofG k (l.drop i) nl = .ok nl := by
  rw [List.drop_of_length_le (by omega)]; rfl
theorem of_err {k : Int} : ∀ {l : List Val} {nl : Bool} {x : Int}, ofG k l nl = .error x → x = 14
  | [], nl, x, h => by cases h
  | v :: r, nl, x, h => by
    rw [ofG] at h
    split at h
    · exact of_err h
    · split at h
      · exact of_err h
      · cases h; rfl
def kinK (a b : Val) : Int := if a.k = 0 then b.k else a.k
def txtQ (op : Int) (a b : Val) : Bool := decide (op = 4) && (decide (a.k = 2) || decide (b.k = 2))
def sumK (op : Int) (a b : Val) : Int := if txtQ op a b then 2 else 1
def sumsE (op : Int) (a b : Val) : EV := match ofG (sumK op a b) [a, b] false with
  | .error x => .error x
  | .ok true => .ok v0
  | .ok false => if txtQ op a b then joinE a.s b.s else reckE op a.n b.n
def trusE (op : Int) (a b : Val) : EV := match ofG 3 [a, b] false with
  | .error x => .error x
  | .ok nl => if a = truV (decide (op = 15)) ∨ b = truV (decide (op = 15)) then .ok (truV (decide (op = 15))) else if nl then .ok v0 else .ok (truV (decide (op = 14)))
def cmpE (op : Int) (a b : Val) : EV := match ofG (kinK a b) [a, b] false with
  | .error x => .error x
  | .ok _ => if op = 8 then .ok (truV (decide (a = b))) else if op = 9 then .ok (truV (!decide (a = b))) else if kinK a b = 3 then .error 14 else if a.k = 0 ∨ b.k = 0 then .ok v0
    else if op = 10 then .ok (truV (decide (cmpV a b < 0))) else if op = 11 then .ok (truV (decide (cmpV a b ≤ 0))) else if op = 12 then .ok (truV (decide (0 < cmpV a b))) else .ok (truV (decide (0 ≤ cmpV a b)))
end Go.Proofs.YtcdbgeefhpmjfaaGreatDoor
namespace Go.Proofs.YtcdbgeefhpmjfaaGreatDoor
open Go Go.Dx Go.RowKit
def nameG (s : List UInt8) : List Col → List Val → EV
  | c :: l, v :: r => if c.name = s then .ok v else nameG s l r
  | _, _ => .error 13
def evX (l : List Col) (row : List Val) : Nat → Ex → EV
  | 0, _ => .error 0
  | k + 1, x =>
    if x.op = 1 then .ok x.v
    else if x.op = 2 then nameG x.s l row
    else match evX l row k (x.l.getD 0 ex0) with
      | .error e => .error e
      | .ok a =>
        if x.op = 3 then (match ofG 1 [a] false with
          | .error e => .error e
          | .ok true => .ok a
          | .ok false => numR (ovr (0 - a.n)))
        else if x.op = 16 then (match ofG 3 [a] false with
          | .error e => .error e
          | .ok _ => if a = truV true then evX l row k (x.l.getD 1 ex0) else evX l row k (x.l.getD 2 ex0))
        else match evX l row k (x.l.getD 1 ex0) with
          | .error e => .error e
          | .ok b =>
            if x.op = 4 ∨ x.op = 5 ∨ x.op = 6 ∨ x.op = 7 then sumsE x.op a b
            else if x.op = 14 ∨ x.op = 15 then trusE x.op a b
            else cmpE x.op a b
end Go.Proofs.YtcdbgeefhpmjfaaGreatDoor
namespace Go.Proofs.YtcdbgeefhpmjfaaGreatDoor
open Go Go.Dx Go.RowKit
def okV (v : Val) : Prop := valOk v = true ∧ valB v
theorem i64n {n : Int} (h : -9223372036854775808 ≤ n ∧ n ≤ 9223372036854775807) : i64 n := h
theorem ok_v0 : okV v0 := ⟨by decide, i64n (by decide), i64n (by decide)⟩
theorem ok_tru (b : Bool) : okV (truV b) := by cases b <;> exact ⟨by decide, i64n (by decide), i64n (by decide)⟩
theorem ok_num {n : Int} (h : I64 n) : okV ⟨1, n, []⟩ := ⟨by simp [valOk], i64n (n := 1) (by decide), h⟩
theorem numR_good {n : Int} {v : Val} (h : numR (ovr n) = .ok v) : okV v := by
  unfold ovr at h
  split at h
  · rename_i hb
    rw [numR, if_pos rfl] at h
    cases h
    exact ok_num hb
  · simp [numR] at h
theorem reck_good {op a b : Int} {v : Val} (h : reckE op a b = .ok v) : okV v := by
  unfold reckE reckR at h
  split at h
  · exact numR_good h
  · split at h
    · exact numR_good h
    · split at h
      · exact numR_good h
      · unfold divR at h
        split at h
        · simp [numR] at h
        · exact numR_good h
theorem ofG_two {k : Int} {a b : Val} (h : ofG k [a, b] false = .ok false) : a.k = k ∧ b.k = k := by
  simp only [ofG] at h
  by_cases h1 : a.k = k
  · rw [if_pos h1] at h
    by_cases h2 : b.k = k
    · exact ⟨h1, h2⟩
    · rw [if_neg h2] at h; split at h <;> cases h
  · rw [if_neg h1] at h
    split at h
    · by_cases h2 : b.k = k
      · rw [if_pos h2] at h; cases h
      · rw [if_neg h2] at h; split at h <;> cases h
    · cases h
theorem text_of {v : Val} (h : okV v) (hk : v.k = 2) : plainS v.s = true := by
  have := h.1
  unfold valOk at this
  rw [if_neg (by omega), if_neg (by omega), if_pos hk, Bool.and_eq_true] at this
  exact this.2
theorem len_of {v : Val} (h : okV v) : v.s.length ≤ 40 := by
  have := h.1
  unfold valOk at this
  split at this
  · simp only [Bool.and_eq_true, decide_eq_true_eq] at this; rw [this.2]; simp
  · split at this
    · simp only [decide_eq_true_eq] at this; rw [this]; simp
    · split at this
      · simp only [plainS, Bool.and_eq_true, decide_eq_true_eq] at this; exact this.2.1
      · split at this
        · simp only [Bool.and_eq_true, decide_eq_true_eq] at this; rw [this.1]; simp
        · cases this
theorem sums_good {op : Int} {a b v : Val} (ha : okV a) (hb : okV b) (h : sumsE op a b = .ok v) : okV v := by
  unfold sumsE at h
  split at h
  · cases h
  · cases h; exact ok_v0
  · rename_i hof
    obtain ⟨h1, h2⟩ := ofG_two hof
    by_cases hq : txtQ op a b = true
    · rw [if_pos hq] at h
      rw [sumK, if_pos hq] at h1 h2
      unfold joinE at h
      split at h
      · cases h
      · rename_i hl
        cases h
        have p1 := text_of ha h1
        have p2 := text_of hb h2
        simp only [plainS, Bool.and_eq_true, decide_eq_true_eq] at p1 p2
        refine ⟨?_, i64n (n := 2) (by decide), i64n (n := 0) (by decide)⟩
        simp only [valOk, plainS]
        simp only [List.all_append, List.length_append]
        rw [p1.2, p2.2]
        simp; omega
    · rw [if_neg hq] at h; exact reck_good h
theorem trus_good {op : Int} {a b v : Val} (h : trusE op a b = .ok v) : okV v := by
  unfold trusE at h
  split at h
  · cases h
  · split at h
    · cases h; exact ok_tru _
    · split at h
      · cases h; exact ok_v0
      · cases h; exact ok_tru _
theorem cmp_good {op : Int} {a b v : Val} (h : cmpE op a b = .ok v) : okV v := by
  unfold cmpE at h
  split at h
  · cases h
  · repeat' split at h
    all_goals cases h
    all_goals first | exact ok_tru _ | exact ok_v0
theorem nameG_good {s : List UInt8} : ∀ {l : List Col} {row : List Val} {v : Val}, (∀ w ∈ row, okV w) → nameG s l row = .ok v → okV v
  | [], row, v, _, h => by simp [nameG] at h
  | c :: l, [], v, _, h => by simp [nameG] at h
  | c :: l, w :: row, v, hr, h => by
    unfold nameG at h
    split at h
    · cases h; exact hr _ (by simp)
    · exact nameG_good (fun w hw => hr w (by simp [hw])) h
theorem right_val1 {x : Ex} (h : rightS x = true) (h1 : x.op = 1) : valOk x.v = true := by
  rw [right_eq, if_pos h1] at h
  simp only [Bool.and_eq_true] at h
  exact h.2.1.2
theorem evX_good {l : List Col} {row : List Val} (hrow : ∀ w ∈ row, okV w) {h : View} : ∀ (k : Nat) (x : Ex) (cs : List Value) (v : Val), RX h cs x → rightS x = true → evX l row k x = .ok v → okV v
  | 0, x, cs, v, _, _, e => by cases e
  | k + 1, x, cs, v, hx, hr, e => by
    obtain ⟨ad, cap, _, _, hv, hl⟩ := hx.inv
    unfold evX at e
    by_cases h1 : x.op = 1
    · rw [if_pos h1] at e; cases e; exact ⟨right_val1 hr h1, hv⟩
    rw [if_neg h1] at e
    by_cases h2 : x.op = 2
    · rw [if_pos h2] at e; exact nameG_good hrow e
    rw [if_neg h2] at e
    obtain ⟨hop, hlen, hch⟩ := right_sub hr h1 h2
    have hc := cnt_pos hop
    have IH : ∀ i, i < x.l.length → ∀ w, evX l row k (x.l.getD i ex0) = .ok w → okV w := fun i hi w hw => by
      obtain ⟨_, _, cs', _, hx', _⟩ := hl.at hi
      exact evX_good hrow k _ cs' w hx' (hch _ (getD_mem x.l i ex0 hi)) hw
    split at e
    · cases e
    · rename_i a ha
      have ga := IH 0 (by omega) a ha
      split at e
      · rename_i h3
        split at e
        · cases e
        · cases e; exact ga
        · exact numR_good e
      · split at e
        · rename_i h3 h4
          have := hc.2.2.2 h4
          split at e
          · cases e
          · split at e
            · exact IH 1 (by omega) v e
            · exact IH 2 (by omega) v e
        · rename_i h3 h4
          have := hc.2.2.1 (by omega)
          split at e
          · cases e
          · rename_i b hb
            have gb := IH 1 (by omega) b hb
            split at e
            · exact sums_good ga gb e
            · split at e
              · exact trus_good e
              · exact cmp_good e
end Go.Proofs.YtcdbgeefhpmjfaaGreatDoor
namespace Go.Proofs.YtcdbgeefhpmjfaaGreatDoor
open Go Go.Dx Go.RowKit
def binL : List (Int × List UInt8 × Int) := [(4, [43], 4), (5, [45], 4), (6, [42], 5), (7, [47], 5), (8, [61], 3), (9, [33, 61], 3), (10, [60], 3), (11, [60, 61], 3), (12, [62], 3), (13, [62, 61], 3), (14, [97, 110, 100], 2), (15, [111, 114], 1)]
def binC (b : Int × List UInt8 × Int) : List Value := [.int .i64 b.1, vs b.2.1, .int .i64 b.2.2]
def findS (op : Int) : Int × List UInt8 × Int := (binL.find? fun b => decide (b.1 = op)).getD (0, [], 0)
theorem find_hit (op : Int) (k : Nat) (hk : k < 12) (hn : ∀ j, j < k → ¬ (binL.getD j (0, [], 0)).1 = op) (hp : (binL.getD k (0, [], 0)).1 = op) : findS op = binL.getD k (0, [], 0) := by
  have e : binL.find? (fun b => decide (b.1 = op)) = some (binL.getD k (0, [], 0)) := by
    rw [List.find?_eq_some_iff_getElem]
    refine ⟨by simpa using hp, k, hk, by rw [getD_lt _ _ _ (show k < binL.length from hk)]; rfl, fun j hj => ?_⟩
    have := hn j hj
    simpa [List.getD, show j < binL.length by have : binL.length = 12 := rfl; omega] using this
  rw [findS, e]; rfl
theorem find_none (op : Int) (hn : ∀ j, j < 12 → ¬ (binL.getD j (0, [], 0)).1 = op) : findS op = (0, [], 0) := by
  have e : binL.find? (fun b => decide (b.1 = op)) = none := by
    rw [List.find?_eq_none]
    intro b hb
    obtain ⟨j, hj⟩ := List.mem_iff_getElem?.1 hb
    have hlt := (List.getElem?_eq_some_iff.1 hj).1
    have := hn j hlt
    simpa [List.getD, hj] using this
  rw [findS, e]; rfl
theorem find_lev (op : Int) : (0 < (findS op).2.2) ↔ (4 ≤ op ∧ op ≤ 15) := by
  by_cases h : 4 ≤ op ∧ op ≤ 15
  · have : op = 4 ∨ op = 5 ∨ op = 6 ∨ op = 7 ∨ op = 8 ∨ op = 9 ∨ op = 10 ∨ op = 11 ∨ op = 12 ∨ op = 13 ∨ op = 14 ∨ op = 15 := by omega
    refine ⟨fun _ => h, fun _ => ?_⟩
    rcases this with rfl | rfl | rfl | rfl | rfl | rfl | rfl | rfl | rfl | rfl | rfl | rfl <;> decide
  · refine ⟨fun h2 => ?_, fun h2 => absurd h2 h⟩
    rw [find_none op (fun j hj e => h (by
      match j, hj with
      | 0, _ | 1, _ | 2, _ | 3, _ | 4, _ | 5, _ | 6, _ | 7, _ | 8, _ | 9, _ | 10, _ | 11, _ => (subst e; decide)
      | n + 12, hj => omega))] at h2
    exact absurd h2 (by decide)
theorem small_no (d : Nat) (x : Ex) (h : d = 0 ∨ 300 < x.s.length ∨ 300 < x.v.s.length ∨ 5 < x.l.length) : smallX d x = false := by
  rcases Nat.eq_zero_or_pos d with rfl | hd
  · rfl
  · rw [small_eq hd]
    rcases h with h | h | h | h
    · omega
    · rw [decide_eq_false (show ¬ x.s.length ≤ 300 by omega)]; simp
    · rw [decide_eq_false (show ¬ x.v.s.length ≤ 300 by omega)]; simp
    · rw [decide_eq_false (show ¬ x.l.length ≤ 5 by omega)]; simp
def XSm (x : Ex) : Bool := smallX 30 x && decide (szF x ≤ 300)
theorem sm_of {x : Ex} (h : XSm x = true) : SmX x := ⟨30, loose_small 30 x (Bool.and_eq_true_iff.1 h).1⟩
end Go.Proofs.YtcdbgeefhpmjfaaGreatDoor
namespace Go.Proofs.YtcdbgeefhpmjfaaGreatDoor
open Go Go.Dx Go.RowKit
theorem evX_fuel {l : List Col} {row : List Val} : ∀ (k k' : Nat) (x : Ex), rightS x = true → SizeOf.sizeOf x < k → SizeOf.sizeOf x < k' → evX l row k x = evX l row k' x
  | 0, _, x, _, h, _ => by omega
  | _ + 1, 0, x, _, _, h => by omega
  | k + 1, k' + 1, x, hr, h, h' => by
    unfold evX
    by_cases h1 : x.op = 1
    · rw [if_pos h1, if_pos h1]
    by_cases h2 : x.op = 2
    · rw [if_neg h1, if_neg h1, if_pos h2, if_pos h2]
    obtain ⟨hop, hlen, hch⟩ := right_sub hr h1 h2
    have hc := cnt_pos hop
    have ih : ∀ i, i < x.l.length → evX l row k (x.l.getD i ex0) = evX l row k' (x.l.getD i ex0) := fun i hi => by
      have hm := getD_mem x.l i ex0 hi
      have := Ex.lt hm
      exact evX_fuel k k' _ (hch _ hm) (by omega) (by omega)
    rw [if_neg h1, if_neg h1, if_neg h2, if_neg h2, ih 0 (by omega)]
    by_cases h3 : x.op = 3
    · simp only [if_pos h3]
    by_cases h4 : x.op = 16
    · have := hc.2.2.2 h4
      simp only [if_neg h3, if_pos h4]
      rw [ih 1 (by omega), ih 2 (by omega)]
    · have := hc.2.2.1 (by omega)
      simp only [if_neg h3, if_neg h4]
      rw [ih 1 (by omega)]
theorem xl_one {h : View} {T b : Nat} {c1 : List Value} {x : Ex} (hb : CellsC T c1 (h b)) (l1 : c1.length = 6) (h1 : RX h c1 x) : XL h (some ⟨b, 0, none⟩) 1 [x] := by
  refine ⟨fun _ => c1, ?_, fun i z hi => ?_⟩
  · refine SlC.ofRow (T := T) (fun i hi => l1) hb (by simp) (by simp) (by simp [maxLen]) ?_
    show (c1.drop 0).take (1 * 6) = _
    have e : List.range [x].length = [0] := rfl
    rw [e]
    simp
    exact List.take_of_length_le (by simp [l1])
  · match i, hi with
    | 0, hi => simp at hi; subst hi; exact h1
def numX (n : Int) : Ex := KX 1 ⟨1, n, []⟩ []
def exA : Ex := .mk 7 v0 [] [KX 2 v0 [97], .mk 3 v0 [] [numX 2]]
def exB : Ex := .mk 14 v0 [] [KX 1 v0 [], KX 1 ⟨3, 0, []⟩ []]
def exD : Ex := .mk 4 v0 [] [numX 9223372036854775807, numX 1]
def colA : Col := ⟨[97], 1, none, 0, 0⟩
theorem right_num {n : Int} (h : 0 ≤ n) : rightS (numX n) = true := by
  rw [numX, KX, right_mk]; simp [cntS, valOk, h]
theorem right_exA : rightS exA = true := by
  have hn : nameOk [97] = true := by decide
  rw [exA, right_mk]
  simp only [List.all_cons, List.all_nil, Bool.and_true]
  rw [KX, right_mk, right_mk]
  simp only [List.all_cons, List.all_nil, Bool.and_true]
  rw [right_num (by decide), hn]
  decide
theorem right_exB : rightS exB = true := by
  rw [exB, right_mk]
  simp only [List.all_cons, List.all_nil, Bool.and_true]
  rw [KX, KX, right_mk, right_mk]
  decide
theorem right_exD : rightS exD = true := by
  rw [exD, right_mk]
  simp only [List.all_cons, List.all_nil, Bool.and_true]
  rw [right_num (by decide), right_num (by decide)]
  decide
theorem ev_exA : evX [colA] [⟨1, 7, []⟩] (SizeOf.sizeOf exA + 1) exA = .ok ⟨1, -3, []⟩ := by
  rw [evX_fuel _ (SizeOf.sizeOf exA + 100) exA right_exA (by omega) (by omega)]
  rfl
theorem ev_exB : evX [] [] (SizeOf.sizeOf exB + 1) exB = .ok ⟨3, 0, []⟩ := by
  rw [evX_fuel _ (SizeOf.sizeOf exB + 100) exB right_exB (by omega) (by omega)]
  rfl
theorem ev_exD : evX [] [] (SizeOf.sizeOf exD + 1) exD = .error 15 := by
  rw [evX_fuel _ (SizeOf.sizeOf exD + 100) exD right_exD (by omega) (by omega)]
  rfl
end Go.Proofs.YtcdbgeefhpmjfaaGreatDoor
namespace Go.Proofs.YtcdbgeefhpmjfaaGreatDoor
open Go Go.Dx Go.RowKit
def nowS (l : List Tok) (i : Nat) (bad : Bool) : Tok := if bad = true then t0 else l.getD i t0
def onS (l : List Tok) (i : Nat) (bad : Bool) (k : Int) (s : List UInt8) : Bool := decide ((nowS l i bad).k = k) && decide ((nowS l i bad).s = s)
def kindB (b : Int × List UInt8 × Int) : Int := if b.2.2 < 3 then 1 else 4
def hitB (l : List Tok) (i : Nat) (bad : Bool) (lev : Int) (b : Int × List UInt8 × Int) : Bool := decide (b.2.2 = lev) && onS l i bad (kindB b) b.2.1
def opS (l : List Tok) (i : Nat) (bad : Bool) (lev : Int) : Int := match binL.find? (hitB l i bad lev) with
  | some b => b.1
  | none => 0
theorem op_hit (l : List Tok) (i : Nat) (bad : Bool) (lev : Int) (k : Nat) (hk : k < 12) (hn : ∀ j, j < k → hitB l i bad lev (binL.getD j (0, [], 0)) = false) (hp : hitB l i bad lev (binL.getD k (0, [], 0)) = true) : opS l i bad lev = (binL.getD k (0, [], 0)).1 := by
  have e : binL.find? (hitB l i bad lev) = some (binL.getD k (0, [], 0)) := by
    rw [List.find?_eq_some_iff_getElem]
    refine ⟨hp, k, hk, by rw [getD_lt _ _ _ (show k < binL.length from hk)]; rfl, fun j hj => ?_⟩
    have := hn j hj
    simpa [List.getD, show j < binL.length by have : binL.length = 12 := rfl; omega] using this
  rw [opS, e]
theorem op_none (l : List Tok) (i : Nat) (bad : Bool) (lev : Int) (hn : ∀ j, j < 12 → hitB l i bad lev (binL.getD j (0, [], 0)) = false) : opS l i bad lev = 0 := by
  have e : binL.find? (hitB l i bad lev) = none := by
    rw [List.find?_eq_none]
    intro b hb
    obtain ⟨j, hj⟩ := List.mem_iff_getElem?.1 hb
    have hlt := (List.getElem?_eq_some_iff.1 hj).1
    have := hn j hlt
    simpa [List.getD, hj] using this
  rw [opS, e]
theorem op_pos : ∀ (k : Nat), k < 12 → (binL.getD k (0, [], 0)).1 ≠ 0
  | 0, _ | 1, _ | 2, _ | 3, _ | 4, _ | 5, _ | 6, _ | 7, _ | 8, _ | 9, _ | 10, _ | 11, _ => by decide
  | n + 12, h => by omega
theorem op_some {l : List Tok} {i : Nat} {bad : Bool} {lev : Int} (h : opS l i bad lev ≠ 0) : ∃ b ∈ binL, hitB l i bad lev b = true ∧ opS l i bad lev = b.1 := by
  unfold opS at h ⊢
  split at h
  · rename_i b hb
    exact ⟨b, List.mem_of_find?_eq_some hb, List.find?_some hb, rfl⟩
  · exact absurd rfl h
theorem op_i64 (l : List Tok) (i : Nat) (bad : Bool) (lev : Int) : i64 (opS l i bad lev) := by
  by_cases h : opS l i bad lev = 0
  · rw [h]; unfold i64; omega
  · obtain ⟨b, hb, _, e⟩ := op_some h
    rw [e]
    have : ∀ b ∈ binL, 0 ≤ b.1 ∧ b.1 ≤ 100 := by decide
    have := this b hb
    unfold i64; omega
theorem on_lt {l : List Tok} {i : Nat} {bad : Bool} {k : Int} {s : List UInt8} (h : onS l i bad k s = true) (hk : k ≠ 0) : i < l.length ∧ bad = false := by
  simp only [onS, Bool.and_eq_true, decide_eq_true_eq] at h
  have h1 := h.1
  unfold nowS at h1
  split at h1
  · exact absurd h1.symm hk
  · rename_i hb
    refine ⟨?_, by simpa using hb⟩
    rcases Nat.lt_or_ge i l.length with hlt | hge
    · exact hlt
    · simp [List.getD, List.getElem?_eq_none hge] at h1
      exact absurd h1.symm hk
theorem op_lt {l : List Tok} {i : Nat} {bad : Bool} {lev : Int} (h : opS l i bad lev ≠ 0) : i < l.length ∧ bad = false := by
  obtain ⟨b, _, hh, _⟩ := op_some h
  simp only [hitB, Bool.and_eq_true] at hh
  refine on_lt hh.2 ?_
  unfold kindB; split <;> decide
theorem now_lt {l : List Tok} {i : Nat} {bad : Bool} (h : (nowS l i bad).k ≠ 0) : i < l.length ∧ bad = false := by
  unfold nowS at h
  split at h
  · exact absurd rfl h
  · rename_i hb
    refine ⟨?_, by simpa using hb⟩
    rcases Nat.lt_or_ge i l.length with hlt | hge
    · exact hlt
    · simp [List.getD, List.getElem?_eq_none hge] at h
      exact absurd rfl h
abbrev RdR := Ex × Nat × Bool
def mustS (l : List Tok) (p : Nat × Bool) (k : Int) (s : List UInt8) : Nat × Bool := (if onS l p.1 p.2 k s = true then p.1 + 1 else p.1, p.2 || !onS l p.1 p.2 k s)
def wordV (s : List UInt8) : Option Val := if s = [110, 117, 108, 108] then some v0 else if s = [102, 97, 108, 115, 101] then some ⟨3, 0, []⟩ else if s = [116, 114, 117, 101] then some ⟨3, 1, []⟩ else none
def atomS (rd : Nat → Bool → RdR) (l : List Tok) (i : Nat) (bad : Bool) : RdR :=
  if onS l i bad 4 [40] = true then ((rd (i + 1) bad).1, mustS l (rd (i + 1) bad).2 4 [41])
  else if (nowS l i bad).k = 2 then (.mk 1 ⟨1, (nowS l i bad).n, []⟩ [] [], i + 1, bad)
  else if (nowS l i bad).k = 3 then (.mk 1 ⟨2, 0, (nowS l i bad).s⟩ [] [], i + 1, bad)
  else if (nowS l i bad).k = 1 then (if (wordV (nowS l i bad).s).isSome = true then (.mk 1 ((wordV (nowS l i bad).s).getD v0) [] [], i + 1, bad) else if nameOk (nowS l i bad).s = true then (.mk 2 v0 (nowS l i bad).s [], i + 1, bad) else (ex0, i, true))
  else (ex0, i, true)
def thenT : List UInt8 := [116, 104, 101, 110]
def elseT : List UInt8 := [101, 108, 115, 101]
def branchS (rd : Nat → Bool → RdR) (l : List Tok) (i : Nat) (bad : Bool) : RdR :=
  (.mk 16 v0 [] [(rd i bad).1, (rd (mustS l (rd i bad).2 1 thenT).1 (mustS l (rd i bad).2 1 thenT).2).1,
    (rd (mustS l (rd (mustS l (rd i bad).2 1 thenT).1 (mustS l (rd i bad).2 1 thenT).2).2 1 elseT).1 (mustS l (rd (mustS l (rd i bad).2 1 thenT).1 (mustS l (rd i bad).2 1 thenT).2).2 1 elseT).2).1],
    (rd (mustS l (rd (mustS l (rd i bad).2 1 thenT).1 (mustS l (rd i bad).2 1 thenT).2).2 1 elseT).1 (mustS l (rd (mustS l (rd i bad).2 1 thenT).1 (mustS l (rd i bad).2 1 thenT).2).2 1 elseT).2).2)
def loopS (rd : Nat → Bool → RdR) (l : List Tok) (lev : Nat) : Nat → Ex → Nat → Bool → RdR
  | 0, x, i, bad => (x, i, bad)
  | n + 1, x, i, bad => if opS l i bad lev = 0 then (x, i, bad) else
    if lev ≠ 3 ∧ (rd (i + 1) bad).2.2 = false then loopS rd l lev n (.mk (opS l i bad lev) v0 [] [x, (rd (i + 1) bad).1]) (rd (i + 1) bad).2.1 (rd (i + 1) bad).2.2
    else (.mk (opS l i bad lev) v0 [] [x, (rd (i + 1) bad).1], (rd (i + 1) bad).2)
def ifT : List UInt8 := [105, 102]
def rdF (l : List Tok) : Nat → Nat → Nat → Bool → RdR
  | 0, _, i, _ => (ex0, i, true)
  | f + 1, lev, i, bad =>
    if bad = true then (ex0, i, bad)
    else if lev = 0 then (if onS l i bad 1 ifT = true then branchS (rdF l f 0) l (i + 1) bad else rdF l f 1 i bad)
    else if lev = 6 ∧ onS l i bad 4 [45] = true then (.mk 3 v0 [] [(rdF l f 6 (i + 1) bad).1], (rdF l f 6 (i + 1) bad).2)
    else if 6 ≤ lev then atomS (rdF l f 0) l i bad
    else loopS (rdF l f (lev + 1)) l lev (l.length + 1) (rdF l f (lev + 1) i bad).1 (rdF l f (lev + 1) i bad).2.1 (rdF l f (lev + 1) i bad).2.2
def needS (l : List Tok) (lev i : Nat) : Nat := 10 * (l.length - i) + (9 - lev)
def Ge (l : List Tok) (i : Nat) (r : RdR) : Prop := i ≤ r.2.1 ∧ r.2.1 ≤ l.length
theorem must_ge {l : List Tok} {p : Nat × Bool} {k : Int} {s : List UInt8} (hk : k ≠ 0) (h : p.1 ≤ l.length) : p.1 ≤ (mustS l p k s).1 ∧ (mustS l p k s).1 ≤ l.length := by
  unfold mustS
  by_cases hh : onS l p.1 p.2 k s = true
  · rw [if_pos hh]
    have := (on_lt hh hk).1
    exact ⟨by show p.1 ≤ p.1 + 1; omega, by show p.1 + 1 ≤ _; omega⟩
  · rw [if_neg hh]; exact ⟨Nat.le_refl _, h⟩
theorem loop_ge {rd : Nat → Bool → RdR} {l : List Tok} {lev : Nat} (hr : ∀ i bad, i ≤ l.length → Ge l i (rd i bad)) : ∀ (n : Nat) (x : Ex) (i : Nat) (bad : Bool), i ≤ l.length → Ge l i (loopS rd l lev n x i bad)
  | 0, x, i, bad, h => ⟨Nat.le_refl _, h⟩
  | n + 1, x, i, bad, h => by
    unfold loopS
    by_cases h0 : opS l i bad lev = 0
    · rw [if_pos h0]; exact ⟨Nat.le_refl _, h⟩
    · rw [if_neg h0]
      have hlt := (op_lt h0).1
      have h1 := hr (i + 1) bad (by omega)
      unfold Ge at h1
      split
      · have h2 := loop_ge (lev := lev) hr n (.mk (opS l i bad lev) v0 [] [x, (rd (i + 1) bad).1]) (rd (i + 1) bad).2.1 (rd (i + 1) bad).2.2 h1.2
        exact ⟨Nat.le_trans (Nat.le_trans (Nat.le_succ i) h1.1) h2.1, h2.2⟩
      · exact ⟨Nat.le_trans (Nat.le_succ i) h1.1, h1.2⟩
theorem atom_ge {rd : Nat → Bool → RdR} {l : List Tok} (hr : ∀ i bad, i ≤ l.length → Ge l i (rd i bad)) {i : Nat} {bad : Bool} (h : i ≤ l.length) : Ge l i (atomS rd l i bad) := by
  unfold atomS
  have hn : (nowS l i bad).k ≠ 0 → i + 1 ≤ l.length := fun hk => (now_lt hk).1
  split
  · rename_i hh
    have hlt := (on_lt hh (by decide)).1
    have h1 := hr (i + 1) bad (by omega)
    unfold Ge at h1
    have h2 := must_ge (l := l) (p := (rd (i + 1) bad).2) (k := 4) (s := [41]) (by decide) h1.2
    exact ⟨Nat.le_trans (by omega) h2.1, h2.2⟩
  split
  · rename_i hk; exact ⟨Nat.le_succ _, hn (by rw [hk]; decide)⟩
  split
  · rename_i hk; exact ⟨Nat.le_succ _, hn (by rw [hk]; decide)⟩
  split
  · rename_i hk
    split
    · exact ⟨Nat.le_succ _, hn (by rw [hk]; decide)⟩
    split
    · exact ⟨Nat.le_succ _, hn (by rw [hk]; decide)⟩
    · exact ⟨Nat.le_refl _, h⟩
  · exact ⟨Nat.le_refl _, h⟩
theorem branch_ge {rd : Nat → Bool → RdR} {l : List Tok} (hr : ∀ i bad, i ≤ l.length → Ge l i (rd i bad)) {i : Nat} {bad : Bool} (h : i ≤ l.length) : Ge l i (branchS rd l i bad) := by
  have h1 := hr i bad h
  unfold Ge at h1
  have h2 := must_ge (l := l) (p := (rd i bad).2) (k := 1) (s := thenT) (by decide) h1.2
  have h3 := hr _ (mustS l (rd i bad).2 1 thenT).2 h2.2
  unfold Ge at h3
  have h4 := must_ge (l := l) (p := (rd (mustS l (rd i bad).2 1 thenT).1 (mustS l (rd i bad).2 1 thenT).2).2) (k := 1) (s := elseT) (by decide) h3.2
  have h5 := hr _ (mustS l (rd (mustS l (rd i bad).2 1 thenT).1 (mustS l (rd i bad).2 1 thenT).2).2 1 elseT).2 h4.2
  exact ⟨Nat.le_trans (Nat.le_trans h1.1 h2.1) (Nat.le_trans h3.1 (Nat.le_trans h4.1 h5.1)), h5.2⟩
theorem rd_ge (l : List Tok) : ∀ (f lev i : Nat) (bad : Bool), i ≤ l.length → Ge l i (rdF l f lev i bad)
  | 0, lev, i, bad, h => ⟨Nat.le_refl _, h⟩
  | f + 1, lev, i, bad, h => by
    have ih := rd_ge l f
    unfold rdF
    split
    · exact ⟨Nat.le_refl _, h⟩
    split
    · split
      · rename_i hh
        have := branch_ge (bad := bad) (fun i bad h => ih 0 i bad h) (show i + 1 ≤ l.length from (on_lt hh (by decide)).1)
        exact ⟨Nat.le_trans (Nat.le_succ i) this.1, this.2⟩
      · exact ih 1 i bad h
    split
    · rename_i hh
      have := ih 6 (i + 1) bad (on_lt hh.2 (by decide)).1
      exact ⟨Nat.le_trans (Nat.le_succ i) this.1, this.2⟩
    split
    · exact atom_ge (fun i bad h => ih 0 i bad h) h
    · have h1 := ih (lev + 1) i bad h
      have h2 := loop_ge (lev := lev) (fun i bad h => ih (lev + 1) i bad h) (l.length + 1) (rdF l f (lev + 1) i bad).1 (rdF l f (lev + 1) i bad).2.1 (rdF l f (lev + 1) i bad).2.2 h1.2
      exact ⟨Nat.le_trans h1.1 h2.1, h2.2⟩
def Nd (x : Ex) : Prop := i64 x.op ∧ valB x.v
theorem i64_s {n : Int} (h : -1000 ≤ n ∧ n ≤ 1000) : i64 n := by unfold i64; omega
theorem vb_s {k n : Int} {s : List UInt8} (h : -1000 ≤ k ∧ k ≤ 1000) (h2 : -1000 ≤ n ∧ n ≤ 1000) : valB ⟨k, n, s⟩ := ⟨i64_s h, i64_s h2⟩
theorem vb0 : valB v0 := vb_s (by omega) (by omega)
theorem nd0 : Nd ex0 := ⟨i64_s (show _ ≤ (0 : Int) ∧ (0 : Int) ≤ _ by omega), vb0⟩
theorem nd_v0 {op : Int} {s : List UInt8} {l : List Ex} (h : i64 op) : Nd (.mk op v0 s l) := ⟨h, vb0⟩
def TokN (l : List Tok) : Prop := ∀ t ∈ l, i64 t.n
theorem now_n {l : List Tok} (hl : TokN l) (i : Nat) (bad : Bool) : i64 (nowS l i bad).n := by
  unfold nowS
  split
  · exact i64_s (show _ ≤ (0 : Int) ∧ (0 : Int) ≤ _ by omega)
  · rcases Nat.lt_or_ge i l.length with h | h
    · rw [getD_lt l i t0 h]; exact hl _ (List.getElem_mem h)
    · simp only [List.getD, List.getElem?_eq_none h]; exact i64_s (show _ ≤ (0 : Int) ∧ (0 : Int) ≤ _ by omega)
theorem word_b (s : List UInt8) : valB ((wordV s).getD v0) := by
  unfold wordV
  split
  · exact vb0
  split
  · exact vb_s (by omega) (by omega)
  split
  · exact vb_s (by omega) (by omega)
  · exact vb0
theorem loop_nd {rd : Nat → Bool → RdR} {l : List Tok} {lev : Nat} : ∀ (n : Nat) (x : Ex) (i : Nat) (bad : Bool), Nd x → Nd (loopS rd l lev n x i bad).1
  | 0, x, i, bad, h => h
  | n + 1, x, i, bad, h => by
    unfold loopS
    split
    · exact h
    split
    · exact loop_nd n _ _ _ (nd_v0 (op_i64 l i bad lev))
    · exact nd_v0 (op_i64 l i bad lev)
theorem atom_nd {rd : Nat → Bool → RdR} {l : List Tok} (hl : TokN l) (hr : ∀ i bad, Nd (rd i bad).1) (i : Nat) (bad : Bool) : Nd (atomS rd l i bad).1 := by
  unfold atomS
  split
  · exact hr _ _
  split
  · exact ⟨i64_s (show _ ≤ (1 : Int) ∧ (1 : Int) ≤ _ by omega), i64_s (show _ ≤ (1 : Int) ∧ (1 : Int) ≤ _ by omega), now_n hl i bad⟩
  split
  · exact ⟨i64_s (show _ ≤ (1 : Int) ∧ (1 : Int) ≤ _ by omega), vb_s (by omega) (by omega)⟩
  split
  · split
    · exact ⟨i64_s (show _ ≤ (1 : Int) ∧ (1 : Int) ≤ _ by omega), word_b _⟩
    split
    · exact nd_v0 (i64_s (by omega))
    · exact nd0
  · exact nd0
theorem rd_nd {l : List Tok} (hl : TokN l) : ∀ (f lev i : Nat) (bad : Bool), Nd (rdF l f lev i bad).1
  | 0, lev, i, bad => nd0
  | f + 1, lev, i, bad => by
    have ih := rd_nd hl f
    unfold rdF
    split
    · exact nd0
    split
    · split
      · exact nd_v0 (i64_s (by omega))
      · exact ih 1 i bad
    split
    · exact nd_v0 (i64_s (by omega))
    split
    · exact atom_nd hl (fun i bad => ih 0 i bad) i bad
    · exact loop_nd _ _ _ _ (ih _ _ _)
theorem XL.rx {h : View} {ad : Option Addr} {cap : Nat} {e : Ex} (hx : XL h ad cap e.l) (hn : Nd e) : RX h (exC e.op e.v e.s (.slice ad e.l.length cap)) e := by
  obtain ⟨c, h1, h2⟩ := hx
  cases e with
  | mk op v s l => exact .mk op v s l ad cap c hn (by simpa using h1) h2
end Go.Proofs.YtcdbgeefhpmjfaaGreatDoor
namespace Go.Proofs.YtcdbgeefhpmjfaaGreatDoor
open Go Go.Dx Go.RowKit
mutual
def deepS : Ex → Nat
  | .mk _ _ _ l => deepL 0 l + 1
def deepL (n : Nat) : List Ex → Nat
  | [] => n
  | x :: l => deepL (max n (deepS x)) l
end
theorem deep_eq (x : Ex) : deepS x = deepL 0 x.l + 1 := by
  cases x with
  | mk op v s l => rw [deepS]; rfl
theorem deepL_snoc : ∀ (l : List Ex) (n : Nat) (x : Ex), deepL n (l ++ [x]) = max (deepL n l) (deepS x)
  | [], n, x => rfl
  | y :: l, n, x => by simp only [List.cons_append, deepL]; exact deepL_snoc l _ x
theorem deepL_take (l : List Ex) (k : Nat) (h : k < l.length) : deepL 0 (l.take (k + 1)) = max (deepL 0 (l.take k)) (deepS (l.getD k ex0)) := by
  rw [List.take_succ_eq_append_getElem h, deepL_snoc, getD_lt l k ex0 h]
theorem deepL_ge : ∀ (l : List Ex) (n : Nat), n ≤ deepL n l ∧ ∀ y ∈ l, deepS y ≤ deepL n l
  | [], n => ⟨Nat.le_refl _, fun y hy => by cases hy⟩
  | x :: l, n => by
    have ih := deepL_ge l (max n (deepS x))
    refine ⟨Nat.le_trans (Nat.le_max_left _ _) ih.1, fun y hy => ?_⟩
    rcases List.mem_cons.1 hy with rfl | hy
    · exact Nat.le_trans (Nat.le_max_right _ _) ih.1
    · exact ih.2 y hy
theorem deep_sub {x y : Ex} (h : y ∈ x.l) : deepS y < deepS x := by
  rw [deep_eq x]
  have := (deepL_ge x.l 0).2 y h
  omega
theorem deepL_le {n m : Nat} : ∀ (l : List Ex) , n ≤ m → (∀ y ∈ l, deepS y ≤ m) → deepL n l ≤ m
  | [], h, _ => h
  | x :: l, h, hl => deepL_le l (Nat.max_le.2 ⟨h, hl x (List.mem_cons_self ..)⟩) fun y hy => hl y (List.mem_cons_of_mem _ hy)
theorem deep_small : ∀ (d : Nat) (x : Ex), smallX d x = true → deepS x ≤ d
  | 0, x, h => by simp [smallX] at h
  | d + 1, x, h => by
    simp only [smallX, Bool.and_eq_true, List.all_eq_true] at h
    rw [deep_eq]
    have := deepL_le (n := 0) (m := d) x.l (Nat.zero_le _) fun y hy => deep_small d y (h.2 y hy)
    omega
end Go.Proofs.YtcdbgeefhpmjfaaGreatDoor
namespace Go.Proofs.YtcdbgeefhpmjfaaGreatDoor
open Go Go.Dx Go.RowKit
def readT (l : List Tok) (i lev : Nat) : Ex × Nat × Int := if (rdF l (needS l lev i) lev i false).2.2 = true then (ex0, (rdF l (needS l lev i) lev i false).2.1, 11) else ((rdF l (needS l lev i) lev i false).1, (rdF l (needS l lev i) lev i false).2.1, 0)
def parseT (s : List UInt8) : Ex × Int × Int :=
  if (lexS s).2.2 ≠ 0 then (ex0, (lexS s).2.1, (lexS s).2.2)
  else if (readT (lexS s).1 0 0).2.1 < (lexS s).1.length then (ex0, ((lexS s).1.getD (readT (lexS s).1 0 0).2.1 t0).p, 11)
  else if (readT (lexS s).1 0 0).2.2 ≠ 0 then (ex0, s.length, (readT (lexS s).1 0 0).2.2)
  else if 12 < deepS (readT (lexS s).1 0 0).1 then (ex0, 0, 12) else ((readT (lexS s).1 0 0).1, 0, 0)
end Go.Proofs.YtcdbgeefhpmjfaaGreatDoor
namespace Go.Proofs.YtcdbgeefhpmjfaaGreatDoor
open Go Go.Dx Go.RowKit
theorem dec_lo {u : Nat} (h : u < 10) : Lib.decDigits u = [UInt8.ofNat (48 + u)] := Lib.decDigits_one h
theorem dec_hi {u : Nat} (h : ¬ u < 10) : Lib.decDigits u = Lib.decDigits (u / 10) ++ [UInt8.ofNat (48 + u % 10)] := by rw [Lib.decDigits, dif_neg h]
theorem itoa_pos {n : Int} (h : ¬ n < 0) : Lib.itoa n = Lib.decDigits n.natAbs := by
  rw [Lib.itoa, if_neg h, show n.toNat = n.natAbs by omega]
theorem itoa_neg' {n : Int} (h : n < 0) : Lib.itoa n = 45 :: Lib.decDigits n.natAbs := by rw [Lib.itoa, if_pos h]
theorem digit_val {m : Nat} (h : m < 10) : (UInt8.ofNat (48 + m)).toNat = 48 + m := byte_lo (by omega)
theorem dec_head : ∀ u : Nat, ∃ m r, m < 10 ∧ Lib.decDigits u = UInt8.ofNat (48 + m) :: r := by
  intro u
  induction u using Nat.strongRecOn with
  | _ u ih =>
    by_cases h : u < 10
    · exact ⟨u, [], h, dec_lo h⟩
    · obtain ⟨m, r, hm, hr⟩ := ih (u / 10) (by omega)
      exact ⟨m, _, hm, by rw [dec_hi h, hr]; rfl⟩
theorem itoa_first (n : Int) : ∃ b r, Lib.itoa n = b :: r ∧ (b.toNat = 45 ∨ (48 ≤ b.toNat ∧ b.toNat ≤ 57)) := by
  by_cases hn : n < 0
  · exact ⟨45, _, itoa_neg' hn, .inl rfl⟩
  · obtain ⟨d, r, hd, hr⟩ := dec_head n.natAbs
    exact ⟨_, r, by rw [itoa_pos hn, hr], .inr (by rw [digit_val hd]; omega)⟩
def qB (b : UInt8) : List UInt8 := if b = 34 ∨ b = 92 then [92, b] else [b]
theorem quS_eq (s : List UInt8) : quS s = 34 :: (s.flatMap qB) ++ [34] := rfl
theorem qB_len (b : UInt8) : 1 ≤ (qB b).length ∧ (qB b).length ≤ 2 := by unfold qB; split <;> simp
theorem flat_len (s : List UInt8) : (s.flatMap qB).length ≤ 2 * s.length := by
  induction s with
  | nil => simp
  | cons b s ih =>
    have := (qB_len b).2
    simp only [List.flatMap_cons, List.length_append, List.length_cons]; omega
theorem flat_snoc (s : List UInt8) (k : Nat) (h : k < s.length) : (s.take (k + 1)).flatMap qB = (s.take k).flatMap qB ++ qB (s.getD k 0) := by
  rw [List.take_add_one, List.getElem?_eq_getElem h, List.flatMap_append]
  congr 1
  simp [h]
def nullS : List UInt8 := [110, 117, 108, 108]
def trueS : List UInt8 := [116, 114, 117, 101]
def falseS : List UInt8 := [102, 97, 108, 115, 101]
def boolS (b : Bool) : List UInt8 := if b then trueS else falseS
def txS (v : Val) : List UInt8 := if v.k = 1 then Lib.itoa v.n else if v.k = 2 then quS v.s else if v.k = 3 then boolS (decide (v.n = 1)) else nullS
def txR (v : Val) : List UInt8 × Int := if valOk v then (txS v, 0) else ([], 2)
def kindVT (b : Nat) : Int := if b = 110 then 0 else if b = 34 then 2 else if b = 116 ∨ b = 102 then 3 else 1
theorem tx_first {v : Val} (h : valOk v = true) : ∃ b r, txS v = b :: r ∧ kindVT b.toNat = v.k := by
  obtain ⟨k, n, s⟩ := v
  rcases valOk_cases h with ⟨h1, _⟩ | ⟨h1, _⟩ | ⟨h1, _⟩ | ⟨h1, _, h2⟩
  · simp only at h1; subst h1; exact ⟨110, _, rfl, rfl⟩
  · simp only at h1; subst h1
    obtain ⟨b, r, h3, h4⟩ := itoa_first n
    refine ⟨b, r, h3, ?_⟩
    unfold kindVT
    rw [if_neg (by omega), if_neg (by omega), if_neg (by omega)]
  · simp only at h1; subst h1; exact ⟨34, _, rfl, rfl⟩
  · simp only at h1 h2; subst h1
    rcases h2 with rfl | rfl
    · exact ⟨102, _, rfl, rfl⟩
    · exact ⟨116, _, rfl, rfl⟩
end Go.Proofs.YtcdbgeefhpmjfaaGreatDoor
namespace Go.Proofs.YtcdbgeefhpmjfaaGreatDoor
open Go Go.Dx Go.RowKit
def levS (op : Int) : Int := if op = 16 then 0 else if op = 3 then 6 else if op = 1 ∨ op = 2 then 7 else (findS op).2.2
def msS (op : Int) : List Int := if op = 3 then [6] else if op = 16 then [0, 0, 0] else [if (findS op).2.2 = 3 then 4 else (findS op).2.2, (findS op).2.2 + 1]
def ifW : List UInt8 := [105, 102, 32]
def thenW : List UInt8 := [32, 116, 104, 101, 110, 32]
def elseW : List UInt8 := [32, 101, 108, 115, 101, 32]
def bodyS (op : Int) (v : Val) (s : List UInt8) (c : List (List UInt8)) : List UInt8 :=
  if op = 1 then (txR v).1 else if op = 2 then s else if op = 3 then 45 :: c.getD 0 [] else if op = 16 then ifW ++ c.getD 0 [] ++ thenW ++ c.getD 1 [] ++ elseW ++ c.getD 2 []
  else c.getD 0 [] ++ (32 :: (findS op).2.1 ++ [32]) ++ c.getD 1 []
mutual
def putS : Ex → Int → List UInt8
  | .mk op v s l, m => if levS op < m then 40 :: bodyS op v s (putL l (msS op)) ++ [41] else bodyS op v s (putL l (msS op))
def putL : List Ex → List Int → List (List UInt8)
  | [], _ => []
  | _ :: _, [] => []
  | x :: l, m :: ms => putS x m :: putL l ms
end
def bodyX (x : Ex) : List UInt8 := bodyS x.op x.v x.s (putL x.l (msS x.op))
theorem put_eq (x : Ex) (m : Int) : putS x m = if levS x.op < m then 40 :: bodyX x ++ [41] else bodyX x := by
  cases x with
  | mk op v s l => rw [putS]; rfl
theorem putL_get : ∀ (l : List Ex) (ms : List Int) (i : Nat), i < l.length → i < ms.length → (putL l ms).getD i [] = putS (l.getD i ex0) (ms.getD i 0)
  | [], _, _, h, _ => by simp at h
  | _ :: _, [], _, _, h => by simp at h
  | x :: l, m :: ms, 0, _, _ => by simp [putL]
  | x :: l, m :: ms, i + 1, h, h2 => by
    have := putL_get l ms i (by simpa using h) (by simpa using h2)
    simp only [putL, List.getD_cons_succ]; exact this
theorem put_lv {x : Ex} {m : Int} (h : ¬ levS x.op < m) : putS x m = bodyX x := by rw [put_eq, if_neg h]
theorem find_cases (op : Int) : findS op = (0, [], 0) ∨ findS op ∈ binL := by
  unfold findS
  cases h : binL.find? fun b => decide (b.1 = op) with
  | none => exact .inl rfl
  | some b => exact .inr (List.mem_of_find?_eq_some h)
theorem find_lo (op : Int) : 0 ≤ (findS op).2.2 ∧ (findS op).2.2 ≤ 5 ∧ (findS op).2.1.length ≤ 3 := by
  have : ∀ b ∈ binL, 0 ≤ b.2.2 ∧ b.2.2 ≤ 5 ∧ b.2.1.length ≤ 3 := by decide
  rcases find_cases op with h | h
  · rw [h]; decide
  · exact this _ h
theorem lev_lo (op : Int) : 0 ≤ levS op ∧ levS op ≤ 7 := by
  have := find_lo op
  unfold levS
  split
  · omega
  split
  · omega
  split
  · omega
  · omega
theorem bodyX_0 (x : Ex) : putS x 0 = bodyX x := put_lv (by have := lev_lo x.op; omega)
end Go.Proofs.YtcdbgeefhpmjfaaGreatDoor
namespace Go.Proofs.YtcdbgeefhpmjfaaGreatDoor
open Go Go.Dx Go.RowKit
theorem tx_len {v : Val} (hb : valB v) (h : valOk v = true) : 0 < (txR v).1.length ∧ (txR v).1.length ≤ 82 := by
  rw [show txR v = (txS v, 0) by rw [txR, if_pos h]]
  refine ⟨?_, ?_⟩
  · obtain ⟨b, r, e, _⟩ := tx_first h
    show 0 < (txS v).length
    rw [e]; simp
  · show (txS v).length ≤ 82
    unfold txS
    split
    · have := Lib.itoa_length_le v.n hb.2.1 hb.2.2; omega
    split
    · rw [quS_eq]
      have := flat_len v.s
      have := valOk_40 h
      simp only [List.length_append, List.length_cons, List.length_nil]; omega
    split
    · unfold boolS; split <;> decide
    · decide
theorem name_len {s : List UInt8} (h : nameOk s = true) : 0 < s.length ∧ s.length ≤ 16 := by
  simp only [nameOk, Bool.and_eq_true, Bool.not_eq_true', decide_eq_false_iff_not, decide_eq_true_eq] at h
  exact ⟨List.length_pos_iff.2 h.1, by omega⟩
theorem cnt_op {x : Ex} (hr : rightS x = true) (h1 : ¬ x.op = 1) (h2 : ¬ x.op = 2) (h3 : ¬ x.op = 3) (h4 : ¬ x.op = 16) : 4 ≤ x.op ∧ x.op ≤ 15 := by
  have := hr
  rw [right_eq] at this
  simp only [Bool.and_eq_true, decide_eq_true_eq] at this
  have := this.1
  unfold cntS at this
  rw [if_neg (by omega), if_neg h3, if_neg h4] at this
  split at this
  · assumption
  · omega
theorem len_2 {α : Type} {l : List α} (h : l.length = 2) : ∃ a b, l = [a, b] := by
  match l, h with
  | [a, b], _ => exact ⟨a, b, rfl⟩
theorem len_3 {α : Type} {l : List α} (h : l.length = 3) : ∃ a b c, l = [a, b, c] := by
  match l, h with
  | [a, b, c], _ => exact ⟨a, b, c, rfl⟩
theorem right_parts {x : Ex} (hr : rightS x = true) : (x.op = 1 ∧ x.l = [] ∧ x.s = [] ∧ valOk x.v = true ∧ (x.v.k = 1 → 0 ≤ x.v.n)) ∨ (x.op = 2 ∧ x.l = [] ∧ x.v = v0 ∧ nameOk x.s = true) ∨
    (x.op = 3 ∧ x.v = v0 ∧ x.s = [] ∧ ∃ a, x.l = [a] ∧ rightS a = true) ∨ (x.op = 16 ∧ x.v = v0 ∧ x.s = [] ∧ ∃ a b c, x.l = [a, b, c] ∧ rightS a = true ∧ rightS b = true ∧ rightS c = true) ∨
    ((4 ≤ x.op ∧ x.op ≤ 15) ∧ x.v = v0 ∧ x.s = [] ∧ ∃ a b, x.l = [a, b] ∧ rightS a = true ∧ rightS b = true) := by
  have h := hr
  rw [right_eq] at h
  simp only [Bool.and_eq_true, decide_eq_true_eq] at h
  obtain ⟨hc, h⟩ := h
  by_cases h1 : x.op = 1
  · rw [if_pos h1] at h
    rw [cntS, if_pos (.inl h1)] at hc
    simp only [Bool.and_eq_true, decide_eq_true_eq, Bool.or_eq_true, Bool.not_eq_true', decide_eq_false_iff_not] at h
    exact .inl ⟨h1, List.length_eq_zero_iff.1 (by omega), h.1.1, h.1.2, fun hk => h.2.resolve_left (fun hn => hn hk)⟩
  rw [if_neg h1] at h
  by_cases h2 : x.op = 2
  · rw [if_pos h2] at h
    rw [cntS, if_pos (.inr h2)] at hc
    simp only [Bool.and_eq_true, decide_eq_true_eq] at h
    exact .inr (.inl ⟨h2, List.length_eq_zero_iff.1 (by omega), h.1, h.2⟩)
  rw [if_neg h2] at h
  simp only [Bool.and_eq_true, decide_eq_true_eq, List.all_eq_true] at h
  obtain ⟨⟨hv, hs⟩, ha⟩ := h
  by_cases h3 : x.op = 3
  · rw [cntS, if_neg (by omega), if_pos h3] at hc
    obtain ⟨a, e⟩ := List.length_eq_one_iff.1 (show x.l.length = 1 by omega)
    exact .inr (.inr (.inl ⟨h3, hv, hs, a, e, ha a (by rw [e]; simp)⟩))
  by_cases h4 : x.op = 16
  · rw [cntS, if_neg (by omega), if_neg h3, if_pos h4] at hc
    obtain ⟨a, b, c, e⟩ := len_3 (show x.l.length = 3 by omega)
    exact .inr (.inr (.inr (.inl ⟨h4, hv, hs, a, b, c, e, ha a (by rw [e]; simp), ha b (by rw [e]; simp), ha c (by rw [e]; simp)⟩)))
  have h5 := cnt_op hr h1 h2 h3 h4
  rw [cntS, if_neg (by omega), if_neg h3, if_neg h4, if_pos h5] at hc
  obtain ⟨a, b, e⟩ := len_2 (show x.l.length = 2 by omega)
  exact .inr (.inr (.inr (.inr ⟨h5, hv, hs, a, b, e, ha a (by rw [e]; simp), ha b (by rw [e]; simp)⟩)))
theorem body_1 {x : Ex} (h : x.op = 1) : bodyX x = (txR x.v).1 := by rw [bodyX, bodyS, if_pos h]
theorem body_2 {x : Ex} (h : x.op = 2) : bodyX x = x.s := by rw [bodyX, bodyS, if_neg (by omega), if_pos h]
theorem body_3 {x a : Ex} (h : x.op = 3) (hl : x.l = [a]) : bodyX x = 45 :: putS a 6 := by rw [bodyX, bodyS, if_neg (by omega), if_neg (by omega), if_pos h, hl, msS, if_pos h]; rfl
theorem body_16 {x a b c : Ex} (h : x.op = 16) (hl : x.l = [a, b, c]) : bodyX x = ifW ++ putS a 0 ++ thenW ++ putS b 0 ++ elseW ++ putS c 0 := by
  rw [bodyX, bodyS, if_neg (by omega), if_neg (by omega), if_neg (by omega), if_pos h, hl, msS, if_neg (by omega), if_pos h]; rfl
theorem body_b {x a b : Ex} (h : 4 ≤ x.op ∧ x.op ≤ 15) (hl : x.l = [a, b]) : bodyX x = putS a (if (findS x.op).2.2 = 3 then 4 else (findS x.op).2.2) ++ (32 :: (findS x.op).2.1 ++ [32]) ++ putS b ((findS x.op).2.2 + 1) := by
  rw [bodyX, bodyS, if_neg (by omega), if_neg (by omega), if_neg (by omega), if_neg (by omega), hl, msS, if_neg (by omega), if_neg (by omega)]; rfl
theorem put_long (x : Ex) (m : Int) : (putS x m).length ≤ (bodyX x).length + 2 ∧ (bodyX x).length ≤ (putS x m).length := by
  rw [put_eq]; split
  · simp only [List.length_append, List.length_cons, List.length_nil]; omega
  · omega
theorem body_pos {x : Ex} (hb : valB x.v) (hr : rightS x = true) : bodyX x ≠ [] := by
  apply List.length_pos_iff.1
  rcases right_parts hr with ⟨h, _, _, hv, _⟩ | ⟨h, _, _, hv⟩ | ⟨h, _, _, a, hl, _⟩ | ⟨h, _, _, a, b, c, hl, _⟩ | ⟨h, _, _, a, b, hl, _⟩
  · rw [body_1 h]; exact (tx_len hb hv).1
  · rw [body_2 h]; exact (name_len hv).1
  · rw [body_3 h hl]; simp
  · rw [body_16 h hl]; simp [ifW]
  · rw [body_b h hl]; simp only [List.length_append, List.length_cons, List.length_nil]; omega
theorem deep_1 {x a : Ex} (hl : x.l = [a]) : deepS x = deepS a + 1 := by rw [deep_eq, hl]; simp [deepL]
theorem put_len {h : View} {cs : List Value} {x : Ex} (hx : RX h cs x) : rightS x = true → ∀ m, (putS x m).length ≤ 100 * 4 ^ deepS x := by
  induction hx with
  | mk op v s l ad cap c hb hs hc ih =>
    intro hr m
    have h1 := (put_long (.mk op v s l) m).1
    have hd := deep_eq (.mk op v s l)
    have hd : deepS (.mk op v s l) = deepL 0 l + 1 := hd
    have hp : 100 * 4 ^ deepS (.mk op v s l) = 4 * (100 * 4 ^ deepL 0 l) := by rw [hd, Nat.pow_succ]; omega
    have hK : 100 ≤ 100 * 4 ^ deepL 0 l := by have := Nat.one_le_pow (deepL 0 l) 4 (by decide); omega
    have kid : ∀ y ∈ l, rightS y = true → ∀ m, (putS y m).length ≤ 100 * 4 ^ deepL 0 l := fun y hy hr m => by
      obtain ⟨i, hi⟩ := List.mem_iff_getElem?.1 hy
      have h2 := ih i y hi hr m
      have h3 := Nat.pow_le_pow_right (show 0 < 4 by decide) ((deepL_ge l 0).2 y hy)
      omega
    rw [hp]
    generalize 100 * 4 ^ deepL 0 l = K at kid hK ⊢
    refine Nat.le_trans h1 ?_
    rcases right_parts hr with ⟨h, _, _, hv, _⟩ | ⟨h, _, _, hv⟩ | ⟨h, _, _, a, hl, ra⟩ | ⟨h, _, _, a, b, c, hl, ra, rb, rc⟩ | ⟨h, _, _, a, b, hl, ra, rb⟩
    · rw [body_1 h]; have := (tx_len hb.2 hv).2; show (txR v).1.length + 2 ≤ _; omega
    · rw [body_2 h]; have := (name_len hv).2; omega
    · have hl' : l = [a] := hl
      rw [body_3 h hl]; have := kid a (by rw [hl']; simp) ra 6; simp only [List.length_cons]; omega
    · have hl' : l = [a, b, c] := hl
      have k1 := kid a (by rw [hl']; simp) ra 0
      have k2 := kid b (by rw [hl']; simp) rb 0
      have k3 := kid c (by rw [hl']; simp) rc 0
      rw [body_16 h hl]; simp only [List.length_append, ifW, thenW, elseW, List.length_cons, List.length_nil]; omega
    · have hl' : l = [a, b] := hl
      have k1 := kid a (by rw [hl']; simp) ra (if (findS (Ex.mk op v s l).op).2.2 = 3 then 4 else (findS (Ex.mk op v s l).op).2.2)
      have k2 := kid b (by rw [hl']; simp) rb ((findS (Ex.mk op v s l).op).2.2 + 1)
      have k3 := find_lo (Ex.mk op v s l).op
      rw [body_b h hl]; simp only [List.length_append, List.length_cons, List.length_nil]; omega
def textT (x : Ex) : List UInt8 × Int := if rightS x = false then ([], 2) else if 12 < deepS x then ([], 12) else if 200 < (putS x 0).length then ([], 5) else (putS x 0, 0)
end Go.Proofs.YtcdbgeefhpmjfaaGreatDoor
namespace Go.Proofs.YtcdbgeefhpmjfaaGreatDoor
open Go Go.Dx Go.RowKit
def rightT (t : Tok) : Bool :=
  if t.k = 1 then decide (t.n = 0) && !decide (t.s = []) && decide ((wordN t.s : Int) = (t.s.length : Int)) && decide ((t.s.length : Int) ≤ 16)
  else if t.k = 2 then decide (t.n ≥ 0) && decide (t.s = [])
  else if t.k = 3 then decide (t.n = 0) && plainS t.s
  else if t.k = 4 then decide (t.n = 0) && marksL.contains t.s else false
def tkS (t : Tok) : List UInt8 := if t.k = 2 then Lib.itoa t.n else if t.k = 3 then quS t.s else t.s
theorem right_1 {t : Tok} (h : t.k = 1) : rightT t = (decide (t.n = 0) && !decide (t.s = []) && decide ((wordN t.s : Int) = (t.s.length : Int)) && decide ((t.s.length : Int) ≤ 16)) := by rw [rightT, if_pos h]
theorem right_2 {t : Tok} (h : t.k = 2) : rightT t = (decide (t.n ≥ 0) && decide (t.s = [])) := by rw [rightT, if_neg (by omega), if_pos h]
theorem right_3 {t : Tok} (h : t.k = 3) : rightT t = (decide (t.n = 0) && plainS t.s) := by rw [rightT, if_neg (by omega), if_neg (by omega), if_pos h]
theorem right_4 {t : Tok} (h : t.k = 4) : rightT t = (decide (t.n = 0) && marksL.contains t.s) := by rw [rightT, if_neg (by omega), if_neg (by omega), if_neg (by omega), if_pos h]
theorem right_0 {t : Tok} (h1 : ¬ t.k = 1) (h2 : ¬ t.k = 2) (h3 : ¬ t.k = 3) (h4 : ¬ t.k = 4) : rightT t = false := by rw [rightT, if_neg h1, if_neg h2, if_neg h3, if_neg h4]
end Go.Proofs.YtcdbgeefhpmjfaaGreatDoor
namespace Go.Proofs.YtcdbgeefhpmjfaaGreatDoor
open Go Go.Dx Go.RowKit
def Tail (r : List UInt8) : Prop := r = [] ∨ (∃ q, r = 32 :: q) ∨ ∃ q, r = 41 :: q
theorem getD_app {α : Type} (A X : List α) (d : α) : (A ++ X).getD A.length d = X.getD 0 d := by
  simp [List.getD, List.getElem?_append_right]
theorem getD_app' {α : Type} (A X : List α) (j : Nat) (d : α) : (A ++ X).getD (A.length + j) d = X.getD j d := by
  simp [List.getD, List.getElem?_append_right]
theorem sp_word : isWord 32 = false := by decide +kernel
theorem sp_dig : isDig 32 = false := by decide +kernel
theorem cl_word : isWord 41 = false := by decide +kernel
theorem cl_dig : isDig 41 = false := by decide +kernel
theorem tw_tail (p : UInt8 → Bool) (hp : p 32 = false) (hp2 : p 41 = false) : ∀ (s r : List UInt8), s.all p = true → Tail r → (s ++ r).takeWhile p = s
  | [], r, _, h => by
    rcases h with rfl | ⟨q, rfl⟩ | ⟨q, rfl⟩
    · rfl
    · simp [List.takeWhile_cons, hp]
    · simp [List.takeWhile_cons, hp2]
  | b :: s, r, ha, h => by
    simp only [List.all_cons, Bool.and_eq_true] at ha
    rw [List.cons_append, List.takeWhile_cons_of_pos (by simpa using ha.1), tw_tail p hp hp2 s r ha.2 h]
theorem tw_all (p : UInt8 → Bool) : ∀ s : List UInt8, (s.takeWhile p).length = s.length → s.all p = true
  | [], _ => rfl
  | b :: s, h => by
    rw [List.takeWhile_cons] at h
    cases hb : p b
    · rw [hb] at h; simp at h
    · rw [hb] at h
      rw [List.all_cons, hb, Bool.true_and]
      exact tw_all p s (by simpa using h)
theorem word_all {s : List UInt8} (h : s ≠ []) (hw : wordN s = s.length) : isLet (s.getD 0 0) = true ∧ s.all isWord = true := by
  have h0 : 0 < s.length := List.length_pos_iff.2 h
  cases hl : isLet (s.getD 0 0)
  · rw [wordN_zero s (.inr hl)] at hw; omega
  · rw [wordN_pos s h hl] at hw
    exact ⟨rfl, tw_all isWord s hw⟩
theorem one_name {s r : List UInt8} (h : s ≠ []) (hw : wordN s = s.length) (hl : s.length ≤ 16) (hr : Tail r) : oneS (s ++ r) = .ok ⟨1, s, 0, 0⟩ s.length := by
  obtain ⟨h1, h2⟩ := word_all h hw
  have e0 : (s ++ r).getD 0 0 = s.getD 0 0 := by
    match s, h with
    | b :: s, _ => rfl
  have hw2 : wordN (s ++ r) = s.length := by
    rw [wordN_pos _ (by simp [h]) (by rw [e0]; exact h1), tw_tail isWord sp_word cl_word s r h2 hr]
  rw [one_let (by rw [e0]; exact h1), nameS, hw2, if_neg (by omega)]
  congr 1
  rw [List.take_append_of_le_length (Nat.le_refl _), List.take_length]
theorem dig_of {m : Nat} (h : m < 10) : isDig (UInt8.ofNat (48 + m)) = true := by
  have := digit_val h
  simp [isDig]; omega
theorem dec_all : ∀ u : Nat, (Lib.decDigits u).all isDig = true := by
  intro u
  induction u using Nat.strongRecOn with
  | _ u ih =>
    by_cases h : u < 10
    · rw [dec_lo h, List.all_cons, dig_of h]; rfl
    · rw [dec_hi h, List.all_append, ih _ (by omega), List.all_cons, dig_of (Nat.mod_lt u (by decide : 0 < 10))]; rfl
theorem num_snoc (l : List UInt8) (b : UInt8) : numF (l ++ [b]) = numStep (numF l) b := by simp [numF, List.foldl_append]
theorem num_dec : ∀ u : Nat, u ≤ 9223372036854775807 → numF (Lib.decDigits u) = some u := by
  intro u
  induction u using Nat.strongRecOn with
  | _ u ih =>
    intro hu
    by_cases h : u < 10
    · rw [dec_lo h]
      have := digit_val h
      simp only [numF, List.foldl_cons, List.foldl_nil, numStep, Option.bind_some, this]
      rw [if_neg (by omega)]; congr 1; omega
    · have := digit_val (Nat.mod_lt u (by decide : 0 < 10))
      rw [dec_hi h, num_snoc, ih (u / 10) (by omega) (by omega), numStep, Option.bind_some, this, if_neg (by omega)]
      congr 1; omega
theorem dec_lead : ∀ u : Nat, 1 < (Lib.decDigits u).length → ∃ b r, Lib.decDigits u = b :: r ∧ b.toNat ≠ 48 := by
  intro u
  induction u using Nat.strongRecOn with
  | _ u ih =>
    intro hl
    by_cases h : u < 10
    · rw [dec_lo h] at hl; simp at hl
    · rw [dec_hi h]
      by_cases h2 : u / 10 < 10
      · rw [dec_lo h2]
        refine ⟨_, _, rfl, ?_⟩
        have := digit_val h2; omega
      · obtain ⟨b, r, e, hb⟩ := ih (u / 10) (by omega) (by
          rw [dec_hi h2, List.length_append]
          have : Lib.decDigits (u / 10 / 10) ≠ [] := by
            obtain ⟨m, r, _, e⟩ := dec_head (u / 10 / 10)
            rw [e]; simp
          have := List.length_pos_iff.2 this
          simp; omega)
        exact ⟨b, r ++ _, by rw [e]; rfl, hb⟩
theorem isLet_dig {b : UInt8} (h : isDig b = true) : isLet b = false := by
  have := dig_b h
  rw [isLet_ref]
  simp; omega
theorem one_num {n : Int} (h0 : 0 ≤ n) (hn : I64 n) {r : List UInt8} (hr : Tail r) : oneS (Lib.itoa n ++ r) = .ok ⟨2, [], n, 0⟩ (Lib.itoa n).length := by
  have hn2 := hn.2
  rw [itoa_pos (by omega)]
  obtain ⟨m, q, hm, e⟩ := dec_head n.natAbs
  have hall := dec_all n.natAbs
  have e0 : (Lib.decDigits n.natAbs ++ r).getD 0 0 = UInt8.ofNat (48 + m) := by rw [e]; rfl
  have hd : digN (Lib.decDigits n.natAbs ++ r) = (Lib.decDigits n.natAbs).length := by unfold digN; rw [tw_tail isDig sp_dig cl_dig _ r hall hr]
  rw [one_dig (by rw [e0]; exact isLet_dig (dig_of hm)) (by rw [e0]; exact dig_of hm), numS, hd, if_neg, List.take_append_of_le_length (Nat.le_refl _), List.take_length, num_dec _ (by omega)]
  · simp only [Res.ok.injEq, Tok.mk.injEq, true_and, and_true]
    omega
  · rintro ⟨h1, h2⟩
    obtain ⟨b, q', e', hb⟩ := dec_lead _ h1
    have : (Lib.decDigits n.natAbs ++ r).getD 0 0 = b := by rw [e']; rfl
    rw [this] at h2; omega
theorem bt_app (P X : List UInt8) : bt (P ++ X) P.length = ((X.getD 0 0).toNat : Int) := by unfold bt; rw [getD_app]
theorem text_back : ∀ (s P acc r : List UInt8), (∀ b ∈ s, 32 ≤ b.toNat ∧ b.toNat ≤ 126) → textG (P ++ (s.flatMap qB ++ 34 :: r)) P.length acc = if 40 < (acc ++ s).length then .err 5 else .ok ⟨3, acc ++ s, 0, 0⟩ (P.length + (s.flatMap qB).length + 1)
  | [], P, acc, r, _ => by
    have hlt : P.length < (P ++ (List.flatMap qB [] ++ 34 :: r)).length := by simp
    have hb : bt (P ++ (List.flatMap qB [] ++ 34 :: r)) P.length = 34 := by rw [bt_app]; rfl
    by_cases h : 40 < acc.length
    · rw [tx_big hlt hb h, List.append_nil, if_pos h]
    · rw [tx_end hlt hb h, List.append_nil, if_neg h]; simp
  | b :: s, P, acc, r, hp => by
    have hb := hp b (by simp)
    have ih := fun P acc => text_back s P acc r fun x hx => hp x (by simp [hx])
    have ea : acc ++ b :: s = (acc ++ [b]) ++ s := by simp
    by_cases hq : b = 34 ∨ b = 92
    · have e : List.flatMap qB (b :: s) ++ 34 :: r = 92 :: b :: (s.flatMap qB ++ 34 :: r) := by rw [List.flatMap_cons, qB, if_pos hq]; simp
      have e2 : P ++ 92 :: b :: (s.flatMap qB ++ 34 :: r) = (P ++ [92, b]) ++ (s.flatMap qB ++ 34 :: r) := by simp
      have hlt : P.length < (P ++ 92 :: b :: (s.flatMap qB ++ 34 :: r)).length := by simp
      have h1 : bt (P ++ 92 :: b :: (s.flatMap qB ++ 34 :: r)) P.length = 92 := by rw [bt_app]; rfl
      have h2 : (P ++ 92 :: b :: (s.flatMap qB ++ 34 :: r)).getD (P.length + 1) 0 = b := by rw [getD_app']; rfl
      have h3 : bt (P ++ 92 :: b :: (s.flatMap qB ++ 34 :: r)) (P.length + 1) = (b.toNat : Int) := by unfold bt; rw [h2]
      rw [e, tx_esc hlt (by rw [h1]; decide) h1 (by
        rw [h3]
        rintro (h | ⟨h4, h5⟩)
        · simp at h
        · rcases hq with rfl | rfl
          · exact h4 rfl
          · exact h5 rfl), h2, e2]
      have := ih (P ++ [92, b]) (acc ++ [b])
      rw [show (P ++ [92, b]).length = P.length + 2 by simp] at this
      rw [this, ← ea]
      split
      · rfl
      · congr 1
        rw [List.flatMap_cons, qB, if_pos hq]; simp; omega
    · have e : List.flatMap qB (b :: s) ++ 34 :: r = b :: (s.flatMap qB ++ 34 :: r) := by rw [List.flatMap_cons, qB, if_neg hq]; simp
      have e2 : P ++ b :: (s.flatMap qB ++ 34 :: r) = (P ++ [b]) ++ (s.flatMap qB ++ 34 :: r) := by simp
      have hlt : P.length < (P ++ b :: (s.flatMap qB ++ 34 :: r)).length := by simp
      have h1 : bt (P ++ b :: (s.flatMap qB ++ 34 :: r)) P.length = (b.toNat : Int) := by rw [bt_app]; rfl
      have h2 : (P ++ b :: (s.flatMap qB ++ 34 :: r)).getD P.length 0 = b := by rw [getD_app]; rfl
      have n34 : b.toNat ≠ 34 := fun h => hq (.inl (UInt8.toNat_inj.1 h))
      have n92 : b.toNat ≠ 92 := fun h => hq (.inr (UInt8.toNat_inj.1 h))
      rw [e, tx_ch hlt (by rw [h1]; omega) (by rw [h1]; omega) (by rw [h1]; omega), h2, e2]
      have := ih (P ++ [b]) (acc ++ [b])
      rw [show (P ++ [b]).length = P.length + 1 by simp] at this
      rw [this, ← ea]
      split
      · rfl
      · congr 1
        rw [List.flatMap_cons, qB, if_neg hq]; simp; omega
theorem plain_bytes {s : List UInt8} (h : plainS s = true) : ∀ b ∈ s, 32 ≤ b.toNat ∧ b.toNat ≤ 126 := by
  intro b hb
  simp only [plainS, Bool.and_eq_true, List.all_eq_true, decide_eq_true_eq] at h
  have := h.2 b hb; omega
theorem one_text {s r : List UInt8} (h : plainS s = true) : oneS (quS s ++ r) = .ok ⟨3, s, 0, 0⟩ (quS s).length := by
  have h40 := plain_40 h
  have e : quS s ++ r = [34] ++ (s.flatMap qB ++ 34 :: r) := by rw [quS_eq]; simp
  have e0 : ([34] ++ (s.flatMap qB ++ 34 :: r) : List UInt8).getD 0 0 = 34 := rfl
  rw [e, one_txt (by rw [e0]; decide +kernel) (by rw [e0]; decide +kernel) (by unfold bt; rw [e0]; rfl), textS]
  have := text_back s [34] [] r (plain_bytes h)
  rw [show ([34] : List UInt8).length = 1 from rfl] at this
  rw [this, if_neg (by simp; omega), quS_eq]
  congr 1
  simp; omega
theorem one_mk {s r : List UInt8} (h : s ∈ marksL) (hr : Tail r) : oneS (s ++ r) = .ok ⟨4, s, 0, 0⟩ s.length := by
  have key : ∀ s ∈ marksL, isLet (s.getD 0 0) = false ∧ isDig (s.getD 0 0) = false ∧ ¬ bt s 0 = 34 ∧ s ≠ [] := by decide +kernel
  obtain ⟨k1, k2, k3, k4⟩ := key s h
  have e0 : (s ++ r).getD 0 0 = s.getD 0 0 := by
    match s, k4 with
    | b :: s, _ => rfl
  rw [one_mark (by rw [e0]; exact k1) (by rw [e0]; exact k2) (by unfold bt; rw [e0]; exact k3)]
  simp only [marksL, List.mem_cons, List.not_mem_nil, or_false] at h
  rcases hr with rfl | ⟨q, rfl⟩ | ⟨q, rfl⟩
  · rcases h with rfl | rfl | rfl | rfl | rfl | rfl | rfl | rfl | rfl | rfl | rfl | rfl | rfl | rfl | rfl | rfl <;> simp [markG, marksL, pre]
  · rcases h with rfl | rfl | rfl | rfl | rfl | rfl | rfl | rfl | rfl | rfl | rfl | rfl | rfl | rfl | rfl | rfl <;> simp [markG, marksL, pre]
  · rcases h with rfl | rfl | rfl | rfl | rfl | rfl | rfl | rfl | rfl | rfl | rfl | rfl | rfl | rfl | rfl | rfl <;> simp [markG, marksL, pre]
def bare (t : Tok) : Tok := { t with p := 0 }
theorem one_tk {t : Tok} (h : rightT t = true) (hn : I64 t.n) {r : List UInt8} (hr : Tail r) : oneS (tkS t ++ r) = .ok (bare t) (tkS t).length := by
  obtain ⟨k, s, n, p⟩ := t
  by_cases h1 : k = 1
  · subst h1
    rw [right_1 rfl] at h
    simp only [Bool.and_eq_true, decide_eq_true_eq, Bool.not_eq_true', decide_eq_false_iff_not] at h
    obtain ⟨⟨⟨rfl, hs⟩, hw⟩, hl⟩ := h
    have hw : (wordN s : Int) = s.length := hw
    have hl : (s.length : Int) ≤ 16 := hl
    exact one_name (s := s) hs (by omega) (by omega) hr
  · by_cases h2 : k = 2
    · subst h2
      rw [right_2 rfl] at h
      simp only [Bool.and_eq_true, decide_eq_true_eq] at h
      obtain ⟨h0, rfl⟩ := h
      exact one_num h0 hn hr
    · by_cases h3 : k = 3
      · subst h3
        rw [right_3 rfl] at h
        simp only [Bool.and_eq_true, decide_eq_true_eq] at h
        obtain ⟨rfl, hp⟩ := h
        exact one_text hp
      · by_cases h4 : k = 4
        · subst h4
          rw [right_4 rfl] at h
          simp only [Bool.and_eq_true, decide_eq_true_eq, List.contains_eq_mem] at h
          obtain ⟨rfl, hm⟩ := h
          exact one_mk hm hr
        · rw [right_0 h1 h2 h3 h4] at h; cases h
theorem tk_first {t : Tok} (h : rightT t = true) : ∃ b q, tkS t = b :: q ∧ b ≠ 32 := by
  obtain ⟨k, s, n, p⟩ := t
  by_cases h1 : k = 1
  · subst h1
    rw [right_1 rfl] at h
    simp only [Bool.and_eq_true, decide_eq_true_eq, Bool.not_eq_true', decide_eq_false_iff_not] at h
    obtain ⟨⟨⟨rfl, hs⟩, hw⟩, hl⟩ := h
    match s, hs with
    | b :: q, hs =>
      have := (word_all hs (by omega)).1
      refine ⟨b, q, rfl, ?_⟩
      rintro rfl
      have : isLet 32 = true := this
      revert this; decide +kernel
  · by_cases h2 : k = 2
    · subst h2
      rw [right_2 rfl] at h
      simp only [Bool.and_eq_true, decide_eq_true_eq] at h
      obtain ⟨h0, rfl⟩ := h
      have h0 : 0 ≤ n := h0
      obtain ⟨m, q, hm, e⟩ := dec_head n.natAbs
      refine ⟨_, q, (itoa_pos (n := n) (by omega)).trans e, fun hh => ?_⟩
      have := digit_val hm
      rw [hh] at this
      have e : (32 : UInt8).toNat = 32 := rfl
      omega
    · by_cases h3 : k = 3
      · subst h3
        exact ⟨34, _, rfl, by decide⟩
      · by_cases h4 : k = 4
        · subst h4
          rw [right_4 rfl] at h
          simp only [Bool.and_eq_true, decide_eq_true_eq, List.contains_eq_mem] at h
          obtain ⟨rfl, hm⟩ := h
          have key : ∀ s ∈ marksL, ∃ b q, s = b :: q ∧ b ≠ 32 := by
            intro s hs
            simp only [marksL, List.mem_cons, List.not_mem_nil, or_false] at hs
            rcases hs with rfl | rfl | rfl | rfl | rfl | rfl | rfl | rfl | rfl | rfl | rfl | rfl | rfl | rfl | rfl | rfl <;> exact ⟨_, _, rfl, by decide⟩
          exact key s hm
        · rw [right_0 h1 h2 h3 h4] at h; cases h
theorem bt_at {A : List UInt8} {b : UInt8} {q : List UInt8} : bt (A ++ b :: q) A.length = (b.toNat : Int) := by rw [bt_app]; rfl
end Go.Proofs.YtcdbgeefhpmjfaaGreatDoor
namespace Go.Proofs.YtcdbgeefhpmjfaaGreatDoor
open Go Go.Dx Go.RowKit
theorem take_tw (p : UInt8 → Bool) : ∀ s : List UInt8, s.take (s.takeWhile p).length = s.takeWhile p
  | [] => rfl
  | b :: s => by
    rw [List.takeWhile_cons]
    split
    · rw [List.length_cons, List.take_succ_cons, take_tw p s]
    · rfl
theorem tw_tw (p : UInt8 → Bool) : ∀ s : List UInt8, (s.takeWhile p).takeWhile p = s.takeWhile p
  | [] => rfl
  | b :: s => by
    rw [List.takeWhile_cons]
    split
    · rename_i h; rw [List.takeWhile_cons_of_pos h, tw_tw p s]
    · rfl
theorem tw_ok (p : UInt8 → Bool) : ∀ s : List UInt8, (s.takeWhile p).all p = true
  | [] => rfl
  | b :: s => by
    rw [List.takeWhile_cons]
    split
    · rename_i h; rw [List.all_cons, h, tw_ok p s]; rfl
    · rfl
theorem word_take {x : List UInt8} (h : x ≠ []) (hl : isLet (x.getD 0 0) = true) : wordN (x.take (wordN x)) = (x.take (wordN x)).length := by
  have hp := wordN_posit x h hl
  have e : x.take (wordN x) = x.takeWhile isWord := by rw [wordN_pos x h hl, take_tw]
  have e0 : (x.take (wordN x)).getD 0 0 = x.getD 0 0 := by
    match x, h, hp with
    | b :: x, _, hp =>
      obtain ⟨m, hm⟩ := Nat.exists_eq_succ_of_ne_zero (Nat.pos_iff_ne_zero.1 hp)
      rw [hm]; rfl
  have hne : x.take (wordN x) ≠ [] := by
    intro hh
    have := congrArg List.length hh
    rw [List.length_take, List.length_nil] at this
    have := List.length_pos_iff.2 h
    omega
  rw [wordN_pos _ hne (by rw [e0]; exact hl), e, tw_tw]
theorem byte_dig {b : UInt8} (h : isDig b = true) : UInt8.ofNat (48 + (b.toNat - 48)) = b := by
  have := dig_b h
  exact UInt8.toNat_inj.1 (by rw [byte_lo (by omega)]; omega)
theorem i64_0 : I64 0 := ⟨by decide, by decide⟩
theorem num_inv' : ∀ (n : Nat) (ds : List UInt8), ds.length = n → ds ≠ [] → ds.all isDig = true → (1 < ds.length → ds.getD 0 0 ≠ 48) → ∀ v, numF ds = some v → v ≤ 9223372036854775807 ∧ Lib.decDigits v = ds := by
  intro n
  induction n using Nat.strongRecOn with
  | _ n ihn =>
    intro ds0 hn hne ha hl v hv
    rcases List.eq_nil_or_concat ds0 with rfl | ⟨ds, b, rfl⟩
    · exact absurd rfl hne
    rw [List.concat_eq_append] at *
    have ih := ihn ds.length (by simp at hn; omega) ds rfl
    rw [List.all_append, Bool.and_eq_true] at ha
    have hb : isDig b = true := by simpa using ha.2
    have hbr := dig_b hb
    rw [num_snoc] at hv
    by_cases he : ds = []
    · subst he
      simp only [numF, List.foldl_nil, numStep, Option.bind_some] at hv
      rw [if_neg (by omega)] at hv
      have hv := Option.some.inj hv
      subst hv
      rw [dec_lo (by omega)]
      refine ⟨by omega, ?_⟩
      rw [Nat.mul_zero, Nat.zero_add, byte_dig hb]; rfl
    · have h0 : 0 < ds.length := List.length_pos_iff.2 he
      have e0 : (ds ++ [b]).getD 0 0 = ds.getD 0 0 := by
        match ds, he with
        | c :: ds, _ => rfl
      have hl' := hl (by simp; omega)
      rw [e0] at hl'
      cases hv' : numF ds with
      | none => rw [hv'] at hv; cases hv
      | some v' =>
        rw [hv', numStep, Option.bind_some] at hv
        obtain ⟨h1, h2⟩ := ih he ha.1 (fun _ => hl') v' hv'
        by_cases hc : (9223372036854775807 - (b.toNat - 48)) / 10 < v'
        · rw [if_pos hc] at hv; cases hv
        · rw [if_neg hc] at hv
          have hv := Option.some.inj hv
          subst hv
          have hz : v' ≠ 0 := by
            rintro rfl
            rw [dec_lo (by decide)] at h2
            rw [← h2] at hl'
            exact hl' rfl
          refine ⟨by omega, ?_⟩
          rw [dec_hi (by omega), show (10 * v' + (b.toNat - 48)) / 10 = v' by omega, show (10 * v' + (b.toNat - 48)) % 10 = b.toNat - 48 by omega, h2, byte_dig hb]
theorem num_inv (ds : List UInt8) (h : ds ≠ []) (ha : ds.all isDig = true) (hl : 1 < ds.length → ds.getD 0 0 ≠ 48) (v : Nat) (hv : numF ds = some v) : v ≤ 9223372036854775807 ∧ Lib.decDigits v = ds := num_inv' _ ds rfl h ha hl v hv
theorem getD_drop0 (x : List UInt8) (i : Nat) (h : i < x.length) : x.drop i = x.getD i 0 :: x.drop (i + 1) := by
  rw [List.drop_eq_getElem_cons h, getD_lt x i 0 h]
theorem text_inv (x : List UInt8) : ∀ (i : Nat) (b : List UInt8) (t : Tok) (n : Nat), textG x i b = .ok t n → ∃ s, t = ⟨3, b ++ s, 0, 0⟩ ∧ (∀ c ∈ s, 32 ≤ c.toNat ∧ c.toNat ≤ 126) ∧ (b ++ s).length ≤ 40 ∧ i < n ∧ n ≤ x.length ∧ (x.drop i).take (n - i) = s.flatMap qB ++ [34] := by
  intro i b
  induction i, b using textG.induct (s := x) with
  | case1 i b h h1 h2 => intro t n he; rw [tx_big h h1 h2] at he; cases he
  | case2 i b h h1 h2 =>
    intro t n he
    rw [tx_end h h1 h2] at he
    cases he
    refine ⟨[], by rw [List.append_nil], by simp, by rw [List.append_nil]; omega, by omega, by omega, ?_⟩
    rw [show i + 1 - i = 1 by omega, getD_drop0 x i h]
    have : x.getD i 0 = 34 := UInt8.toNat_inj.1 (by unfold bt at h1; have e : (34 : UInt8).toNat = 34 := rfl; omega)
    rw [this]; rfl
  | case3 i b h h1 h2 h3 => intro t n he; rw [tx_bad h h1 h2 h3] at he; cases he
  | case4 i b h h1 h2 h3 ih =>
    intro t n he
    rw [tx_esc h h1 h2 h3] at he
    obtain ⟨s, rfl, g1, g2, g3, g4, g5⟩ := ih t n he
    have hi1 : i + 1 < x.length := by omega
    have hq : x.getD (i + 1) 0 = 34 ∨ x.getD (i + 1) 0 = 92 := by
      by_cases a : bt x (i + 1) = 34
      · left; exact UInt8.toNat_inj.1 (by unfold bt at a; have e : (34 : UInt8).toNat = 34 := rfl; omega)
      · by_cases a' : bt x (i + 1) = 92
        · right; exact UInt8.toNat_inj.1 (by unfold bt at a'; have e : (92 : UInt8).toNat = 92 := rfl; omega)
        · exact absurd (.inr ⟨a, a'⟩) h3
    have h92 : x.getD i 0 = 92 := UInt8.toNat_inj.1 (by unfold bt at h2; have e : (92 : UInt8).toNat = 92 := rfl; omega)
    refine ⟨x.getD (i + 1) 0 :: s, by simp, fun c hc => ?_, by simpa using g2, by omega, g4, ?_⟩
    · rcases List.mem_cons.1 hc with rfl | hc
      · rcases hq with hq | hq <;> rw [hq] <;> decide
      · exact g1 c hc
    · rw [show n - i = (n - (i + 2)) + 1 + 1 by omega, getD_drop0 x i h, List.take_succ_cons, getD_drop0 x (i + 1) hi1, List.take_succ_cons, g5, h92, List.flatMap_cons, qB, if_pos hq]
      rfl
  | case5 i b h h1 h2 h3 => intro t n he; rw [tx_ctl h h1 h2 h3] at he; cases he
  | case6 i b h h1 h2 h3 ih =>
    intro t n he
    rw [tx_ch h h1 h2 h3] at he
    obtain ⟨s, rfl, g1, g2, g3, g4, g5⟩ := ih t n he
    have hq : ¬ (x.getD i 0 = 34 ∨ x.getD i 0 = 92) := by
      rintro (a | a)
      · exact h1 (by unfold bt; rw [a]; rfl)
      · exact h2 (by unfold bt; rw [a]; rfl)
    refine ⟨x.getD i 0 :: s, by simp, fun c hc => ?_, by simpa using g2, by omega, g4, ?_⟩
    · rcases List.mem_cons.1 hc with rfl | hc
      · unfold bt at h3; omega
      · exact g1 c hc
    · rw [show n - i = (n - (i + 1)) + 1 by omega, getD_drop0 x i h, List.take_succ_cons, g5, List.flatMap_cons, qB, if_neg hq]
      rfl
  | case7 i b h => intro t n he; rw [tx_over h] at he; cases he
theorem plain_of {s : List UInt8} (h : ∀ c ∈ s, 32 ≤ c.toNat ∧ c.toNat ≤ 126) (hl : s.length ≤ 40) : plainS s = true := by
  simp only [plainS, Bool.and_eq_true, List.all_eq_true, decide_eq_true_eq]
  exact ⟨hl, fun b hb => by have := h b hb; omega⟩
theorem one_inv {x : List UInt8} {t : Tok} {n : Nat} (hx : 0 < x.length) (h : oneS x = .ok t n) : rightT t = true ∧ I64 t.n ∧ x.take n = tkS t ∧ 0 < n ∧ n ≤ x.length := by
  have hne : x ≠ [] := List.length_pos_iff.1 hx
  obtain ⟨t', n', e', hn0, hnx⟩ : ∃ t' n', oneS x = .ok t' n' ∧ 0 < n' ∧ n' ≤ x.length := by
    rcases one_ok x hx with ⟨e, he, _⟩ | h'
    · rw [h] at he; cases he
    · exact h'
  rw [h] at e'
  cases e'
  suffices rightT t = true ∧ I64 t.n ∧ x.take n = tkS t from ⟨this.1, this.2.1, this.2.2, hn0, hnx⟩
  cases h1 : isLet (x.getD 0 0)
  · cases h2 : isDig (x.getD 0 0)
    · by_cases h3 : bt x 0 = 34
      · rw [one_txt h1 h2 h3, textS] at h
        obtain ⟨s, rfl, g1, g2, g3, g4, g5⟩ := text_inv x 1 [] t n h
        have hp := plain_of g1 (by simpa using g2)
        refine ⟨by rw [right_3 rfl]; simp [hp], i64_0, ?_⟩
        have e : x = x.getD 0 0 :: x.drop 1 := by simpa using getD_drop0 x 0 hx
        have h34 : x.getD 0 0 = 34 := UInt8.toNat_inj.1 (by unfold bt at h3; have e : (34 : UInt8).toNat = 34 := rfl; omega)
        have e2 : x.take n = 34 :: (x.drop 1).take (n - 1) := by
          conv => lhs; rw [e, h34, show n = (n - 1) + 1 by omega, List.take_succ_cons]
        rw [e2, g5]
        show _ = quS s
        rw [quS_eq]; simp
      · rw [one_mark h1 h2 h3, markG_ix] at h
        split at h
        · rename_i i hi
          rw [List.findIdx?_eq_some_iff_getElem] at hi
          obtain ⟨hlt, hpre, _⟩ := hi
          cases h
          have hm : marksL.getD i [] ∈ marksL := getD_mem marksL i [] hlt
          rw [← getD_lt marksL i [] hlt] at hpre
          simp only [pre, Bool.and_eq_true, decide_eq_true_eq] at hpre
          refine ⟨by rw [right_4 rfl]; simp only [Bool.and_eq_true, decide_eq_true_eq, List.contains_eq_mem]; exact ⟨trivial, hm⟩, i64_0, hpre.2⟩
        · cases h
    · rw [one_dig h1 h2, numS] at h
      split at h
      · cases h
      · rename_i hc
        split at h
        · cases h
        · rename_i v hv
          cases h
          have hd := digN_pos x hx h2
          have e : x.take (digN x) = x.takeWhile isDig := take_tw isDig x
          have hlen : (x.take (digN x)).length = digN x := by rw [List.length_take]; have := digN_le x; omega
          have e0 : (x.take (digN x)).getD 0 0 = x.getD 0 0 := by
            match x, hne, hd with
            | b :: x, _, hd =>
              obtain ⟨m, hm⟩ := Nat.exists_eq_succ_of_ne_zero (Nat.pos_iff_ne_zero.1 hd)
              rw [hm]; rfl
          obtain ⟨g1, g2⟩ := num_inv (x.take (digN x)) (fun hh => by rw [hh] at hlen; simp at hlen; omega) (by rw [e]; exact tw_ok isDig x) (fun hl => by
            rw [e0]
            intro hh
            exact hc ⟨by omega, by rw [hh]; rfl⟩) v hv
          refine ⟨by rw [right_2 rfl]; simp, ⟨by show (-9223372036854775808 : Int) ≤ (v : Int); omega, by show (v : Int) ≤ _; omega⟩, ?_⟩
          show _ = Lib.itoa (v : Int)
          rw [itoa_pos (by omega), Int.natAbs_natCast, g2]
  · rw [one_let h1, nameS] at h
    split at h
    · cases h
    · cases h
      have hw := word_take hne h1
      have hp := wordN_posit x hne h1
      have hlen : (x.take (wordN x)).length = wordN x := by rw [List.length_take]; have := wordN_le x; omega
      refine ⟨?_, i64_0, rfl⟩
      rw [right_1 rfl]
      simp only [Bool.and_eq_true, decide_eq_true_eq, Bool.not_eq_true', decide_eq_false_iff_not]
      exact ⟨⟨⟨trivial, fun hh => by rw [hh] at hlen; simp at hlen; omega⟩, by rw [hw]⟩, by omega⟩
def blank (s : List UInt8) (a b : Nat) : Prop := ∀ j, a ≤ j → j < b → bt s j = 32
def Lay (s : List UInt8) : Nat → List Tok → Prop
  | e, [] => e ≤ s.length ∧ blank s e s.length
  | e, t :: r => ∃ p : Nat, t.p = (p : Int) ∧ e ≤ p ∧ p + (tkS t).length ≤ s.length ∧ blank s e p ∧ (s.drop p).take (tkS t).length = tkS t ∧ 0 < (tkS t).length ∧ rightT t = true ∧ I64 t.n ∧ Lay s (p + (tkS t).length) r
theorem blank_one {s : List UInt8} {i b : Nat} (h : bt s i = 32) (hb : blank s (i + 1) b) : blank s i b := fun j h1 h2 => by
  by_cases e : j = i
  · rw [e]; exact h
  · exact hb j (by omega) h2
theorem Lay.sp {s : List UInt8} {i : Nat} (hi : i < s.length) (h : bt s i = 32) : ∀ {l : List Tok}, Lay s (i + 1) l → Lay s i l
  | [], hl => ⟨by omega, blank_one h hl.2⟩
  | t :: r, ⟨p, h1, h2, h3, h4, h5⟩ => ⟨p, h1, by omega, h3, blank_one h h4, h5⟩
theorem lex_lay (s : List UInt8) : ∀ (i : Nat) (out : List Tok), i ≤ s.length → ((lexG s i out).2.2 = 0 ∧ ∃ l', lexG s i out = (out ++ l', 0, 0) ∧ Lay s i l') ∨ (¬ (lexG s i out).2.2 = 0 ∧ ∃ j : Nat, j ≤ s.length ∧ (lexG s i out).1 = [] ∧ (lexG s i out).2.1 = (j : Int)) := by
  intro i out
  induction i, out using lexG.induct (s := s) with
  | case1 i out h h1 ih =>
    intro hi
    rw [lex_sp h h1]
    rcases ih (by omega) with ⟨g, l', e, hl⟩ | g
    · exact .inl ⟨g, l', e, hl.sp h h1⟩
    · exact .inr g
  | case2 i out h h1 e he =>
    intro hi
    rw [lex_err h h1 he]
    have hx : 0 < (s.drop i).length := by rw [List.length_drop]; omega
    refine .inr ⟨?_, i, hi, rfl, rfl⟩
    rcases one_ok _ hx with ⟨e', he', hne⟩ | ⟨t, n, ht, _⟩
    · rw [he] at he'; cases he'; exact hne
    · rw [he] at ht; cases ht
  | case3 i out h h1 t n he hn ih =>
    intro hi
    have hx : 0 < (s.drop i).length := by rw [List.length_drop]; omega
    obtain ⟨g1, g2, g3, g4, g5⟩ := one_inv hx he
    rw [List.length_drop] at g5
    rw [lex_ok h h1 he hn]
    rcases ih (by omega) with ⟨g, l', e, hl⟩ | g
    · have hlen : (tkS t).length = n := by rw [← g3, List.length_take, List.length_drop]; omega
      refine .inl ⟨g, { t with p := (i : Int) } :: l', by rw [e]; simp, i, rfl, Nat.le_refl _, ?_, fun j a b => absurd b (by omega), ?_, ?_, g1, g2, ?_⟩
      · show i + (tkS t).length ≤ _; omega
      · show (s.drop i).take (tkS t).length = tkS t
        rw [hlen]; exact g3
      · show 0 < (tkS t).length; omega
      · show Lay s (i + (tkS t).length) l'
        rw [hlen]; exact hl
    · exact .inr g
  | case4 i out h h1 t n he hn =>
    intro hi
    have hx : 0 < (s.drop i).length := by rw [List.length_drop]; omega
    exact absurd (one_inv hx he).2.2.2.1 hn
  | case5 i out h =>
    intro hi
    rw [lex_end h]
    exact .inl ⟨rfl, [], by rw [List.append_nil], hi, fun j a b => absurd b (by omega)⟩
theorem lexS_lay (s : List UInt8) : (∃ l, lexS s = (l, 0, 0) ∧ Lay s 0 l) ∨ (∃ (j : Nat) (e : Int), lexS s = ([], (j : Int), e) ∧ ¬ e = 0 ∧ j ≤ s.length) := by
  rw [lexS]
  split
  · exact .inr ⟨0, 5, rfl, by decide, Nat.zero_le _⟩
  · rcases lex_lay s 0 [] (Nat.zero_le _) with ⟨_, l, e, hl⟩ | ⟨h, j, hj, e1, e2⟩
    · exact .inl ⟨l, by simpa using e, hl⟩
    · exact .inr ⟨j, _, Prod.ext e1 (Prod.ext e2 rfl), h, hj⟩
theorem Lay.all {s : List UInt8} : ∀ {e : Nat} {l : List Tok}, Lay s e l → ∀ t ∈ l, rightT t = true ∧ I64 t.n
  | _, [], _, t, ht => by simp at ht
  | _, u :: r, ⟨p, _, _, _, _, _, _, h1, h2, h3⟩, t, ht => by
    rcases List.mem_cons.1 ht with rfl | ht
    · exact ⟨h1, h2⟩
    · exact h3.all t ht
theorem right_len {t : Tok} (h : rightT t = true) : t.s.length ≤ 100 := by
  by_cases h1 : t.k = 1
  · rw [right_1 h1] at h; simp only [Bool.and_eq_true, decide_eq_true_eq] at h; omega
  · by_cases h2 : t.k = 2
    · rw [right_2 h2] at h; simp only [Bool.and_eq_true, decide_eq_true_eq] at h; rw [h.2]; simp
    · by_cases h3 : t.k = 3
      · rw [right_3 h3] at h; simp only [Bool.and_eq_true] at h; have := plain_40 h.2; omega
      · by_cases h4 : t.k = 4
        · rw [right_4 h4] at h
          simp only [Bool.and_eq_true, List.contains_eq_mem, decide_eq_true_eq] at h
          have : ∀ m ∈ marksL, m.length ≤ 2 := by decide
          have := this _ h.2; omega
        · rw [right_0 h1 h2 h3 h4] at h; cases h
end Go.Proofs.YtcdbgeefhpmjfaaGreatDoor
namespace Go.Proofs.YtcdbgeefhpmjfaaGreatDoor
open Go Go.Dx Go.RowKit
def Alk (l : List Tok) (i : Nat) (rd rd' : Nat → Bool → RdR) : Prop := ∀ j bad, i ≤ j → j ≤ l.length → rd j bad = rd' j bad
theorem atom_congr {rd rd' : Nat → Bool → RdR} {l : List Tok} {i : Nat} {bad : Bool} (h : Alk l (i + 1) rd rd') : atomS rd l i bad = atomS rd' l i bad := by
  unfold atomS
  by_cases hh : onS l i bad 4 [40] = true
  · rw [if_pos hh, if_pos hh, h (i + 1) bad (Nat.le_refl _) (on_lt hh (by decide)).1]
  · rw [if_neg hh, if_neg hh]
theorem branch_congr {rd rd' : Nat → Bool → RdR} {l : List Tok} {i : Nat} {bad : Bool} (hr : ∀ i bad, i ≤ l.length → Ge l i (rd' i bad)) (hi : i ≤ l.length) (h : Alk l i rd rd') : branchS rd l i bad = branchS rd' l i bad := by
  have e1 := h i bad (Nat.le_refl _) hi
  have g1 := hr i bad hi
  unfold Ge at g1
  have m1 := must_ge (l := l) (p := (rd' i bad).2) (k := 1) (s := thenT) (by decide) g1.2
  unfold branchS
  rw [e1]
  have e2 := h (mustS l (rd' i bad).2 1 thenT).1 (mustS l (rd' i bad).2 1 thenT).2 (Nat.le_trans g1.1 m1.1) m1.2
  have g2 := hr (mustS l (rd' i bad).2 1 thenT).1 (mustS l (rd' i bad).2 1 thenT).2 m1.2
  unfold Ge at g2
  have m2 := must_ge (l := l) (p := (rd' (mustS l (rd' i bad).2 1 thenT).1 (mustS l (rd' i bad).2 1 thenT).2).2) (k := 1) (s := elseT) (by decide) g2.2
  rw [e2]
  rw [h _ (mustS l (rd' (mustS l (rd' i bad).2 1 thenT).1 (mustS l (rd' i bad).2 1 thenT).2).2 1 elseT).2 (Nat.le_trans (Nat.le_trans g1.1 m1.1) (Nat.le_trans g2.1 m2.1)) m2.2]
theorem loop_congr {rd rd' : Nat → Bool → RdR} {l : List Tok} {lev : Nat} (hr : ∀ i bad, i ≤ l.length → Ge l i (rd' i bad)) : ∀ (n : Nat) (x : Ex) (i : Nat) (bad : Bool), i ≤ l.length → Alk l (i + 1) rd rd' → loopS rd l lev n x i bad = loopS rd' l lev n x i bad
  | 0, x, i, bad, _, _ => rfl
  | n + 1, x, i, bad, hi, h => by
    unfold loopS
    by_cases h0 : opS l i bad lev = 0
    · rw [if_pos h0, if_pos h0]
    · rw [if_neg h0, if_neg h0]
      have hlt := (op_lt h0).1
      have e := h (i + 1) bad (Nat.le_refl _) hlt
      have g := hr (i + 1) bad hlt
      unfold Ge at g
      rw [e]
      split
      · exact loop_congr hr n _ _ _ g.2 fun j b hj hjl => h j b (Nat.le_trans g.1 (Nat.le_trans (Nat.le_succ _) hj)) hjl
      · rfl
theorem rd_fuel (l : List Tok) : ∀ (f g lev i : Nat) (bad : Bool), lev ≤ 7 → i ≤ l.length → needS l lev i ≤ f → needS l lev i ≤ g → rdF l f lev i bad = rdF l g lev i bad
  | 0, g, lev, i, bad, h7, _, hf, _ => by unfold needS at hf; omega
  | f + 1, 0, lev, i, bad, h7, _, _, hg => by unfold needS at hg; omega
  | f + 1, g + 1, lev, i, bad, h7, hi, hf, hg => by
    have ih := rd_fuel l f g
    have alk : ∀ lev' i', lev' ≤ 7 → needS l lev' i' ≤ f → needS l lev' i' ≤ g → Alk l i' (rdF l f lev') (rdF l g lev') := fun lev' i' h1 h2 h3 j b hj hjl => ih lev' j b h1 hjl (by unfold needS at h2 ⊢; omega) (by unfold needS at h3 ⊢; omega)
    have hge := fun lev' i bad h => rd_ge l g lev' i bad h
    unfold rdF
    by_cases hb : bad = true
    · rw [if_pos hb, if_pos hb]
    rw [if_neg hb, if_neg hb]
    by_cases h0 : lev = 0
    · rw [if_pos h0, if_pos h0]
      subst h0
      by_cases hh : onS l i bad 1 ifT = true
      · rw [if_pos hh, if_pos hh]
        have hlt := (on_lt hh (by decide)).1
        exact branch_congr (fun i bad h => hge 0 i bad h) hlt (alk 0 (i + 1) (by omega) (by unfold needS at hf ⊢; omega) (by unfold needS at hg ⊢; omega))
      · rw [if_neg hh, if_neg hh]
        exact ih 1 i bad (by omega) hi (by unfold needS at hf ⊢; omega) (by unfold needS at hg ⊢; omega)
    rw [if_neg h0, if_neg h0]
    by_cases h6 : lev = 6 ∧ onS l i bad 4 [45] = true
    · rw [if_pos h6, if_pos h6]
      have hlt := (on_lt h6.2 (by decide)).1
      rw [ih 6 (i + 1) bad (by omega) hlt (by unfold needS at hf ⊢; omega) (by unfold needS at hg ⊢; omega)]
    rw [if_neg h6, if_neg h6]
    by_cases h6' : 6 ≤ lev
    · rw [if_pos h6', if_pos h6']
      by_cases hlt : i < l.length
      · exact atom_congr (alk 0 (i + 1) (by omega) (by unfold needS at hf ⊢; omega) (by unfold needS at hg ⊢; omega))
      · refine atom_congr fun j b hj hjl => ?_
        omega
    · rw [if_neg h6', if_neg h6']
      have e := ih (lev + 1) i bad (by omega) hi (by unfold needS at hf ⊢; omega) (by unfold needS at hg ⊢; omega)
      rw [e]
      have g1 := hge (lev + 1) i bad hi
      unfold Ge at g1
      refine loop_congr (fun i bad h => hge (lev + 1) i bad h) _ _ _ _ g1.2 fun j b hj hjl => ?_
      have := alk (lev + 1) i (by omega) (by unfold needS at hf ⊢; omega) (by unfold needS at hg ⊢; omega)
      exact this j b (by omega) hjl
def rdN (l : List Tok) (lev i : Nat) (bad : Bool) : RdR := rdF l (needS l lev i) lev i bad
theorem rdN_of (l : List Tok) {f lev i : Nat} {bad : Bool} (h7 : lev ≤ 7) (hi : i ≤ l.length) (hf : needS l lev i ≤ f) : rdF l f lev i bad = rdN l lev i bad := rd_fuel l f _ lev i bad h7 hi hf (Nat.le_refl _)
theorem rdN_ge (l : List Tok) (lev i : Nat) (bad : Bool) (h : i ≤ l.length) : Ge l i (rdN l lev i bad) := rd_ge l _ lev i bad h
theorem rdN_eq (l : List Tok) (lev i : Nat) (bad : Bool) (h7 : lev ≤ 7) (hi : i ≤ l.length) : rdN l lev i bad =
    if bad = true then (ex0, i, bad)
    else if lev = 0 then (if onS l i bad 1 ifT = true then branchS (rdN l 0) l (i + 1) bad else rdN l 1 i bad)
    else if lev = 6 ∧ onS l i bad 4 [45] = true then (.mk 3 v0 [] [(rdN l 6 (i + 1) bad).1], (rdN l 6 (i + 1) bad).2)
    else if 6 ≤ lev then atomS (rdN l 0) l i bad
    else loopS (rdN l (lev + 1)) l lev (l.length + 1) (rdN l (lev + 1) i bad).1 (rdN l (lev + 1) i bad).2.1 (rdN l (lev + 1) i bad).2.2 := by
  obtain ⟨f, hf⟩ : ∃ f, needS l lev i = f + 1 := ⟨needS l lev i - 1, by unfold needS; omega⟩
  have alk : ∀ lev' i', lev' ≤ 7 → needS l lev' i' ≤ f → Alk l i' (rdF l f lev') (rdN l lev') := fun lev' i' h1 h2 j b hj hjl => rdN_of l h1 hjl (by unfold needS at h2 ⊢; omega)
  show rdF l (needS l lev i) lev i bad = _
  rw [hf, rdF.eq_2]
  unfold needS at hf
  by_cases hb : bad = true
  · rw [if_pos hb, if_pos hb]
  rw [if_neg hb, if_neg hb]
  by_cases h0 : lev = 0
  · rw [if_pos h0, if_pos h0]
    subst h0
    by_cases hh : onS l i bad 1 ifT = true
    · rw [if_pos hh, if_pos hh]
      have hlt := (on_lt hh (by decide)).1
      exact branch_congr (fun i bad h => rdN_ge l 0 i bad h) hlt (alk 0 (i + 1) (by omega) (by unfold needS; omega))
    · rw [if_neg hh, if_neg hh]
      exact rdN_of l (by omega) hi (by unfold needS; omega)
  rw [if_neg h0, if_neg h0]
  by_cases h6 : lev = 6 ∧ onS l i bad 4 [45] = true
  · rw [if_pos h6, if_pos h6]
    have hlt := (on_lt h6.2 (by decide)).1
    rw [rdN_of l (by omega) hlt (by unfold needS; omega)]
  rw [if_neg h6, if_neg h6]
  by_cases h6' : 6 ≤ lev
  · rw [if_pos h6', if_pos h6']
    refine atom_congr fun j b hj hjl => ?_
    exact alk 0 (i + 1) (by omega) (by unfold needS; omega) j b hj hjl
  · rw [if_neg h6', if_neg h6']
    rw [rdN_of l (by omega) hi (by unfold needS; omega)]
    have g1 := rdN_ge l (lev + 1) i bad hi
    unfold Ge at g1
    refine loop_congr (fun i bad h => rdN_ge l (lev + 1) i bad h) _ _ _ _ g1.2 fun j b hj hjl => ?_
    exact alk (lev + 1) i (by omega) (by unfold needS; omega) j b (by omega) hjl
end Go.Proofs.YtcdbgeefhpmjfaaGreatDoor
namespace Go.Proofs.YtcdbgeefhpmjfaaGreatDoor
open Go Go.Dx Go.RowKit
theorem deep_l2 (op : Int) (v : Val) (s : List UInt8) (a b : Ex) : deepS (.mk op v s [a, b]) = max (deepS a) (deepS b) + 1 := by rw [deep_eq]; simp [deepL]
theorem loop_deep {rd : Nat → Bool → RdR} {l : List Tok} {lev : Nat} {D : Nat} (hr : ∀ i bad, deepS (rd i bad).1 ≤ D) : ∀ (n : Nat) (x : Ex) (i : Nat) (bad : Bool), deepS (loopS rd l lev n x i bad).1 ≤ max (deepS x) D + n
  | 0, x, i, bad => by show deepS x ≤ _; omega
  | n + 1, x, i, bad => by
    have h1 := hr (i + 1) bad
    have h2 := deep_l2 (opS l i bad lev) v0 [] x (rd (i + 1) bad).1
    unfold loopS
    split
    · show deepS x ≤ _; omega
    split
    · have h3 := loop_deep (lev := lev) (l := l) hr n (.mk (opS l i bad lev) v0 [] [x, (rd (i + 1) bad).1]) (rd (i + 1) bad).2.1 (rd (i + 1) bad).2.2
      omega
    · show deepS (.mk (opS l i bad lev) v0 [] [x, (rd (i + 1) bad).1]) ≤ _; omega
theorem deep_0 (op : Int) (v : Val) (s : List UInt8) : deepS (.mk op v s []) = 1 := by rw [deep_eq]; rfl
theorem atom_deep {rd : Nat → Bool → RdR} {l : List Tok} {D : Nat} (h1 : 1 ≤ D) (hr : ∀ i bad, deepS (rd i bad).1 ≤ D) (i : Nat) (bad : Bool) : deepS (atomS rd l i bad).1 ≤ D := by
  unfold atomS
  split
  · exact hr _ _
  split
  · show deepS (.mk _ _ _ []) ≤ D; rw [deep_0]; exact h1
  split
  · show deepS (.mk _ _ _ []) ≤ D; rw [deep_0]; exact h1
  split
  · split
    · show deepS (.mk _ _ _ []) ≤ D; rw [deep_0]; exact h1
    split
    · show deepS (.mk _ _ _ []) ≤ D; rw [deep_0]; exact h1
    · show deepS ex0 ≤ D; exact Nat.le_trans (Nat.le_of_eq (deep_0 _ _ _)) h1
  · show deepS ex0 ≤ D; exact Nat.le_trans (Nat.le_of_eq (deep_0 _ _ _)) h1
theorem rd_deep (l : List Tok) : ∀ (f lev i : Nat) (bad : Bool), deepS (rdF l f lev i bad).1 ≤ f * (l.length + 2) + 1
  | 0, lev, i, bad => by show deepS ex0 ≤ _; rw [show deepS ex0 = 1 from deep_0 _ _ _]; omega
  | f + 1, lev, i, bad => by
    have ih := rd_deep l f
    have e : (f + 1) * (l.length + 2) + 1 = f * (l.length + 2) + 1 + (l.length + 2) := by rw [Nat.succ_mul]; omega
    rw [e]
    generalize f * (l.length + 2) + 1 = D at ih ⊢
    have e0 : deepS ex0 = 1 := deep_0 _ _ _
    have hD : 1 ≤ D := by have := ih 0 0 true; cases f with
      | zero => rw [rdF] at this; rw [show deepS (ex0, 0, true).1 = 1 from e0] at this; exact this
      | succ f => rw [rdF, if_pos rfl] at this; rw [show deepS (ex0, 0, true).1 = 1 from e0] at this; exact this
    unfold rdF
    split
    · show deepS ex0 ≤ _; omega
    split
    · split
      · have h1 := ih 0 (i + 1) bad
        have h2 := ih 0 (mustS l (rdF l f 0 (i + 1) bad).2 1 thenT).1 (mustS l (rdF l f 0 (i + 1) bad).2 1 thenT).2
        unfold branchS
        show deepS (.mk _ _ _ [_, _, _]) ≤ _
        rw [deep_eq]
        have h3 := ih 0 (mustS l (rdF l f 0 (mustS l (rdF l f 0 (i + 1) bad).2 1 thenT).1 (mustS l (rdF l f 0 (i + 1) bad).2 1 thenT).2).2 1 elseT).1 (mustS l (rdF l f 0 (mustS l (rdF l f 0 (i + 1) bad).2 1 thenT).1 (mustS l (rdF l f 0 (i + 1) bad).2 1 thenT).2).2 1 elseT).2
        simp only [ex_l, deepL]
        omega
      · have := ih 1 i bad; omega
    split
    · have := ih 6 (i + 1) bad
      show deepS (.mk _ _ _ [_]) ≤ _
      rw [deep_1 (x := .mk 3 v0 [] [(rdF l f 6 (i + 1) bad).1]) rfl]; omega
    split
    · have := atom_deep (l := l) hD (fun i bad => ih 0 i bad) i bad; omega
    · have h1 := ih (lev + 1) i bad
      have := loop_deep (rd := rdF l f (lev + 1)) (lev := lev) (l := l) (fun i bad => ih (lev + 1) i bad) (l.length + 1) (rdF l f (lev + 1) i bad).1 (rdF l f (lev + 1) i bad).2.1 (rdF l f (lev + 1) i bad).2.2
      omega
end Go.Proofs.YtcdbgeefhpmjfaaGreatDoor
namespace Go.Proofs.YtcdbgeefhpmjfaaGreatDoor
open Go Go.Dx Go.RowKit
theorem lex_facts (s : List UInt8) : TokN (lexS s).1 ∧ (∀ t ∈ (lexS s).1, t.s.length ≤ 1000000) ∧ (lexS s).1.length ≤ 999999 ∧ deepS (readT (lexS s).1 0 0).1 ≤ 1000000000 := by
  have key : ∀ l : List Tok, (∀ t ∈ l, rightT t = true ∧ I64 t.n) → l.length ≤ 200 → TokN l ∧ (∀ t ∈ l, t.s.length ≤ 1000000) ∧ l.length ≤ 999999 ∧ deepS (readT l 0 0).1 ≤ 1000000000 := fun l h hlen => by
    refine ⟨fun t ht => (h t ht).2, fun t ht => by have := right_len (h t ht).1; omega, by omega, ?_⟩
    unfold readT
    split
    · rw [show deepS (ex0, _, _).1 = 1 from deep_0 _ _ _]; decide
    · show deepS (rdF l (needS l 0 0) 0 0 false).1 ≤ _
      have h1 := rd_deep l (needS l 0 0) 0 0 false
      have h2 : needS l 0 0 ≤ 2009 := by unfold needS; omega
      have h3 : needS l 0 0 * (l.length + 2) ≤ 2009 * 202 := Nat.mul_le_mul h2 (by omega)
      omega
  have hlen : (lexS s).1.length ≤ 200 := by
    have := lexS_len s
    by_cases h : 200 < s.length
    · rw [lexS, if_pos h]; exact Nat.zero_le _
    · omega
  rcases lexS_lay s with ⟨l, e, hl⟩ | ⟨j, e, h, _, _⟩
  · rw [e] at hlen ⊢; exact key l hl.all hlen
  · rw [h]; exact key [] (fun t ht => by cases ht) (by decide)
end Go.Proofs.YtcdbgeefhpmjfaaGreatDoor
namespace Go.Proofs.YtcdbgeefhpmjfaaGreatDoor
open Go Go.Dx Go.RowKit
abbrev Pc := Option Tok
def pcT : Pc → List UInt8
  | none => [32]
  | some t => tkS t
def flatP (l : List Pc) : List UInt8 := (l.map pcT).flatten
def toksP : List Pc → List Tok
  | [] => []
  | none :: l => toksP l
  | some t :: l => t :: toksP l
theorem toks_app : ∀ a b : List Pc, toksP (a ++ b) = toksP a ++ toksP b
  | [], b => rfl
  | none :: a, b => toks_app a b
  | some t :: a, b => congrArg (t :: ·) (toks_app a b)
theorem flat_app (a b : List Pc) : flatP (a ++ b) = flatP a ++ flatP b := by simp [flatP]
theorem flat_cons (p : Pc) (l : List Pc) : flatP (p :: l) = pcT p ++ flatP l := by simp [flatP]
def opT : Tok := ⟨4, [40], 0, 0⟩
def clT : Tok := ⟨4, [41], 0, 0⟩
def miT : Tok := ⟨4, [45], 0, 0⟩
def wdT (s : List UInt8) : Tok := ⟨1, s, 0, 0⟩
def loose (t : Tok) : Prop := t.k = 3 ∨ (t.k = 4 ∧ (t.s = [40] ∨ t.s = [41] ∨ t.s = [45]))
theorem one_mk2 {s r : List UInt8} (h : s = [40] ∨ s = [41] ∨ s = [45]) : oneS (s ++ r) = .ok ⟨4, s, 0, 0⟩ s.length := by
  have e0 : (s ++ r).getD 0 0 = s.getD 0 0 := by rcases h with rfl | rfl | rfl <;> rfl
  have k : isLet (s.getD 0 0) = false ∧ isDig (s.getD 0 0) = false ∧ ¬ bt s 0 = 34 := by rcases h with rfl | rfl | rfl <;> decide +kernel
  rw [one_mark (by rw [e0]; exact k.1) (by rw [e0]; exact k.2.1) (by unfold bt; rw [e0]; exact k.2.2)]
  rcases h with rfl | rfl | rfl <;> simp [markG, marksL, pre]
theorem one_tk2 {t : Tok} (h : rightT t = true) (hn : I64 t.n) {r : List UInt8} (hr : loose t ∨ Tail r) : oneS (tkS t ++ r) = .ok (bare t) (tkS t).length := by
  rcases hr with (h3 | ⟨h4, hs⟩) | hr
  · obtain ⟨k, s, n, p⟩ := t
    have h3 : k = 3 := h3
    subst h3
    rw [right_3 rfl] at h
    simp only [Bool.and_eq_true, decide_eq_true_eq] at h
    obtain ⟨rfl, hp⟩ := h
    exact one_text hp
  · obtain ⟨k, s, n, p⟩ := t
    have h4 : k = 4 := h4
    subst h4
    rw [right_4 rfl] at h
    simp only [Bool.and_eq_true, decide_eq_true_eq] at h
    obtain ⟨rfl, _⟩ := h
    exact one_mk2 hs
  · exact one_tk h hn hr
theorem lex_tok2 {A r : List UInt8} {t : Tok} (h : rightT t = true) (hn : I64 t.n) (hr : loose t ∨ Tail r) (out : List Tok) :
    lexG (A ++ (tkS t ++ r)) A.length out = lexG (A ++ (tkS t ++ r)) (A.length + (tkS t).length) (out ++ [{ t with p := (A.length : Int) }]) := by
  obtain ⟨b, q, e, hb⟩ := tk_first h
  have hlt : A.length < (A ++ (tkS t ++ r)).length := by rw [e]; simp
  have hd : (A ++ (tkS t ++ r)).drop A.length = tkS t ++ r := by simp
  have := lex_ok (out := out) hlt (by
    rw [e, List.cons_append, bt_at]
    intro hh; exact hb (UInt8.toNat_inj.1 (by have e : (32 : UInt8).toNat = 32 := rfl; omega))) (by rw [hd]; exact one_tk2 h hn hr) (by rw [e]; simp)
  exact this
def Opn (l : List Pc) : Prop := l = [] ∨ (∃ q, l = none :: q) ∨ ∃ q, l = some clT :: q
def GoodP : List Pc → Prop
  | [] => True
  | none :: l => GoodP l
  | some t :: l => rightT t = true ∧ I64 t.n ∧ (loose t ∨ Opn l) ∧ GoodP l
theorem opn_tail {l : List Pc} (h : Opn l) : Tail (flatP l) := by
  rcases h with rfl | ⟨q, rfl⟩ | ⟨q, rfl⟩
  · exact .inl rfl
  · exact .inr (.inl ⟨_, flat_cons _ _⟩)
  · exact .inr (.inr ⟨_, flat_cons _ _⟩)
theorem good_app : ∀ {a b : List Pc}, GoodP a → GoodP b → Opn b → GoodP (a ++ b)
  | [], b, _, hb, _ => hb
  | none :: a, b, ha, hb, ho => good_app (a := a) ha hb ho
  | some t :: a, b, ⟨h1, h2, h3, h4⟩, hb, ho => ⟨h1, h2, h3.imp_right fun h => (by
      rcases h with rfl | ⟨q, rfl⟩ | ⟨q, rfl⟩
      · exact ho
      · exact .inr (.inl ⟨_, rfl⟩)
      · exact .inr (.inr ⟨_, rfl⟩) : Opn (a ++ b)), good_app (a := a) h4 hb ho⟩
theorem lex_pcs : ∀ (l : List Pc) (A : List UInt8) (out : List Tok), GoodP l → ∃ l', lexG (A ++ flatP l) A.length out = (out ++ l', 0, 0) ∧ l'.map bare = (toksP l).map bare
  | [], A, out, _ => ⟨[], by rw [lex_end (by simp [flatP]), List.append_nil], rfl⟩
  | none :: l, A, out, h => by
    obtain ⟨l', e, hk⟩ := lex_pcs l (A ++ [32]) out h
    refine ⟨l', ?_, hk⟩
    have e1 : A ++ flatP (none :: l) = A ++ 32 :: flatP l := by rw [flat_cons]; rfl
    have e2 : A ++ 32 :: flatP l = (A ++ [32]) ++ flatP l := by simp
    rw [e1, lex_sp (by simp) (by rw [bt_at]; rfl), e2]
    rw [show A.length + 1 = (A ++ [32]).length by simp]
    exact e
  | some t :: l, A, out, ⟨h1, h2, h3, h4⟩ => by
    obtain ⟨l', e, hk⟩ := lex_pcs l (A ++ tkS t) (out ++ [{ t with p := (A.length : Int) }]) h4
    refine ⟨{ t with p := (A.length : Int) } :: l', ?_, ?_⟩
    · have e1 : A ++ flatP (some t :: l) = A ++ (tkS t ++ flatP l) := by rw [flat_cons]; rfl
      have e2 : A ++ (tkS t ++ flatP l) = (A ++ tkS t) ++ flatP l := by simp
      rw [e1, lex_tok2 h1 h2 (h3.imp_right opn_tail), e2]
      rw [show A.length + (tkS t).length = (A ++ tkS t).length by simp, e]
      simp
    · rw [List.map_cons, hk]; rfl
def valT (v : Val) : Tok := if v.k = 1 then ⟨2, [], v.n, 0⟩ else if v.k = 2 then ⟨3, v.s, 0, 0⟩ else if v.k = 3 then wdT (boolS (decide (v.n = 1))) else wdT nullS
def sgT (op : Int) : Tok := ⟨kindB (findS op), (findS op).2.1, 0, 0⟩
def bodyP (op : Int) (v : Val) (s : List UInt8) (c : List (List Pc)) : List Pc :=
  if op = 1 then [some (valT v)] else if op = 2 then [some (wdT s)] else if op = 3 then some miT :: c.getD 0 []
  else if op = 16 then some (wdT ifT) :: none :: (c.getD 0 [] ++ none :: some (wdT thenT) :: none :: (c.getD 1 [] ++ none :: some (wdT elseT) :: none :: c.getD 2 []))
  else c.getD 0 [] ++ none :: some (sgT op) :: none :: c.getD 1 []
mutual
def pcS : Ex → Int → List Pc
  | .mk op v s l, m => if levS op < m then some opT :: (bodyP op v s (pcL l (msS op)) ++ [some clT]) else bodyP op v s (pcL l (msS op))
def pcL : List Ex → List Int → List (List Pc)
  | [], _ => []
  | _ :: _, [] => []
  | x :: l, m :: ms => pcS x m :: pcL l ms
end
def bodyXP (x : Ex) : List Pc := bodyP x.op x.v x.s (pcL x.l (msS x.op))
theorem pc_eq (x : Ex) (m : Int) : pcS x m = if levS x.op < m then some opT :: (bodyXP x ++ [some clT]) else bodyXP x := by
  cases x with
  | mk op v s l => rw [pcS]; rfl
theorem bp_1 {x : Ex} (h : x.op = 1) : bodyXP x = [some (valT x.v)] := by rw [bodyXP, bodyP, if_pos h]
theorem bp_2 {x : Ex} (h : x.op = 2) : bodyXP x = [some (wdT x.s)] := by rw [bodyXP, bodyP, if_neg (by omega), if_pos h]
theorem bp_3 {x a : Ex} (h : x.op = 3) (hl : x.l = [a]) : bodyXP x = some miT :: pcS a 6 := by rw [bodyXP, bodyP, if_neg (by omega), if_neg (by omega), if_pos h, hl, msS, if_pos h]; rfl
theorem bp_16 {x a b c : Ex} (h : x.op = 16) (hl : x.l = [a, b, c]) : bodyXP x = some (wdT ifT) :: none :: (pcS a 0 ++ none :: some (wdT thenT) :: none :: (pcS b 0 ++ none :: some (wdT elseT) :: none :: pcS c 0)) := by
  rw [bodyXP, bodyP, if_neg (by omega), if_neg (by omega), if_neg (by omega), if_pos h, hl, msS, if_neg (by omega), if_pos h]; rfl
theorem bp_b {x a b : Ex} (h : 4 ≤ x.op ∧ x.op ≤ 15) (hl : x.l = [a, b]) : bodyXP x = pcS a (if (findS x.op).2.2 = 3 then 4 else (findS x.op).2.2) ++ none :: some (sgT x.op) :: none :: pcS b ((findS x.op).2.2 + 1) := by
  rw [bodyXP, bodyP, if_neg (by omega), if_neg (by omega), if_neg (by omega), if_neg (by omega), hl, msS, if_neg (by omega), if_neg (by omega)]; rfl
theorem val_tk {v : Val} (h : valOk v = true) : tkS (valT v) = (txR v).1 := by
  rw [show txR v = (txS v, 0) by rw [txR, if_pos h]]
  show _ = txS v
  unfold valT txS
  split
  · rfl
  split
  · rfl
  split
  · rfl
  · rfl
theorem val_right {v : Val} (h : valOk v = true) (hn : v.k = 1 → 0 ≤ v.n) : rightT (valT v) = true := by
  rcases valOk_cases h with ⟨h1, _⟩ | ⟨h1, _⟩ | ⟨h1, _, hp⟩ | ⟨h1, _⟩
  · unfold valT; rw [if_neg (by omega), if_neg (by omega), if_neg (by omega)]; decide +kernel
  · unfold valT; rw [if_pos h1, right_2 rfl]; simp [hn h1]
  · unfold valT; rw [if_neg (by omega), if_pos h1, right_3 rfl]; simp [hp]
  · unfold valT; rw [if_neg (by omega), if_neg (by omega), if_pos h1]
    cases decide (v.n = 1) <;> decide +kernel
theorem val_n {v : Val} (hb : i64 v.n) : I64 (valT v).n := by
  unfold valT
  split
  · exact hb
  split
  · exact i64_0
  split
  · exact i64_0
  · exact i64_0
theorem name_right {s : List UInt8} (h : nameOk s = true) : rightT (wdT s) = true := by
  simp only [nameOk, Bool.and_eq_true, Bool.not_eq_true', decide_eq_false_iff_not, decide_eq_true_eq] at h
  rw [right_1 rfl]
  simp only [Bool.and_eq_true, decide_eq_true_eq, Bool.not_eq_true', decide_eq_false_iff_not]
  exact ⟨⟨⟨rfl, h.1⟩, h.2.1⟩, h.2.2.1⟩
theorem op_cases {op : Int} (h : 4 ≤ op ∧ op ≤ 15) {P : Int → Prop} (hp : ∀ j, j < 12 → P (binL.getD j (0, [], 0)).1) : P op := by
  have : op = 4 ∨ op = 5 ∨ op = 6 ∨ op = 7 ∨ op = 8 ∨ op = 9 ∨ op = 10 ∨ op = 11 ∨ op = 12 ∨ op = 13 ∨ op = 14 ∨ op = 15 := by omega
  rcases this with rfl | rfl | rfl | rfl | rfl | rfl | rfl | rfl | rfl | rfl | rfl | rfl
  · exact hp 0 (by decide)
  · exact hp 1 (by decide)
  · exact hp 2 (by decide)
  · exact hp 3 (by decide)
  · exact hp 4 (by decide)
  · exact hp 5 (by decide)
  · exact hp 6 (by decide)
  · exact hp 7 (by decide)
  · exact hp 8 (by decide)
  · exact hp 9 (by decide)
  · exact hp 10 (by decide)
  · exact hp 11 (by decide)
theorem sg_right {op : Int} (h : 4 ≤ op ∧ op ≤ 15) : rightT (sgT op) = true := op_cases h (P := fun op => rightT (sgT op) = true) (by decide +kernel)
theorem sg_tk (op : Int) (h : 4 ≤ op ∧ op ≤ 15) : tkS (sgT op) = (findS op).2.1 := op_cases h (P := fun op => tkS (sgT op) = (findS op).2.1) (by decide +kernel)
inductive VB : Ex → Prop
  | mk (op : Int) (v : Val) (s : List UInt8) (l : List Ex) (h : i64 v.n) (hl : ∀ y ∈ l, VB y) : VB (.mk op v s l)
theorem VB.kid {x y : Ex} (h : VB x) (hy : y ∈ x.l) : VB y := by
  cases h with
  | mk op v s l h hl => exact hl y hy
theorem VB.n {x : Ex} (h : VB x) : i64 x.v.n := by
  cases h with
  | mk op v s l h hl => exact h
theorem RX.vb {h : View} {cs : List Value} {x : Ex} (hx : RX h cs x) : VB x := by
  induction hx with
  | mk op v s l ad cap c hb hs hc ih =>
    refine .mk op v s l hb.2.2 fun y hy => ?_
    obtain ⟨i, hi⟩ := List.mem_iff_getElem?.1 hy
    exact ih i y hi
theorem pc_good : ∀ (k : Nat) (x : Ex), SizeOf.sizeOf x < k → rightS x = true → VB x → ∀ m, GoodP (pcS x m) ∧ flatP (pcS x m) = putS x m := by
  intro k
  induction k with
  | zero => intro x h; omega
  | succ k ih =>
    intro x hk hr hb m
    have kid : ∀ y ∈ x.l, rightS y = true → ∀ m, GoodP (pcS y m) ∧ flatP (pcS y m) = putS y m := fun y hy hry m => ih y (by have := Ex.lt hy; omega) hry (hb.kid hy) m
    have body : GoodP (bodyXP x) ∧ flatP (bodyXP x) = bodyX x := by
      rcases right_parts hr with ⟨h, hl, hs, hv, hn⟩ | ⟨h, hl, hv, hn⟩ | ⟨h, hv, hs, a, hl, ha⟩ | ⟨h, hv, hs, a, b, c, hl, ha, hb', hc⟩ | ⟨h, hv, hs, a, b, hl, ha, hb'⟩
      · rw [bp_1 h, body_1 h]
        exact ⟨⟨val_right hv hn, val_n hb.n, .inr (.inl rfl), trivial⟩, by rw [flat_cons]; show tkS _ ++ [] = _; rw [List.append_nil, val_tk hv]⟩
      · rw [bp_2 h, body_2 h]
        exact ⟨⟨name_right hn, i64_0, .inr (.inl rfl), trivial⟩, by rw [flat_cons]; show x.s ++ [] = _; rw [List.append_nil]⟩
      · obtain ⟨g1, f1⟩ := kid a (by rw [hl]; simp) ha 6
        rw [bp_3 h hl, body_3 h hl]
        exact ⟨⟨by decide +kernel, i64_0, .inl (.inr ⟨rfl, .inr (.inr rfl)⟩), g1⟩, by rw [flat_cons, f1]; rfl⟩
      · obtain ⟨g1, f1⟩ := kid a (by rw [hl]; simp) ha 0
        obtain ⟨g2, f2⟩ := kid b (by rw [hl]; simp) hb' 0
        obtain ⟨g3, f3⟩ := kid c (by rw [hl]; simp) hc 0
        rw [bp_16 h hl, body_16 h hl]
        refine ⟨⟨by decide +kernel, i64_0, .inr (.inr (.inl ⟨_, rfl⟩)), good_app g1 (⟨by decide +kernel, i64_0, .inr (.inr (.inl ⟨_, rfl⟩)), good_app g2 (⟨by decide +kernel, i64_0, .inr (.inr (.inl ⟨_, rfl⟩)), g3⟩) (.inr (.inl ⟨_, rfl⟩))⟩) (.inr (.inl ⟨_, rfl⟩))⟩, ?_⟩
        simp only [flat_cons, flat_app, f1, f2, f3, List.append_assoc]
        rfl
      · obtain ⟨g1, f1⟩ := kid a (by rw [hl]; simp) ha (if (findS x.op).2.2 = 3 then 4 else (findS x.op).2.2)
        obtain ⟨g2, f2⟩ := kid b (by rw [hl]; simp) hb' ((findS x.op).2.2 + 1)
        rw [bp_b h hl, body_b h hl]
        refine ⟨good_app g1 (⟨sg_right h, i64_0, .inr (.inr (.inl ⟨_, rfl⟩)), g2⟩) (.inr (.inl ⟨_, rfl⟩)), ?_⟩
        simp only [flat_cons, flat_app, f1, f2, List.append_assoc]
        show _ ++ ([32] ++ (tkS (sgT x.op) ++ ([32] ++ _))) = _
        rw [sg_tk _ h]; simp
    rw [pc_eq, put_eq]
    by_cases hm : levS x.op < m
    · rw [if_pos hm, if_pos hm]
      refine ⟨⟨by decide +kernel, i64_0, .inl (.inr ⟨rfl, .inl rfl⟩), good_app body.1 ⟨by decide +kernel, i64_0, .inl (.inr ⟨rfl, .inr (.inl rfl)⟩), trivial⟩ (.inr (.inr ⟨_, rfl⟩))⟩, ?_⟩
      rw [flat_cons, flat_app, body.2, flat_cons]; rfl
    · rw [if_neg hm, if_neg hm]; exact body
theorem lex_put {x : Ex} (hr : rightS x = true) (hb : VB x) (hlen : (putS x 0).length ≤ 200) : ∃ l, lexS (putS x 0) = (l, 0, 0) ∧ l.map bare = (toksP (pcS x 0)).map bare := by
  obtain ⟨g, f⟩ := pc_good _ x (Nat.lt_succ_self _) hr hb 0
  obtain ⟨l', e, hk⟩ := lex_pcs (pcS x 0) [] [] g
  rw [f] at e
  exact ⟨l', by rw [lexS, if_neg (by omega)]; simpa using e, hk⟩
end Go.Proofs.YtcdbgeefhpmjfaaGreatDoor
namespace Go.Proofs.YtcdbgeefhpmjfaaGreatDoor
open Go Go.Dx Go.RowKit
def Seg (l : List Tok) : Nat → List Tok → Prop
  | _, [] => True
  | i, t :: T => (i < l.length ∧ bare (l.getD i t0) = bare t) ∧ Seg l (i + 1) T
theorem seg_app (l : List Tok) : ∀ (A B : List Tok) (i : Nat), Seg l i (A ++ B) ↔ Seg l i A ∧ Seg l (i + A.length) B
  | [], B, i => by simp [Seg]
  | t :: A, B, i => by
    rw [List.cons_append, Seg, Seg, seg_app l A B (i + 1), List.length_cons, show i + 1 + A.length = i + (A.length + 1) by omega]
    simp only [and_assoc]
theorem seg_all {T : List Tok} : ∀ (l : List Tok) (P : List Tok), l.map bare = T.map bare → Seg (P ++ l) P.length T := by
  induction T with
  | nil => intro l P _; trivial
  | cons t T ih =>
    intro l P h
    match l, h with
    | u :: l, h =>
      simp only [List.map_cons, List.cons.injEq] at h
      refine ⟨⟨by simp, by rw [getD_app]; exact h.1⟩, ?_⟩
      have := ih l (P ++ [u]) h.2
      rw [List.append_assoc] at this
      simpa using this
theorem now_seg {l : List Tok} {i : Nat} {t : Tok} {T : List Tok} (h : Seg l i (t :: T)) : (nowS l i false).k = t.k ∧ (nowS l i false).s = t.s ∧ (nowS l i false).n = t.n := by
  have e := h.1.2
  have e1 : nowS l i false = l.getD i t0 := by unfold nowS; rw [if_neg (by decide)]
  rw [e1]
  have a := congrArg Tok.k e
  have b := congrArg Tok.s e
  have c := congrArg Tok.n e
  exact ⟨a, b, c⟩
theorem on_seg {l : List Tok} {i : Nat} {t : Tok} {T : List Tok} (h : Seg l i (t :: T)) (k : Int) (s : List UInt8) : onS l i false k s = (decide (t.k = k) && decide (t.s = s)) := by
  obtain ⟨h1, h2, _⟩ := now_seg h
  rw [onS, h1, h2]
def opK (t : Tok) (lev : Int) : Int := match binL.find? (fun b => decide (b.2.2 = lev) && (decide (t.k = kindB b) && decide (t.s = b.2.1))) with
  | some b => b.1
  | none => 0
theorem op_seg {l : List Tok} {i : Nat} {t : Tok} {T : List Tok} (h : Seg l i (t :: T)) (lev : Int) : opS l i false lev = opK t lev := by
  unfold opS opK
  rw [show hitB l i false lev = (fun b => decide (b.2.2 = lev) && (decide (t.k = kindB b) && decide (t.s = b.2.1))) from funext fun b => by rw [hitB, on_seg h]] <;> rfl
def Stop (l : List Tok) (i lev : Nat) : Prop := ∀ n : Nat, lev ≤ n → opS l i false (n : Int) = 0
theorem Stop.le {l : List Tok} {i a b : Nat} (h : Stop l i a) (hab : a ≤ b) : Stop l i b := fun n hn => h n (Nat.le_trans hab hn)
theorem stop_end (l : List Tok) : Stop l l.length 0 := fun n _ => by
  by_cases h : opS l l.length false (n : Int) = 0
  · exact h
  · exact absurd (op_lt h).1 (Nat.lt_irrefl _)
theorem opK_none {t : Tok} (h : ∀ b ∈ binL, ¬ (t.k = kindB b ∧ t.s = b.2.1)) (lev : Int) : opK t lev = 0 := by
  unfold opK
  have : binL.find? (fun b => decide (b.2.2 = lev) && (decide (t.k = kindB b) && decide (t.s = b.2.1))) = none := by
    rw [List.find?_eq_none]
    intro b hb hh
    simp only [Bool.and_eq_true, decide_eq_true_eq] at hh
    exact h b hb hh.2
  rw [this]
theorem stop_tok {l : List Tok} {i : Nat} {t : Tok} {T : List Tok} (hs : Seg l i (t :: T)) (h : ∀ b ∈ binL, ¬ (t.k = kindB b ∧ t.s = b.2.1)) : Stop l i 0 := fun n _ => by rw [op_seg hs, opK_none h]
theorem sg_op {op : Int} (h : 4 ≤ op ∧ op ≤ 15) : opK (sgT op) (findS op).2.2 = op := op_cases h (P := fun op => opK (sgT op) (findS op).2.2 = op) (by decide +kernel)
theorem sg_uniq {op : Int} (h : 4 ≤ op ∧ op ≤ 15) : ∀ b ∈ binL, (sgT op).k = kindB b ∧ (sgT op).s = b.2.1 → b.2.2 = (findS op).2.2 := op_cases h (P := fun op => ∀ b ∈ binL, (sgT op).k = kindB b ∧ (sgT op).s = b.2.1 → b.2.2 = (findS op).2.2) (by decide +kernel)
theorem sg_lev {op : Int} (h : 4 ≤ op ∧ op ≤ 15) : 1 ≤ (findS op).2.2 ∧ (findS op).2.2 ≤ 5 := op_cases h (P := fun op => 1 ≤ (findS op).2.2 ∧ (findS op).2.2 ≤ 5) (by decide +kernel)
theorem sg_none {op lev : Int} (h : 4 ≤ op ∧ op ≤ 15) (hl : lev ≠ (findS op).2.2) : opK (sgT op) lev = 0 := by
  unfold opK
  have : binL.find? (fun b => decide (b.2.2 = lev) && (decide ((sgT op).k = kindB b) && decide ((sgT op).s = b.2.1))) = none := by
    rw [List.find?_eq_none]
    intro b hb hh
    simp only [Bool.and_eq_true, decide_eq_true_eq] at hh
    exact hl (hh.1 ▸ sg_uniq h b hb hh.2)
  rw [this]
theorem stop_sg {l : List Tok} {i : Nat} {op : Int} {T : List Tok} (h : 4 ≤ op ∧ op ≤ 15) (hs : Seg l i (sgT op :: T)) {L : Nat} (hL : (findS op).2.2 < (L : Int)) : Stop l i L := fun n hn => by
  rw [op_seg hs]; exact sg_none h (by omega)
theorem lev_b {op : Int} (h : 4 ≤ op ∧ op ≤ 15) : levS op = (findS op).2.2 := by
  rw [levS, if_neg (by omega), if_neg (by omega), if_neg (by omega)]
def tks (x : Ex) (m : Int) : List Tok := toksP (pcS x m)
def tkb (x : Ex) : List Tok := toksP (bodyXP x)
theorem tks_eq (x : Ex) (m : Int) : tks x m = if levS x.op < m then opT :: (tkb x ++ [clT]) else tkb x := by
  unfold tks tkb
  rw [pc_eq]
  split
  · rw [toksP, toks_app]; rfl
  · rfl
theorem tkb_1 {x : Ex} (h : x.op = 1) : tkb x = [valT x.v] := by rw [tkb, bp_1 h]; rfl
theorem tkb_2 {x : Ex} (h : x.op = 2) : tkb x = [wdT x.s] := by rw [tkb, bp_2 h]; rfl
theorem tkb_3 {x a : Ex} (h : x.op = 3) (hl : x.l = [a]) : tkb x = miT :: tks a 6 := by rw [tkb, bp_3 h hl]; rfl
theorem tkb_16 {x a b c : Ex} (h : x.op = 16) (hl : x.l = [a, b, c]) : tkb x = wdT ifT :: (tks a 0 ++ wdT thenT :: (tks b 0 ++ wdT elseT :: tks c 0)) := by
  rw [tkb, bp_16 h hl]; simp only [toksP, toks_app]; rfl
theorem tkb_b {x a b : Ex} (h : 4 ≤ x.op ∧ x.op ≤ 15) (hl : x.l = [a, b]) : tkb x = tks a (if (findS x.op).2.2 = 3 then 4 else (findS x.op).2.2) ++ sgT x.op :: tks b ((findS x.op).2.2 + 1) := by
  rw [tkb, bp_b h hl]; simp only [toksP, toks_app]; rfl
def noIf (T : List Tok) : Prop := ∃ t r, T = t :: r ∧ ¬ (t.k = 1 ∧ t.s = ifT)
theorem noIf_app {T U : List Tok} (h : noIf T) : noIf (T ++ U) := by
  obtain ⟨t, r, rfl, h⟩ := h
  exact ⟨t, r ++ U, rfl, h⟩
theorem val_word {v : Val} (h : valOk v = true) : (valT v).k = 2 ∨ (valT v).k = 3 ∨ ((valT v).k = 1 ∧ ((valT v).s = nullS ∨ (valT v).s = trueS ∨ (valT v).s = falseS)) := by
  unfold valT
  split
  · exact .inl rfl
  split
  · exact .inr (.inl rfl)
  split
  · refine .inr (.inr ⟨rfl, .inr ?_⟩)
    unfold boolS
    split
    · exact .inl rfl
    · exact .inr rfl
  · exact .inr (.inr ⟨rfl, .inl rfl⟩)
theorem name_if {s : List UInt8} (h : nameOk s = true) : s ≠ ifT := by
  rintro rfl
  revert h; decide +kernel
theorem first_no : ∀ (k : Nat) (x : Ex), SizeOf.sizeOf x < k → rightS x = true → ∀ m, (levS x.op < m ∨ x.op ≠ 16) → noIf (tks x m) := by
  intro k
  induction k with
  | zero => intro x h; omega
  | succ k ih =>
    intro x hk hr m hm
    rw [tks_eq]
    split
    · exact ⟨_, _, rfl, fun h => absurd h.1 (by decide)⟩
    · rename_i hlt
      have h16 : x.op ≠ 16 := hm.resolve_left hlt
      rcases right_parts hr with ⟨h, hl, hs, hv, hn⟩ | ⟨h, hl, hv, hn⟩ | ⟨h, hv, hs, a, hl, ha⟩ | ⟨h, hv, hs, a, b, c, hl, ha, hb', hc⟩ | ⟨h, hv, hs, a, b, hl, ha, hb'⟩
      · rw [tkb_1 h]
        refine ⟨_, _, rfl, fun hh => ?_⟩
        rcases val_word hv with h1 | h1 | ⟨_, h1⟩
        · rw [h1] at hh; exact absurd hh.1 (by decide)
        · rw [h1] at hh; exact absurd hh.1 (by decide)
        · rw [hh.2] at h1; revert h1; decide
      · rw [tkb_2 h]; exact ⟨_, _, rfl, fun hh => name_if hn hh.2⟩
      · rw [tkb_3 h hl]; exact ⟨_, _, rfl, fun hh => absurd hh.1 (by decide)⟩
      · exact absurd h h16
      · rw [tkb_b h hl]
        refine noIf_app (ih a (by have := Ex.lt (x := x) (y := a) (by rw [hl]; simp); omega) ha _ ?_)
        have hs := sg_lev h
        by_cases ha16 : a.op = 16
        · refine .inl ?_
          rw [show levS a.op = 0 by rw [levS, if_pos ha16]]
          split <;> omega
        · exact .inr ha16
theorem rd_low (l : List Tok) (lev i : Nat) (h0 : lev ≠ 0) (h6 : lev < 6) (hi : i ≤ l.length) : rdN l lev i false = loopS (rdN l (lev + 1)) l lev (l.length + 1) (rdN l (lev + 1) i false).1 (rdN l (lev + 1) i false).2.1 (rdN l (lev + 1) i false).2.2 := by
  rw [rdN_eq l lev i false (by omega) hi, if_neg (by decide), if_neg h0, if_neg (fun h => by omega), if_neg (by omega)]
theorem loop_stop (rd : Nat → Bool → RdR) (l : List Tok) (lev n : Nat) (x : Ex) (i : Nat) (h : opS l i false lev = 0) : loopS rd l lev n x i false = (x, i, false) := by
  cases n with
  | zero => rfl
  | succ n => unfold loopS; rw [if_pos h]
theorem rd_down {l : List Tok} {i e : Nat} {x : Ex} {T : List Tok} (hT : Seg l i T) (hn : noIf T) (hi : i ≤ l.length) : ∀ (d lev B : Nat), B = lev + d → B ≤ 6 → rdN l B i false = (x, e, false) → Stop l e lev → rdN l lev i false = (x, e, false)
  | 0, lev, B, h, _, hr, _ => by rw [show lev = B by omega]; exact hr
  | d + 1, lev, B, h, hB, hr, hs => by
    have h1 := rd_down hT hn hi d (lev + 1) B (by omega) hB hr (hs.le (Nat.le_succ _))
    by_cases h0 : lev = 0
    · subst h0
      obtain ⟨t, r, rfl, hne⟩ := hn
      rw [rdN_eq l 0 i false (by omega) hi, if_neg (by decide), if_pos rfl, if_neg]
      · exact h1
      · rw [on_seg hT]
        simp only [Bool.and_eq_true, decide_eq_true_eq]
        exact hne
    · rw [rd_low l lev i h0 (by omega) hi, h1]
      exact loop_stop _ _ _ _ _ _ (hs lev (Nat.le_refl _))
theorem ex_eta {x : Ex} {op : Int} {v : Val} {s : List UInt8} {l : List Ex} (h1 : x.op = op) (h2 : x.v = v) (h3 : x.s = s) (h4 : x.l = l) : x = .mk op v s l := by
  cases x with
  | mk a b c d => cases h1; cases h2; cases h3; cases h4; rfl
theorem must_hit {l : List Tok} {i : Nat} {t : Tok} {T : List Tok} {k : Int} {s : List UInt8} (h : Seg l i (t :: T)) (hk : t.k = k) (hs : t.s = s) : mustS l (i, false) k s = (i + 1, false) := by
  have : onS l i false k s = true := by rw [on_seg h, decide_eq_true hk, decide_eq_true hs]; rfl
  unfold mustS
  show ((if onS l i false k s = true then i + 1 else i), (false || !onS l i false k s)) = _
  rw [if_pos this, this]; rfl
structure Rd (x : Ex) : Prop where
  put : ∀ (l : List Tok) (i lev : Nat) (m : Int), lev ≤ 7 → i ≤ l.length → (levS x.op < m ∨ (lev : Int) ≤ levS x.op) → Seg l i (tks x m) → Stop l (i + (tks x m).length) lev → rdN l lev i false = (x, i + (tks x m).length, false)
  loop : ∀ (l : List Tok) (i L : Nat) (m : Int), 1 ≤ L → L ≤ 5 → L ≠ 3 → i ≤ l.length → (levS x.op < m ∨ (L : Int) ≤ levS x.op) → Seg l i (tks x m) → Stop l (i + (tks x m).length) (L + 1) →
    ∃ n, l.length < i + (tks x m).length + n ∧ rdN l L i false = loopS (rdN l (L + 1)) l L n x (i + (tks x m).length) false
theorem cl_stop : ∀ b ∈ binL, ¬ (clT.k = kindB b ∧ clT.s = b.2.1) := by decide +kernel
theorem th_stop : ∀ b ∈ binL, ¬ ((wdT thenT).k = kindB b ∧ (wdT thenT).s = b.2.1) := by decide +kernel
theorem el_stop : ∀ b ∈ binL, ¬ ((wdT elseT).k = kindB b ∧ (wdT elseT).s = b.2.1) := by decide +kernel
theorem rd_atom {l : List Tok} {i lev : Nat} (h6 : 6 ≤ lev) (h7 : lev ≤ 7) (hi : i ≤ l.length) (h : onS l i false 4 [45] = false) : rdN l lev i false = atomS (rdN l 0) l i false := by
  rw [rdN_eq l lev i false h7 hi, if_neg (by decide), if_neg (by omega), if_neg (fun hh => by rw [h] at hh; cases hh.2), if_pos h6]
theorem rd_back : ∀ (k : Nat) (x : Ex), SizeOf.sizeOf x < k → rightS x = true → Rd x := by
  intro k
  induction k with
  | zero => intro x h; omega
  | succ k ih =>
  intro x hk hr
  have kid : ∀ y ∈ x.l, rightS y = true → Rd y := fun y hy hry => ih y (by have := Ex.lt hy; omega) hry
  have selfL : ∀ (L : Nat), (4 ≤ x.op ∧ x.op ≤ 15) → (findS x.op).2.2 = (L : Int) → L ≠ 3 → ∀ (l : List Tok) (i : Nat), i ≤ l.length → Seg l i (tkb x) → Stop l (i + (tkb x).length) (L + 1) →
      ∃ n, l.length < i + (tkb x).length + n ∧ rdN l L i false = loopS (rdN l (L + 1)) l L n x (i + (tkb x).length) false := by
    intro L h hL h3 l i hi hs hst
    obtain ⟨a, b, hl, ha, hb, hv, hs'⟩ : ∃ a b, x.l = [a, b] ∧ rightS a = true ∧ rightS b = true ∧ x.v = v0 ∧ x.s = [] := by
      rcases right_parts hr with ⟨h', _⟩ | ⟨h', _⟩ | ⟨h', _⟩ | ⟨h', _⟩ | ⟨_, hv, hs, a, b, hl, ha, hb⟩
      · omega
      · omega
      · omega
      · omega
      · exact ⟨a, b, hl, ha, hb, hv, hs⟩
    have hsl := sg_lev h
    have ex : x = .mk x.op v0 [] [a, b] := ex_eta rfl hv hs' hl
    have et : tkb x = tks a (L : Int) ++ sgT x.op :: tks b ((L : Int) + 1) := by rw [tkb_b h hl, hL, if_neg (by omega)]
    rw [et] at hs hst ⊢
    obtain ⟨sa, ss⟩ := (seg_app l _ _ i).1 hs
    have hlt : i + (tks a (L : Int)).length < l.length := ss.1.1
    have sb : Seg l (i + (tks a (L : Int)).length + 1) (tks b ((L : Int) + 1)) := ss.2
    obtain ⟨n, hn, e⟩ := (kid a (by rw [hl]; simp) ha).loop l i L (L : Int) (by omega) (by omega) h3 hi (by omega) sa (stop_sg h ss (by omega))
    obtain ⟨n, rfl⟩ : ∃ m, n = m + 1 := ⟨n - 1, by omega⟩
    have ho : opS l (i + (tks a (L : Int)).length) false (L : Int) = x.op := by rw [op_seg ss, ← hL]; exact sg_op h
    have elen : i + (tks a (L : Int) ++ sgT x.op :: tks b ((L : Int) + 1)).length = i + (tks a (L : Int)).length + 1 + (tks b ((L : Int) + 1)).length := by
      simp only [List.length_append, List.length_cons]; omega
    rw [elen] at hst ⊢
    have hbr := (kid b (by rw [hl]; simp) hb).put l (i + (tks a (L : Int)).length + 1) (L + 1) ((L : Int) + 1) (by omega) (by omega) (by omega) sb hst
    refine ⟨n, by omega, ?_⟩
    rw [e]
    show loopS _ _ _ (n + 1) _ _ _ = _
    rw [loopS, ho, if_neg (by omega), hbr, if_pos ⟨h3, rfl⟩]
    show loopS _ _ _ n (.mk x.op v0 [] [a, b]) _ _ = _
    rw [← ex]
  have body : ∀ (l : List Tok) (i lev : Nat), lev ≤ 7 → i ≤ l.length → (lev : Int) ≤ levS x.op → Seg l i (tkb x) → Stop l (i + (tkb x).length) lev → rdN l lev i false = (x, i + (tkb x).length, false) := by
    intro l i lev h7 hi hlv hs hst
    -- a closest level, then down
    have low : ∀ (B : Nat), lev ≤ B → B ≤ 6 → noIf (tkb x) → rdN l B i false = (x, i + (tkb x).length, false) → rdN l lev i false = (x, i + (tkb x).length, false) := fun B h1 h2 hn h => rd_down hs hn hi (B - lev) lev B (by omega) h2 h hst
    have hno : x.op ≠ 16 → noIf (tkb x) := fun h16 => by
      have := first_no _ x (Nat.lt_succ_self _) hr (-1) (.inr h16)
      rw [tks_eq, if_neg (by have := lev_lo x.op; omega)] at this
      exact this
    have atom : levS x.op = 7 → x.op ≠ 16 → (∀ lev, 6 ≤ lev → lev ≤ 7 → rdN l lev i false = (x, i + (tkb x).length, false)) → rdN l lev i false = (x, i + (tkb x).length, false) := fun _ h16 h => by
      rcases Nat.lt_or_ge lev 6 with h6 | h6
      · exact low 6 (by omega) (by omega) (hno h16) (h 6 (by omega) (by omega))
      · exact h lev h6 h7
    rcases right_parts hr with ⟨h, hl, hs', hv, hn⟩ | ⟨h, hl, hv, hn⟩ | ⟨h, hv, hs', a, hl, ha⟩ | ⟨h, hv, hs', a, b, c, hl, ha, hb, hc⟩ | ⟨h, hv, hs', a, b, hl, ha, hb⟩
    · have et := tkb_1 h
      rw [et] at hs ⊢
      obtain ⟨n1, n2, n3⟩ := now_seg hs
      have k4 : (valT x.v).k ≠ 4 := by
        rcases val_word hv with h | h | ⟨h, _⟩ <;> rw [h] <;> decide
      have hon : ∀ s, onS l i false 4 s = false := fun s => by rw [on_seg hs, decide_eq_false k4]; rfl
      rw [← et]
      refine atom (by rw [levS, if_neg (by omega), if_neg (by omega), if_pos (.inl h)]) (by omega) fun lev h6 h7 => ?_
      rw [rd_atom h6 h7 hi (hon _), et]
      show _ = (x, i + 1, false)
      unfold atomS
      rw [if_neg (by rw [hon]; decide)]
      rcases valOk_cases hv with ⟨h1, h2, h3⟩ | ⟨h1, h3⟩ | ⟨h1, h2, _⟩ | ⟨h1, h3, h2⟩
      · have ev : valT x.v = wdT nullS := by unfold valT; rw [if_neg (by omega), if_neg (by omega), if_neg (by omega)]
        rw [ev] at n1 n2
        have n1 : (nowS l i false).k = 1 := n1
        have n2 : (nowS l i false).s = nullS := n2
        rw [if_neg (by rw [n1]; decide), if_neg (by rw [n1]; decide), if_pos n1, n2, if_pos (by decide)]
        rw [ex_eta h (show x.v = v0 by cases hx : x.v; rw [hx] at h1 h2 h3; cases h1; cases h2; cases h3; rfl) hs' hl]; rfl
      · have ev : valT x.v = ⟨2, [], x.v.n, 0⟩ := by unfold valT; rw [if_pos h1]
        rw [ev] at n1 n3
        have n1 : (nowS l i false).k = 2 := n1
        have n3 : (nowS l i false).n = x.v.n := n3
        rw [if_pos n1, n3]
        rw [show Ex.mk 1 ⟨1, x.v.n, []⟩ [] [] = x from (ex_eta h (show x.v = ⟨1, x.v.n, []⟩ by cases hx : x.v; rw [hx] at h1 h3; cases h1; cases h3; rfl) hs' hl).symm]
      · have ev : valT x.v = ⟨3, x.v.s, 0, 0⟩ := by unfold valT; rw [if_neg (by omega), if_pos h1]
        rw [ev] at n1 n2
        have n1 : (nowS l i false).k = 3 := n1
        have n2 : (nowS l i false).s = x.v.s := n2
        rw [if_neg (by rw [n1]; decide), if_pos n1, n2]
        rw [show Ex.mk 1 ⟨2, 0, x.v.s⟩ [] [] = x from (ex_eta h (show x.v = ⟨2, 0, x.v.s⟩ by cases hx : x.v; rw [hx] at h1 h2; cases h1; cases h2; rfl) hs' hl).symm]
      · have ev : valT x.v = wdT (boolS (decide (x.v.n = 1))) := by unfold valT; rw [if_neg (by omega), if_neg (by omega), if_pos h1]
        rw [ev] at n1 n2
        have n1 : (nowS l i false).k = 1 := n1
        have n2 : (nowS l i false).s = boolS (decide (x.v.n = 1)) := n2
        rw [if_neg (by rw [n1]; decide), if_neg (by rw [n1]; decide), if_pos n1, n2]
        rcases h2 with h2 | h2
        · rw [h2, if_pos (by decide)]
          rw [ex_eta h (show x.v = ⟨3, 0, []⟩ by cases hx : x.v; rw [hx] at h1 h2 h3; cases h1; cases h2; cases h3; rfl) hs' hl]; rfl
        · rw [h2, if_pos (by decide)]
          rw [ex_eta h (show x.v = ⟨3, 1, []⟩ by cases hx : x.v; rw [hx] at h1 h2 h3; cases h1; cases h2; cases h3; rfl) hs' hl]; rfl
    · have et := tkb_2 h
      rw [et] at hs ⊢
      obtain ⟨n1, n2, n3⟩ := now_seg hs
      have n1 : (nowS l i false).k = 1 := n1
      have n2 : (nowS l i false).s = x.s := n2
      have hon : ∀ s, onS l i false 4 s = false := fun s => by rw [on_seg hs]; rfl
      rw [← et]
      refine atom (by rw [levS, if_neg (by omega), if_neg (by omega), if_pos (.inr h)]) (by omega) fun lev h6 h7 => ?_
      rw [rd_atom h6 h7 hi (hon _), et]
      show _ = (x, i + 1, false)
      have hw : wordV x.s = none := by
        have : ∀ s ∈ [[110, 117, 108, 108], [102, 97, 108, 115, 101], [116, 114, 117, 101]], nameOk s = false := by decide +kernel
        unfold wordV
        rw [if_neg (fun e => by rw [e, this _ (by simp)] at hn; cases hn), if_neg (fun e => by rw [e, this _ (by simp)] at hn; cases hn), if_neg (fun e => by rw [e, this _ (by simp)] at hn; cases hn)]
      unfold atomS
      rw [if_neg (by rw [hon]; decide), if_neg (by rw [n1]; decide), if_neg (by rw [n1]; decide), if_pos n1, n2, hw, if_neg (by simp), if_pos hn]
      rw [show Ex.mk 2 v0 x.s [] = x from (ex_eta h hv rfl hl).symm]
    · have et := tkb_3 h hl
      have hl6 : levS x.op = 6 := by rw [levS, if_neg (by omega), if_pos h]
      refine low 6 (by omega) (by omega) (hno (by omega)) ?_
      rw [et] at hs hst ⊢
      have elen : i + (miT :: tks a 6).length = i + 1 + (tks a 6).length := by rw [List.length_cons]; omega
      rw [elen] at hst ⊢
      have hon : onS l i false 4 [45] = true := by rw [on_seg hs]; rfl
      have := (kid a (by rw [hl]; simp) ha).put l (i + 1) 6 6 (by omega) (by have := hs.1.1; omega) (by omega) hs.2 (hst.le (by omega))
      rw [rdN_eq l 6 i false (by omega) hi, if_neg (by decide), if_neg (by decide), if_pos ⟨rfl, hon⟩, this]
      rw [show Ex.mk 3 v0 [] [a] = x from (ex_eta h hv hs' hl).symm]
    · have et := tkb_16 h hl
      have hl0 : levS x.op = 0 := by rw [levS, if_pos h]
      have h0 : lev = 0 := by omega
      subst h0
      rw [et] at hs hst ⊢
      have hif : onS l i false 1 ifT = true := by rw [on_seg hs]; rfl
      obtain ⟨sa, s1⟩ := (seg_app l _ _ (i + 1)).1 hs.2
      obtain ⟨sb, s2⟩ := (seg_app l _ _ _).1 s1.2
      have sc := s2.2
      have g1 : i + 1 + (tks a 0).length < l.length := s1.1.1
      have g2 : i + 1 + (tks a 0).length + 1 + (tks b 0).length < l.length := s2.1.1
      have ra := (kid a (by rw [hl]; simp) ha).put l (i + 1) 0 0 (by omega) (by omega) (.inr (lev_lo _).1) sa (stop_tok s1 th_stop)
      have rb := (kid b (by rw [hl]; simp) hb).put l _ 0 0 (by omega) (by omega) (.inr (lev_lo _).1) sb (stop_tok s2 el_stop)
      have elen : i + (wdT ifT :: (tks a 0 ++ wdT thenT :: (tks b 0 ++ wdT elseT :: tks c 0))).length = i + 1 + (tks a 0).length + 1 + (tks b 0).length + 1 + (tks c 0).length := by
        simp only [List.length_append, List.length_cons]; omega
      rw [elen] at hst ⊢
      have rc := (kid c (by rw [hl]; simp) hc).put l _ 0 0 (by omega) (by omega) (.inr (lev_lo _).1) sc hst
      rw [rdN_eq l 0 i false (by omega) hi, if_neg (by decide), if_pos rfl, if_pos hif]
      unfold branchS
      have m1 : mustS l (i + 1 + (tks a 0).length, false) 1 thenT = (i + 1 + (tks a 0).length + 1, false) := must_hit s1 rfl rfl
      have m2 : mustS l (i + 1 + (tks a 0).length + 1 + (tks b 0).length, false) 1 elseT = (i + 1 + (tks a 0).length + 1 + (tks b 0).length + 1, false) := must_hit s2 rfl rfl
      rw [ra]
      simp only [m1]
      rw [rb]
      simp only [m2]
      rw [rc]
      rw [show Ex.mk 16 v0 [] [a, b, c] = x from (ex_eta h hv hs' hl).symm]
    · have hlb := lev_b h
      have hsl := sg_lev h
      obtain ⟨L, hL⟩ : ∃ L : Nat, (findS x.op).2.2 = (L : Int) := ⟨(findS x.op).2.2.toNat, by omega⟩
      refine low L (by omega) (by omega) (hno (by omega)) ?_
      by_cases h3 : L = 3
      · subst h3
        have et : tkb x = tks a 4 ++ sgT x.op :: tks b 4 := by rw [tkb_b h hl, hL]; rfl
        rw [et] at hs hst ⊢
        obtain ⟨sa, ss⟩ := (seg_app l _ _ i).1 hs
        have hlt : i + (tks a 4).length < l.length := ss.1.1
        have ho : opS l (i + (tks a 4).length) false ((3 : Nat) : Int) = x.op := by rw [op_seg ss, ← hL]; exact sg_op h
        have elen : i + (tks a 4 ++ sgT x.op :: tks b 4).length = i + (tks a 4).length + 1 + (tks b 4).length := by
          simp only [List.length_append, List.length_cons]; omega
        rw [elen] at hst ⊢
        have ra := (kid a (by rw [hl]; simp) ha).put l i 4 4 (by omega) hi (by omega) sa (stop_sg h ss (by omega))
        have rb := (kid b (by rw [hl]; simp) hb).put l (i + (tks a 4).length + 1) 4 4 (by omega) (by omega) (by omega) ss.2 (hst.le (by omega))
        rw [rd_low l 3 i (by omega) (by omega) hi, ra]
        show loopS _ _ _ (l.length + 1) _ _ _ = _
        rw [loopS, ho, if_neg (by omega), rb, if_neg (fun hh => hh.1 rfl)]
        rw [show Ex.mk x.op v0 [] [a, b] = x from (ex_eta rfl hv hs' hl).symm]
      · obtain ⟨n, _, e⟩ := selfL L h hL h3 l i hi hs (hst.le (by omega))
        rw [e]
        exact loop_stop _ _ _ _ _ _ (hst L (by omega))
  have put : ∀ (l : List Tok) (i lev : Nat) (m : Int), lev ≤ 7 → i ≤ l.length → (levS x.op < m ∨ (lev : Int) ≤ levS x.op) → Seg l i (tks x m) → Stop l (i + (tks x m).length) lev → rdN l lev i false = (x, i + (tks x m).length, false) := by
    intro l i lev m h7 hi hlv hs hst
    rw [tks_eq] at hs hst ⊢
    by_cases hm : levS x.op < m
    · rw [if_pos hm] at hs hst ⊢
      obtain ⟨sb, sc⟩ := (seg_app l _ _ (i + 1)).1 hs.2
      have hi1 : i + 1 ≤ l.length := hs.1.1
      have hcl : i + 1 + (tkb x).length < l.length := sc.1.1
      have r0 := body l (i + 1) 0 (by omega) hi1 (lev_lo _).1 sb (stop_tok sc cl_stop)
      have elen : i + (opT :: (tkb x ++ [clT])).length = i + 1 + (tkb x).length + 1 := by simp only [List.length_append, List.length_cons, List.length_nil]; omega
      rw [elen] at hst ⊢
      have at6 : ∀ lev, 6 ≤ lev → lev ≤ 7 → rdN l lev i false = (x, i + 1 + (tkb x).length + 1, false) := fun lev h6 h7 => by
        rw [rd_atom h6 h7 hi (by rw [on_seg hs]; rfl)]
        unfold atomS
        have m3 : mustS l (i + 1 + (tkb x).length, false) 4 [41] = (i + 1 + (tkb x).length + 1, false) := must_hit sc rfl rfl
        rw [if_pos (by rw [on_seg hs]; rfl), r0]
        simp only [m3]
      rcases Nat.lt_or_ge lev 6 with h6 | h6
      · exact rd_down hs ⟨_, _, rfl, fun h => absurd h.1 (by decide)⟩ hi (6 - lev) lev 6 (by omega) (by omega) (at6 6 (by omega) (by omega)) hst
      · exact at6 lev h6 h7
    · rw [if_neg hm] at hs hst ⊢
      exact body l i lev h7 hi (hlv.resolve_left hm) hs hst
  refine ⟨put, ?_⟩
  intro l i L m h1 h5 h3 hi hlv hs hst
  have far : (levS x.op < m ∨ ((L + 1 : Nat) : Int) ≤ levS x.op) → ∃ n, l.length < i + (tks x m).length + n ∧ rdN l L i false = loopS (rdN l (L + 1)) l L n x (i + (tks x m).length) false := fun hlv => by
    refine ⟨l.length + 1, by omega, ?_⟩
    rw [rd_low l L i (by omega) (by omega) hi, put l i (L + 1) m (by omega) hi hlv hs hst]
  by_cases hm : levS x.op < m
  · exact far (.inl hm)
  by_cases hlt : ((L + 1 : Nat) : Int) ≤ levS x.op
  · exact far (.inr hlt)
  have hL : levS x.op = (L : Int) := by have := hlv.resolve_left hm; omega
  have hop : 4 ≤ x.op ∧ x.op ≤ 15 := by
    refine cnt_op hr ?_ ?_ ?_ ?_ <;> intro h <;> rw [h] at hL
    · exact absurd hL (by show (7 : Int) ≠ _; omega)
    · exact absurd hL (by show (7 : Int) ≠ _; omega)
    · exact absurd hL (by show (6 : Int) ≠ _; omega)
    · exact absurd hL (by show (0 : Int) ≠ _; omega)
  have et : tks x m = tkb x := by rw [tks_eq, if_neg hm]
  rw [et] at hs hst ⊢
  exact selfL L hop (by rw [← lev_b hop]; exact hL) h3 l i hi hs hst
theorem parse_put {x : Ex} (hr : rightS x = true) (hb : VB x) (hd : deepS x ≤ 12) (hlen : (putS x 0).length ≤ 200) : parseT (putS x 0) = (x, 0, 0) := by
  obtain ⟨l, e, hk⟩ := lex_put hr hb hlen
  have hs : Seg l 0 (tks x 0) := seg_all l [] hk
  have hll : l.length = (tks x 0).length := by have := congrArg List.length hk; simpa [tks] using this
  have r := (rd_back _ x (Nat.lt_succ_self _) hr).put l 0 0 0 (by omega) (Nat.zero_le _) (.inr (lev_lo _).1) hs (by rw [Nat.zero_add, ← hll]; exact stop_end l)
  rw [Nat.zero_add, ← hll] at r
  have r2 : readT l 0 0 = (x, l.length, 0) := by
    have : rdF l (needS l 0 0) 0 0 false = (x, l.length, false) := r
    unfold readT; rw [this]; rfl
  unfold parseT
  rw [e, r2]
  simp only [ne_eq, not_true, if_false, Nat.lt_irrefl]
  rw [if_neg (by omega)]
end Go.Proofs.YtcdbgeefhpmjfaaGreatDoor
namespace Go.Proofs.YtcdbgeefhpmjfaaGreatDoor
open Go Go.Dx Go.RowKit
mutual
def nmS : Ex → List (List UInt8)
  | .mk op _ s l => (if op = 2 then [s] else []) ++ nmL l
def nmL : List Ex → List (List UInt8)
  | [] => []
  | x :: l => nmS x ++ nmL l
end
theorem nm_eq (x : Ex) : nmS x = (if x.op = 2 then [x.s] else []) ++ nmL x.l := by
  cases x with
  | mk op v s l => rw [nmS]; rfl
theorem nmL_app : ∀ (a b : List Ex), nmL (a ++ b) = nmL a ++ nmL b
  | [], b => rfl
  | x :: a, b => by simp only [List.cons_append, nmL, nmL_app a b, List.append_assoc]
theorem nmL_take (l : List Ex) (k : Nat) (h : k < l.length) : nmL (l.take (k + 1)) = nmL (l.take k) ++ nmS (l.getD k ex0) := by
  rw [List.take_succ_eq_append_getElem h, nmL_app, getD_lt l k ex0 h]
  simp [nmL]
theorem nmL_drop (l : List Ex) (k : Nat) : (nmL (l.take k)).length ≤ (nmL l).length := by
  have := congrArg List.length (show nmL l = nmL (l.take k) ++ nmL (l.drop k) by rw [← nmL_app, List.take_append_drop])
  rw [List.length_append] at this; omega
def addS (l : List (List UInt8)) (s : List UInt8) : List (List UInt8) := if l.contains s = true then l else l ++ [s]
theorem add_len (l : List (List UInt8)) (s : List UInt8) : (addS l s).length ≤ l.length + 1 := by
  unfold addS; split
  · omega
  · simp
theorem adds_len : ∀ (r l : List (List UInt8)), (r.foldl addS l).length ≤ l.length + r.length
  | [], l => Nat.le_refl _
  | s :: r, l => by
    have := adds_len r (addS l s)
    have := add_len l s
    simp only [List.foldl_cons, List.length_cons]; omega
def namesS (x : Ex) : List (List UInt8) := (nmS x).foldl addS []
end Go.Proofs.YtcdbgeefhpmjfaaGreatDoor
namespace Go.Proofs.YtcdbgeefhpmjfaaGreatDoor
open Go Go.Dx Go.RowKit
theorem nmL_mem {l : List Ex} {s : List UInt8} : s ∈ nmL l ↔ ∃ y ∈ l, s ∈ nmS y := by
  induction l with
  | nil => simp [nmL]
  | cons x l ih => rw [nmL]; simp [ih]
theorem right_leaf {x : Ex} (hr : rightS x = true) (h : x.op = 1) : x.l = [] := by
  rw [right_eq] at hr
  simp only [Bool.and_eq_true, decide_eq_true_eq] at hr
  have := hr.1
  rw [show cntS x.op = 0 by rw [h]; rfl] at this
  exact List.length_eq_zero_iff.1 (by omega)
theorem right_leaf2 {x : Ex} (hr : rightS x = true) (h : x.op = 2) : x.l = [] := by
  rw [right_eq] at hr
  simp only [Bool.and_eq_true, decide_eq_true_eq] at hr
  have := hr.1
  rw [show cntS x.op = 0 by rw [h]; rfl] at this
  exact List.length_eq_zero_iff.1 (by omega)
theorem adds_sup : ∀ (r l : List (List UInt8)) (s : List UInt8), s ∈ l → s ∈ r.foldl addS l
  | [], l, s, h => h
  | t :: r, l, s, h => adds_sup r _ s (by
    unfold addS
    split
    · exact h
    · exact List.mem_append_left _ h)
theorem adds_all : ∀ (r l : List (List UInt8)) (s : List UInt8), s ∈ r → s ∈ r.foldl addS l
  | t :: r, l, s, h => by
    rcases List.mem_cons.1 h with rfl | h
    · refine adds_sup r _ s ?_
      unfold addS
      split
      · rename_i h; exact List.contains_iff_mem.1 h
      · simp
    · exact adds_all r _ s h
theorem adds_only : ∀ (r l : List (List UInt8)) (s : List UInt8), s ∈ r.foldl addS l → s ∈ l ∨ s ∈ r
  | [], l, s, h => .inl h
  | t :: r, l, s, h => by
    rcases adds_only r _ s h with h | h
    · unfold addS at h
      split at h
      · exact .inl h
      · rcases List.mem_append.1 h with h | h
        · exact .inl h
        · exact .inr (by simp at h; simp [h])
    · exact .inr (List.mem_cons_of_mem _ h)
theorem names_iff (x : Ex) (s : List UInt8) : s ∈ namesS x ↔ s ∈ nmS x := by
  refine ⟨fun h => ?_, fun h => adds_all _ _ s h⟩
  rcases adds_only (nmS x) [] s h with h | h
  · simp at h
  · exact h
mutual
def cntX : Ex → Nat
  | .mk _ _ _ l => 1 + cntL l
def cntL : List Ex → Nat
  | [] => 0
  | x :: l => cntX x + cntL l
end
theorem cnt_eq (x : Ex) : cntX x = 1 + cntL x.l := by
  cases x with
  | mk o v s l => rw [cntX]; rfl
mutual
theorem nm_cnt : ∀ x : Ex, (nmS x).length ≤ cntX x
  | .mk o v s l => by
    have := nmL_cnt l
    rw [nmS, cntX, List.length_append]
    split <;> simp <;> omega
theorem nmL_cnt : ∀ l : List Ex, (nmL l).length ≤ cntL l
  | [] => by simp [nmL, cntL]
  | x :: l => by
    have := nm_cnt x
    have := nmL_cnt l
    rw [nmL, cntL, List.length_append]; omega
end
mutual
theorem sz_cnt : ∀ x : Ex, cntX x ≤ 9223372036854775807 → szF x = (cntX x : Nat)
  | .mk o v s l, h => by
    rw [cntX] at h
    rw [szF, cntX]
    have := szL_cnt l 1 (by omega)
    rw [show (1 : Int) = ((1 : Nat) : Int) from rfl, this]
theorem szL_cnt : ∀ (l : List Ex) (n : Nat), n + cntL l ≤ 9223372036854775807 → szL (n : Int) l = ((n + cntL l : Nat) : Int)
  | [], n, _ => by simp [szL, cntL]
  | x :: l, n, h => by
    rw [cntL] at h
    rw [szL, cntL, sz_cnt x (by omega), wrap_i64 (by omega) (by omega)]
    have := szL_cnt l (n + cntX x) (by omega)
    rw [show (n : Int) + (cntX x : Nat) = ((n + cntX x : Nat) : Int) by omega, this]
    omega
end
theorem cntL_le {d : Nat} : ∀ l : List Ex, (∀ y ∈ l, cntX y ≤ d) → cntL l ≤ l.length * d
  | [], _ => by simp [cntL]
  | x :: l, h => by
    have := cntL_le l fun y hy => h y (by simp [hy])
    have := h x (by simp)
    rw [cntL, List.length_cons, Nat.succ_mul]; omega
theorem cnt_right : ∀ (d : Nat) (x : Ex), smallX d x = true → rightS x = true → cntX x ≤ 4 ^ d
  | 0, x, h, _ => by unfold smallX at h; cases h
  | d + 1, x, h, hr => by
    rw [small_eq (by omega)] at h
    simp only [Bool.and_eq_true, List.all_eq_true, Nat.add_sub_cancel] at h
    have hlen : x.l.length ≤ 3 ∧ ∀ y ∈ x.l, rightS y = true := by
      by_cases h1 : x.op = 1
      · rw [right_leaf hr h1]; exact ⟨by simp, fun y hy => by simp at hy⟩
      by_cases h2 : x.op = 2
      · rw [right_leaf2 hr h2]; exact ⟨by simp, fun y hy => by simp at hy⟩
      obtain ⟨hop, hl, hch⟩ := right_sub hr h1 h2
      refine ⟨?_, hch⟩
      have : cntS x.op ≤ 3 := by unfold cntS; split; omega; split; omega; split; omega; split <;> omega
      omega
    have hk := cntL_le (d := 4 ^ d) x.l fun y hy => cnt_right d y (h.2 y hy) (hlen.2 y hy)
    have hp : 1 ≤ 4 ^ d := Nat.pos_of_ne_zero (by simp)
    have : x.l.length * 4 ^ d ≤ 3 * 4 ^ d := Nat.mul_le_mul_right _ hlen.1
    rw [cnt_eq, Nat.pow_succ]; omega
theorem names_few {x : Ex} (h : smallX 30 x = true) (hr : rightS x = true) (hs : szF x ≤ 300) : (nmS x).length ≤ 300 := by
  have h1 := cnt_right 30 x h hr
  have h2 : (4 : Nat) ^ 30 ≤ 9223372036854775807 := by decide
  have h3 := sz_cnt x (by omega)
  have := nm_cnt x
  omega
end Go.Proofs.YtcdbgeefhpmjfaaGreatDoor
namespace Go.Proofs.YtcdbgeefhpmjfaaGreatDoor
open Go Go.Dx Go.RowKit
theorem nmS_kid {x : Ex} {j : Nat} {s : List UInt8} (h : s ∈ nmS (x.l.getD j ex0)) : s ∈ nmS x := by
  rw [nm_eq]
  by_cases hj : j < x.l.length
  · exact List.mem_append_right _ (nmL_mem.2 ⟨_, getD_mem x.l j ex0 hj, h⟩)
  · rw [show x.l.getD j ex0 = ex0 by simp [List.getD, List.getElem?_eq_none (Nat.le_of_not_lt hj)]] at h
    simp [ex0, nmS, nmL] at h
theorem evX_same {l : List Col} {r1 r2 : List Val} : ∀ (k : Nat) (x : Ex), (∀ s ∈ nmS x, nameG s l r1 = nameG s l r2) → evX l r1 k x = evX l r2 k x
  | 0, _, _ => rfl
  | k + 1, x, h => by
    have h0 := evX_same k (x.l.getD 0 ex0) fun s hs => h s (nmS_kid hs)
    have h1 := evX_same k (x.l.getD 1 ex0) fun s hs => h s (nmS_kid hs)
    have h2 := evX_same k (x.l.getD 2 ex0) fun s hs => h s (nmS_kid hs)
    rw [evX, evX, h0, h1, h2]
    by_cases hx : x.op = 2
    · rw [h x.s (by rw [nm_eq, if_pos hx]; simp)]
    · rw [if_neg hx, if_neg hx]
theorem nameG_same {s : List UInt8} : ∀ (l : List Col) (r1 r2 : List Val), r1.length = r2.length → (∀ i, i < l.length → (l.getD i c0).name = s → r1.getD i v0 = r2.getD i v0) → nameG s l r1 = nameG s l r2
  | [], _, _, _, _ => by simp [nameG]
  | c :: l, [], [], _, _ => by simp [nameG]
  | c :: l, [], _ :: _, h, _ => by simp at h
  | c :: l, _ :: _, [], h, _ => by simp at h
  | c :: l, a :: r1, b :: r2, h, hi => by
    rw [nameG, nameG]
    by_cases hc : c.name = s
    · have := hi 0 (by simp) (by simpa using hc)
      rw [if_pos hc, if_pos hc, show a = b by simpa using this]
    · rw [if_neg hc, if_neg hc]
      exact nameG_same l r1 r2 (by simpa using h) fun i hil hs => by
        have := hi (i + 1) (by simpa using hil) (by simpa using hs)
        simpa using this
def mixV (l : List Col) (N : List (List UInt8)) (row other : List Val) (j : Nat) : Val := if N.contains (l.getD j c0).name = true then row.getD j v0 else other.getD j v0
def mixI (l : List Col) (N : List (List UInt8)) (row other : List Val) (i k : Nat) : List Val := (List.range other.length).map fun j => if j < i then mixV l N row other j else if j = i then mixV l (N.take k) row other j else other.getD j v0
theorem mix_len (l : List Col) (N : List (List UInt8)) (row other : List Val) (i k : Nat) : (mixI l N row other i k).length = other.length := by simp [mixI]
theorem mix_at (l : List Col) (N : List (List UInt8)) (row other : List Val) (i k j : Nat) (h : j < other.length) : (mixI l N row other i k).getD j v0 = if j < i then mixV l N row other j else if j = i then mixV l (N.take k) row other j else other.getD j v0 := by
  simp [mixI, List.getD, h]
theorem ext_getD {a b : List Val} (hl : a.length = b.length) (h : ∀ j, j < a.length → a.getD j v0 = b.getD j v0) : a = b := by
  refine List.ext_getElem hl fun j h1 h2 => ?_
  have := h j h1
  rwa [getD_lt a j v0 h1, getD_lt b j v0 h2] at this
theorem mix_0 (l : List Col) (N : List (List UInt8)) (row other : List Val) : mixI l N row other 0 0 = other := by
  refine ext_getD (mix_len ..) fun j hj => ?_
  rw [mix_len] at hj
  rw [mix_at _ _ _ _ _ _ _ hj, if_neg (by omega)]
  split
  · simp [mixV]
  · rfl
theorem mix_end (l : List Col) (N : List (List UInt8)) (row other : List Val) (i : Nat) : mixI l N row other i N.length = mixI l N row other (i + 1) 0 := by
  refine ext_getD (by rw [mix_len, mix_len]) fun j hj => ?_
  rw [mix_len] at hj
  rw [mix_at _ _ _ _ _ _ _ hj, mix_at _ _ _ _ _ _ _ hj, List.take_length]
  by_cases h1 : j < i
  · rw [if_pos h1, if_pos (by omega)]
  · by_cases h2 : j = i
    · rw [if_neg h1, if_pos h2, if_pos (by omega)]
    · rw [if_neg h1, if_neg h2, if_neg (by omega)]
      split
      · simp [mixV]
      · rfl
theorem take_has (N : List (List UInt8)) (k : Nat) (h : k < N.length) (s : List UInt8) : (N.take (k + 1)).contains s = ((N.take k).contains s || decide (N.getD k [] = s)) := by
  rw [take_snocD N k [] h]
  simp only [List.contains_eq_any_beq, List.any_append, List.any_cons, List.any_nil, Bool.or_false]
  congr 1
  by_cases e : N.getD k [] = s
  · rw [e]; simp
  · rw [decide_eq_false e]; simpa using fun h => e h.symm
theorem mix_hit (l : List Col) (N : List (List UInt8)) (row other : List Val) (i k : Nat) (hk : k < N.length) (h : (l.getD i c0).name = N.getD k []) : (mixI l N row other i k).set i (row.getD i v0) = mixI l N row other i (k + 1) := by
  refine ext_getD (by rw [List.length_set, mix_len, mix_len]) fun j hj => ?_
  rw [List.length_set, mix_len] at hj
  rw [mix_at _ _ _ _ _ _ _ hj]
  by_cases hji : j = i
  · subst hji
    rw [show ((mixI l N row other j k).set j (row.getD j v0)).getD j v0 = row.getD j v0 by simp [List.getD, mix_len, hj], if_neg (by omega), if_pos rfl, mixV, take_has N k hk, h]
    simp
  · rw [show ((mixI l N row other i k).set i (row.getD i v0)).getD j v0 = (mixI l N row other i k).getD j v0 by simp [List.getD, List.getElem?_set_ne (Ne.symm hji)], mix_at _ _ _ _ _ _ _ hj]
    rw [if_neg hji, if_neg hji]
theorem mix_miss (l : List Col) (N : List (List UInt8)) (row other : List Val) (i k : Nat) (hk : k < N.length) (h : (l.getD i c0).name ≠ N.getD k []) : mixI l N row other i k = mixI l N row other i (k + 1) := by
  refine ext_getD (by rw [mix_len, mix_len]) fun j hj => ?_
  rw [mix_len] at hj
  rw [mix_at _ _ _ _ _ _ _ hj, mix_at _ _ _ _ _ _ _ hj]
  split
  · rfl
  · split
    · rename_i hji
      subst hji
      rw [mixV, mixV, take_has N k hk, decide_eq_false (fun e => h e.symm), Bool.or_false]
    · rfl
theorem mix_all (l : List Col) (N : List (List UInt8)) (row other : List Val) (j : Nat) (h : j < other.length) : (mixI l N row other other.length 0).getD j v0 = mixV l N row other j := by
  rw [mix_at _ _ _ _ _ _ _ h, if_pos h]
theorem mix_names {l : List Col} {row other : List Val} {x : Ex} (hl : l.length = row.length) (ho : other.length = row.length) : ∀ s ∈ nmS x, nameG s l (mixI l (namesS x) row other other.length 0) = nameG s l row := by
  intro s hs
  refine nameG_same l _ row (by rw [mix_len]; exact ho) fun i hi he => ?_
  rw [mix_all _ _ _ _ _ (by omega), mixV, if_pos (by rw [he]; exact List.contains_iff_mem.2 ((names_iff x s).2 hs))]
end Go.Proofs.YtcdbgeefhpmjfaaGreatDoor
