/- Code, reckoned: what is to be shown of it. No condition. -/
import Derived.Test.YtopbpdgnjnoddaaDoorDx6
set_option linter.unusedSimpArgs false
set_option linter.unusedVariables false
namespace Go.Dx
open Go Go.RowKit

abbrev KN := SL → BL → FV → Prop
def NmOk (c : Cx) (k : KN) (q : Act → World → Prop) : Prop := ∀ L B F a w, k L B F → Dn c L [] B a → Sx c B F w → q a w
structure CP (c : Cx) (code : Code) (L : SL) (B : BL) (F : FV) (kn : KN) (kx : Nat → KN) (kr : KN) : Prop where
  run : ∀ Q a w, NmOk c kn (Q .normal) → (∀ i, NmOk c (kx i) (Q (.exit i))) → NmOk c kr (Q .ret) → PanOk c Q → Dn c L [] B a → Sx c B F w → codeM c.md c.P code Q a w

def pushK : IL → SL → (SL → Prop) → Prop
  | [], L, K => K L
  | (d, _) :: r, L, K => pushK r ((d, .u) :: L) K
def loud : Op → Bool
  | .store .. | .alloc .. | .box .. | .makeMap .. | .makeChan .. | .range .. | .next .. | .mapUpdate .. | .send .. | .recv .. | .select .. | .defer .. | .go .. | .panic .. => true
  | .call ⟨.builtin .append, _, _⟩ | .call ⟨.builtin .copy, _, _⟩ | .call ⟨.builtin .clear, _, _⟩ | .call ⟨.builtin .recover, _, _⟩ => true
  | _ => false
def spK : List Oper → (List Oper → List Oper → Prop) → Prop
  | [], K => K [] []
  | o :: r, K => bif loud o.op then K [] (o :: r) else spK r fun a b => K (o :: a) b
def fstReg : Code → Option Nat
  | .region id _ _ => some id
  | .seq a b => match fstReg a with
    | some i => some i
    | none => fstReg b
  | .cond _ a b => match fstReg a with
    | some i => some i
    | none => fstReg b
  | .block _ a => fstReg a
  | .loop a => fstReg a
  | .scope a => fstReg a
  | _ => none
def isCut (cut : List Nat) (k : Code) : Bool := match cut with
  | [] => false
  | x :: r => match fstReg k with
    | some i => memF (x :: r) i
    | none => false
def regK (c : Cx) (l : List Oper) (L : SL) (B : BL) (F : FV) (kn : KN) : Prop := runs c l true (fun L I B F => pushK I L fun L => kn L B F) l L [] B F
def noRow : SL → Bool
  | [] => true
  | (_, .r ..) :: _ => false
  | (_, _) :: r => noRow r
def clrK : SL → (SL → Prop) → Prop
  | [], K => K []
  | (t, .r ..) :: r, K => clrK r fun r' => K ((t, .u) :: r')
  | (t, s) :: r, K => clrK r fun r' => K ((t, s) :: r')
def regT (c : Cx) (l : List Oper) (L : SL) (B : BL) (F : FV) (kn : KN) : Prop := bif noRow L then spK l fun a b =>
  typT l.toArray a.length c.n = true ∧ runs c l false (fun L I B F => bif noRow L then runs c l true (fun L I B F => pushK I L fun L => kn L B F) b L I B F else clrK L fun L => runs c l true (fun L I B F => pushK I L fun L => kn L B F) b L I B F) a L [] B F else False
def vcC (c : Cx) : Code → SL → BL → FV → KN → (Nat → KN) → KN → Prop
  | .skip, L, B, F, kn, _, _ => kn L B F
  | .region _ ⟨l⟩ false, L, B, F, kn, _, _ => regK c l L B F kn
  | .region i ⟨l⟩ true, L, B, F, kn, kx, kr => match c.md with
    | .wp => bif memF c.stop (1000000 + i) then CP c (.region i ⟨l⟩ true) L B F kn kx kr else regT c l L B F kn
    | _ => CP c (.region i ⟨l⟩ true) L B F kn kx kr
  | .seq a b, L, B, F, kn, kx, kr => bif isCut c.cut b then CP c (.seq a b) L B F kn kx kr else vcC c a L B F (fun L B F => vcC c b L B F kn kx kr) kx kr
  | .cond x a b, L, B, F, kn, kx, kr => rd1 (rdS L [] none) x fun s => match s with
    | .v (.bool t) => (t = true → vcC c a L B F kn kx kr) ∧ (t = false → vcC c b L B F kn kx kr)
    | _ => False
  | .block i a, L, B, F, kn, kx, kr => vcC c a L B F kn (fun j L B F => bif Nat.beq j i then kn L B F else kx j L B F) kr
  | .exit i, L, B, F, _, kx, _ => kx i L B F
  | .scope a, L, B, F, kn, kx, kr => match c.md with
    | .wp => vcC c a L B F kn kx kr
    | _ => CP c (.scope a) L B F kn kx kr
  | .label i, L, B, F, kn, kx, kr => match c.md with
    | .wp => kn L B F
    | _ => CP c (.label i) L B F kn kx kr
  | .ret, L, B, F, _, _, kr => kr L B F
  | k, L, B, F, kn, kx, kr => CP c k L B F kn kx kr

/-! ### It is so -/
theorem pushK_sound : ∀ {I : IL} {L : SL} {K : SL → Prop}, pushK I L K → ∃ L', K L' ∧ ∀ B t v, kv L' [] B t = some v → (lkA I t = none ∧ kv L [] B t = some v)
  | [], L, K, h => ⟨L, h, fun B t v hv => ⟨rfl, hv⟩⟩
  | (d, e) :: r, L, K, h => by
    obtain ⟨L', h1, h2⟩ := pushK_sound (I := r) h
    refine ⟨L', h1, fun B t v hv => ?_⟩
    obtain ⟨g1, g2⟩ := h2 B t v hv
    by_cases hd : d = t
    · subst hd
      simp only [kv, lkA, lkA_eq, Nat.beq_refl, cond_true, dvO] at g2
      cases g2
    · refine ⟨by rw [lkA_ne hd]; exact g1, ?_⟩
      unfold kv at g2 ⊢
      rwa [lkA_ne hd] at g2
theorem inv_nil {L : SL} : Inv L [] := fun d e h => by simp [lkA] at h
theorem push_ok {c : Cx} {kn : KN} {Q : Exit → Act → World → Prop} (h : NmOk c kn (Q .normal)) : NormOk c (fun L I B F => pushK I L fun L => kn L B F) Q := by
  intro L I B F a w hk hD hS
  obtain ⟨L', h1, h2⟩ := pushK_sound hk
  refine h L' B F a w h1 ⟨Fr.of_kv hD.fr.df hD.fr.sz fun t v hv => ?_, inv_nil⟩ hS
  obtain ⟨g1, g2⟩ := h2 B t v hv
  refine hD.fr.kv ?_
  unfold kv at g2 ⊢
  rw [g1]
  exact g2
theorem spK_sound : ∀ {l : List Oper} {K : List Oper → List Oper → Prop}, spK l K → ∃ a b, l = a ++ b ∧ K a b
  | [], K, h => ⟨[], [], rfl, h⟩
  | o :: r, K, h => by
    unfold spK at h
    cases hl : loud o.op with
    | true => rw [hl] at h; exact ⟨[], o :: r, rfl, h⟩
    | false =>
      rw [hl] at h
      obtain ⟨a, b, h1, h2⟩ := spK_sound h
      exact ⟨o :: a, b, by rw [h1]; rfl, h2⟩
theorem noRow_ne : ∀ {L : SL}, noRow L = true → ∀ t e n cs, lkA L t ≠ some (.r e n cs)
  | [], _, t, e, n, cs => by simp [lkA]
  | (k, s) :: r, h, t, e, n, cs => by
    have key : noRow r = true ∧ ∀ e n cs, s ≠ .r e n cs := by
      cases s <;> first | (simp [noRow] at h; done) | exact ⟨h, fun _ _ _ e => by cases e⟩
    by_cases hk : k = t
    · subst hk; rw [lkA_eq]; intro e; exact key.2 _ _ _ (Option.some.inj e)
    · rw [lkA_ne hk]; exact noRow_ne key.1 t e n cs
theorem clrK_sound : ∀ {L : SL} {K : SL → Prop}, clrK L K → ∃ L', K L' ∧ ∀ t, lkA L' t = lkA L t ∨ (∃ e n cs, lkA L t = some (.r e n cs) ∧ lkA L' t = some .u)
  | [], K, h => ⟨[], h, fun t => .inl rfl⟩
  | (k, s) :: r, K, h => by
    have fin : ∀ s', (s' = s ∨ ∃ e n cs, s = .r e n cs ∧ s' = .u) → (clrK r fun r' => K ((k, s') :: r')) → ∃ L', K L' ∧ ∀ t, lkA L' t = lkA ((k, s) :: r) t ∨ (∃ e n cs, lkA ((k, s) :: r) t = some (.r e n cs) ∧ lkA L' t = some .u) := by
      intro s' hs h
      obtain ⟨L', h1, h2⟩ := clrK_sound h
      refine ⟨_, h1, fun t => ?_⟩
      by_cases hk : k = t
      · subst hk
        rw [lkA_eq, lkA_eq]
        rcases hs with rfl | ⟨e, n, cs, rfl, rfl⟩
        · exact .inl rfl
        · exact .inr ⟨e, n, cs, rfl, rfl⟩
      · rw [lkA_ne hk, lkA_ne hk]; exact h2 t
    cases s <;> first | exact fin _ (.inl rfl) h | exact fin _ (.inr ⟨_, _, _, rfl, rfl⟩) h
theorem clr_kv {L L' : SL} {I : IL} {B : BL} (h : ∀ t, lkA L' t = lkA L t ∨ (∃ e n cs, lkA L t = some (.r e n cs) ∧ lkA L' t = some .u)) (t : Nat) : kv L' I B t = kv L I B t := by
  unfold kv
  cases lkA I t with
  | some e => rfl
  | none =>
    rcases h t with h | ⟨e, n, cs, h1, h2⟩
    · rw [h]
    · rw [h1, h2]; rfl
theorem clr_inv {L L' : SL} {I : IL} (h : ∀ t, lkA L' t = lkA L t ∨ (∃ e n cs, lkA L t = some (.r e n cs) ∧ lkA L' t = some .u)) (hI : Inv L I) : Inv L' I := by
  intro d e hd
  rw [← hI d e hd]
  unfold gx
  cases lkA I e.t with
  | some e => rfl
  | none =>
    rcases h e.t with h | ⟨e', n, cs, h1, h2⟩
    · rw [h]
    · rw [h1, h2]
section code
variable {c : Cx} (hT : c.T.Ok c.P)
include hT
theorem regK_sound {i : Nat} {l : List Oper} {L : SL} {B : BL} {F : FV} {kn : KN} {kx : Nat → KN} {kr : KN} (h : regK c l L B F kn) : CP c (.region i ⟨l⟩ false) L B F kn kx kr :=
  ⟨fun Q a w hn _ _ hp hD hS => c_reg ((runs_sound hT l L [] B F h inv_nil).run Q a w (push_ok hn) hp hD hS)⟩
theorem regT_sound {i : Nat} {l : List Oper} {L : SL} {B : BL} {F : FV} {kn : KN} {kx : Nat → KN} {kr : KN} (hmd : c.md = .wp) (h : regT c l L B F kn) : CP c (.region i ⟨l⟩ true) L B F kn kx kr := by
  unfold regT at h
  cases hno : noRow L with
  | false => rw [hno] at h; exact h.elim
  | true =>
  rw [hno] at h
  refine ⟨fun Q a w hn _ _ hp hD hS => ?_⟩
  obtain ⟨l1, l2, rfl, hty, hr⟩ := spK_sound h
  have hsz := hD.fr.sz
  rw [hmd]
  show (Code.region i (l1 ++ l2).toArray true).wp c.P Q a w
  refine wp_region_typed (C := Cty c w (oes B) F) (R := Keep []) l1.length hT.mix (by rw [hsz]; exact hty) (Keep.refl []) (fun w' hk => ⟨hk, hS.st.step hk⟩) ?_
  rw [List.take_left, List.drop_left]
  refine ty_sound hT (K := fun L I B F => bif noRow L then runs c (l1 ++ l2) true (fun L I B F => pushK I L fun L => kn L B F) l2 L I B F else clrK L fun L => runs c (l1 ++ l2) true (fun L I B F => pushK I L fun L => kn L B F) l2 L I B F) ?_ l1 L [] B _ hr inv_nil ⟨?_, ?_⟩ ⟨rfl, hS.bk⟩
  · intro L' I' B' Γ' hk hI' hG' hB' E a' w' hdf hsz' hC _ hs
    have hD' : Dn c L' I' B' a' := ⟨Fr.of_kv (by rw [hdf]; exact hD.fr.df) (by rw [hsz']; exact hsz) fun t v hv => hG'.gv t v (by rw [vl_fl]; exact hv) _ _ (hs t), hI'⟩
    have fin : ∀ L'', Dn c L'' I' B' a' → runs c (l1 ++ l2) true (fun L I B F => pushK I L fun L => kn L B F) l2 L'' I' B' F → wpList c.P (l1 ++ l2).toArray Q l2 a' w' := by
      intro L'' hD'' hk
      have := (runs_sound hT l2 L'' I' B' F hk hD''.inv).run Q a' w' (push_ok hn) hp hD'' (sx_of hB'.oes hB'.bok hC)
      rw [hmd] at this
      exact this
    cases hno' : noRow L' with
    | true => rw [hno'] at hk; exact fin L' hD' hk
    | false =>
      rw [hno'] at hk
      obtain ⟨L'', h1, h2⟩ := clrK_sound hk
      exact fin L'' ⟨Fr.of_kv hD'.fr.df hD'.fr.sz fun t v hv => hD'.fr.kv (by rw [← clr_kv h2]; exact hv), clr_inv h2 hI'⟩ h1
  · intro t v hv u w' hu
    rw [hu]
    exact hD.fr.at_ t v hv
  · intro t e n cs _ h2
    exact absurd h2 (noRow_ne hno t e n cs)
theorem vcC_sound : ∀ (k : Code) (L : SL) (B : BL) (F : FV) (kn : KN) (kx : Nat → KN) (kr : KN), vcC c k L B F kn kx kr → CP c k L B F kn kx kr
  | .skip, L, B, F, kn, kx, kr, h => ⟨fun Q a w hn _ _ _ hD hS => c_skip (hn L B F a w h hD hS)⟩
  | .region i ⟨l⟩ false, L, B, F, kn, kx, kr, h => regK_sound hT h
  | .region i ⟨l⟩ true, L, B, F, kn, kx, kr, h => by
    unfold vcC at h
    split at h
    · rename_i hmd
      cases hm : memF c.stop (1000000 + i) with
      | true => rw [hm] at h; exact h
      | false => rw [hm] at h; exact regT_sound hT hmd h
    · exact h
  | .seq a b, L, B, F, kn, kx, kr, h => by
    unfold vcC at h
    cases hc : isCut c.cut b with
    | true => rw [hc] at h; exact h
    | false =>
      rw [hc] at h
      exact ⟨fun Q a' w hn hx hr hp hD hS => c_seq ((vcC_sound a L B F _ kx kr h).run _ a' w (fun L B F a w hk hD hS => (vcC_sound b L B F kn kx kr hk).run Q a w hn hx hr hp hD hS) hx hr hp hD hS)⟩
  | .cond x a b, L, B, F, kn, kx, kr, h => by
    unfold vcC at h
    obtain ⟨s, hs, h⟩ := rd1_sound h
    split at h
    · refine ⟨fun Q a' w hn hx hr hp hD hS => c_if hD.fr (rdS_ev inv_nil (cx := none) (og := none) rfl yes_none hs rfl) (fun ht => ?_) (fun ht => ?_)⟩
      · exact (vcC_sound a L B F kn kx kr (h.1 ht)).run Q a' w hn hx hr hp hD hS
      · exact (vcC_sound b L B F kn kx kr (h.2 ht)).run Q a' w hn hx hr hp hD hS
    · exact h.elim
  | .block i a, L, B, F, kn, kx, kr, h => by
    unfold vcC at h
    refine ⟨fun Q a' w hn hx hr hp hD hS => c_block ((vcC_sound a L B F _ _ kr h).run _ a' w (fun L B F a w hk hD hS => n_block (hn L B F a w hk hD hS)) (fun j L B F a w hk hD hS => ?_) (fun L B F a w hk hD hS => r_block (hr L B F a w hk hD hS)) hp hD hS)⟩
    cases hb : Nat.beq j i with
    | true =>
      rw [hb] at hk
      obtain rfl := Nat.eq_of_beq_eq_true hb
      exact x_here (hn L B F a w hk hD hS)
    | false =>
      rw [hb] at hk
      exact x_block hb (hx j L B F a w hk hD hS)
  | .exit i, L, B, F, kn, kx, kr, h => ⟨fun Q a w _ hx _ _ hD hS => c_exit (hx i L B F a w h hD hS)⟩
  | .scope a, L, B, F, kn, kx, kr, h => by
    unfold vcC at h
    split at h
    · rename_i hmd
      refine ⟨fun Q a' w hn hx hr hp hD hS => ?_⟩
      have := (vcC_sound a L B F kn kx kr h).run (Exit.noGoto Q) a' w (fun L B F a w hk hD hS => n_scope (hn L B F a w hk hD hS)) (fun j L B F a w hk hD hS => x_scope (hx j L B F a w hk hD hS)) (fun L B F a w hk hD hS => r_scope (hr L B F a w hk hD hS)) hp hD hS
      rw [hmd] at this ⊢
      exact c_scope this
    · exact h
  | .label i, L, B, F, kn, kx, kr, h => by
    unfold vcC at h
    split at h
    · rename_i hmd
      refine ⟨fun Q a w hn _ _ _ hD hS => ?_⟩
      rw [hmd]
      exact c_label (hn L B F a w h hD hS)
    · exact h
  | .ret, L, B, F, kn, kx, kr, h => ⟨fun Q a w _ _ hr _ hD hS => c_ret (hr L B F a w h hD hS)⟩
  | .loop _, L, B, F, kn, kx, kr, h => h
  | .rangeFunc .., L, B, F, kn, kx, kr, h => h
  | .goto _, L, B, F, kn, kx, kr, h => h
  | .refuse _, L, B, F, kn, kx, kr, h => h

/-! ### Loops, and ways that meet again -/
end code
def dstK : List Oper → List Nat → (List Nat → Prop) → Prop
  | [], acc, K => K acc
  | ⟨some d, _, _, _, _, _⟩ :: r, acc, K => dstK r (d :: acc) K
  | ⟨none, _, _, _, _, _⟩ :: r, acc, K => dstK r acc K
def wrsK : Code → List Nat → (List Nat → Prop) → Prop
  | .region _ ⟨l⟩ _, acc, K => dstK l acc K
  | .seq a b, acc, K => wrsK a acc fun acc => wrsK b acc K
  | .cond _ a b, acc, K => wrsK a acc fun acc => wrsK b acc K
  | .block _ a, acc, K => wrsK a acc K
  | .loop a, acc, K => wrsK a acc K
  | .scope a, acc, K => wrsK a acc K
  | _, acc, K => K acc
def keepK (ws : List Nat) : List Nat → SL → (SL → Prop) → Prop
  | _, [], K => K []
  | seen, (t, s) :: r, K => bif memF ws t || memF seen t then keepK ws seen r K else match s with
    | .u => keepK ws (t :: seen) r K
    | s => keepK ws (t :: seen) r fun r' => K ((t, s) :: r')
theorem dstK_sound : ∀ {l : List Oper} {acc : List Nat} {K : List Nat → Prop}, dstK l acc K → ∃ ws, K ws
  | [], acc, K, h => ⟨acc, h⟩
  | ⟨some d, _, _, _, _, _⟩ :: r, acc, K, h => dstK_sound (l := r) h
  | ⟨none, _, _, _, _, _⟩ :: r, acc, K, h => dstK_sound (l := r) h
theorem wrsK_sound : ∀ {k : Code} {acc : List Nat} {K : List Nat → Prop}, wrsK k acc K → ∃ ws, K ws
  | .region _ ⟨l⟩ _, acc, K, h => dstK_sound (l := l) h
  | .seq a b, acc, K, h => let ⟨_, h1⟩ := wrsK_sound (k := a) h; wrsK_sound (k := b) h1
  | .cond _ a b, acc, K, h => let ⟨_, h1⟩ := wrsK_sound (k := a) h; wrsK_sound (k := b) h1
  | .block _ a, acc, K, h => wrsK_sound (k := a) h
  | .loop a, acc, K, h => wrsK_sound (k := a) h
  | .scope a, acc, K, h => wrsK_sound (k := a) h
  | .skip, acc, K, h => ⟨acc, h⟩
  | .rangeFunc .., acc, K, h => ⟨acc, h⟩
  | .exit _, acc, K, h => ⟨acc, h⟩
  | .label _, acc, K, h => ⟨acc, h⟩
  | .goto _, acc, K, h => ⟨acc, h⟩
  | .ret, acc, K, h => ⟨acc, h⟩
  | .refuse _, acc, K, h => ⟨acc, h⟩
theorem memF_cons_ne {k f : Nat} {l : List Nat} (h : memF (k :: l) f = false) : k ≠ f ∧ memF l f = false := by
  by_cases hk : k = f
  · subst hk; simp [memF] at h
  · refine ⟨hk, ?_⟩
    simpa [memF, beq_ne hk] using h
theorem keepK_sound {ws : List Nat} : ∀ {L : SL} {seen : List Nat} {K : SL → Prop}, keepK ws seen L K → ∃ Lk, K Lk ∧ ∀ t s, lkA Lk t = some s → memF ws t = false ∧ memF seen t = false ∧ lkA L t = some s
  | [], seen, K, h => ⟨[], h, fun t s hs => by simp [lkA] at hs⟩
  | (t0, s0) :: r, seen, K, h => by
    unfold keepK at h
    cases hb : (memF ws t0 || memF seen t0) with
    | true =>
      rw [hb] at h
      obtain ⟨Lk, h1, h2⟩ := keepK_sound (ws := ws) (L := r) (seen := seen) (K := K) h
      refine ⟨Lk, h1, fun t s hs => ?_⟩
      obtain ⟨g1, g2, g3⟩ := h2 t s hs
      have : t0 ≠ t := fun e => by subst e; rw [g1, g2] at hb; cases hb
      exact ⟨g1, g2, by rw [lkA_ne this]; exact g3⟩
    | false =>
      rw [hb] at h
      simp only [Bool.or_eq_false_iff] at hb
      simp only [cond_false] at h
      have fin : ∀ K' : SL → Prop, (∀ r', K' r' → ∃ Lk, K Lk ∧ ∀ t s, lkA Lk t = some s → (t = t0 ∧ s = s0) ∨ (t0 ≠ t ∧ lkA r' t = some s)) → keepK ws (t0 :: seen) r K' → ∃ Lk, K Lk ∧ ∀ t s, lkA Lk t = some s → memF ws t = false ∧ memF seen t = false ∧ lkA ((t0, s0) :: r) t = some s := by
        intro K' hK' hk
        obtain ⟨r', h1, h2⟩ := keepK_sound (ws := ws) (L := r) (seen := t0 :: seen) (K := K') hk
        obtain ⟨Lk, g1, g2⟩ := hK' r' h1
        refine ⟨Lk, g1, fun t s hs => ?_⟩
        rcases g2 t s hs with ⟨rfl, rfl⟩ | ⟨hne, hs'⟩
        · exact ⟨hb.1, hb.2, lkA_eq _ _ _⟩
        · obtain ⟨q1, q2, q3⟩ := h2 t s hs'
          exact ⟨q1, (memF_cons_ne q2).2, by rw [lkA_ne hne]; exact q3⟩
      have keep : keepK ws (t0 :: seen) r (fun r' => K ((t0, s0) :: r')) → ∃ Lk, K Lk ∧ ∀ t s, lkA Lk t = some s → memF ws t = false ∧ memF seen t = false ∧ lkA ((t0, s0) :: r) t = some s := fun hk =>
        fin _ (fun r' hr' => ⟨_, hr', fun t s hs => by
          by_cases ht : t0 = t
          · subst ht; rw [lkA_eq] at hs; exact .inl ⟨rfl, (Option.some.inj hs).symm⟩
          · rw [lkA_ne ht] at hs; exact .inr ⟨ht, hs⟩⟩) hk
      cases s0 with
      | u =>
        obtain ⟨Lk, h1, h2⟩ := keepK_sound (ws := ws) (L := r) (seen := t0 :: seen) (K := K) h
        refine ⟨Lk, h1, fun t s hs => ?_⟩
        obtain ⟨g1, g2, g3⟩ := h2 t s hs
        obtain ⟨q1, q2⟩ := memF_cons_ne g2
        exact ⟨g1, q2, by rw [lkA_ne q1]; exact g3⟩
      | v x => exact keep h
      | o k f => exact keep h
      | s k f n cp => exact keep h
      | r e n cs => exact keep h
def noK : BL → Bool
  | [] => true
  | (_, .k ..) :: _ => false
  | (_, _) :: r => noK r
theorem noK_ne : ∀ {B : BL}, noK B = true → ∀ k g b o cs, (k, OB.k g b o cs) ∉ B
  | [], _, k, g, b, o, cs => by simp
  | (k0, ob) :: r, h, k, g, b, o, cs => by
    have key : noK r = true ∧ ∀ g b o cs, ob ≠ .k g b o cs := by
      cases ob <;> first | (simp [noK] at h; done) | exact ⟨h, fun _ _ _ _ e => by cases e⟩
    intro hm
    rcases List.mem_cons.1 hm with e | hm
    · exact key.2 _ _ _ _ (Prod.mk.inj e).2.symm
    · exact noK_ne key.1 _ _ _ _ _ hm
/-- what is known here is as much as is asked there -/
structure Goes (L1 : SL) (B1 : BL) (F1 : FV) (L' : SL) (B' : BL) (F' : FV) : Prop where
  sl : L1.map (fun p => (lkA L' p.1, dvO B' p.2)) = L1.map (fun p => (some p.2, dvO B1 p.2))
  bl : B'.drop (B'.length - B1.length) = B1
  fv : ∀ h, F' h → F1 h
  bk : (∀ h, F1 h → F' h) ∨ noK B1 = true
theorem gs {L1 L' : SL} {B1 B' : BL} {F1 F' : FV} (sl : L1.map (fun p => (lkA L' p.1, dvO B' p.2)) = L1.map (fun p => (some p.2, dvO B1 p.2)) := by rfl)
    (bl : B'.drop (B'.length - B1.length) = B1 := by rfl) (fv : ∀ h, F' h → F1 h := by exact fun _ h => h) (bk : (∀ h, F1 h → F' h) ∨ noK B1 = true := by first | exact .inl fun _ h => h | exact .inr rfl) : Goes L1 B1 F1 L' B' F' := ⟨sl, bl, fv, bk⟩
theorem Goes.dn {c : Cx} {L1 L' : SL} {B1 B' : BL} {F1 F' : FV} {a : Act} (h : Goes L1 B1 F1 L' B' F') (hD : Dn c L' [] B' a) : Dn c L1 [] B1 a := by
  refine ⟨Fr.of_kv hD.fr.df hD.fr.sz fun t v hv => hD.fr.kv ?_, inv_nil⟩
  unfold kv at hv ⊢
  simp only [lkA] at hv ⊢
  cases hl : lkA L1 t with
  | none => rw [hl] at hv; cases hv
  | some s =>
    rw [hl] at hv
    have := map_eq_mem h.sl _ (lkA_mem hl)
    simp only [Prod.mk.injEq] at this
    rw [this.1]
    simp only at hv ⊢
    rw [this.2]; exact hv
theorem St.suffix {c : Cx} {w : World} {F : FV} : ∀ {A O : List OE}, St c.w0 c.h0 c.M w (A ++ O) F → St c.w0 c.h0 c.M w O F
  | [], O, h => h
  | e :: A, O, h => St.suffix (A := A) (by have := h.forget 0; simpa using this)
theorem Goes.sx {c : Cx} {L1 L' : SL} {B1 B' : BL} {F1 F' : FV} {w : World} (h : Goes L1 B1 F1 L' B' F') (hm : Mono F1) (hS : Sx c B' F' w) : Sx c B1 F1 w := by
  have e : B' = B'.take (B'.length - B1.length) ++ B1 := by
    have := (List.take_append_drop (B'.length - B1.length) B').symm
    rwa [h.bl] at this
  refine ⟨?_, fun k g b o cs hk => ?_⟩
  rotate_left
  · rcases h.bk with hb | hb
    · have := hS.bk k g b o cs (by rw [e]; exact List.mem_append_right _ hk)
      exact gc_mk fun hy => fun v w h1 h2 h3 => gc_yes this hy v w h1 (hb _ h2) h3
    · exact absurd hk (noK_ne hb _ _ _ _ _)
  have h1 := hS.st.weak hm h.fv
  rw [e] at h1
  have e2 : ∀ A C : BL, oes (A ++ C) = oes A ++ oes C := fun A C => by simp [oes, List.filterMap_append]
  rw [e2] at h1
  exact St.suffix h1
theorem Sx.mono {c : Cx} {B : BL} {F : FV} {w : World} (hS : Sx c B F w) : Mono F := hS.st.mono

section loops
variable {c : Cx} (hT : c.T.Ok c.P)
include hT
/-- a loop: what changes is told by something that goes along -/
theorem w_loopB {α : Type} (md : α → SL) (Bx : α → BL) (x0 : α) (I : α → Prop) (μ : α → Nat) {k : Code} {L : SL} {B : BL} {F : FV} {kn : KN} {kx : Nat → KN} {kr : KN}
    (h : wrsK k [] fun ws => keepK ws [] L fun Lk => (I x0 ∧ Goes (md x0 ++ Lk) (Bx x0) F L B F) ∧ ∀ x, I x → vcC c k (md x ++ Lk) (Bx x) F (fun L' B' F' => ∃ x', (I x' ∧ μ x' < μ x) ∧ Goes (md x' ++ Lk) (Bx x') F L' B' F') kx kr) :
    CP c (.loop k) L B F kn kx kr := by
  obtain ⟨ws, h⟩ := wrsK_sound h
  obtain ⟨Lk, ⟨⟨h0, hg⟩, hr⟩, _⟩ := keepK_sound h
  refine ⟨fun Q a w hn hx hret hp hD hS => c_loop (α := α) (fun x a w => I x ∧ Dn c (md x ++ Lk) [] (Bx x) a ∧ Sx c (Bx x) F w) μ x0 ⟨h0, hg.dn hD, hg.sx hS.mono hS⟩ fun x a w ⟨hI, hD, hS⟩ => ?_⟩
  refine (vcC_sound hT k _ _ _ _ _ _ (hr x hI)).run _ a w ?_ hx hret hp hD hS
  rintro L' B' F' a' w' ⟨x', ⟨hI', hlt⟩, hg'⟩ hD' hS'
  exact ⟨x', ⟨hI', hg'.dn hD', hg'.sx hS.mono hS'⟩, hlt⟩
theorem w_loop {α : Type} (md : α → SL) (x0 : α) (I : α → Prop) (μ : α → Nat) {k : Code} {L : SL} {B : BL} {F : FV} {kn : KN} {kx : Nat → KN} {kr : KN}
    (h : wrsK k [] fun ws => keepK ws [] L fun Lk => (I x0 ∧ Goes (md x0 ++ Lk) B F L B F) ∧ ∀ x, I x → vcC c k (md x ++ Lk) B F (fun L' B' F' => ∃ x', (I x' ∧ μ x' < μ x) ∧ Goes (md x' ++ Lk) B F L' B' F') kx kr) :
    CP c (.loop k) L B F kn kx kr := w_loopB hT md (fun _ => B) x0 I μ h
/-- ways that meet again -/
theorem w_cutB {α : Type} (md : α → SL) (Bx : α → BL) (I : α → Prop) {k k' : Code} {L : SL} {B : BL} {F : FV} {kn : KN} {kx : Nat → KN} {kr : KN}
    (h : wrsK k [] fun ws => keepK ws [] L fun Lk => vcC c k L B F (fun L' B' F' => ∃ x, I x ∧ Goes (md x ++ Lk) (Bx x) F L' B' F') kx kr ∧ ∀ x, I x → vcC c k' (md x ++ Lk) (Bx x) F kn kx kr) :
    CP c (.seq k k') L B F kn kx kr := by
  obtain ⟨ws, h⟩ := wrsK_sound h
  obtain ⟨Lk, ⟨h1, h2⟩, _⟩ := keepK_sound h
  refine ⟨fun Q a w hn hx hret hp hD hS => c_seq ((vcC_sound hT k _ _ _ _ _ _ h1).run _ a w ?_ hx hret hp hD hS)⟩
  rintro L' B' F' a' w' ⟨x, hI, hg⟩ hD' hS'
  exact (vcC_sound hT k' _ _ _ _ _ _ (h2 x hI)).run Q a' w' hn hx hret hp (hg.dn hD') (hg.sx hS.mono hS')
theorem w_cut {α : Type} (md : α → SL) (I : α → Prop) {k k' : Code} {L : SL} {B : BL} {F : FV} {kn : KN} {kx : Nat → KN} {kr : KN}
    (h : wrsK k [] fun ws => keepK ws [] L fun Lk => vcC c k L B F (fun L' B' F' => ∃ x, I x ∧ Goes (md x ++ Lk) B F L' B' F') kx kr ∧ ∀ x, I x → vcC c k' (md x ++ Lk) B F kn kx kr) :
    CP c (.seq k k') L B F kn kx kr := w_cutB hT md (fun _ => B) I h

/-! ### The entry, the end -/
omit hT in
theorem argL_fl : ∀ (args : List Value) (i : Nat), ∃ L : SL, L = (argL args i).map (fun p => (p.1, match p.2 with | .val v => SV.v v | .prd _ => .u)) := fun _ _ => ⟨_, rfl⟩
def argS : List Value → Nat → SL
  | [], _ => []
  | v :: r, i => (i, .v v) :: argS r (i + 1)
omit hT in
theorem lkA_argS : ∀ (vs : List Value) (i t : Nat) (s : SV), lkA (argS vs i) t = some s → ∃ v, s = .v v ∧ vl (lk (argL vs i) t) = some v
  | [], i, t, s, h => by simp [argS, lkA] at h
  | u :: r, i, t, s, h => by
    unfold argS at h
    unfold argL
    by_cases ht : i = t
    · subst ht; rw [lkA_eq] at h; cases h
      exact ⟨u, rfl, by rw [lk_cons_eq]; rfl⟩
    · rw [lkA_ne ht] at h
      rw [lk_cons_ne ht]
      exact lkA_argS r (i + 1) t s h
def resK (T : Tab) (L : SL) (B : BL) : List ResultVar → (List Value → Prop) → Prop
  | [], K => K []
  | .tmp t :: r, K => match lkA L t with
    | some s => match dvO B s with
      | some v => resK T L B r fun l => K (v :: l)
      | none => False
    | none => False
  | .cell t ty :: r, K => match lkA L t, lkA T.tys ty with
    | some (.o k f), some td => match lkA B k with
      | some (.c _ _ cs) => ldK td cs f fun s => match s with
        | .v v => resK T L B r fun l => K (v :: l)
        | _ => False
      | _ => False
    | _, _ => False
theorem resK_sound {L : SL} {B : BL} {a : Act} {w : World} (hD : Dn c L [] B a) {F : FV} (hw : WOk c.h0 F B w) : ∀ {rs : List ResultVar} {K : List Value → Prop}, resK c.T L B rs K → ∃ vs, K vs ∧ RVs c.P w (fl L [] B) rs vs
  | [], K, h => ⟨[], h, .nil⟩
  | .tmp t :: r, K, h => by
    unfold resK at h
    split at h
    · rename_i s hs
      split at h
      · rename_i v hv
        obtain ⟨vs, h1, h2⟩ := resK_sound hD hw h
        refine ⟨_, h1, .tmp ?_ h2⟩
        rw [vl_fl]; simp only [kv, lkA, hs, hv]
      · exact h.elim
    · exact h.elim
  | .cell t ty :: r, K, h => by
    unfold resK at h
    split at h
    · rename_i k f td hk htd
      split at h
      · rename_i b T cs hl
        have ht := hT.td htd
        have hld : ∀ {K' : SV → Prop}, ldK td cs f K' → ∃ v, K' (.v v) ∧ (loadVar ty ⟨b, f, none⟩).run c.P w = .ok v w := by
          intro K' h
          unfold ldK at h
          cases hag : td.ag with
          | true =>
            rw [hag] at h
            have go : ∀ l : List Value, l.length = td.sz → (∀ j v, l[j]? = some v → cs[f + j]? = some v) → (loadVar ty ⟨b, f, none⟩).run c.P w = .ok (.agg l.toArray) w := by
              intro l hl' hj
              refine run_loadA (by rw [hl']; exact td_agg ht hag) fun j v hjv => ?_
              rw [add_mk, cell_row (hw.own _ _ _ _ hl)]; exact hj j v hjv
            simp only [cond_true] at h
            cases hwh : (Nat.beq f 0 && lenB cs td.sz) with
            | true =>
              rw [hwh] at h
              simp only [Bool.and_eq_true] at hwh
              obtain rfl := Nat.eq_of_beq_eq_true hwh.1
              exact ⟨_, h, go cs (lenB_eq hwh.2) fun j v hjv => by simpa using hjv⟩
            | false =>
              rw [hwh] at h
              obtain ⟨hk, hle⟩ := subK_sound h
              refine ⟨_, hk, go _ (by simp; omega) fun j v hjv => ?_⟩
              rw [List.getElem?_take] at hjv
              split at hjv
              · simpa using hjv
              · cases hjv
          | false =>
            rw [hag] at h
            simp only [cond_false] at h
            split at h
            · rename_i v hv
              rw [nthV_eq] at hv
              exact ⟨v, h, run_load1 (td_one ht hag) (by rw [cell_row (hw.own _ _ _ _ hl)]; exact hv)⟩
            · exact h.elim
        obtain ⟨v, hv, hrun⟩ := hld h
        obtain ⟨vs, h1, h2⟩ := resK_sound hD hw hv
        refine ⟨_, h1, .cell (ad := ⟨b, f, none⟩) ?_ hrun h2⟩
        rw [vl_fl]; simp only [kv, lkA, hk, dvO, hl]
      · exact h.elim
    · exact h.elim
end loops

/-- the entry, by whatever is asked of the end -/
theorem entR {P : Program} {T : Tab} (hT : T.Ok P) {f : FuncId} {fn : Func} {code : Code} {args : List Value} {w0 : World} {h0 : View} {rs : List ResultVar} {n : Nat} {R : Ending → World → Prop} {kp : List PanicEntry → Prop} (stop cut : List Nat)
    (hf : P.funcs[f]? = some fn) (hb : fn.body = some code) (hn : fn.ntmps = n) (hle : Nat.ble args.length n = true) (hr : fn.results = rs.toArray) (hv : VLe h0 (Full w0)) (hp : ∀ ch w, kp ch → Keep [] w0 w → R (.panicked ch) w)
    (h : vcC ⟨P, T, .wp, n, w0, h0, [], kp, stop, cut⟩ code (argS args 0) [] (fun _ => True) (fun L B F => resK T L B rs fun vs => ∀ w, Sx ⟨P, T, .wp, n, w0, h0, [], kp, stop, cut⟩ B F w → R (.returned (tupV vs)) w) (fun _ _ _ _ => False)
      (fun L B F => resK T L B rs fun vs => ∀ w, Sx ⟨P, T, .wp, n, w0, h0, [], kp, stop, cut⟩ B F w → R (.returned (tupV vs)) w)) : Calls P f args.toArray w0 R := by
  refine f_enter hf hb hn hle fun a hF => ?_
  have fin : ∀ L B F a w, (resK T L B rs fun vs => ∀ w, Sx ⟨P, T, .wp, n, w0, h0, [], kp, stop, cut⟩ B F w → R (.returned (tupV vs)) w) → Dn ⟨P, T, .wp, n, w0, h0, [], kp, stop, cut⟩ L [] B a → Sx ⟨P, T, .wp, n, w0, h0, [], kp, stop, cut⟩ B F w → bodyPost P fn R .ret a w := by
    intro L B F a w hk hD hS
    obtain ⟨vs, h1, h2⟩ := resK_sound (c := ⟨P, T, .wp, n, w0, h0, [], kp, stop, cut⟩) hT hD hS.wok hk
    exact f_ret hD.fr hr h2 (h1 w hS)
  refine (vcC_sound (c := ⟨P, T, .wp, n, w0, h0, [], kp, stop, cut⟩) hT code _ _ _ _ _ _ h).run (bodyPost P fn R) a w0 (fun L B F a w hk hD hS => ?_) (fun _ _ _ _ _ _ h => h.elim) fin (fun ch a w hk hd hkeep => ⟨hd, hp ch w hk hkeep⟩) ⟨Fr.of_kv hF.df hF.sz fun t v hv => ?_, inv_nil⟩ ⟨St.init w0 h0 hv, fun k g b o cs hk => by cases hk⟩
  · exact fin L B F a w hk hD hS
  · unfold kv at hv
    simp only [lkA] at hv
    cases hl : lkA (argS args 0) t with
    | none => rw [hl] at hv; cases hv
    | some s =>
      rw [hl] at hv
      obtain ⟨u, rfl, hu⟩ := lkA_argS _ _ _ _ hl
      have : u = v := Option.some.inj hv
      subst this
      exact hF.at_ t u hu
/-- the entry: a function that hands back a known value -/
theorem ent {P : Program} {T : Tab} (hT : T.Ok P) {f : FuncId} {fn : Func} {code : Code} {args : List Value} {w0 : World} {h0 : View} {rs : List ResultVar} {n : Nat} {v : Value} (stop cut : List Nat)
    (hf : P.funcs[f]? = some fn) (hb : fn.body = some code) (hn : fn.ntmps = n) (hle : Nat.ble args.length n = true) (hr : fn.results = rs.toArray) (hv : VLe h0 (Full w0))
    (h : vcC ⟨P, T, .wp, n, w0, h0, [], fun _ => False, stop, cut⟩ code (argS args 0) [] (fun _ => True) (fun L B _ => resK T L B rs fun vs => tupV vs = v) (fun _ _ _ _ => False)
      (fun L B _ => resK T L B rs fun vs => tupV vs = v)) : Calls P f args.toArray w0 (Ret w0 h0 fun u _ => u = v) := by
  refine f_enter hf hb hn hle fun a hF => ?_
  have fin : ∀ L B F a w, (resK T L B rs fun vs => tupV vs = v) → Dn ⟨P, T, .wp, n, w0, h0, [], fun _ => False, stop, cut⟩ L [] B a → Sx ⟨P, T, .wp, n, w0, h0, [], fun _ => False, stop, cut⟩ B F w → bodyPost P fn (Ret w0 h0 fun u _ => u = v) .ret a w := by
    intro L B F a w hk hD hS
    obtain ⟨vs, h1, h2⟩ := resK_sound (c := ⟨P, T, .wp, n, w0, h0, [], fun _ => False, stop, cut⟩) hT hD hS.wok hk
    exact f_ret hD.fr hr h2 (hS.st.retv h1)
  refine (vcC_sound (c := ⟨P, T, .wp, n, w0, h0, [], fun _ => False, stop, cut⟩) hT code _ _ _ _ _ _ h).run (bodyPost P fn _) a w0 fin (fun _ _ _ _ _ _ h => h.elim) fin (fun ch a w hk hd hkeep => hk.elim) ⟨Fr.of_kv hF.df hF.sz fun t v hv => ?_, inv_nil⟩ ⟨St.init w0 h0 hv, fun k g b o cs hk => by cases hk⟩
  unfold kv at hv
  simp only [lkA] at hv
  cases hl : lkA (argS args 0) t with
  | none => rw [hl] at hv; cases hv
  | some s =>
    rw [hl] at hv
    obtain ⟨u, rfl, hu⟩ := lkA_argS _ _ _ _ hl
    have : u = v := Option.some.inj hv
    subst this
    exact hF.at_ t u hu

/-! ### Small laws for the text of a walk -/
/-- a test, as it is said -/
class BP (b : Bool) (p q : outParam Prop) : Prop where
  t : b = true → p
  f : b = false → q
instance (priority := low) bpAny (b : Bool) : BP b (b = true) (b = false) := ⟨id, id⟩
instance bpDec (p : Prop) [Decidable p] : BP (decide p) p (¬p) := ⟨of_decide_eq_true, of_decide_eq_false⟩
instance bpNot (b : Bool) (p q : Prop) [h : BP b p q] : BP (!b) q p := ⟨fun e => h.f (by simpa using e), fun e => h.t (by simpa using e)⟩
instance bpAnd (a b : Bool) (p q p' q' : Prop) [h : BP a p q] [k : BP b p' q'] : BP (a && b) (p ∧ p') (q ∨ q') :=
  ⟨fun e => by simp only [Bool.and_eq_true] at e; exact ⟨h.t e.1, k.t e.2⟩, fun e => by
    cases ha : a with
    | false => exact .inl (h.f ha)
    | true => rw [ha, Bool.true_and] at e; exact .inr (k.f e)⟩
instance bpOr (a b : Bool) (p q p' q' : Prop) [h : BP a p q] [k : BP b p' q'] : BP (a || b) (p ∨ p') (q ∧ q') :=
  ⟨fun e => (by
    cases ha : a with
    | true => exact .inl (h.t ha)
    | false => rw [ha, Bool.false_or] at e; exact .inr (k.t e)), fun e => (by simp only [Bool.or_eq_false_iff] at e; exact ⟨h.f e.1, k.f e.2⟩)⟩
instance bpBqT (b : Bool) (p q : Prop) [h : BP b p q] : BP (bq true b) p q := ⟨h.t, h.f⟩
instance bpBqF (b : Bool) (p q : Prop) [h : BP b p q] : BP (bq false b) q p := ⟨fun e => h.f (by simpa [bq] using e), fun e => h.t (by simpa [bq] using e)⟩
instance bpTrue : BP true True False := ⟨fun _ => trivial, fun e => (by cases e)⟩
instance bpFalse : BP false False True := ⟨fun e => (by cases e), fun _ => trivial⟩
theorem cnd {t : Bool} {p q A C : Prop} [h : BP t p q] (h1 : p → A) (h2 : q → C) : (t = true → A) ∧ (t = false → C) := ⟨fun e => h1 (h.t e), fun e => h2 (h.f e)⟩
theorem cndT {t : Bool} {A C : Prop} (ht : t = true) (h : A) : (t = true → A) ∧ (t = false → C) := ⟨fun _ => h, fun e => by rw [ht] at e; cases e⟩
theorem cndF {t : Bool} {A C : Prop} (ht : t = false) (h : C) : (t = true → A) ∧ (t = false → C) := ⟨fun e => (by rw [ht] at e; cases e), fun _ => h⟩
/-- a sum that stays within 64 bits -/
theorem wi {n : Int} {K : Int → Prop} (k : K n) (h : -9223372036854775808 ≤ n ∧ n ≤ 9223372036854775807 := by omega) : ∃ r, IntKind.i64.wrap n = r ∧ K r := ⟨n, wrap_i64 h.1 h.2, k⟩
/-- whatever is asked of a result -/
theorem ew {α : Type} {p K : α → Prop} (r : α) (h : p r) (k : K r) : ∃ r, p r ∧ K r := ⟨r, h, k⟩
/-- a quotient, a rest -/
theorem qu {m n : Int} {K : Int → Prop} (h : n ≠ 0) (k : K (m.tdiv n)) (hb : -9223372036854775808 ≤ m.tdiv n ∧ m.tdiv n ≤ 9223372036854775807 := by omega) : ∃ r, (n ≠ 0 ∧ IntKind.i64.wrap (m.tdiv n) = r) ∧ K r := ⟨_, ⟨h, wrap_i64 hb.1 hb.2⟩, k⟩
theorem rm {m n : Int} {K : Int → Prop} (h : n ≠ 0) (k : K (m.tmod n)) : ∃ r, (n ≠ 0 ∧ m.tmod n = r) ∧ K r := ⟨_, ⟨h, rfl⟩, k⟩
/-- the end: what is handed back -/
theorem fin {v v' : Value} (h : v = v') : v = v' := h
theorem finB {b : Bool} (h : b = true) : tupV [.bool b] = .bool true := by rw [h]; rfl
/-- structs, held against one another -/
theorem aq {P : Program} {t : Nat} {α : Type} [DecidableEq α] {f : α → List Value} {K : Bool → Prop} (h : EqT P t f) (a b : α) (k : K (decide (a = b))) : ∃ r, AggEq P t (f a) (f b) r ∧ K r := ⟨_, h.ag a b, k⟩
theorem aqg {P : Program} {t : Nat} {α : Type} [DecidableEq α] {f : α → List Value} {K : Bool → Prop} {g : Bool} (h : EqT P t f) (a b : α) (k : K (decide (a = b))) : ∃ r, (g = true → AggEq P t (f a) (f b) r) ∧ K r := ⟨_, fun _ => h.ag a b, k⟩
/-- a text behind a text -/
theorem ct {a b : Nat} {K : Prop} (k : K) (h : a + b ≤ 9223372036854775807 := by first | omega | (simp; done) | (simp; omega)) : (a + b ≤ 9223372036854775807) ∧ K := ⟨h, k⟩
/-- a place in a text -/
theorem ix {i : Int} {m : Nat} {K : Nat → Prop} (j : Nat) (k : K j) (h : i = (j : Int) ∧ j < m := by omega) : ∃ j : Nat, (i = (j : Int) ∧ j < m) ∧ K j := ⟨j, h, k⟩
theorem ixl {i : Int} {m : Nat} {K : Nat → Prop} (j : Nat) (k : K j) (h : i = (j : Int) ∧ j ≤ m := by omega) : ∃ j : Nat, (i = (j : Int) ∧ j ≤ m) ∧ K j := ⟨j, h, k⟩
theorem sl2 {i i2 : Int} {m : Nat} {K : Nat → Nat → Prop} (j j2 : Nat) (k : K j j2) (h : i = (j : Int) ∧ i2 = (j2 : Int) ∧ j ≤ j2 ∧ j2 ≤ m := by omega) : ∃ j j2 : Nat, (i = (j : Int) ∧ i2 = (j2 : Int) ∧ j ≤ j2 ∧ j2 ≤ m) ∧ K j j2 := ⟨j, j2, h, k⟩
theorem ixg {g : Bool} {p q : Prop} [hb : BP g p q] {i : Int} {m : Nat} {K : Nat → Prop} (j : Nat) (k : K j) (h : p → i = (j : Int) ∧ j < m := by intros; omega) : ∃ j : Nat, (g = true → i = (j : Int) ∧ j < m) ∧ K j := ⟨j, fun e => h (hb.t e), k⟩
theorem wig {g : Bool} {p q : Prop} [hb : BP g p q] {n : Int} {K : Int → Prop} (k : K n) (h : p → -9223372036854775808 ≤ n ∧ n ≤ 9223372036854775807 := by intros; omega) : ∃ r, (g = true → IntKind.i64.wrap n = r) ∧ K r := ⟨n, fun e => wrap_i64 (h (hb.t e)).1 (h (hb.t e)).2, k⟩
/-- what a guard was asked of -/
theorem gyes {g : Bool} {p q C X : Prop} [hb : BP g p q] (h : p → C) (k : X) : (g = true → C) ∧ X := ⟨fun e => h (hb.t e), k⟩
/-- a call whose answer is known -/
theorem cl {c : Cx} {sq : Bool} {B : BL} {F : FV} {f : Nat} {vsl : List Value} {Kv : SV → Prop} {W : Prop} {x : Value}
    (H : ∀ w h, VLe h (Full w) → Calls c.P f vsl.toArray w (Ret w h fun u _ => u = x)) (k : Kv (.v x)) : CallG c sq none B F f vsl Kv W := .v x (fun w hS => ⟨c.h0, H w c.h0 hS.st.base⟩) k
/-- the same, of memory that came in -/
theorem cb {c : Cx} {sq : Bool} {B : BL} {F : FV} {f : Nat} {vsl : List Value} {Kv : SV → Prop} {W : Prop} {x : Value}
    (H : ∀ w, VLe c.h0 (Full w) → Calls c.P f vsl.toArray w (Ret w c.h0 fun u _ => u = x)) (k : Kv (.v x)) : CallG c sq none B F f vsl Kv W := .v x (fun w hS => ⟨c.h0, H w hS.st.base⟩) k
theorem clg {c : Cx} {sq g : Bool} {p q : Prop} [hb : BP g p q] {B : BL} {F : FV} {f : Nat} {vsl : List Value} {Kv : SV → Prop} {W : Prop} {x : Value}
    (H : p → ∀ w h, VLe h (Full w) → Calls c.P f vsl.toArray w (Ret w h fun u _ => u = x)) (k : Kv (.v x)) : CallG c sq (some g) B F f vsl Kv W := .v x (fun hg w hS => ⟨c.h0, H (hb.t hg) w c.h0 hS.st.base⟩) k
theorem cbg {c : Cx} {sq g : Bool} {p q : Prop} [hb : BP g p q] {B : BL} {F : FV} {f : Nat} {vsl : List Value} {Kv : SV → Prop} {W : Prop} {x : Value}
    (H : p → ∀ w, VLe c.h0 (Full w) → Calls c.P f vsl.toArray w (Ret w c.h0 fun u _ => u = x)) (k : Kv (.v x)) : CallG c sq (some g) B F f vsl Kv W := .v x (fun hg w hS => ⟨c.h0, H (hb.t hg) w hS.st.base⟩) k
/-! ### Calls that make memory, and what is read of it -/
theorem Sx.add {c : Cx} {B : BL} {F : FV} {w w' : World} {Φ : FV} (hS : Sx c B F w) (hk : Keep [] w w') (hm : Mono Φ) (h : Φ (nv (cv c.w0.heap.size c.h0 (ids (oes B)) w) w w')) : Sx c B (fun h => F h ∧ Φ h) w' :=
  ⟨hS.st.call hk hm h, fun k g b o cs hb => gc_mk fun hy => fun v w h1 h2 h3 => gc_yes (hS.bk k g b o cs hb) hy v w h1 h2.1 h3⟩
theorem SlC.el {h0 : View} {F : FV} {α : Type} {T sz n cp : Nat} {f : α → List Value} {l : List α} {ad : Option Addr} (H : ∀ v, VLe h0 v → F v → SlC T sz (flatR f) v (.slice ad n cp) l) {j : Nat} (d : α) (hj : j < l.length) : ElC h0 F ad (j * sz) (f (l.getD j d)) := by
  intro v h1 h2
  have e : l[j]? = some (l.getD j d) := by simp [List.getD, hj]
  obtain ⟨g, off, rfl, hc⟩ := (H v h1 h2).at e
  exact ⟨rfl, hc⟩
/-- an element of a slice that came in -/
theorem ixs {c : Cx} {F : FV} {α : Type} {T sz n cp : Nat} {f : α → List Value} {l : List α} {ad : Option Addr} {i : Int} {X : Nat → List Value → Prop} (H : SlC T sz (flatR f) c.h0 (.slice ad n cp) l) (j : Nat) (d : α) (k : X j (f (l.getD j d)))
    (h : i = (j : Int) ∧ j < l.length := by omega) (hn : n = l.length := by rfl) : ∃ (j : Nat) (cs : List Value), (i = (j : Int) ∧ j < n ∧ ElC c.h0 F ad (j * sz) cs) ∧ X j cs :=
  ⟨j, _, ⟨h.1, by omega, SlC.el (fun v h1 _ => H.monoF h1) d h.2⟩, k⟩
theorem ixsg {c : Cx} {F : FV} {g : Bool} {p q : Prop} [hb : BP g p q] {α : Type} {T sz n cp : Nat} {f : α → List Value} {l : List α} {ad : Option Addr} {i : Int} {X : Nat → List Value → Prop} (H : SlC T sz (flatR f) c.h0 (.slice ad n cp) l) (j : Nat) (d : α) (k : X j (f (l.getD j d)))
    (h : p → i = (j : Int) ∧ j < l.length := by intros; omega) (hn : n = l.length := by rfl) : ∃ (j : Nat) (cs : List Value), (g = true → i = (j : Int) ∧ j < n ∧ ElC c.h0 F ad (j * sz) cs) ∧ X j cs :=
  ⟨j, _, fun e => ⟨(h (hb.t e)).1, by have := (h (hb.t e)).2; omega, SlC.el (fun v h1 _ => H.monoF h1) d (h (hb.t e)).2⟩, k⟩
/-- an element of a slice that is known by the facts -/
theorem ixf {c : Cx} {F : FV} {α : Type} {T sz n cp : Nat} {f : α → List Value} {l : List α} {ad : Option Addr} {i : Int} {X : Nat → List Value → Prop} (H : ∀ v, F v → SlC T sz (flatR f) v (.slice ad n cp) l) (j : Nat) (d : α) (k : X j (f (l.getD j d)))
    (h : i = (j : Int) ∧ j < l.length := by omega) (hn : n = l.length := by rfl) : ∃ (j : Nat) (cs : List Value), (i = (j : Int) ∧ j < n ∧ ElC c.h0 F ad (j * sz) cs) ∧ X j cs :=
  ⟨j, _, ⟨h.1, by omega, SlC.el (fun v _ h2 => H v h2) d h.2⟩, k⟩
theorem ixfg {c : Cx} {F : FV} {g : Bool} {p q : Prop} [hb : BP g p q] {α : Type} {T sz n cp : Nat} {f : α → List Value} {l : List α} {ad : Option Addr} {i : Int} {X : Nat → List Value → Prop} (H : ∀ v, F v → SlC T sz (flatR f) v (.slice ad n cp) l) (j : Nat) (d : α) (k : X j (f (l.getD j d)))
    (h : p → i = (j : Int) ∧ j < l.length := by intros; omega) (hn : n = l.length := by rfl) : ∃ (j : Nat) (cs : List Value), (g = true → i = (j : Int) ∧ j < n ∧ ElC c.h0 F ad (j * sz) cs) ∧ X j cs :=
  ⟨j, _, fun e => ⟨(h (hb.t e)).1, by have := (h (hb.t e)).2; omega, SlC.el (fun v _ h2 => H v h2) d (h (hb.t e)).2⟩, k⟩
/-- a guarded operation's facts hold where they are asked for -/
theorem kgy {g g1 : Bool} {p q p' q' X : Prop} [h : BP g p q] (k : X) (hk : g = true → g1 = true := by exact id) : (g = true → g1 = true) ∧ X := ⟨hk, k⟩

section calls2
variable {c : Cx} (hT : c.T.Ok c.P)
include hT
/-- a call, by whatever it leaves: the state behind it -/
theorem w_call {al : List Oper} {K : KR} {d : Nat} {f : Nat} {args : List Operand} {ats : Array TypeId} {ty : TypeId} {pos : String} {af : Array Edge} {r : List Oper} {L : SL} {I : IL} {B : BL} {F : FV} {vsl : List Value} {Ψ : Value → World → World → Prop}
    (hI : noLab I d = true) (hf : memF c.T.fs f = true) (hv : argK (rdS L I none) B args fun l => l = vsl) (H : ∀ w, Sx c B F w → Calls c.P f vsl.toArray w (fun e w' => ∃ v, e = .returned v ∧ Ψ v w w'))
    (k : ∀ v w w', Sx c B F w → Ψ v w w' → ∃ (L' : SL) (I' : IL) (B' : BL) (F' : FV), runs c al true K r L' I' B' F' ∧ Inv L' I' ∧ Sx c B' F' w' ∧ Nat.blt d c.n = true ∧ ∃ rr, (∀ t, kv L' I' B' t = if t = d then rr else kv L I B t) ∧ ∀ u, rr = some u → u = v) (hInv : Inv L I) :
    WP c al (⟨some d, .call ⟨.value (.func f), ⟨args⟩, ats⟩, ty, pos, af, none⟩ :: r) L I B F K := by
  obtain ⟨l, rfl, hev⟩ := argK_sound (hρ_of (B := B) hInv (cx := none) (og := none) rfl) hv
  refine ⟨fun Q a w hn hp hD hS => ?_⟩
  have hds : Ds c.P (fl L I B) ⟨some d, .call ⟨.value (.func f), args.toArray, ats⟩, ty, pos, af, none⟩ w fun v w' => Ψ v w w' := ds_call (hT.call hf) (hev yes_none) (H w hS)
  refine wpM_plain rfl fun K' hK => opM_of_does ?_
  have := hds a.eval (fun x _ u hu => hD.fr.ev hu)
  have fin : ∀ v w', Ψ v w w' → K' (a.put (some d) v) w' := by
    intro v w' hΨ
    obtain ⟨L', I', B', F', hr, hI', hS', hd, rr, hkv, hrr⟩ := k v w w' hS hΨ
    exact hK _ _ ((runs_sound hT r L' I' B' F' hr hI').run Q _ w' hn hp (Dn.cons (hD.fr.put hd v) hI' hkv hrr) hS')
  unfold Does at *
  generalize (execOp a.eval _).run c.P w = r at *
  cases r with
  | ok nx w' =>
    cases nx <;> simp only [DoesR] at this ⊢
    case value u => exact fin _ _ this
    case enter f args => exact this.mono fun e w'' ⟨u, he, hv⟩ => ⟨u, he, fin _ _ hv⟩
  | halt x w' => exact this.elim
/-- a call that hands back a new buffer ahead of other values: it is read from now on -/
theorem cS {al : List Oper} {K : KR} {d f : Nat} {args : List Operand} {ats : Array TypeId} {ty : TypeId} {pos : String} {af : Array Edge} {r : List Oper} {L : SL} {B : BL} {F : FV} {vsl tl : List Value} {Kv : SV → Prop} {α : Type} {T sz : Nat} {g : α → List Value} {l : List α}
    (H : ∀ w, VLe c.h0 (Full w) → Calls c.P f vsl.toArray w (RetM [] w fun v w' => ∃ u, v = .tuple (u :: tl).toArray ∧ NewBuf w T sz (l.map g).flatten u w'))
    (k : ∀ ad cp, runs c al true K r ((d, .v (.tuple (Value.slice ad l.length cp :: tl).toArray)) :: L) [] B (fun h => F h ∧ SlC T sz (flatR g) h (.slice ad l.length cp) l))
    (hg : ∀ x ∈ l, (g x).length = sz := by intros; rfl) (hsz : 0 < sz := by decide) (hf : memF c.T.fs f = true := by rfl) (hv : argK (rdS L [] none) B args fun l => l = vsl := by exact rfl) (hd : Nat.blt d c.n = true := by rfl) :
    CallG c true none B F f vsl Kv (WP c al (⟨some d, .call ⟨.value (.func f), ⟨args⟩, ats⟩, ty, pos, af, none⟩ :: r) L [] B F K) := by
  refine .w rfl (w_call hT (Ψ := fun v w w' => Keep [] w w' ∧ ∃ u, v = .tuple (u :: tl).toArray ∧ NewBuf w T sz (l.map g).flatten u w') rfl hf hv (fun w hS => (H w hS.st.base).mono ?_) ?_ inv_nil)
  · rintro e w' ⟨v, rfl, hk, hu⟩; exact ⟨v, rfl, hk, hu⟩
  · rintro v w w' hS ⟨hk, u, rfl, hB⟩
    obtain ⟨a0, nn, cp, rfl, hn⟩ := hB.form
    have hlen : (l.map g).flatten.length = l.length * sz := by
      clear hB hn k H
      induction l with
      | nil => simp
      | cons x l ih =>
        rw [List.map_cons, List.flatten_cons, List.length_append, hg x (by simp), ih fun y hy => hg y (by simp [hy]), List.length_cons, Nat.succ_mul]; omega
    have hnn : nn = l.length := Nat.eq_of_mul_eq_mul_right hsz (by rw [hn, hlen])
    subst hnn
    refine ⟨_, _, B, _, k a0 cp, inv_nil, hS.add hk Mono.slF ?_, hd, some (.tuple (Value.slice a0 l.length cp :: tl).toArray), fun t => ?_, fun u hu => (Option.some.inj hu).symm⟩
    · refine BufC.sl hB.1 (fun b hb => ?_) hg rfl
      rw [hb]
      unfold nv
      rw [if_neg (by have := (hB.2 b hb).1; omega)]
      rfl
    · unfold kv
      simp only [lkA]
      by_cases ht : t = d
      · subst ht; simp [dvO]
      · rw [beq_ne (Ne.symm ht), if_neg ht]; rfl
/-- a call whose answer is known by what memory holds -/
theorem cF {al : List Oper} {K : KR} {d f : Nat} {args : List Operand} {ats : Array TypeId} {ty : TypeId} {pos : String} {af : Array Edge} {r : List Oper} {L : SL} {B : BL} {F : FV} {vsl : List Value} {Kv : SV → Prop} {Ψ : Value → FV}
    (H : ∀ w v, VLe c.h0 v → F v → VLe v (Full w) → Calls c.P f vsl.toArray w (Ret w v Ψ)) (hm : ∀ u, Mono (Ψ u))
    (k : ∀ u, runs c al true K r ((d, .v u) :: L) [] B (fun h => F h ∧ Ψ u h))
    (hf : memF c.T.fs f = true := by rfl) (hv : argK (rdS L [] none) B args fun l => l = vsl := by exact rfl) (hd : Nat.blt d c.n = true := by rfl) :
    CallG c true none B F f vsl Kv (WP c al (⟨some d, .call ⟨.value (.func f), ⟨args⟩, ats⟩, ty, pos, af, none⟩ :: r) L [] B F K) := by
  refine .w rfl (w_call hT (Ψ := fun v w w' => Keep [] w w' ∧ Ψ v (nv (cv c.w0.heap.size c.h0 (ids (oes B)) w) w w')) rfl hf hv (fun w hS => (H w _ hS.st.base_cv hS.st.facts hS.st.view).mono ?_) ?_ inv_nil)
  · rintro e w' ⟨v, rfl, hk, hu⟩; exact ⟨v, rfl, hk, hu⟩
  · rintro v w w' hS ⟨hk, hΨ⟩
    refine ⟨_, _, B, _, k v, inv_nil, hS.add hk (hm v) hΨ, hd, some v, fun t => ?_, fun u hu => (Option.some.inj hu).symm⟩
    unfold kv
    simp only [lkA]
    by_cases ht : t = d
    · subst ht; simp [dvO]
    · rw [beq_ne (Ne.symm ht), if_neg ht]; rfl
end calls2
/-- a call of what the facts know -/
theorem cf {c : Cx} {sq : Bool} {B : BL} {F : FV} {f : Nat} {vsl : List Value} {Kv : SV → Prop} {W : Prop} {x : Value}
    (H : ∀ w v, VLe c.h0 v → F v → VLe v (Full w) → Calls c.P f vsl.toArray w (Ret w v fun u _ => u = x)) (k : Kv (.v x)) : CallG c sq none B F f vsl Kv W := .v x (fun w hS => ⟨_, H w _ hS.st.base_cv hS.st.facts hS.st.view⟩) k
theorem cfg {c : Cx} {sq g : Bool} {p q : Prop} [hb : BP g p q] {B : BL} {F : FV} {f : Nat} {vsl : List Value} {Kv : SV → Prop} {W : Prop} {x : Value}
    (H : p → ∀ w v, VLe c.h0 v → F v → VLe v (Full w) → Calls c.P f vsl.toArray w (Ret w v fun u _ => u = x)) (k : Kv (.v x)) : CallG c sq (some g) B F f vsl Kv W := .v x (fun hg w hS => ⟨_, H (hb.t hg) w _ hS.st.base_cv hS.st.facts hS.st.view⟩) k
/-- a call that is handed a row of the caller's own -/
theorem co {c : Cx} {sq : Bool} {B : BL} {F : FV} {f : Nat} {vsl : List Value} {Kv : SV → Prop} {W : Prop} {x : Value}
    (H : ∀ w, Sx c B F w → Calls c.P f vsl.toArray w (Ret w (Full w) fun u _ => u = x)) (k : Kv (.v x)) : CallG c sq none B F f vsl Kv W := .v x (fun w hS => ⟨_, H w hS⟩) k
/-- a row of one's own, read as a list -/
theorem Sx.row {c : Cx} {B : BL} {F : FV} {w : World} {k b T sz n cp : Nat} {cs : List Value} {α : Type} {g : α → List Value} {l : List α} {T' : Nat} (hS : Sx c B F w) (hk : lkA B k = some (.c b T cs)) (hcs : cs = (l.map g).flatten) (hg : ∀ x ∈ l, (g x).length = sz := by intros; rfl) (hn : n = l.length := by rfl) (hc : n ≤ cp := by decide) (hm : cp ≤ maxLen := by decide) :
    SlC T' sz (flatR g) (Full w) (.slice (some ⟨b, 0, none⟩) n cp) l := by
  have h : SlC T sz (flatR g) (Full w) (.slice (some ⟨b, 0, none⟩) n cp) l := by
    refine SlC.ofRow hg (hS.wok.own _ _ _ _ hk) hn hc hm ?_
    have hlen : ∀ l : List α, (∀ x ∈ l, (g x).length = sz) → (l.map g).flatten.length = l.length * sz := by
      intro l
      induction l with
      | nil => simp
      | cons x l ih =>
        intro hg
        rw [List.map_cons, List.flatten_cons, List.length_append, hg x (by simp), ih fun y hy => hg y (by simp [hy]), List.length_cons, Nat.succ_mul]; omega
    rw [hcs, hn]
    simp only [List.drop_zero]
    exact List.take_of_length_le (by rw [hlen l hg]; exact Nat.le_refl _)
  exact h
end Go.Dx
