/- Laws of one step of a walk, and of what memory holds. No condition beyond what each names. -/
import Derived.Test.YtopbpdgnjnoddaaDoorDxK
set_option linter.unusedSimpArgs false
set_option linter.unusedVariables false
namespace Go.Dx
open Go Go.RowKit

/-! ### A slice that reads as a list -/
def SlC {α : Type} (T : TypeId) (sz : Nat) (R : View → List Value → α → Prop) (h : View) (v : Value) (l : List α) : Prop :=
  ∃ (a : Option Addr) (cap : Nat), v = .slice a l.length cap ∧ l.length ≤ cap ∧ cap ≤ maxLen ∧
    (l ≠ [] → ∃ g off arr fz, a = some ⟨g, off, none⟩ ∧ (∃ T' : TypeId, h g = some (.cells arr T' fz)) ∧ ∀ i x, l[i]? = some x → ∃ cs, cs.length = sz ∧ R h cs x ∧ (arr.toList.drop (off + i * sz)).take sz = cs)

def flatR {α : Type} (f : α → List Value) : View → List Value → α → Prop := fun _ cs x => cs = f x

section sl
variable {α : Type} {T : TypeId} {sz : Nat} {R : View → List Value → α → Prop} {h h' : View} {v : Value} {l : List α}

theorem SlC.mono (hR : ∀ cs x, Mono fun h => R h cs x) (hs : SlC T sz R h v l) (hle : VLe h h') : SlC T sz R h' v l := by
  obtain ⟨a, cap, hv, h1, h2, h3⟩ := hs
  refine ⟨a, cap, hv, h1, h2, fun hne => ?_⟩
  obtain ⟨g, off, arr, fz, ha, hg, hx⟩ := h3 hne
  exact ⟨g, off, arr, fz, ha, (let ⟨T', hg⟩ := hg; ⟨T', hle _ _ hg⟩), fun i x hi => let ⟨cs, c1, c2, c3⟩ := hx i x hi; ⟨cs, c1, hR cs x _ _ hle c2, c3⟩⟩
theorem SlC.monoF {f : α → List Value} (hs : SlC T sz (flatR f) h v l) (hle : VLe h h') : SlC T sz (flatR f) h' v l := hs.mono (fun _ _ _ _ _ h => h) hle
theorem Mono.sl (hR : ∀ cs x, Mono fun h => R h cs x) : Mono fun h => SlC T sz R h v l := fun _ _ hle hs => hs.mono hR hle
theorem Mono.slF {f : α → List Value} : Mono fun h => SlC T sz (flatR f) h v l := fun _ _ hle hs => hs.monoF hle

/-- what is known of it at once: its parts -/
theorem SlC.parts (hs : SlC T sz R h v l) : ∃ a cap, v = .slice a l.length cap ∧ l.length ≤ cap ∧ cap ≤ maxLen := let ⟨a, cap, hv, h1, h2, _⟩ := hs; ⟨a, cap, hv, h1, h2⟩

/-- element `i`, at its address, in any later world -/
theorem SlC.at {f : α → List Value} {a : Option Addr} {n cap : Nat} (hs : SlC T sz (flatR f) h (.slice a n cap) l) {i : Nat} {x : α} (hi : l[i]? = some x) :
    ∃ g off, a = some ⟨g, off, none⟩ ∧ ∀ w, VLe h (Full w) → ∀ j c, (f x)[j]? = some c → w.cell? ⟨g, off + i * sz + j, none⟩ = some c := by
  obtain ⟨a', cap', hv, h1, h2, h3⟩ := hs
  cases hv
  obtain ⟨g, off, arr, fz, ha, hg, hx⟩ := h3 (by intro e; subst e; simp at hi)
  refine ⟨g, off, ha, fun w hw j c hj => ?_⟩
  obtain ⟨cs, c1, c2, c3⟩ := hx i x hi
  have hcs : cs = f x := c2
  subst hcs
  obtain ⟨T', hg⟩ := hg
  have hgw : w.heap[g]? = some (.cells arr T' fz) := hw _ _ hg
  have : w.cell? ⟨g, off + i * sz + j, none⟩ = arr[off + i * sz + j]? := by simp [World.cell?, hgw]
  rw [this]
  rw [← c3, List.getElem?_take] at hj
  split at hj
  · simpa using hj
  · cases hj
theorem SlC.at1 {f : α → Value} {a : Option Addr} {n cap : Nat} (hs : SlC T 1 (flatR fun x => [f x]) h (.slice a n cap) l) {i : Nat} (hi : i < l.length) :
    ∃ g off, a = some ⟨g, off, none⟩ ∧ ∀ w, VLe h (Full w) → w.cell? ⟨g, off + i * 1, none⟩ = some (f l[i]) := by
  obtain ⟨g, off, ha, H⟩ := hs.at (List.getElem?_eq_getElem hi)
  exact ⟨g, off, ha, fun w hw => H w hw 0 _ rfl⟩

theorem SlC.atD (dflt : α) {f : α → Value} {a : Option Addr} {n cap : Nat} (hs : SlC T 1 (flatR fun x => [f x]) h (.slice a n cap) l) {i : Nat} (hi : i < l.length) :
    ∃ g off, a = some ⟨g, off, none⟩ ∧ ∀ w, VLe h (Full w) → w.cell? ⟨g, off + i * 1, none⟩ = some (f (l.getD i dflt)) := by
  have e : l.getD i dflt = l[i] := by simp [List.getD, hi]
  rw [e]
  exact hs.at1 hi

theorem SlC.take {a : Option Addr} {n cap k : Nat} (hs : SlC T sz R h (.slice a n cap) l) (hk : k ≤ l.length) : SlC T sz R h (.slice a k cap) (l.take k) := by
  obtain ⟨a', cap', hv, h1, h2, h3⟩ := hs
  cases hv
  have hlen : (l.take k).length = k := by simp; omega
  refine ⟨a, cap, by rw [hlen], by omega, h2, fun hne => ?_⟩
  obtain ⟨g, off, arr, fz, ha, hg, hx⟩ := h3 (by intro e; subst e; simp at hne)
  refine ⟨g, off, arr, fz, ha, hg, fun i x hi => hx i x ?_⟩
  rw [List.getElem?_take] at hi
  split at hi
  · exact hi
  · cases hi
theorem SlC.drop {a : Option Addr} {n cap k : Nat} (hs : SlC T sz R h (.slice a n cap) l) (hk : k ≤ l.length) :
    SlC T sz R h (.slice (if cap = k then a else a.map (·.add (k * sz))) (n - k) (cap - k)) (l.drop k) := by
  obtain ⟨a', cap', hv, h1, h2, h3⟩ := hs
  cases hv
  refine ⟨if cap = k then a else a.map (·.add (k * sz)), cap - k, by rw [List.length_drop], by rw [List.length_drop]; omega, by omega, fun hne => ?_⟩
  obtain ⟨g, off, arr, fz, ha, hg, hx⟩ := h3 (by intro e; subst e; simp at hne)
  have hkl : k < l.length := by
    rcases Nat.lt_or_ge k l.length with h | h
    · exact h
    · exact absurd (List.drop_of_length_le h) hne
  refine ⟨g, off + k * sz, arr, fz, ?_, hg, fun i x hi => ?_⟩
  · rw [if_neg (by omega), ha]; simp [add_mk]
  · rw [List.getElem?_drop] at hi
    obtain ⟨cs, c1, c2, c3⟩ := hx _ x hi
    refine ⟨cs, c1, c2, ?_⟩
    rw [← c3]
    congr 2
    rw [Nat.add_mul]; omega
theorem SlC.nil {cap : Nat} {a : Option Addr} (hc : cap ≤ maxLen) : SlC T sz R h (.slice a 0 cap) [] := ⟨a, cap, rfl, Nat.zero_le _, hc, fun h => absurd rfl h⟩

/-- out of a row whose cells are known -/
theorem SlC.ofRow {f : α → List Value} (hf : ∀ x ∈ l, (f x).length = sz) {g off n cap : Nat} {arr : Array Value} {fz : Nat × Nat} (hg : h g = some (.cells arr T fz)) (hn : n = l.length) (hc : n ≤ cap) (hm : cap ≤ maxLen)
    (ha : (arr.toList.drop off).take (n * sz) = (l.map f).flatten) : SlC T sz (flatR f) h (.slice (some ⟨g, off, none⟩) n cap) l := by
  subst hn
  refine ⟨_, cap, rfl, hc, hm, fun _ => ⟨g, off, arr, fz, rfl, ⟨T, hg⟩, fun i x hi => ⟨f x, hf x (List.mem_of_getElem? hi), rfl, ?_⟩⟩⟩
  have key : ∀ (l : List α) (xs : List Value) (i : Nat) (x : α), (∀ x ∈ l, (f x).length = sz) → xs.take (l.length * sz) = (l.map f).flatten → l[i]? = some x → (xs.drop (i * sz)).take sz = f x := by
    intro l
    induction l with
    | nil => intro xs i x _ _ hi; simp at hi
    | cons y l ih =>
      intro xs i x hf hx hi
      have hy : (f y).length = sz := hf y (by simp)
      have e1 : xs.take sz = f y := by
        have := congrArg (List.take sz) hx
        rw [List.take_take, Nat.min_eq_left (by simp only [List.length_cons, Nat.add_mul]; omega)] at this
        rw [this]
        simp [hy]
      match i with
      | 0 => simp at hi; subst hi; simpa using e1
      | i + 1 =>
        have := ih (xs.drop sz) i x (fun z hz => hf z (by simp [hz])) (by
          have h2 := congrArg (List.drop sz) hx
          rw [List.drop_take] at h2
          rw [show (y :: l).length * sz - sz = l.length * sz by simp only [List.length_cons, Nat.add_mul]; omega] at h2
          rw [h2]
          simp [hy]) (by simpa using hi)
        rw [List.drop_drop] at this
        rw [← this]
        congr 2
        rw [Nat.add_mul]; omega
  have := key l (arr.toList.drop off) i x hf ha hi
  rwa [List.drop_drop] at this
end sl

section mem
variable {md : Md} {P : Program} {opsA : Array Oper} {rest : List Oper} {Q : Exit → Act → World → Prop} {a : Act} {w w0 : World} {h0 : View} {M : List Nat} {O : List OE} {F : View → Prop} {n : Nat} {L : FL}
variable {op : Op} {d : Option Nat} {ty t t2 T e : TypeId} {pos : String} {af : Array Edge} {g : Option (Nat × Bool)} {x y : Operand}
theorem pu_iaddr_arn {k : IntKind} {b o sz : Nat} {n : Nat} {i : Int} {j : Nat} (ht : ArT P t n e sz)
    (hx : ev L x = some (.pointer (some ⟨b, o, none⟩))) (hy : ev L y = some (.int k i)) (hj : i = (j : Int)) (h1 : j < n) : Pu P L ⟨d, .indexAddr t x y, ty, pos, af, g⟩ w (.pointer (some ⟨b, o + j * sz, none⟩)) := by
  subst hj
  have := pu_iaddr_ar (P := P) (L := L) (w := w) (d := d) (ty := ty) (pos := pos) (af := af) (g := g) ht hx hy (by omega) (by omega)
  simpa using this
theorem pu_iaddr_sla {k : IntKind} {ad : Option Addr} {b o sz : Nat} {n c : Nat} {i : Int} {j : Nat} (ha : ad = some ⟨b, o, none⟩) (ht : SlT P t e sz)
    (hx : ev L x = some (.slice ad n c)) (hy : ev L y = some (.int k i)) (hj : i = (j : Int)) (h1 : j < n) : Pu P L ⟨d, .indexAddr t x y, ty, pos, af, g⟩ w (.pointer (some ⟨b, o + j * sz, none⟩)) := by
  subst ha hj
  have := pu_iaddr_sl (P := P) (L := L) (w := w) (d := d) (ty := ty) (pos := pos) (af := af) (g := g) ht hx hy (by omega) (by omega)
  simpa using this

/-- a value of the frame that is known by a predicate alone -/
theorem Fr.openP {d : Nat} {v : Value} (hF : Fr a n L) (hv : a.tmps.getD d undef = v) : Fr a n ((d, .val v) :: L) := by
  refine ⟨hF.df, hF.sz, fun i u hi => ?_⟩
  by_cases hk : d = i
  · subst hk
    rw [lk_cons_eq] at hi
    have : v = u := by simpa [vl] using hi
    rw [hv, this]
  · rw [lk_cons_ne hk] at hi
    exact hF.at_ i u hi

theorem buf_str {i : Nat} {v : Value} {l : List UInt8} (hS : St w0 h0 M w O F) (hi : O[i]? = some (bufE e 1 v (l.map v8))) : Src P w v 1 l.length (l.map v8) := by
  obtain ⟨m, hm⟩ := buf_src (P := P) hS hi (v8_one l)
  have : m = l.length := by have := hm.cells; simp at this; exact this.symm
  subst this
  exact hm

/-- a call whose answer is known, seen from whatever view -/
theorem s_calld {dd : Nat} {f : FuncId} {args : List Operand} {vsl : List Value} {ats : Array TypeId} {v : Value} {h : View} (hF : Fr a n L) (hS : St w0 h0 M w O F) (hc : CallOk P f) (ha : evs L args = some vsl)
    (H : Calls P f vsl.toArray w (Ret w h fun u _ => u = v)) (hd : Nat.blt dd n = true)
    (k : ∀ w' a, St w0 h0 M w' O F → Fr a n ((dd, .val v) :: L) → wpM md P opsA Q rest a w') :
    wpM md P opsA Q (⟨some dd, .call ⟨.value (.func f), args.toArray, ats⟩, ty, pos, af, none⟩ :: rest) a w := by
  refine s_ds hF (ds_call (Post := fun u w' => u = v ∧ St w0 h0 M w' O F) hc ha (H.mono ?_)) hd ?_
  · rintro e w' ⟨u, rfl, hk, hv⟩; exact ⟨u, rfl, hv, hS.step hk⟩
  · rintro u w' a' ⟨rfl, hS'⟩ hF'; exact k w' a' hS' hF'
end mem
def MkT (P : Program) (e : TypeId) (sz bytes : Nat) : Prop := ∃ i z, P.info? e = some i ∧ i.zero = some z ∧ z.cells.size = i.size ∧ i.size = sz ∧ i.bytes = bytes
theorem MkT.of {P : Program} {e : TypeId} {sz bytes : Nat} (h3 : (P.info? e).map (fun i => (i.zero.map (·.cells.size), i.size, i.bytes)) = some (some sz, sz, bytes)) : MkT P e sz bytes := by
  cases hi : P.info? e with
  | none => simp [hi] at h3
  | some i =>
    cases hz : i.zero with
    | none => simp [hi, hz] at h3
    | some z => simp [hi, hz] at h3; exact ⟨i, z, hi, hz, by omega, h3.2.1, h3.2.2⟩
end Go.Dx
