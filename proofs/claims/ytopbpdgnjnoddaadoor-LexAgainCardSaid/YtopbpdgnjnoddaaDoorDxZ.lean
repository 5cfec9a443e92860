/- Laws of one step of a walk, and of what memory holds. No condition beyond what each names. -/
import Derived.Test.YtopbpdgnjnoddaaDoorDxP
import Derived.ProofKit
import Derived.SizedLaws
import Derived.Deep.Strs
import Derived.JoinedOf
set_option linter.unusedSimpArgs false
set_option linter.unusedVariables false
namespace Go.Dx
open Go Go.RowKit Go.ChangeShapes Go.WideShapes Go.ChangeAt

theorem Keep.below {w w' : World} (h : Keep [] w w') : Below w.heap.size w w' := ⟨h.os, h.tape, h.output, h.size, fun k hk => h.block k hk (by simp)⟩

section law
variable {H : Type} {enc : TypeId × Value → H}

theorem trodAll_stays {P : Program} (hl : laidOutB P = true) {W W' : World} (hb : Below W.heap.size W W') : ∀ {ts : List TypeId} {vs : List Value} {ds : List (DataW H)} {p : List MemPlace},
    (ts.all fun t => P.readableRec t && decide (t < P.types.size)) = true → DataW.TrodAll enc P W 0 (fun _ => true) true ts vs ds p → DataW.TrodAll enc P W' 0 (fun b => decide (b < W.heap.size)) true ts vs ds p
  | [], [], [], _, _, h => h
  | t :: ts, v :: vs, d :: ds, p, hr, h => by
    have hlt := h.lt
    obtain ⟨p1, q1, h1, h2, rfl⟩ := h
    simp only [List.all_cons, Bool.and_eq_true, decide_eq_true_eq] at hr
    exact ⟨p1, q1, Below.trod hl hr.1.1 hr.1.2 h1 hb fun x hx => hlt x (List.mem_append_left _ hx), trodAll_stays hl hb hr.2 h2, rfl⟩
  | [], _ :: _, _, _, _, h => h.elim
  | [], [], _ :: _, _, _, h => h.elim
  | _ :: _, [], _, _, _, h => h.elim
  | _ :: _, _ :: _, [], _, _, h => h.elim

theorem trodAll_len {P : Program} {w : World} {base : Nat} {spare : Nat → Bool} {held : Bool} : ∀ {ts : List TypeId} {vs : List Value} {ds : List (DataW H)} {ps : List MemPlace}, DataW.TrodAll enc P w base spare held ts vs ds ps → ds.length = ts.length
  | [], [], [], _, _ => rfl
  | _ :: _, _ :: _, _ :: _, _, h => by
    obtain ⟨_, _, _, h2, _⟩ := h
    simp [trodAll_len h2]
  | [], _ :: _, _, _, h => h.elim
  | [], [], _ :: _, _, h => h.elim
  | _ :: _, [], _, _, h => h.elim
  | _ :: _, _ :: _, [], _, h => h.elim
/-- a law: it returns true, and what came in reads as it read -/
theorem law_lifted {C : Checked} {os : Os} {f : FuncId} {fn : Func} {s : ChangeSpec} {tb : TypeId} (hl : laidOutB C.prog = true) (own : ownKnob C.prog.godebug = none) (started : os.Started) (noInit : C.prog.inits.idxOf? f = none) (hfn : C.prog.funcs[f]? = some fn)
    (witness : ∃ (w : World) (tape : Tape) (i : Input), w.os = os ∧ (w.forCall tape i).Shaped C.prog ∧ i.vars = [] ∧ Input.okWide C.prog (w.forCall tape i) .any w.heap.size f i ∧
      s.pre6 enc C.prog fn [] false (w.forCall tape i).memory i.args ∧ ({} : Assume).holds C.prog (lone (Frame.enter C.prog f i.args .normal) [] (w.forCall tape i)))
    (hvars : s.vars = []) (hres : fn.resultTypes.toList = [tb]) (htb : C.prog.underlying tb = some .bool)
    (hrd : (fn.params.toList.all fun t => C.prog.readableRec t && decide (t < C.prog.types.size)) = true)
    (hs : ∀ ds : List (DataW H), ds.length = fn.params.toList.length → (s.fn H ds).results = [.lit (.bool true)] ∧ (s.fn H ds).args = ds ∧ (s.fn H ds).vars = [])
    (contract : ∀ (W : World) (base : Nat) (args : Array Value) (ds : List (DataW H)) (p : List MemPlace), (∀ (j : Nat) t v, fn.params[j]? = some t → args[j]? = some v → Value.okWide C.prog W .any base t v) →
      DataW.TrodAll enc C.prog W 0 (fun _ => true) true fn.params.toList args.toList ds p →
      (DataW.weightsEach C.prog fn.params.toList ds).all (· ≤ reachBytes) = true → Calls C.prog f args W (Ret W (Full W) fun u _ => u = .bool true)) :
    ReturnsInHanded {} C os f .any (s.pre6 enc C.prog fn [] false) (s.post enc C.prog fn false true false false) := by
  refine returnsInHanded_of_change_sized own started noInit hfn witness ?_
  intro W base args ds gs before hval hW _ hsz _
  have hW' := hW
  obtain ⟨p, q, hA, hV, rfl, _, _⟩ := hW
  rw [hvars] at hV
  obtain ⟨rfl, rfl⟩ := trodVars_none hV
  have hpt : s.plain.varTypes C.prog = [] := by
    simp [DataSpec.varTypes, ChangeSpec.plain, hvars]
  rw [hpt] at hsz
  simp only [List.append_nil] at hsz hW'
  have hlen := trodAll_len hA
  obtain ⟨e1, e2, e3⟩ := hs ds hlen
  refine (contract W base args ds p hval hA hsz).mono ?_
  rintro e W' ⟨v, rfl, hk, rfl⟩
  have hb := hk.below
  refine ⟨_, rfl, ds, [], p, [], p, [], hW', ?_, ?_, ?_, hb.frame _, fun h => by cases h⟩
  · rw [List.append_nil, e1, hres]
    have hrs : (Value.bool true).resultList fn.resultTypes.size = [.bool true] := by
      have : fn.resultTypes.size = 1 := by rw [← Array.length_toList, hres]; rfl
      rw [this]; rfl
    rw [hrs]
    exact trodAll_mk1 (shut_bool htb true)
  · rw [List.append_nil, e2]
    exact trodAll_stays hl hb hrd hA
  · rw [List.append_nil, e3, hvars]; rfl

/-! opening -/
theorem open_vs {P : Program} {w : World} {base : Nat} {t : TypeId} {v : Value} {d : DataW H} {ps : List MemPlace} {b0 : Nat} (ht : P.underlying t = some .string) (hok : Value.okWide P w .any b0 t v) (h : DataW.Trod enc P w base (fun _ => true) true t v d ps) :
    ∃ l : List UInt8, v = vs l := by
  obtain ⟨s, rfl, _⟩ := Go.ChangeMaps.open_string ht hok h
  exact ⟨s.data.toList, by cases s; simp [vs]⟩
theorem int_bounds {n : Int} (h : (Lit.int .i64 n).wf = true) : -9223372036854775808 ≤ n ∧ n ≤ 9223372036854775807 := by
  have h1 : IntKind.i64.min = -9223372036854775808 := rfl
  have h2 : IntKind.i64.max = 9223372036854775807 := rfl
  simp only [Lit.wf, Bool.and_eq_true, decide_eq_true_eq] at h
  omega
theorem cellsAt {W : World} {b off n : Nat} {f : Nat → Value} (hn : 0 < n) (h : ∀ i, i < n → W.cell? ⟨b, off + i, none⟩ = some (f i)) : ∃ arr T fz, W.heap[b]? = some (.cells arr T fz) ∧ ∀ i, i < n → arr[off + i]? = some (f i) := by
  have h0 := h 0 hn
  unfold World.cell? at h0
  cases hb : W.heap[b]? with
  | none => simp [hb] at h0
  | some o =>
    cases o with
    | cells arr T fz =>
      refine ⟨arr, T, fz, rfl, fun i hi => ?_⟩
      have := h i hi
      simpa [World.cell?, hb] using this
    | _ => simp [hb] at h0
theorem open_texts {P : Program} {t e : TypeId} {v : Value} {d : DataW H} {ps : List MemPlace} {W : World} {b0 : Nat} (ht : P.underlying t = some (.slice e)) (he : P.underlying e = some .string) (hc : P.cellsOf e = 1)
    (hok : Value.okWide P W .any b0 t v) (h : DataW.Trod enc P W 0 (fun _ => true) true t v d ps) : ∃ (ad : Option Addr) (cap : Nat) (l : List (List UInt8)), v = .slice ad l.length cap ∧ SlC e 1 (flatR fun s => [vs s]) (Full W) (.slice ad l.length cap) l := by
  obtain ⟨a0, n0, c0, rfl⟩ := okWide_slice ht hok
  obtain ⟨fuel, hf⟩ := h
  rcases Go.Deep.open_strs ht he hc hf with ⟨hcs, _⟩ | ⟨a, len, cap, m, Sx, hcs, _, hl, hm, hmm, _, hcell⟩
  · simp [Value.cells] at hcs
    obtain ⟨rfl, rfl, rfl⟩ := hcs
    exact ⟨none, 0, [], rfl, SlC.nil (by simp [maxLen])⟩
  · simp [Value.cells] at hcs
    obtain ⟨rfl, rfl, rfl⟩ := hcs
    simp only [if_true] at hmm
    cases hmm
    let l : List (List UInt8) := (List.range n0).map fun i => (Sx i).data.toList
    have hll : l.length = n0 := by simp [l]
    refine ⟨some a, _, l, by rw [hll], some a, _, rfl, by omega, hm, fun hne => ?_⟩
    have hn0 : 0 < n0 := by rw [← hll]; exact List.length_pos_iff.2 hne
    have hsp : a.spot = none := by simpa [Addr.add] using World.cell?_spot (hcell 0 (by omega)).1
    obtain ⟨b, off, spot⟩ := a
    subst hsp
    obtain ⟨arr, T, fz, hb, harr⟩ := cellsAt (b := b) (off := off) (f := fun i => .string (Sx i)) hn0 (fun i hi => by have := (hcell i (by omega)).1; rwa [add_mk] at this)
    refine ⟨b, off, arr, fz, rfl, ⟨T, hb⟩, fun i x hi => ⟨[vs x], rfl, rfl, ?_⟩⟩
    have hi' : i < n0 := by rw [← hll]; exact (List.getElem?_eq_some_iff.1 hi).1
    have hx : vs x = .string (Sx i) := by
      have : x = (Sx i).data.toList := by simp [l, hi'] at hi; exact hi.symm
      subst this; simp [vs]
    have := harr i hi'
    rw [hx, Nat.mul_one]
    obtain ⟨hlt, hget⟩ := Array.getElem?_eq_some_iff.1 this
    rw [List.drop_eq_getElem_cons (by simpa using hlt)]
    simp [hget]
end law
end Go.Dx
