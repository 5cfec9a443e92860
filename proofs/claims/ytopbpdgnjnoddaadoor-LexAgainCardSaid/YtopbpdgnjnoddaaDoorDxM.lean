/- Laws of one step of a walk, and of what memory holds. No condition beyond what each names. -/
import Derived.Test.YtopbpdgnjnoddaaDoorDxL
set_option linter.unusedSimpArgs false
set_option linter.unusedVariables false
namespace Go.Dx
open Go Go.RowKit

/-- what a call leaves that writes the blocks of `M` -/
def RetM (M : List Nat) (w : World) (Ψ : Value → World → Prop) : Ending → World → Prop := fun e w' => ∃ v, e = .returned v ∧ Keep M w w' ∧ Ψ v w'
def FullB (w : World) (b : Nat) : View := fun k => if k = b then none else w.heap[k]?

section mem
variable {md : Md} {P : Program} {opsA : Array Oper} {rest : List Oper} {Q : Exit → Act → World → Prop} {a : Act} {w w0 : World} {h0 : View} {M : List Nat} {O : List OE} {F : View → Prop} {n : Nat} {L : FL}
variable {op : Op} {d : Option Nat} {ty t t2 T e : TypeId} {pos : String} {af : Array Edge} {g : Option (Nat × Bool)} {x y : Operand}

theorem St.retM {Ψ : Value → World → Prop} {v : Value} (hS : St w0 h0 M w O F) (h : Ψ v w) : RetM M w0 Ψ (.returned v) w := ⟨v, rfl, hS.keep, h⟩

theorem St.initL (w : World) (h : View) (hv : VLe h (Full w)) (O0 : List OE) (hO : ∀ e ∈ O0, e.2 (e.1.bind fun b => w.heap[b]?)) (hlt : ∀ b ∈ ids O0, b < w.heap.size ∧ h b = none) (hnd : (ids O0).Nodup) :
    St w h (ids O0) w O0 fun _ => True :=
  ⟨Keep.refl _ _, fun k o hk => ⟨hv k o hk, fun hm => by rw [(hlt k hm).2] at hk; cases hk⟩, hO, fun b hb => ⟨.inr hb, (hlt b hb).1⟩, hnd, Mono.tru, trivial⟩
theorem St.init1 (w : World) (h : View) (hv : VLe h (Full w)) (b : Nat) (C : Option Obj → Prop) {o : Obj} (hb : w.heap[b]? = some o) (hC : C (some o)) (hn : h b = none) : St w h [b] w [(some b, C)] fun _ => True :=
  St.initL w h hv [(some b, C)] (fun e he => by have : e = (some b, C) := by simpa using he
                                                subst this; simpa [hb] using hC)
    (fun c hc => by have : c = b := by simpa [ids] using hc
                    subst this; exact ⟨(Array.getElem?_eq_some_iff.1 hb).1, hn⟩) (by simp [ids])

theorem fullB_le (w : World) (b : Nat) : VLe (FullB w b) (Full w) := fun k o h => by unfold FullB at h; split at h; cases h; exact h
theorem fullB_none (w : World) (b : Nat) : FullB w b b = none := by simp [FullB]
theorem St.base_fb {b : Nat} (hS : St w0 h0 M w O F) (hb : b ∈ ids O) : VLe h0 (FullB w b) := fun k o hk => by
  have h1 := hS.base k o hk
  unfold FullB
  rw [if_neg]
  · exact h1
  · intro e
    subst e
    have h2 := hS.vw k o hk
    rcases (hS.fresh k hb).1 with h | h
    · have := (Array.getElem?_eq_some_iff.1 h2.1).1; omega
    · exact h2.2 h

theorem s_callM1 {dd i b : Nat} {C C' : Option Obj → Prop} {f : FuncId} {args : List Operand} {vsl : List Value} {ats : Array TypeId} {v0 : Value} (hF : Fr a n L) (hS : St w0 h0 M w O F) (hi : O[i]? = some (some b, C)) (hc : CallOk P f) (ha : evs L args = some vsl)
    (H : Calls P f vsl.toArray w (RetM [b] w fun v w' => v = v0 ∧ C' w'.heap[b]?)) (hd : Nat.blt dd n = true)
    (k : ∀ w' a, St w0 h0 M w' (O.set i (some b, C')) F → Fr a n ((dd, .val v0) :: L) → wpM md P opsA Q rest a w') :
    wpM md P opsA Q (⟨some dd, .call ⟨.value (.func f), args.toArray, ats⟩, ty, pos, af, none⟩ :: rest) a w := by
  refine s_ds hF (ds_call (Post := fun u w' => u = v0 ∧ St w0 h0 M w' (O.set i (some b, C')) F) hc ha (H.mono ?_)) hd ?_
  · rintro e w' ⟨u, rfl, hk, hv, hC⟩; exact ⟨u, rfl, hv, hS.write hi hk hC⟩
  · rintro u w' a' ⟨rfl, hS'⟩ hF'; exact k w' a' hS' hF'

/-! constant rows and structs -/
def fillL (places : List (Nat × Nat)) : List Value → List (Nat × Value) → Option (List Value)
  | cs, [] => some cs
  | cs, (i, v) :: r => match places[i]? with
    | none => none
    | some (off, size) => if v.cells.size ≠ size ∨ off + v.cells.size > cs.length then none else fillL places (spl cs off v.cells.toList) r

theorem fill_eq (places : List (Nat × Nat)) (place : Nat → Option (Nat × Nat)) (hp : ∀ i, places[i]? ≠ none → place i = places[i]?) : ∀ (parts : List (Nat × Value)) (cs cs' : List Value), fillL places cs parts = some cs' → Instr.fill place cs.toArray parts = some cs'.toArray
  | [], cs, cs', h => by simp [fillL] at h; subst h; rfl
  | (i, v) :: r, cs, cs', h => by
    unfold fillL at h
    cases hpl : places[i]? with
    | none => simp [hpl] at h
    | some p =>
      obtain ⟨off, size⟩ := p
      simp only [hpl] at h
      split at h
      · cases h
      · rename_i hng
        have hpi : place i = some (off, size) := by rw [hp i (by rw [hpl]; simp), hpl]
        unfold Instr.fill
        simp only [hpi]
        rw [if_neg (by simpa using hng)]
        have hsz : off + v.cells.size ≤ cs.length := by omega
        have e : (v.cells.zipIdx.foldl (fun cs (c, j) => cs.setIfInBounds (off + j) c) cs.toArray) = (spl cs off v.cells.toList).toArray := by
          apply Array.ext'
          have := foldl_set v.cells.toList off 0 cs.toArray (by simpa using hsz)
          simp only [Nat.add_zero] at this
          rw [show (spl cs off v.cells.toList).toArray.toList = spl cs off v.cells.toList from rfl]
          unfold spl
          rw [← List.append_assoc, ← this, ← Array.foldl_toList]
          simp
        rw [e]
        exact fill_eq places place hp r _ _ h

def ArrB (P : Program) (t : TypeId) (places : List (Nat × Nat)) (zero : List Value) : Prop :=
  ∃ inf z n e ie, P.info? t = some inf ∧ inf.zero = some z ∧ z.cells = zero.toArray ∧ P.underlying t = some (.array n e) ∧ P.info? e = some ie ∧ ∀ i, places[i]? ≠ none → places[i]? = some (i * ie.size, ie.size)
def StrB (P : Program) (t : TypeId) (places : List (Nat × Nat)) (zero : List Value) : Prop :=
  ∃ inf z fs, P.info? t = some inf ∧ inf.zero = some z ∧ z.cells = zero.toArray ∧ P.underlying t = some (.struct fs) ∧ fs.toList.map (fun f => (P.info? f.type).map fun i => (f.offset, i.size)) = places.map some

theorem ArrB.of {places : List (Nat × Nat)} {zero : List Value} {m e sz : Nat} (h1 : (P.info? t).bind (fun i => i.zero.map (·.cells)) = some zero.toArray) (h2 : P.underlying t = some (.array m e)) (h3 : (P.info? e).map (·.size) = some sz)
    (h4 : ∀ i, i < places.length → places[i]? = some (i * sz, sz)) : ArrB P t places zero := by
  cases hi : P.info? t with
  | none => simp [hi] at h1
  | some inf =>
    cases hz : inf.zero with
    | none => simp [hi, hz] at h1
    | some z =>
      cases he : P.info? e with
      | none => simp [he] at h3
      | some ie =>
        have hs : ie.size = sz := by simpa [he] using h3
        refine ⟨inf, z, m, e, ie, hi, hz, by simpa [hi, hz] using h1, h2, he, fun i hi => ?_⟩
        rw [hs]
        exact h4 i (by rcases Nat.lt_or_ge i places.length with h | h
                       · exact h
                       · exact absurd (List.getElem?_eq_none h) hi)
def strPl (P : Program) (t : TypeId) : Option (List (Option (Nat × Nat))) := match P.underlying t with
  | some (.struct fs) => some (fs.toList.map fun f => (P.info? f.type).map fun i => (f.offset, i.size))
  | _ => none
theorem StrB.of {places : List (Nat × Nat)} {zero : List Value} (h1 : (P.info? t).bind (fun i => i.zero.map (·.cells)) = some zero.toArray) (h2 : strPl P t = some (places.map some)) : StrB P t places zero := by
  cases hi : P.info? t with
  | none => simp [hi] at h1
  | some inf =>
    cases hz : inf.zero with
    | none => simp [hi, hz] at h1
    | some z =>
      unfold strPl at h2
      split at h2
      · rename_i fs hu
        exact ⟨inf, z, fs, hi, hz, by simpa [hi, hz] using h1, hu, by simpa using h2⟩
      · cases h2
theorem pu_build_ar {places : List (Nat × Nat)} {zero cs : List Value} {parts : List (Nat × Operand)} {vsl : List Value} (hB : ArrB P t places zero) (hv : evs L (parts.map (·.2)) = some vsl) (hf : fillL places zero ((parts.map (·.1)).zip vsl) = some cs) :
    Pu P L ⟨d, .build t parts.toArray, ty, pos, af, g⟩ w (.agg cs.toArray) := by
  intro ρ hρ
  obtain ⟨inf, z, nn, e, ie, hi, hz, hzc, hu, hie, hp⟩ := hB
  have hm := evs_map _ vsl hv fun x hx u hu => hρ x (by simpa [Op.operands] using hx) u hu
  have hparts : (parts.toArray.map fun p => (p.1, ρ p.2)).toList = (parts.map (·.1)).zip vsl := by
    rw [← hm]
    simp only [List.map_toArray, List.map_map]
    clear hm hv hf hρ
    induction parts with
    | nil => rfl
    | cons p r ih => simp only [List.map_cons, List.zip_cons_cons, Function.comp]; rw [ih]
  have hfill := fill_eq places (fun i => some (i * ie.size, ie.size)) (fun i hi => (hp i hi).symm) _ _ _ hf
  simp only [execOp]
  unfold Instr.build
  simp only [Sem.run_bind, zeroValue, typeInfo, run_program, hi, hz, Result.andThen_ok, Sem.run_pure, run_underlying hu, sizeOf, hie, hparts, hzc, hfill]
theorem run_mapM_places {fs : List Field} {places : List (Nat × Nat)} (h : fs.map (fun f => (P.info? f.type).map fun i => (f.offset, i.size)) = places.map some) :
    (fs.mapM (m := Sem) fun f => do pure (f.offset, ← sizeOf f.type)).run P w = .ok places w := by
  induction fs generalizing places with
  | nil => cases places with
    | nil => simp
    | cons p r => simp at h
  | cons f fs ih => cases places with
    | nil => simp at h
    | cons p r =>
      simp only [List.map_cons, List.cons.injEq] at h
      cases hi : P.info? f.type with
      | none => simp [hi] at h
      | some i =>
        have hp : (f.offset, i.size) = p := by simpa [hi] using h.1
        simp only [List.mapM_cons, Sem.run_bind, sizeOf, typeInfo, run_program, hi, Result.andThen_ok, Sem.run_pure]
        have := ih h.2
        simp only [sizeOf, typeInfo] at this
        rw [this]
        simp [hp]
theorem pu_build_st {places : List (Nat × Nat)} {zero cs : List Value} {parts : List (Nat × Operand)} {vsl : List Value} (hB : StrB P t places zero) (hv : evs L (parts.map (·.2)) = some vsl) (hf : fillL places zero ((parts.map (·.1)).zip vsl) = some cs) :
    Pu P L ⟨d, .build t parts.toArray, ty, pos, af, g⟩ w (.agg cs.toArray) := by
  intro ρ hρ
  obtain ⟨inf, z, fs, hi, hz, hzc, hu, hp⟩ := hB
  have hm := evs_map _ vsl hv fun x hx u hu => hρ x (by simpa [Op.operands] using hx) u hu
  have hparts : (parts.toArray.map fun p => (p.1, ρ p.2)).toList = (parts.map (·.1)).zip vsl := by
    rw [← hm]
    simp only [List.map_toArray, List.map_map]
    clear hm hv hf hρ
    induction parts with
    | nil => rfl
    | cons p r ih => simp only [List.map_cons, List.zip_cons_cons, Function.comp]; rw [ih]
  have hmm : (fs.mapM (m := Sem) fun f => do pure (f.offset, ← sizeOf f.type)).run P w = .ok places.toArray w := by
    have h1 := run_mapM_places (w := w) hp
    obtain ⟨fl⟩ := fs
    simp only [List.mapM_toArray]
    show ((fl.mapM (m := Sem) _) >>= fun x => pure (List.toArray x)).run P w = _
    rw [Sem.run_bind]
    refine (congrArg (fun r => Result.andThen r _) h1).trans ?_
    simp
  have hfill := fill_eq places (fun i => places.toArray[i]?) (fun i _ => by simp) _ _ _ hf
  simp only [execOp]
  unfold Instr.build
  simp only [Sem.run_bind, zeroValue, typeInfo, run_program, hi, hz, Result.andThen_ok, Sem.run_pure, run_underlying hu]
  refine (congrArg (fun r => Result.andThen (Result.andThen r _) _) hmm).trans ?_
  simp only [Result.andThen_ok, hparts, hzc, hfill, Sem.run_pure]
theorem pu_index_ar {k : IntKind} {nn : Nat} {i : Int} {cs : List Value} {v : Value} (ht : ArT P t nn e 1) (he : OneT P e) (hx : ev L x = some (.agg cs.toArray)) (hy : ev L y = some (.int k i)) (h0 : 0 ≤ i) (h1 : i < nn) (hv : cs[i.toNat]? = some v) :
    Pu P L ⟨d, .index t x y, ty, pos, af, g⟩ w v := by
  intro ρ hρ
  obtain ⟨ht, inf, hi, hsz⟩ := ht
  obtain ⟨u, hu, hna⟩ := he
  have hp : (part e cs.toArray (i.toNat * inf.size)).run P w = .ok v w := by
    unfold part
    rw [Sem.run_bind, run_isAgg hu, hna, hsz, Nat.mul_one]
    simp [hv]
  simp [execOp, hρ x (by simp [Op.operands]) _ hx, hρ y (by simp [Op.operands]) _ hy, Instr.index, asIntOf, run_underlying ht, sizeOf, typeInfo, hi, h0, h1, hp]
end mem
end Go.Dx
