/- Laws of one step of a walk, and of what memory holds. No condition beyond what each names. -/
import Derived.Test.YtopbpdgnjnoddaaDoorDxE
set_option linter.unusedSimpArgs false
set_option linter.unusedVariables false
namespace Go.Dx
open Go Go.RowKit

section mem
variable {md : Md} {P : Program} {opsA : Array Oper} {rest : List Oper} {Q : Exit → Act → World → Prop} {a : Act} {w w0 : World} {h0 : View} {M : List Nat} {O : List OE} {F : View → Prop} {n : Nat} {L : FL}
variable {op : Op} {d : Option Nat} {ty t T : TypeId} {pos : String} {af : Array Edge} {g : Option (Nat × Bool)} {x y : Operand}

theorem cell_row {b off : Nat} {cs : List Value} {T : TypeId} {fz : Nat × Nat} (h : w.heap[b]? = some (.cells cs.toArray T fz)) : w.cell? ⟨b, off, none⟩ = cs[off]? := by
  simp [World.cell?, h]
theorem St.rd {i b off : Nat} {cs : List Value} {v : Value} (hS : St w0 h0 M w O F) (hi : O[i]? = some (some b, CellsC T cs)) (hv : cs[off]? = some v) : w.cell? ⟨b, off, none⟩ = some v := by
  rw [cell_row (hS.at hi)]; exact hv

/-- `cs` with `new` from place `off` on -/
def spl (cs : List Value) (off : Nat) (new : List Value) : List Value := cs.take off ++ (new ++ cs.drop (off + new.length))
def oneV : Value → Bool
  | .agg _ | .tuple _ => false
  | _ => true
def allOne : List Value → Bool
  | [] => true
  | v :: r => oneV v && allOne r
theorem allOne_mem : ∀ {l : List Value}, allOne l = true → ∀ v ∈ l, v.oneCell' = true
  | [], _, v, h => by simp at h
  | u :: r, h, v, hv => by
    simp only [allOne, Bool.and_eq_true] at h
    rcases List.mem_cons.1 hv with rfl | hv
    · have := h.1
      cases v <;> simp_all [oneV, Value.oneCell']
    · exact allOne_mem h.2 v hv

/-! loads -/
theorem o_load1 {i b off : Nat} {cs : List Value} {v : Value} (hS : St w0 h0 M w O F) (hi : O[i]? = some (some b, CellsC T cs)) (ht : OneT P t) (hx : ev L x = some (.pointer (some ⟨b, off, none⟩))) (hv : cs[off]? = some v) :
    Pu P L ⟨d, .load t x, ty, pos, af, g⟩ w v := pu_load1 ht hx (hS.rd hi hv)
theorem o_loadA {i b off : Nat} {cs new : List Value} (hS : St w0 h0 M w O F) (hi : O[i]? = some (some b, CellsC T cs)) (ht : AggT P t new.length) (hx : ev L x = some (.pointer (some ⟨b, off, none⟩))) (hv : (cs.drop off).take new.length = new) :
    Pu P L ⟨d, .load t x, ty, pos, af, g⟩ w (.agg new.toArray) := by
  refine pu_loadA ht hx fun j v hj => ?_
  rw [add_mk]
  refine hS.rd hi ?_
  rw [← hv, List.getElem?_take] at hj
  split at hj
  · simpa using hj
  · cases hj
theorem o_loadW {i b : Nat} {cs : List Value} (hS : St w0 h0 M w O F) (hi : O[i]? = some (some b, CellsC T cs)) (ht : AggT P t cs.length) (hx : ev L x = some (.pointer (some ⟨b, 0, none⟩))) :
    Pu P L ⟨d, .load t x, ty, pos, af, g⟩ w (.agg cs.toArray) := o_loadA hS hi ht hx (by simp)

/-! new blocks -/
theorem s_box {dd : Nat} {v : Value} {cs : List Value} (hF : Fr a n L) (hS : St w0 h0 M w O F) (hx : ev L x = some v) (hc : v.cells = cs.toArray) (hd : Nat.blt dd n = true)
    (k : ∀ b w' a, St w0 h0 M w' ((some b, CellsC t cs) :: O) F → Fr a n ((dd, .val (.pointer (some ⟨b, 0, none⟩))) :: L) → wpM md P opsA Q rest a w') :
    wpM md P opsA Q (⟨some dd, .box t x, ty, pos, af, none⟩ :: rest) a w := by
  have hrun : Ds P L ⟨some dd, .box t x, ty, pos, af, none⟩ w fun v' w' => v' = .pointer (some ⟨w.heap.size, 0, none⟩) ∧ w' = w.alloc (.cells cs.toArray t) := by
    intro ρ hρ
    unfold Does
    have : (execOp ρ ⟨some dd, .box t x, ty, pos, af, none⟩).run P w = .ok (.value (.pointer (some ⟨w.heap.size, 0, none⟩))) (w.alloc (.cells cs.toArray t)) := by
      simp [execOp, hρ x (by simp [Op.operands]) _ hx, Instr.box, newVar, newRow, hc]
    rw [this]
    exact ⟨rfl, rfl⟩
  refine s_ds hF hrun hd ?_
  rintro v' w' a' ⟨rfl, rfl⟩ hF'
  exact k _ _ _ (hS.new _ rfl) hF'
theorem s_alloc {dd : Nat} {cs : List Value} (hF : Fr a n L) (hS : St w0 h0 M w O F) (hz : ZeroT P t cs) (hd : Nat.blt dd n = true)
    (k : ∀ b w' a, St w0 h0 M w' ((some b, CellsC t cs) :: O) F → Fr a n ((dd, .val (.pointer (some ⟨b, 0, none⟩))) :: L) → wpM md P opsA Q rest a w') :
    wpM md P opsA Q (⟨some dd, .alloc t, ty, pos, af, none⟩ :: rest) a w := by
  obtain ⟨inf, z, hi, hz, hc, _⟩ := hz
  have hrun : Ds P L ⟨some dd, .alloc t, ty, pos, af, none⟩ w fun v' w' => v' = .pointer (some ⟨w.heap.size, 0, none⟩) ∧ w' = w.alloc (.cells cs.toArray t) := by
    intro ρ hρ
    unfold Does
    have : (execOp ρ ⟨some dd, .alloc t, ty, pos, af, none⟩).run P w = .ok (.value (.pointer (some ⟨w.heap.size, 0, none⟩))) (w.alloc (.cells cs.toArray t)) := by
      simp [execOp, Instr.alloc, zeroValue, typeInfo, hi, hz, newVar, newRow, hc]
    rw [this]
    exact ⟨rfl, rfl⟩
  refine s_ds hF hrun hd ?_
  rintro v' w' a' ⟨rfl, rfl⟩ hF'
  exact k _ _ _ (hS.new _ rfl) hF'

theorem keep_setRow (w : World) (g : Nat) (cs : Array Value) : Keep [g] w (w.setRow g cs) :=
  ⟨rfl, rfl, rfl, by simp [World.setRow], fun k _ hk => setRow_other w g k cs (by simpa using hk)⟩

/-! stores -/
theorem run_storeVar {b off : Nat} {cs new : List Value} {v : Value} (hg : w.heap[b]? = some (.cells cs.toArray T (0, 0))) (hc : v.cells = new.toArray) (hsz : SzIs P t new.length) (h1 : allOne new = true) (hfit : off + new.length ≤ cs.length) :
    (storeVar t ⟨b, off, none⟩ v).run P w = .ok () (w.setRow b (spl cs off new).toArray) := by
  obtain ⟨inf, hi, hs⟩ := hsz
  have hst := run_storeCells_at P b off T new 0 cs.toArray w hg (by simpa using hfit) (allOne_mem h1)
  unfold storeVar
  simp only [Nat.add_zero] at hst
  simp [sizeOf, typeInfo, hi, hs, hc, hst, spl]
theorem s_store {i b off : Nat} {cs new : List Value} {v : Value} (hF : Fr a n L) (hS : St w0 h0 M w O F) (hi : O[i]? = some (some b, CellsC T cs)) (hx : ev L x = some (.pointer (some ⟨b, off, none⟩))) (hy : ev L y = some v)
    (hc : v.cells = new.toArray) (hsz : SzIs P t new.length) (h1 : allOne new = true) (hfit : off + new.length ≤ cs.length)
    (k : ∀ w' a, St w0 h0 M w' (O.set i (some b, CellsC T (spl cs off new))) F → Fr a n L → wpM md P opsA Q rest a w') :
    wpM md P opsA Q (⟨none, .store t x y, ty, pos, af, none⟩ :: rest) a w := by
  refine wpM_plain rfl fun K hK => ?_
  have ex := hF.ev hx
  have ey := hF.ev hy
  have : (execOp a.eval ⟨none, .store t x y, ty, pos, af, none⟩).run P w = .ok .skip (w.setRow b (spl cs off new).toArray) := by
    simp only [execOp, ex, ey, Instr.storeAt, Instr.sureAddr, Sem.run_bind, Sem.run_pure, Result.andThen_ok, run_storeVar (hS.at hi) hc hsz h1 hfit]
  exact opM_of_skip this (hK _ _ (k _ _ (hS.write hi (keep_setRow _ _ _) (setRow_heap w b _ _ T _ (hS.at hi))) hF))

/-! calls -/
theorem s_call {dd : Nat} {f : FuncId} {args : List Operand} {vsl : List Value} {ats : Array TypeId} {Φ : Value → View → Prop} (hF : Fr a n L) (hS : St w0 h0 M w O F) (hc : CallOk P f) (ha : evs L args = some vsl)
    (hm : ∀ v, Mono (Φ v)) (H : Calls P f vsl.toArray w (Ret w (cv w0.heap.size h0 (ids O) w) Φ)) (hd : Nat.blt dd n = true)
    (k : ∀ v w' a, St w0 h0 M w' O (fun h => F h ∧ Φ v h) → Fr a n ((dd, .val v) :: L) → wpM md P opsA Q rest a w') :
    wpM md P opsA Q (⟨some dd, .call ⟨.value (.func f), args.toArray, ats⟩, ty, pos, af, none⟩ :: rest) a w := by
  refine s_ds hF (ds_call (Post := fun v w' => St w0 h0 M w' O (fun h => F h ∧ Φ v h)) hc ha (H.mono ?_)) hd k
  rintro e w' ⟨v, rfl, hk, hv⟩; exact ⟨v, rfl, hS.call hk (hm v) hv⟩
theorem s_callv {dd : Nat} {f : FuncId} {args : List Operand} {vsl : List Value} {ats : Array TypeId} {v : Value} (hF : Fr a n L) (hS : St w0 h0 M w O F) (hc : CallOk P f) (ha : evs L args = some vsl)
    (H : Calls P f vsl.toArray w (Ret w (cv w0.heap.size h0 (ids O) w) fun u _ => u = v)) (hd : Nat.blt dd n = true)
    (k : ∀ w' a, St w0 h0 M w' O F → Fr a n ((dd, .val v) :: L) → wpM md P opsA Q rest a w') :
    wpM md P opsA Q (⟨some dd, .call ⟨.value (.func f), args.toArray, ats⟩, ty, pos, af, none⟩ :: rest) a w := by
  refine s_ds hF (ds_call (Post := fun u w' => u = v ∧ St w0 h0 M w' O F) hc ha (H.mono ?_)) hd ?_
  · rintro e w' ⟨u, rfl, hk, hv⟩; exact ⟨u, rfl, hv, hS.step hk⟩
  · rintro u w' a' ⟨rfl, hS'⟩ hF'; exact k w' a' hS' hF'

/-! typed: calls -/
/-- within a region: how the world has gone on, and that the state still stands -/
structure CR (R : World → World → Prop) (w w0 : World) (h0 : View) (M : List Nat) (O : List OE) (F : View → Prop) (w1 : World) : Prop where
  rel : R w w1
  st : St w0 h0 M w1 O F
theorem CR.step {R : World → World → Prop} [hR : Rel R] {w w0 w1 w2 : World} {h0 : View} {M : List Nat} {O : List OE} {F : View → Prop} (h : CR R w w0 h0 M O F w1) (hk : Keep [] w1 w2) : CR R w w0 h0 M O F w2 := ⟨hR.step _ _ _ h.rel hk, h.st.step hk⟩
section typedcalls
variable {ops : Array Oper} {R : World → World → Prop} [hR : Rel R] {Qf : SP → (Nat → VP) → Prop} {Γ : Nat → VP}
theorem t_callv {dd : Nat} {f : FuncId} {args : List Operand} {vsl : List Value} {ats : Array TypeId} {v : Value} (hG : GF Γ L) (hc : CallOk P f) (ha : evs L args = some vsl)
    (H : ∀ w, St w0 h0 M w O F → Calls P f vsl.toArray w (Ret w (cv w0.heap.size h0 (ids O) w) fun u _ => u = v))
    (k : ∀ Γ, GF Γ ((dd, .val v) :: L) → TyW P ops (CR R w w0 h0 M O F) R Qf rest Γ) : TyW P ops (CR R w w0 h0 M O F) R Qf (⟨some dd, .call ⟨.value (.func f), args.toArray, ats⟩, ty, pos, af, none⟩ :: rest) Γ := by
  refine t_ds hG (fun w1 hC => ds_call hc ha ((H w1 (hC.st)).mono ?_)) k
  rintro e w' ⟨u, rfl, hk, rfl⟩
  exact ⟨u, rfl, rfl, hC.step hk, hk⟩
theorem tg_callv {dd j : Nat} {b c : Bool} {f : FuncId} {args : List Operand} {vsl : List Value} {ats : Array TypeId} {v : Value} (hG : GF Γ L) (hg : gdIs ops L j b) (hb : b = c) (hc : CallOk P f) (ha : evs L args = some vsl)
    (H : ∀ w, St w0 h0 M w O F → Calls P f vsl.toArray w (Ret w (cv w0.heap.size h0 (ids O) w) fun u _ => u = v))
    (k : ∀ Γ, GF Γ ((dd, .val v) :: L) → TyW P ops (CR R w w0 h0 M O F) R Qf rest Γ) : TyW P ops (CR R w w0 h0 M O F) R Qf (⟨some dd, .call ⟨.value (.func f), args.toArray, ats⟩, ty, pos, af, some (j, c)⟩ :: rest) Γ := by
  refine tg_ds hG hg hb (fun w1 hC => ds_call hc ha ((H w1 (hC.st)).mono ?_)) k
  rintro e w' ⟨u, rfl, hk, rfl⟩
  exact ⟨u, rfl, rfl, hC.step hk, hk⟩
end typedcalls

theorem g_callv {dd j : Nat} {b c : Bool} {f : FuncId} {args : List Operand} {vsl : List Value} {ats : Array TypeId} {v : Value} (hF : Fr a n L) (hS : St w0 h0 M w O F) (hg : gdIs opsA L j b) (hb : b = c) (hc : CallOk P f) (ha : evs L args = some vsl)
    (H : Calls P f vsl.toArray w (Ret w (cv w0.heap.size h0 (ids O) w) fun u _ => u = v)) (hd : Nat.blt dd n = true)
    (k : ∀ w' a, St w0 h0 M w' O F → Fr a n ((dd, .val v) :: L) → wpM md P opsA Q rest a w') :
    wpM md P opsA Q (⟨some dd, .call ⟨.value (.func f), args.toArray, ats⟩, ty, pos, af, some (j, c)⟩ :: rest) a w := by
  refine g_ds hF hg hb (ds_call (Post := fun u w' => u = v ∧ St w0 h0 M w' O F) hc ha (H.mono ?_)) hd ?_
  · rintro e w' ⟨u, rfl, hk, hv⟩; exact ⟨u, rfl, hv, hS.step hk⟩
  · rintro u w' a' ⟨rfl, hS'⟩ hF'; exact k w' a' hS' hF'

theorem St.retv {v v' : Value} (hS : St w0 h0 [] w O F) (he : v = v') : Ret w0 h0 (fun u _ => u = v') (.returned v) w := hS.ret (fun _ _ _ h => h) fun _ _ => he

/-! a loop's list: what it writes, and what stays -/
theorem Fr.cut {G : Prop} {Lm Lk : FL} (hF : Fr a n L) (hm : Picks L Lm) (hk : Picks L Lk) (h : ∀ L0, L0 = Lk → Fr a n (Lm ++ L0) → G) : G := by
  refine h Lk rfl (hF.pick ?_)
  clear h
  induction hm with
  | nil => exact hk
  | cons h1 _ ih => exact .cons h1 ih
theorem St.cut {G : Prop} (hS : St w0 h0 M w O F) (h : ∀ O0 F0, O0 = O → F0 = F → St w0 h0 M w O0 F0 → G) : G := h O F rfl rfl hS
end mem

section splits
variable {md : Md} {P : Program} {opsA : Array Oper} {l : List Oper} {Q : Exit → Act → World → Prop} {a : Act} {w : World} {n j : Nat} {L : FL} {b : Bool}
theorem w_split (_hF : Fr a n L) (_hg : gdIs opsA L j b) (ht : b = true → wpM md P opsA Q l a w) (hf : b = false → wpM md P opsA Q l a w) : wpM md P opsA Q l a w := by
  cases b
  · exact hf rfl
  · exact ht rfl
theorem t_split {C : World → Prop} {R : World → World → Prop} {Qf : SP → (Nat → VP) → Prop} {Γ : Nat → VP} (_hG : GF Γ L) (_hg : gdIs opsA L j b) (ht : b = true → TyW P opsA C R Qf l Γ) (hf : b = false → TyW P opsA C R Qf l Γ) : TyW P opsA C R Qf l Γ := by
  cases b
  · exact hf rfl
  · exact ht rfl
variable {w0 : World} {h0 : View} {M : List Nat} {O : List OE} {F : View → Prop} {T t : TypeId}
theorem o_lv1 {i b off : Nat} {cs : List Value} {v : Value} (hS : St w0 h0 M w O F) (hi : O[i]? = some (some b, CellsC T cs)) (ht : OneT P t) (hv : cs[off]? = some v) :
    (loadVar t ⟨b, off, none⟩).run P w = .ok v w := run_load1 ht (hS.rd hi hv)
theorem o_lvA {i b : Nat} {cs : List Value} (hS : St w0 h0 M w O F) (hi : O[i]? = some (some b, CellsC T cs)) (ht : AggT P t cs.length) :
    (loadVar t ⟨b, 0, none⟩).run P w = .ok (.agg cs.toArray) w := run_loadA ht fun j v hj => by rw [add_mk]; exact hS.rd hi (by simpa using hj)
end splits

/-! closed facts on a program's types -/
section facts
variable {md : Md} {P : Program} {t e : TypeId} {n sz : Nat}
theorem SzIs.of (h : (P.info? t).map (·.size) = some n) : SzIs P t n := by
  cases hi : P.info? t with
  | none => simp [hi] at h
  | some i => exact ⟨i, hi, by simpa [hi] using h⟩
theorem OneT.of (h : (P.underlying t).map aggB = some false) : OneT P t := by
  cases hi : P.underlying t with
  | none => simp [hi] at h
  | some i => exact ⟨i, hi, by simpa [hi] using h⟩
theorem AggT.of (h : (P.underlying t).map aggB = some true) (hs : (P.info? t).map (·.size) = some n) : AggT P t n := by
  refine ⟨?_, SzIs.of hs⟩
  cases hi : P.underlying t with
  | none => simp [hi] at h
  | some i => exact ⟨i, rfl, by simpa [hi] using h⟩
def fldB (P : Program) (t i : Nat) : Option (Nat × Option Nat) := match P.underlying t with
  | some (.struct fs) => (fs[i]?).map fun f => (f.offset, (P.info? f.type).map (·.size))
  | _ => none
theorem FldAt.of {i off : Nat} (h : fldB P t i = some (off, some (n + 1))) : FldAt P t i off := by
  unfold fldB at h
  split at h
  · rename_i fs hu
    cases hf : fs[i]? with
    | none => simp [hf] at h
    | some f =>
      simp [hf] at h
      exact ⟨fs, f, n + 1, hu, hf, SzIs.of (by simpa using h.2), by omega, h.1⟩
  · cases h
theorem ZeroT.of {cs : List Value} (h : (P.info? t).bind (fun i => i.zero.map fun z => (z.cells, i.size)) = some (cs.toArray, cs.length)) : ZeroT P t cs := by
  cases hi : P.info? t with
  | none => simp [hi] at h
  | some i =>
    cases hz : i.zero with
    | none => simp [hi, hz] at h
    | some z => simp [hi, hz] at h; exact ⟨i, z, hi, hz, h.1, h.2⟩
theorem CallOk.of {f : FuncId} (h : (P.funcs[f]?).map (fun fn => fn.name == "runtime.NumGoroutine" || fn.body.isNone) = some false) : CallOk P f := by
  cases hi : P.funcs[f]? with
  | none => simp [hi] at h
  | some fn =>
    rw [hi] at h
    simp only [Option.map_some, Option.some.injEq, Bool.or_eq_false_iff] at h
    exact ⟨fn, hi, h.1, h.2⟩
end facts

/-! numbers -/
theorem wrap_i64 {n : Int} (h1 : -9223372036854775808 ≤ n) (h2 : n ≤ 9223372036854775807) : IntKind.i64.wrap n = n := IntWalk.i64_in n ⟨h1, h2⟩
theorem wrap_u64 {n : Int} (h1 : 0 ≤ n) (h2 : n ≤ 18446744073709551615) : IntKind.u64.wrap n = n := IntWalk.u64_in n ⟨h1, h2⟩
theorem wrap_u32 {n : Int} (h1 : 0 ≤ n) (h2 : n ≤ 4294967295) : IntKind.u32.wrap n = n := IntWalk.u32_in n ⟨h1, h2⟩
theorem wrap_u8 {n : Int} (h1 : 0 ≤ n) (h2 : n ≤ 255) : IntKind.u8.wrap n = n := IntWalk.u8_in n ⟨h1, h2⟩
end Go.Dx
