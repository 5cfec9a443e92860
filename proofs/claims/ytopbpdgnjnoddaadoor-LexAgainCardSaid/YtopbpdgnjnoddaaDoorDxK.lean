/- Laws of one step of a walk, and of what memory holds. No condition beyond what each names. -/
import Derived.Test.YtopbpdgnjnoddaaDoorDxJ
set_option linter.unusedSimpArgs false
set_option linter.unusedVariables false
namespace Go.Dx
open Go Go.RowKit

def enumO : Nat → List Operand → List (Nat × Operand)
  | _, [] => []
  | k, x :: r => (k, x) :: enumO (k + 1) r
def enumV : Nat → List Value → List (Nat × Value)
  | _, [] => []
  | k, x :: r => (k, x) :: enumV (k + 1) r
def cellsL : List Value → List Value
  | [] => []
  | v :: r => v.cells.toList ++ cellsL r

theorem cellsL_length {sz : Nat} : ∀ {l : List Value}, (∀ v ∈ l, v.cells.size = sz) → (cellsL l).length = l.length * sz
  | [], _ => by simp [cellsL]
  | v :: r, h => by
    have := cellsL_length (l := r) fun v hv => h v (by simp [hv])
    simp only [cellsL, List.length_append, Array.length_toList, h v (by simp), this, List.length_cons]
    rw [Nat.add_mul]; omega

theorem foldl_set (cs : List Value) : ∀ (off : Nat) (j : Nat) (acc : Array Value), off + j + cs.length ≤ acc.size →
    ((cs.zipIdx j).foldl (fun a (c, i) => a.setIfInBounds (off + i) c) acc).toList = acc.toList.take (off + j) ++ cs ++ acc.toList.drop (off + j + cs.length) := by
  induction cs with
  | nil => intro off j acc h; simp
  | cons c cs ih =>
    intro off j acc h
    simp only [List.zipIdx_cons, List.foldl_cons]
    rw [ih off (j + 1) _ (by simp at h ⊢; omega)]
    have e := list_seg_step acc.toList (off + j) c cs (by simp at h ⊢; omega)
    simpa [Array.toList_setIfInBounds, Nat.add_assoc] using e

theorem fill_seq {sz : Nat} : ∀ (l : List Value) (k : Nat) (cs : Array Value), (∀ v ∈ l, v.cells.size = sz) → (k + l.length) * sz ≤ cs.size →
    ∃ cs', Instr.fill (fun i => some (i * sz, sz)) cs (enumV k l) = some cs' ∧ cs'.toList = cs.toList.take (k * sz) ++ cellsL l ++ cs.toList.drop ((k + l.length) * sz)
  | [], k, cs, _, _ => ⟨cs, rfl, by simp [cellsL]⟩
  | v :: r, k, cs, h, hle => by
    have hv : v.cells.size = sz := h v (by simp)
    have hk : k * sz + sz ≤ cs.size := by
      have : (k + 1) * sz ≤ (k + (v :: r).length) * sz := Nat.mul_le_mul_right _ (by simp)
      rw [Nat.add_mul] at this; omega
    have hfold : (v.cells.zipIdx.foldl (fun cs (c, j) => cs.setIfInBounds (k * sz + j) c) cs).toList = cs.toList.take (k * sz) ++ v.cells.toList ++ cs.toList.drop (k * sz + sz) := by
      have := foldl_set v.cells.toList (k * sz) 0 cs (by simp; omega)
      simp only [Nat.add_zero] at this
      rw [show v.cells.toList.length = sz by simp [hv]] at this
      rw [← this, ← Array.foldl_toList]
      simp
    obtain ⟨cs', h1, h2⟩ := fill_seq r (k + 1) (v.cells.zipIdx.foldl (fun cs (c, j) => cs.setIfInBounds (k * sz + j) c) cs) (fun v hv => h v (by simp [hv])) (by
      have hs : (v.cells.zipIdx.foldl (fun cs (c, j) => cs.setIfInBounds (k * sz + j) c) cs).size = cs.size := by
        rw [← Array.length_toList, hfold]; simp; omega
      rw [hs]; simpa [Nat.add_assoc, Nat.add_comm 1] using hle)
    refine ⟨cs', ?_, ?_⟩
    · have hng : ¬ (v.cells.size ≠ sz ∨ k * sz + v.cells.size > cs.size) := by omega
      simp only [enumV, Instr.fill]
      rw [if_neg (by simpa using hng)]
      exact h1
    · rw [h2, hfold]
      have e1 : (k + 1) * sz = k * sz + sz := by rw [Nat.add_mul]; omega
      have e2 : (k + (v :: r).length) * sz = (k + 1 + r.length) * sz := by simp only [List.length_cons]; congr 1; omega
      rw [e2, e1]
      have hge : k * sz + sz ≤ (k + 1 + r.length) * sz := by rw [← e1]; exact Nat.mul_le_mul_right _ (by omega)
      have hl : (List.take (k * sz) cs.toList ++ v.cells.toList).length = k * sz + sz := by simp [hv]; omega
      rw [List.take_append_of_le_length (by rw [hl]; exact Nat.le_refl _), List.take_of_length_le (by rw [hl]; exact Nat.le_refl _)]
      rw [List.drop_append, hl, List.drop_of_length_le (by rw [hl]; exact hge)]
      simp only [List.nil_append, List.drop_drop, cellsL, List.append_assoc]
      congr 4
      omega

theorem enum_map {L : FL} {ρ : Operand → Value} : ∀ (xs : List Operand) (k : Nat) (vsl : List Value), xs.map ρ = vsl → (enumO k xs).map (fun p => (p.1, ρ p.2)) = enumV k vsl
  | [], k, vsl, h => by subst h; rfl
  | x :: r, k, vsl, h => by
    subst h
    simp only [enumO, List.map_cons, enumV]
    rw [enum_map (L := L) r (k + 1) _ rfl]

theorem enum_snd : ∀ (xs : List Operand) (k : Nat), (enumO k xs).map (·.2) = xs
  | [], k => rfl
  | x :: r, k => by simp [enumO, enum_snd r (k + 1)]

def BldT (P : Program) (t e : TypeId) (sz : Nat) : Prop := P.underlying t = some (.slice e) ∧ ∃ i z, P.info? e = some i ∧ i.zero = some z ∧ z.cells.size = i.size ∧ i.size = sz
theorem BldT.of {P : Program} {t e : TypeId} {sz : Nat} (h1 : P.underlying t = some (.slice e)) (h3 : (P.info? e).map (fun i => (i.zero.map (·.cells.size), i.size)) = some (some sz, sz)) : BldT P t e sz := by
  refine ⟨h1, ?_⟩
  cases hi : P.info? e with
  | none => simp [hi] at h3
  | some i =>
    cases hz : i.zero with
    | none => simp [hi, hz] at h3
    | some z => simp [hi, hz] at h3; exact ⟨i, z, rfl, hz, by omega, h3.2⟩

def NewRow (w : World) (T : TypeId) (cs : List Value) (b : Nat) (w' : World) : Prop := w.heap.size ≤ b ∧ w'.heap[b]? = some (.cells cs.toArray T (0, 0))
theorem NewRow.keep {w w1 w2 : World} {T : TypeId} {cs : List Value} {b : Nat} (h : NewRow w T cs b w1) (hk : Keep [] w1 w2) : NewRow w T cs b w2 := by
  refine ⟨h.1, ?_⟩
  rw [hk.block b (Array.getElem?_eq_some_iff.1 h.2).1 (by simp)]
  exact h.2

section mem
variable {md : Md} {P : Program} {opsA : Array Oper} {rest : List Oper} {Q : Exit → Act → World → Prop} {a : Act} {w w0 : World} {h0 : View} {M : List Nat} {O : List OE} {F : View → Prop} {n : Nat} {L : FL}
variable {op : Op} {d : Option Nat} {ty t t2 T e : TypeId} {pos : String} {af : Array Edge} {g : Option (Nat × Bool)} {x y : Operand}

theorem ds_build {sz len : Nat} {xs : List Operand} {vsl : List Value} (hT : BldT P t e sz) (hl : xs.length = len) (hv : evs L xs = some vsl) (hcs : ∀ v ∈ vsl, v.cells.size = sz) (hle : len * sz ≤ 16777216) :
    Ds P L ⟨d, .buildSlice t len (enumO 0 xs).toArray, ty, pos, af, g⟩ w fun v w' => v = .slice (some ⟨w.heap.size, 0, none⟩) len len ∧ w' = w.alloc (.cells (cellsL vsl).toArray e) := by
  intro ρ hρ
  obtain ⟨ht, i, z, hi, hz, hzs, rfl⟩ := hT
  have hm := evs_map xs vsl hv fun x hx u hu => hρ x (by simp [Op.operands, enum_snd, hx]) u hu
  have hlen : vsl.length = len := by rw [← hm]; simpa using hl
  have hparts : ((enumO 0 xs).toArray.map fun p => (p.1, ρ p.2)).toList = enumV 0 vsl := by
    simp only [List.map_toArray, enum_map (L := L) xs 0 vsl hm]
  unfold Does
  have hrun : (Instr.buildSlice t len ((enumO 0 xs).toArray.map fun p => (p.1, ρ p.2))).run P w = .ok (.slice (some ⟨w.heap.size, 0, none⟩) len len) (w.alloc (.cells (cellsL vsl).toArray e)) := by
    have hle' : ¬ (16777216 < len * i.size) := by omega
    have key : ∀ (zero : Array Value), ∃ cs', Instr.fill (fun j => some (j * i.size, i.size)) ((Array.range (len * i.size)).map fun j => zero[j % zero.size]!) (enumV 0 vsl) = some cs' ∧ cs'.toList = cellsL vsl := by
      intro zero
      obtain ⟨cs', h1, h2⟩ := fill_seq vsl 0 ((Array.range (len * i.size)).map fun j => zero[j % zero.size]!) hcs (by simp [hlen])
      refine ⟨cs', h1, ?_⟩
      rw [h2]
      simp [hlen]
    unfold Instr.buildSlice
    by_cases hn0 : len * i.size = 0
    · obtain ⟨cs', h1, h2⟩ := key #[]
      have h2' : cs' = (cellsL vsl).toArray := by rw [← h2]
      have e0 : ∀ f : Nat → Value, (Array.range 0).map f = #[] := fun f => by apply Array.eq_empty_of_size_eq_zero; simp
      rw [hn0, e0] at h1
      simp only [Sem.run_bind, run_underlying ht, Result.andThen_ok, sizeOf, typeInfo, run_program, hi, Sem.run_pure, hparts, hn0, if_true, newRow, h2']
      rw [if_neg (by decide)]
      rw [Sem.run_bind, Sem.run_pure, Result.andThen_ok]
      simp only [e0, h1]
      simp [h2']
    · obtain ⟨cs', h1, h2⟩ := key z.cells
      have h2' : cs' = (cellsL vsl).toArray := by rw [← h2]
      simp only [Sem.run_bind, run_underlying ht, Result.andThen_ok, sizeOf, typeInfo, run_program, hi, Sem.run_pure, hle', if_false, hn0, hparts]
      simp [h1, h2', newRow, zeroValue, typeInfo, hi, hz]
  have : (execOp ρ ⟨d, .buildSlice t len (enumO 0 xs).toArray, ty, pos, af, g⟩).run P w = .ok (.value (.slice (some ⟨w.heap.size, 0, none⟩) len len)) (w.alloc (.cells (cellsL vsl).toArray e)) := by
    simp only [execOp, Sem.run_bind, hrun, Result.andThen_ok, Sem.run_pure]
  rw [this]
  exact ⟨rfl, rfl⟩

/-- in turn: a row of the call's own -/
theorem s_build {dd sz len : Nat} {xs : List Operand} {vsl : List Value} (hF : Fr a n L) (hS : St w0 h0 M w O F) (hT : BldT P t e sz) (hl : xs.length = len) (hv : evs L xs = some vsl) (hcs : ∀ v ∈ vsl, v.cells.size = sz) (hle : len * sz ≤ 16777216) (hd : Nat.blt dd n = true)
    (k : ∀ b w' a, St w0 h0 M w' ((some b, CellsC e (cellsL vsl)) :: O) F → Fr a n ((dd, .val (.slice (some ⟨b, 0, none⟩) len len)) :: L) → wpM md P opsA Q rest a w') :
    wpM md P opsA Q (⟨some dd, .buildSlice t len (enumO 0 xs).toArray, ty, pos, af, none⟩ :: rest) a w := by
  refine s_ds hF (ds_build hT hl hv hcs hle) hd ?_
  rintro v' w' a' ⟨rfl, rfl⟩ hF'
  exact k _ _ _ (hS.new _ rfl) hF'
/-- typed: a new row, never written -/
theorem t_build {ops : Array Oper} {R : World → World → Prop} [hR : Rel R] [hN : RelN w R] {Qf : SP → (Nat → VP) → Prop} {Γ : Nat → VP} {dd sz len : Nat} {xs : List Operand} {vsl : List Value} (hG : GF Γ L) (hT : BldT P t e sz) (hl : xs.length = len) (hv : evs L xs = some vsl) (hcs : ∀ v ∈ vsl, v.cells.size = sz) (hle : len * sz ≤ 16777216)
    (k : ∀ Γ, GF Γ ((dd, .prd fun v w' => ∃ b, v = .slice (some ⟨b, 0, none⟩) len len ∧ NewRow w e (cellsL vsl) b w') :: L) → TyW P ops (CR R w w0 h0 M O F) R Qf rest Γ) :
    TyW P ops (CR R w w0 h0 M O F) R Qf (⟨some dd, .buildSlice t len (enumO 0 xs).toArray, ty, pos, af, none⟩ :: rest) Γ := by
  refine t_dp _ hG ?_ ?_ k
  · rintro v w1 w2 _ hk ⟨b, rfl, hb⟩
    refine ⟨b, rfl, hb.1, ?_⟩
    rw [hN.new w1 w2 b hk hb.1 (Array.getElem?_eq_some_iff.1 hb.2).1]; exact hb.2
  · intro w1 hC
    refine (ds_build hT hl hv hcs hle).mono ?_
    rintro v w2 ⟨rfl, rfl⟩
    exact ⟨⟨_, rfl, hN.size w w1 hC.rel, heap_alloc_new w1 _⟩, hC.step (keep_alloc _ _), keep_alloc _ _⟩
end mem
end Go.Dx
