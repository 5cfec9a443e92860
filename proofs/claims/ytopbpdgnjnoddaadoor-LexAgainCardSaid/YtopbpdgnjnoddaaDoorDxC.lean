/- Laws of one step of a walk, and of what memory holds. No condition beyond what each names. -/
import Derived.Test.YtopbpdgnjnoddaaDoorDxB
set_option linter.unusedSimpArgs false
set_option linter.unusedVariables false
namespace Go.Dx
open Go Go.RowKit

def allV : FL → Bool
  | [] => true
  | (_, .val _) :: r => allV r
  | (_, .prd _) :: _ => false
theorem allV_ne : ∀ {L : FL}, allV L = true → ∀ t Φ, lk L t ≠ some (.prd Φ)
  | [], _, t, Φ => by simp [lk]
  | (k, .val v) :: r, h, t, Φ => by
    by_cases hk : k = t
    · subst hk; rw [lk_cons_eq]; simp
    · rw [lk_cons_ne hk]; exact allV_ne (L := r) h t Φ
  | (_, .prd _) :: _, h, _, _ => by simp [allV] at h

/-! ### Control -/
section control
variable {md : Md} {P : Program} {Q : Exit → Act → World → Prop} {a : Act} {w : World} {n : Nat} {L : FL}

theorem c_seq {x y : Code} (h : codeM md P x (Exit.then (codeM md P y Q) Q) a w) : codeM md P (Code.seq x y) Q a w := by
  cases md with
  | wp => exact wp_seq h
  | rd r => exact wpIn_seq h
theorem c_reg {id : Nat} {l : List Oper} (h : wpM md P l.toArray Q l a w) : codeM md P (Code.region id l.toArray false) Q a w := by
  cases md with
  | wp => exact wp_region_lit h
  | rd r => exact wpIn_region_lit h
theorem c_nil {ops : Array Oper} (h : Q .normal a w) : wpM md P ops Q [] a w := by cases md <;> exact h
theorem c_block {id : Nat} {c : Code} (h : codeM md P c (Exit.inBlock id Q) a w) : codeM md P (Code.block id c) Q a w := by
  cases md with
  | wp => exact wp_block h
  | rd r => exact wpIn_block h
theorem c_skip (h : Q .normal a w) : codeM md P Code.skip Q a w := by
  cases md with
  | wp => exact wp_skip h
  | rd r => exact wpIn_skip h
theorem c_ret (h : Q .ret a w) : codeM md P Code.ret Q a w := by
  cases md with
  | wp => exact wp_ret h
  | rd r => exact wpIn_ret h
theorem c_exit {id : Nat} (h : Q (.exit id) a w) : codeM md P (Code.exit id) Q a w := by
  cases md with
  | wp => exact wp_exit h
  | rd r => exact wpIn_exit h

theorem n_then {K : Act → World → Prop} (h : K a w) : Exit.then K Q .normal a w := h
theorem n_block {i : Nat} (h : Q .normal a w) : Exit.inBlock i Q .normal a w := h
theorem r_then {K : Act → World → Prop} (h : Q .ret a w) : Exit.then K Q .ret a w := h
theorem r_block {i : Nat} (h : Q .ret a w) : Exit.inBlock i Q .ret a w := h
theorem x_then {i : Nat} {K : Act → World → Prop} (h : Q (.exit i) a w) : Exit.then K Q (.exit i) a w := h
theorem x_here {i : Nat} (h : Q .normal a w) : Exit.inBlock i Q (.exit i) a w := by simp [Exit.inBlock]; exact h
theorem x_block {i j : Nat} (hij : Nat.beq i j = false) (h : Q (.exit i) a w) : Exit.inBlock j Q (.exit i) a w := by
  have : i ≠ j := fun e => by subst e; simp at hij
  simp [Exit.inBlock, this]; exact h

theorem c_if {c : Operand} {x y : Code} {b : Bool} (hF : Fr a n L) (hc : ev L c = some (.bool b)) (ht : b = true → codeM md P x Q a w) (hf : b = false → codeM md P y Q a w) :
    codeM md P (Code.cond c x y) Q a w := by
  cases md with
  | wp => exact wp_cond_split (hF.ev hc) ht hf
  | rd r => exact wpIn_cond_split (hF.ev hc) ht hf
theorem c_ift {c : Operand} {x y : Code} {b : Bool} (hF : Fr a n L) (hc : ev L c = some (.bool b)) (hb : b = true) (h : codeM md P x Q a w) : codeM md P (Code.cond c x y) Q a w :=
  c_if hF hc (fun _ => h) (fun e => by rw [hb] at e; cases e)
theorem c_iff {c : Operand} {x y : Code} {b : Bool} (hF : Fr a n L) (hc : ev L c = some (.bool b)) (hb : b = false) (h : codeM md P y Q a w) : codeM md P (Code.cond c x y) Q a w :=
  c_if hF hc (fun e => by rw [hb] at e; cases e) (fun _ => h)

/-- the ways meet again -/
theorem c_seq_cut {x y : Code} (K : Act → World → Prop) (h : codeM md P x (Exit.then K Q) a w) (hk : ∀ a w, K a w → codeM md P y Q a w) : codeM md P (Code.seq x y) Q a w := by
  refine c_seq ?_
  have hm : ∀ e a w, Exit.then K Q e a w → Exit.then (codeM md P y Q) Q e a w := fun e a w he => by
    cases e <;> first | exact hk _ _ he | exact he
  cases md with
  | wp => exact wp_mono h hm
  | rd r => exact wpIn_mono h hm

/-- a loop with something that goes along, in a frame that may hand out to rounds -/
theorem wpIn_loopG {F : Fence} {n : Nat} {α : Type} {c : Code} (J : α → Act → World → Prop) (μ : α → Nat) (x0 : α) (h0 : J x0 a w)
    (round : ∀ x a w, J x a w → c.wpIn F n P (Exit.then (fun a' w' => ∃ x', J x' a' w' ∧ μ x' < μ x) Q) a w) : (Code.loop c).wpIn F n P Q a w := by
  intro b k cs hro hb hr
  have key : ∀ (m : Nat) (x : α) (a : Act) (w : World), μ x = m → J x a w →
      ∃ e a' w', Q e a' w' ∧ ArrivesIn (Machine.fenced P F) P (lone (b.atR a (.code c :: .inLoop c :: k)) cs w) b k cs e a' w' := by
    intro m
    induction m using Nat.strongRecOn with
    | _ m ih =>
      intro x a w hm hJ
      obtain ⟨e, a₁, w₁, hq, harr⟩ := round x a w hJ b (.inLoop c :: k) cs hro hb hr
      cases e with
      | normal =>
        obtain ⟨x', hJ', hlt⟩ := hq
        obtain ⟨e₂, a₂, w₂, hq₂, harr₂⟩ := ih (μ x') (hm ▸ hlt) x' a₁ w₁ rfl hJ'
        exact ⟨e₂, a₂, w₂, hq₂, .of_steps (StepsIn.trans harr (.one (fenced_calm hb hr rfl) stepR_inLoop)) harr₂⟩
      | exit id => exact ⟨_, a₁, w₁, hq, .pass (x := .inLoop c) rfl (fun _ _ => .inl (by simp)) harr⟩
      | goto l => exact ⟨_, a₁, w₁, hq, .pass (x := .inLoop c) rfl (fun _ _ => .inl (by simp)) harr⟩
      | ret => exact ⟨_, a₁, w₁, hq, .pass (x := .inLoop c) rfl (fun _ _ => .inl (by simp)) harr⟩
      | panic ch => exact ⟨_, a₁, w₁, hq, .pass (x := .inLoop c) rfl (fun _ _ => .inl (by simp)) harr⟩
      | outgrown => exact ⟨_, a₁, w₁, hq, .pass (x := .inLoop c) rfl (fun _ _ => .inl (by simp)) harr⟩
  obtain ⟨e, a', w', hq, harr⟩ := key _ x0 a w rfl h0
  exact ⟨e, a', w', hq, .of_steps (.one (fenced_calm hb hr rfl) stepR_loop) harr⟩
theorem wp_loopG {α : Type} {c : Code} (J : α → Act → World → Prop) (μ : α → Nat) (x0 : α) (h0 : J x0 a w)
    (round : ∀ x a w, J x a w → c.wp P (Exit.then (fun a' w' => ∃ x', J x' a' w' ∧ μ x' < μ x) Q) a w) : (Code.loop c).wp P Q a w := by
  have key : ∀ (m : Nat) (x : α) (a : Act) (w : World), μ x = m → J x a w → ∀ (b : Frame) (k : List Item) (cs : List Frame),
      ∃ e a' w', Q e a' w' ∧ Arrives P (lone (b.at a (.code c :: .inLoop c :: k)) cs w) b k cs e a' w' := by
    intro m
    induction m using Nat.strongRecOn with
    | _ m ih =>
      intro x a w hm hJ b k cs
      obtain ⟨e, a₁, w₁, hq, harr⟩ := round x a w hJ b (.inLoop c :: k) cs
      cases e with
      | normal =>
        obtain ⟨x', hJ', hlt⟩ := hq
        obtain ⟨e₂, a₂, w₂, hq₂, harr₂⟩ := ih (μ x') (hm ▸ hlt) x' a₁ w₁ rfl hJ' b k cs
        exact ⟨e₂, a₂, w₂, hq₂, .of_steps (Steps.trans harr (.one step_inLoop)) harr₂⟩
      | exit id => exact ⟨_, a₁, w₁, hq, .pass (x := .inLoop c) rfl (fun _ _ => .inl (by simp)) harr⟩
      | goto l => exact ⟨_, a₁, w₁, hq, .pass (x := .inLoop c) rfl (fun _ _ => .inl (by simp)) harr⟩
      | ret => exact ⟨_, a₁, w₁, hq, .pass (x := .inLoop c) rfl (fun _ _ => .inl (by simp)) harr⟩
      | panic ch => exact ⟨_, a₁, w₁, hq, .pass (x := .inLoop c) rfl (fun _ _ => .inl (by simp)) harr⟩
      | outgrown => exact ⟨_, a₁, w₁, hq, .pass (x := .inLoop c) rfl (fun _ _ => .inl (by simp)) harr⟩
  intro b k cs
  obtain ⟨e, a', w', hq, harr⟩ := key _ x0 a w rfl h0 b k cs
  exact ⟨e, a', w', hq, .of_steps (.one step_loop) harr⟩

theorem c_loop {α : Type} {c : Code} (J : α → Act → World → Prop) (μ : α → Nat) (x0 : α) (h0 : J x0 a w)
    (round : ∀ x a w, J x a w → codeM md P c (Exit.then (fun a' w' => ∃ x', J x' a' w' ∧ μ x' < μ x) Q) a w) : codeM md P (Code.loop c) Q a w := by
  cases md with
  | wp => exact wp_loopG J μ x0 h0 round
  | rd r => exact wpIn_loopG J μ x0 h0 round

/-- the round's end -/
theorem n_round {α : Type} {J : α → Act → World → Prop} {μ : α → Nat} {x x' : α} (h : J x' a w) (hμ : μ x' < μ x) : Exit.then (fun a' w' => ∃ x', J x' a' w' ∧ μ x' < μ x) Q .normal a w := ⟨x', h, hμ⟩

/-! the entry and the end of a function -/
def argL : List Value → Nat → FL
  | [], _ => []
  | v :: r, i => (i, .val v) :: argL r (i + 1)

theorem lk_argL : ∀ (vs : List Value) (i t : Nat) (v : Value), vl (lk (argL vs i) t) = some v → ∃ j, t = i + j ∧ vs[j]? = some v
  | [], i, t, v, h => by simp [argL, lk, vl] at h
  | u :: r, i, t, v, h => by
    unfold argL at h
    by_cases ht : i = t
    · subst ht
      rw [lk_cons_eq] at h
      exact ⟨0, rfl, by simpa [vl] using h⟩
    · rw [lk_cons_ne ht] at h
      obtain ⟨j, hj, hv⟩ := lk_argL r (i + 1) t v h
      exact ⟨j + 1, by omega, by simpa using hv⟩

theorem f_enter {f : FuncId} {fn : Func} {c : Code} {args : List Value} {R : Ending → World → Prop} {n : Nat} (hf : P.funcs[f]? = some fn) (hb : fn.body = some c) (hn : fn.ntmps = n)
    (hle : Nat.ble args.length n = true) (h : ∀ a, Fr a n (argL args 0) → codeM .wp P c (bodyPost P fn R) a w) : Calls P f args.toArray w R := by
  have hle' : args.length ≤ n := Nat.le_of_ble_eq_true hle
  refine calls_of_wp hf hb (h _ ⟨rfl, ?_, fun i v hi => ?_⟩)
  · simp only [hn, Array.size_append, List.size_toArray, Array.size_replicate]; omega
  · obtain ⟨j, rfl, hj⟩ := lk_argL args 0 i v hi
    have hlt : j < args.length := (List.getElem?_eq_some_iff.1 hj).1
    simp only [Nat.zero_add]
    simp [Array.getElem?_append, hlt]
    have := (List.getElem?_eq_some_iff.1 hj).2
    exact this

theorem f_enterR {f : FuncId} {fn : Func} {c : Code} {args : List Value} {R : Ending → World → Prop} {n : Nat} (hf : P.funcs[f]? = some fn) (hb : fn.body = some c) (hn : fn.ntmps = n)
    (hle : Nat.ble args.length n = true) (h : ∀ a, Fr a n (argL args 0) → codeM (.rd none) P c (bodyPost P fn R) a w) : Calls P f args.toArray w R :=
  f_enter hf hb hn hle fun a hF => wpIn_wide.1 (h a hF)
inductive RVs (P : Program) (w : World) (L : FL) : List ResultVar → List Value → Prop where
  | nil : RVs P w L [] []
  | tmp {t : Nat} {v : Value} {rs : List ResultVar} {vs : List Value} (h : vl (lk L t) = some v) (r : RVs P w L rs vs) : RVs P w L (.tmp t :: rs) (v :: vs)
  | cell {c : Nat} {T : TypeId} {ad : Addr} {v : Value} {rs : List ResultVar} {vs : List Value} (h : vl (lk L c) = some (.pointer (some ad))) (hl : (loadVar T ad).run P w = .ok v w)
      (r : RVs P w L rs vs) : RVs P w L (.cell c T :: rs) (v :: vs)

def tupV : List Value → Value
  | [v] => v
  | vs => .tuple vs.toArray

theorem rvs_run {rs : List ResultVar} {vs : List Value} {fn : Func} (hF : Fr a n L) (hr : fn.results = rs.toArray) (h : RVs P w L rs vs) : (results fn a.tmps).run P w = .ok (tupV vs) w := by
  have key : ∀ (rs : List ResultVar) (vs : List Value), RVs P w L rs vs → (rs.mapM (m := Sem) fun
      | .tmp t => pure (a.tmps.getD t undef)
      | .cell c t => do loadVar t (← asAddr (a.tmps.getD c undef))).run P w = .ok vs w := by
    intro rs vs h
    induction h with
    | nil => simp
    | tmp h r ih =>
      have := hF.at_ _ _ h
      simp only [List.mapM_cons, Sem.run_bind, Sem.run_pure, Result.andThen_ok, ih, this]
    | cell h hl r ih =>
      have := hF.at_ _ _ h
      have e : ∀ ad, asAddr (.pointer (some ad)) = pure ad := fun _ => rfl
      simp only [List.mapM_cons, Sem.run_bind, Sem.run_pure, Result.andThen_ok, this, e, hl]
      rw [ih]
      simp only [Result.andThen_ok]
  unfold results
  rw [hr]
  simp only [List.mapM_toArray, Sem.run_bind]
  have := key rs vs h
  have e2 : (List.toArray <$> (rs.mapM (m := Sem) fun
      | .tmp t => pure (a.tmps.getD t undef)
      | .cell c t => do loadVar t (← asAddr (a.tmps.getD c undef)))).run P w = .ok vs.toArray w := by
    show ((rs.mapM (m := Sem) _) >>= fun x => pure (List.toArray x)).run P w = _
    rw [Sem.run_bind, this]
    simp
  refine (congrArg (fun r => Result.andThen r _) (e2 : _ = Result.ok vs.toArray w)).trans ?_
  simp only [Result.andThen_ok, Sem.run_pure]
  congr 1
  match vs with
  | [] => rfl
  | [v] => rfl
  | v :: u :: r => simp [tupV]

theorem f_ret {rs : List ResultVar} {vs : List Value} {fn : Func} {R : Ending → World → Prop} (hF : Fr a n L) (hr : fn.results = rs.toArray) (h : RVs P w L rs vs) (hR : R (.returned (tupV vs)) w) :
    bodyPost P fn R .ret a w := ⟨hF.df, _, rvs_run hF hr h, hR⟩
theorem f_end {rs : List ResultVar} {vs : List Value} {fn : Func} {R : Ending → World → Prop} (hF : Fr a n L) (hr : fn.results = rs.toArray) (h : RVs P w L rs vs) (hR : R (.returned (tupV vs)) w) :
    bodyPost P fn R .normal a w := ⟨hF.df, _, rvs_run hF hr h, hR⟩
end control
end Go.Dx
