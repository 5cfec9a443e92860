/- Laws of walks, and what functions of the program compute: part 2. Each with the conditions that it names. -/
import Derived.Lib.Bytealg
import Derived.Test.YtnmhenglealadaaChTa
set_option linter.unusedSimpArgs false
set_option linter.unusedVariables false
namespace Go.Dx
open Go Go.RowKit

section mk
variable {md : Md} {P : Program} {opsA : Array Oper} {rest : List Oper} {Q : Exit → Act → World → Prop} {a : Act} {w w0 : World} {h0 : View} {M : List Nat} {O : List OE} {F : View → Prop} {n : Nat} {L : FL}
variable {op : Op} {d : Option Nat} {ty t t2 T e : TypeId} {pos : String} {af : Array Edge} {g : Option (Nat × Bool)} {x y : Operand}

theorem keep_below {w w' : World} (h : Below w.heap.size w w') : Keep [] w w' := ⟨h.os, h.tape, h.output, h.size, fun k hk _ => h.block k hk⟩
theorem calls_below {f : FuncId} {args : Array Value} {v : Value} {h : View} (H : Calls P f args w fun e w' => e = .returned v ∧ Below w.heap.size w w') : Calls P f args w (Ret w h fun u _ => u = v) :=
  H.mono fun e w' ⟨he, hb⟩ => ⟨v, he, keep_below hb, rfl⟩

/-- a row of zero bytes -/
theorem s_make8 {dd m : Nat} {k1 k2 : IntKind} (hF : Fr a n L) (hS : St w0 h0 M w O F) (ht : P.underlying t = some (.slice e)) (hz : ∃ i, P.info? e = some i ∧ i.zero = some (.int .u8 0) ∧ i.size = 1 ∧ i.bytes = 1)
    (hx : ev L x = some (.int k1 (m : Int))) (hy : ev L y = some (.int k2 (m : Int))) (hm0 : 0 < m) (hm : m ≤ 1000000) (hd : Nat.blt dd n = true)
    (k : ∀ b w' a, St w0 h0 M w' (bufE e 1 (.slice (some ⟨b, 0, none⟩) m m) ((List.replicate m (0 : UInt8)).map v8) :: O) F → Fr a n ((dd, .val (.slice (some ⟨b, 0, none⟩) m m)) :: L) → wpM md P opsA Q rest a w') :
    wpM md P opsA Q (⟨some dd, .makeSlice t x y, ty, pos, af, none⟩ :: rest) a w := by
  obtain ⟨i, hi, hzz, hs, hb⟩ := hz
  have e2 : IntKind.i64.wrap (m : Int) = (m : Int) := wrap_i64 (by omega) (by omega)
  have hroom : ¬ (m * 1 > roomBytes) := by simp only [roomBytes]; omega
  have hrun : Ds P L ⟨some dd, .makeSlice t x y, ty, pos, af, none⟩ w fun v' w' => v' = .slice (some ⟨w.heap.size, 0, none⟩) m m ∧ w' = w.alloc (.cells ((List.replicate m (0 : UInt8)).map v8).toArray e) := by
    intro ρ hρ
    have h1 : ¬ ((281474976710656 : Int) < (m : Int)) := by omega
    unfold Does
    have hr : (Instr.makeSlice t (.int k1 (m : Int)) (.int k2 (m : Int))).run P w = .ok (.slice (some ⟨w.heap.size, 0, none⟩) m m) (w.alloc (.cells ((List.replicate m (0 : UInt8)).map v8).toArray e)) := by
      have hne : ¬ m = 0 := by omega
      unfold Instr.makeSlice
      simp [run_underlying ht, asInt, asIntOf, typeInfo, hi, e2, sizeOf, hs, hb, newRow, zeroValue, hzz, Value.cells, h1, show ¬ (m : Int) < 0 by omega, askRoom, hne, show ¬ roomBytes < m by simp only [roomBytes]; omega]
      congr 2
      apply Array.toList_inj.1
      apply List.ext_getElem?
      intro j
      by_cases hj : j < m
      · simp [hj, Nat.mod_one, v8]
      · simp [hj]
    have : (execOp ρ ⟨some dd, .makeSlice t x y, ty, pos, af, none⟩).run P w = .ok (.value (.slice (some ⟨w.heap.size, 0, none⟩) m m)) (w.alloc (.cells ((List.replicate m (0 : UInt8)).map v8).toArray e)) := by
      simp only [execOp, hρ x (by simp [Op.operands]) _ hx, hρ y (by simp [Op.operands]) _ hy, Sem.run_bind, hr, Result.andThen_ok, Sem.run_pure]
    rw [this]
    exact ⟨rfl, rfl⟩
  refine s_ds hF hrun hd ?_
  rintro v' w' a' ⟨rfl, rfl⟩ hF'
  refine k _ _ _ ?_ hF'
  refine hS.new _ (C := BufC e 1 (.slice (some ⟨w.heap.size, 0, none⟩) m m) ((List.replicate m (0 : UInt8)).map v8)) (.inr ⟨w.heap.size, 0, m, m, ((List.replicate m (0 : UInt8)).map v8).toArray, (0, 0), rfl, rfl, ?_, ?_, Nat.le_refl _, ?_, ?_, ?_⟩)
  · exact noFz00 _
  · simp
  · simp only [maxLen]; omega
  · simp
  · simp
end mk
end Go.Dx
namespace Go.Dx
open Go Go.RowKit

/-! a block that is made, and stored to once, within a region that draws its order -/
def AR (w : World) (z nw : Obj) (a b : World) : Prop :=
  b.os = a.os ∧ b.tape = a.tape ∧ b.output = a.output ∧ a.heap.size ≤ b.heap.size ∧ ∀ k, k < a.heap.size → b.heap[k]? = a.heap[k]? ∨ (w.heap.size ≤ k ∧ a.heap[k]? = some z ∧ b.heap[k]? = some nw)
theorem AR.refl (w : World) (z nw : Obj) (a : World) : AR w z nw a a := ⟨rfl, rfl, rfl, Nat.le_refl _, fun _ _ => .inl rfl⟩
theorem AR.trans {w : World} {z nw : Obj} {a b c : World} (h : AR w z nw a b) (k : AR w z nw b c) : AR w z nw a c := by
  refine ⟨k.1.trans h.1, k.2.1.trans h.2.1, k.2.2.1.trans h.2.2.1, Nat.le_trans h.2.2.2.1 k.2.2.2.1, fun i hi => ?_⟩
  have h1 := h.2.2.2.2 i hi
  have h2 := k.2.2.2.2 i (Nat.lt_of_lt_of_le hi h.2.2.2.1)
  rcases h1 with h1 | ⟨h1, h3, h4⟩
  · rcases h2 with h2 | ⟨h2, h5, h6⟩
    · exact .inl (h2.trans h1)
    · exact .inr ⟨h2, h1 ▸ h5, h6⟩
  · rcases h2 with h2 | ⟨h2, h5, h6⟩
    · exact .inr ⟨h1, h3, h2.trans h4⟩
    · exact .inr ⟨h1, h3, h6⟩
theorem AR.of_keep {w : World} {z nw : Obj} {a b : World} (h : Keep [] a b) : AR w z nw a b := ⟨h.os, h.tape, h.output, h.size, fun k hk => .inl (h.block k hk (by simp))⟩
instance (w : World) (z nw : Obj) : Rel (AR w z nw) := ⟨AR.refl w z nw, fun _ _ _ h k => h.trans (.of_keep k)⟩
theorem AR.keep {w : World} {z nw : Obj} {w1 : World} (h : AR w z nw w w1) : Keep [] w w1 := ⟨h.1, h.2.1, h.2.2.1, h.2.2.2.1, fun k hk _ => by
  rcases h.2.2.2.2 k hk with h1 | ⟨h1, _⟩
  · exact h1
  · omega⟩
def stabB (ops : Array Oper) (o : Oper) (t : Nat) : Bool := (List.range ops.size).all fun j => match ops[j]? with
  | some o' => !decide (o'.dst = some t) || o.after.any fun e => Region.binds .any e && decide (e.on = j)
  | none => true
theorem stab_of {ops : Array Oper} {o : Oper} {t : Nat} (h : stabB ops o t = true) : stab ops o t := by
  intro j o' ho hd
  have hj : j < ops.size := (Array.getElem?_eq_some_iff.1 ho).1
  have := List.all_eq_true.1 h j (List.mem_range.2 hj)
  simp only [ho, hd, decide_true, Bool.not_true, Bool.false_or, Array.any_eq_true'] at this
  obtain ⟨e, he, h2⟩ := this
  simp only [Bool.and_eq_true, decide_eq_true_eq] at h2
  exact ⟨e, he, h2.1, h2.2⟩

section al
variable {P : Program} {w w0 : World} {h0 : View} {M : List Nat} {O : List OE} {F : View → Prop} {Q : Exit → Act → World → Prop} {a : Act} {sz id : Nat} {l rest : List Oper} {L : FL}
variable {ops : Array Oper} {Qf : SP → (Nat → VP) → Prop} {Γ : Nat → VP} {t T : TypeId} {x y : Operand} {ty : TypeId} {pos : String} {af : Array Edge} {zc new : List Value}

theorem region_al (T : TypeId) (zc new : List Value) (n : Nat) (hF : Fr a sz L) (hS : St w0 h0 M w O F) (hv : ∀ t Φ, lk L t ≠ some (.prd Φ)) (hm : P.follows .mixedOrders = true) (hB : typT l.toArray n sz = true)
    (h : ∀ Γ, GF Γ L → TyW P l.toArray (CR (AR w (.cells zc.toArray T (0, 0)) (.cells new.toArray T (0, 0))) w w0 h0 M O F) (AR w (.cells zc.toArray T (0, 0)) (.cells new.toArray T (0, 0)))
      (TEnd P l n Q (CR (AR w (.cells zc.toArray T (0, 0)) (.cells new.toArray T (0, 0))) w w0 h0 M O F) sz) (l.take n) Γ) : codeM .wp P (Code.region id l.toArray true) Q a w :=
  region_typed n hF hv hm (fun _ hk => ⟨.of_keep hk, hS.step hk⟩) hB h

/-- what is known of the new block's pointer -/
def AlP (w : World) (T : TypeId) (zc new : List Value) : VP := fun v w' => ∃ b, v = .pointer (some ⟨b, 0, none⟩) ∧ w.heap.size ≤ b ∧ (w'.heap[b]? = some (.cells zc.toArray T (0, 0)) ∨ w'.heap[b]? = some (.cells new.toArray T (0, 0)))

theorem t_alloc {dd : Nat} (hG : GF Γ L) (hz : ZeroT P T zc)
    (k : ∀ Γ, GF Γ ((dd, .prd (AlP w T zc new)) :: L) → TyW P ops (CR (AR w (.cells zc.toArray T (0, 0)) (.cells new.toArray T (0, 0))) w w0 h0 M O F) (AR w (.cells zc.toArray T (0, 0)) (.cells new.toArray T (0, 0))) Qf rest Γ) :
    TyW P ops (CR (AR w (.cells zc.toArray T (0, 0)) (.cells new.toArray T (0, 0))) w w0 h0 M O F) (AR w (.cells zc.toArray T (0, 0)) (.cells new.toArray T (0, 0))) Qf (⟨some dd, .alloc T, ty, pos, af, none⟩ :: rest) Γ := by
  refine t_dp _ hG ?_ ?_ k
  · rintro v w1 w2 _ hR ⟨b, rfl, hb, hc⟩
    refine ⟨b, rfl, hb, ?_⟩
    have hlt : b < w1.heap.size := by rcases hc with h | h <;> exact (Array.getElem?_eq_some_iff.1 h).1
    rcases hR.2.2.2.2 b hlt with h1 | ⟨_, _, h1⟩
    · rw [h1]; exact hc
    · exact .inr h1
  · intro w1 hC ρ hρ
    obtain ⟨inf, zz, hi, hz, hc, _⟩ := hz
    unfold Does
    have : (execOp ρ ⟨some dd, .alloc T, ty, pos, af, none⟩).run P w1 = .ok (.value (.pointer (some ⟨w1.heap.size, 0, none⟩))) (w1.alloc (.cells zc.toArray T)) := by
      simp [execOp, Instr.alloc, zeroValue, typeInfo, hi, hz, newVar, newRow, hc]
    rw [this]
    have hk := keep_alloc w1 (.cells zc.toArray T)
    exact ⟨⟨w1.heap.size, rfl, hC.rel.2.2.2.1, .inl (heap_alloc_new w1 _)⟩, hC.step hk, hk⟩

theorem t_storeN {k : Nat} {v : Value} (hS : St w0 h0 M w O F) (hG : GF Γ L) (hk : lk L k = some (.prd (AlP w T zc new))) (hy : ev L y = some v)
    (hc : v.cells = new.toArray) (hsz : SzIs P t new.length) (h1 : allOne new = true) (hl : new.length = zc.length) (hst : stabB ops ⟨none, .store t (.tmp k) y, ty, pos, af, none⟩ k = true)
    (kk : ∀ Γ, GF Γ L → TyW P ops (CR (AR w (.cells zc.toArray T (0, 0)) (.cells new.toArray T (0, 0))) w w0 h0 M O F) (AR w (.cells zc.toArray T (0, 0)) (.cells new.toArray T (0, 0)))
      (fun E Γ => Qf (fun σ w => (∃ b, σ k = .pointer (some ⟨b, 0, none⟩) ∧ w.heap[b]? = some (.cells new.toArray T (0, 0))) ∧ E σ w) Γ) rest Γ) :
    TyW P ops (CR (AR w (.cells zc.toArray T (0, 0)) (.cells new.toArray T (0, 0))) w w0 h0 M O F) (AR w (.cells zc.toArray T (0, 0)) (.cells new.toArray T (0, 0))) Qf (⟨none, .store t (.tmp k) y, ty, pos, af, none⟩ :: rest) Γ := by
  refine ⟨fun _ _ => True, fun σ w => ∃ b, σ k = .pointer (some ⟨b, 0, none⟩) ∧ w.heap[b]? = some (.cells new.toArray T (0, 0)), ⟨⟨fun _ _ _ _ _ h => h, ?_⟩, fun a w1 hC hs => ?_⟩, kk Γ hG⟩
  · rintro σ σ' w1 w2 _ hR hσ ⟨b, hb, hh⟩
    refine ⟨b, by rw [← hσ k (stab_of hst)]; exact hb, ?_⟩
    rcases hR.2.2.2.2 b (Array.getElem?_eq_some_iff.1 hh).1 with h2 | ⟨_, _, h2⟩
    · rw [h2]; exact hh
    · exact h2
  · simp only [Region.wanted, if_true]
    have hkt : k ∈ Oper.looksAt ops ⟨none, .store t (.tmp k) y, ty, pos, af, none⟩ := by
      unfold Oper.looksAt
      exact List.mem_append_left _ (List.mem_filterMap.2 ⟨.tmp k, by simp [Op.operands], rfl⟩)
    have hΦ : AlP w T zc new (a.tmps.getD k undef) w1 := by
      have := hG k
      rw [hk] at this
      exact this _ _ (hs k hkt)
    obtain ⟨b, hbv, hbw, hcell⟩ := hΦ
    have ex : a.eval (.tmp k) = .pointer (some ⟨b, 0, none⟩) := hbv
    have ey := hG.ev hs y (by simp [Op.operands]) _ hy
    have key : ∃ c1 : List Value, w1.heap[b]? = some (.cells c1.toArray T (0, 0)) ∧ c1.length = new.length := by
      rcases hcell with h | h
      · exact ⟨zc, h, hl.symm⟩
      · exact ⟨new, h, rfl⟩
    obtain ⟨c1, hg, hl1⟩ := key
    have hspl : spl c1 0 new = new := by
      unfold spl
      rw [Nat.zero_add, List.drop_of_length_le (by omega)]
      simp
    have hrun : (execOp a.eval ⟨none, .store t (.tmp k) y, ty, pos, af, none⟩).run P w1 = .ok .skip (w1.setRow b new.toArray) := by
      have h2 := run_storeVar (P := P) (t := t) (off := 0) hg hc hsz h1 (by omega)
      rw [hspl] at h2
      simp only [execOp, ex, ey, Instr.storeAt, Instr.sureAddr, Sem.run_bind, Sem.run_pure, Result.andThen_ok, h2]
    have hn : (w1.setRow b new.toArray).heap[b]? = some (.cells new.toArray T (0, 0)) := setRow_heap w1 b _ _ T _ hg
    have hR : AR w (.cells zc.toArray T (0, 0)) (.cells new.toArray T (0, 0)) w1 (w1.setRow b new.toArray) := by
      refine ⟨rfl, rfl, rfl, by simp [World.setRow], fun j hj => ?_⟩
      by_cases hjb : j = b
      · subst hjb
        rcases hcell with h | h
        · exact .inr ⟨hbw, h, hn⟩
        · exact .inl (by rw [hn, h])
      · exact .inl (setRow_other w1 b j _ hjb)
    have hR2 := hC.rel.trans hR
    exact .inr ⟨_, hrun, ⟨hR2, hS.step hR2.keep⟩, hR, trivial, b, hbv, hn⟩

/-- behind the region the new block is one's own -/
theorem al_end {k : Nat} {w1 : World} (hS : St w0 h0 M w O F) (hC : CR (AR w (.cells zc.toArray T (0, 0)) (.cells new.toArray T (0, 0))) w w0 h0 M O F w1) (hΦ : AlP w T zc new (a.tmps.getD k undef) w1)
    (hE : ∃ b, sl a k = .pointer (some ⟨b, 0, none⟩) ∧ w1.heap[b]? = some (.cells new.toArray T (0, 0))) : ∃ b, a.tmps.getD k undef = .pointer (some ⟨b, 0, none⟩) ∧ St w0 h0 M w1 ((some b, CellsC T new) :: O) F := by
  obtain ⟨b, hb, hw, _⟩ := hΦ
  obtain ⟨b', hb', hh⟩ := hE
  have e : a.tmps.getD k undef = .pointer (some ⟨b', 0, none⟩) := hb'
  rw [hb] at e
  cases e
  exact ⟨b, hb, hS.addRow hC.rel.keep ⟨hw, hh⟩⟩
end al
end Go.Dx
namespace Go.Dx
open Go Go.RowKit

section
variable {P : Program} {L : FL} {w : World} {d : Option Nat} {ty t t' : TypeId} {pos : String} {af : Array Edge} {g : Option (Nat × Bool)} {x y : Operand}
theorem pu_min {k k' : IntKind} {m n r : Int} {ats : Array TypeId} (hx : ev L x = some (.int k m)) (hy : ev L y = some (.int k' n)) (hr : (if n < m then n else m) = r) : Pu P L ⟨d, .call ⟨.builtin .min, #[x, y], ats⟩, ty, pos, af, g⟩ w (.int k r) := by
  subst hr
  intro ρ hρ
  simp [execOp, resolve, invoke, builtin, hρ x (by simp [Op.operands, Call.operands]) _ hx, hρ y (by simp [Op.operands, Call.operands]) _ hy, Builtin.min_, Builtin.min2]
theorem pu_max {k k' : IntKind} {m n r : Int} {ats : Array TypeId} (hx : ev L x = some (.int k m)) (hy : ev L y = some (.int k' n)) (hr : (if m < n then n else m) = r) : Pu P L ⟨d, .call ⟨.builtin .max, #[x, y], ats⟩, ty, pos, af, g⟩ w (.int k r) := by
  subst hr
  intro ρ hρ
  simp [execOp, resolve, invoke, builtin, hρ x (by simp [Op.operands, Call.operands]) _ hx, hρ y (by simp [Op.operands, Call.operands]) _ hy, Builtin.max_, Builtin.max2]
end

/-! numbers as bytes -/
def I64 (n : Int) : Prop := -9223372036854775808 ≤ n ∧ n ≤ 9223372036854775807
def codeN (n : Int) : Nat := if n < 0 then 2 * (-1 - n).toNat + 1 else 2 * n.toNat
def numN (c : Nat) : Int := if c % 2 = 1 then -1 - ((c / 2 : Nat) : Int) else ((c / 2 : Nat) : Int)
theorem codeN_lt {n : Int} (h : I64 n) : codeN n < 18446744073709551616 := by
  unfold codeN; obtain ⟨h1, h2⟩ := h; split <;> omega
theorem num_code (n : Int) : numN (codeN n) = n := by
  unfold codeN
  split
  · rw [numN, if_pos (by omega)]; omega
  · rw [numN, if_neg (by omega)]; omega
theorem code_num (c : Nat) : codeN (numN c) = c := by
  unfold numN
  split
  · rw [codeN, if_pos (by omega)]; omega
  · rw [codeN, if_neg (by omega)]; omega
theorem numN_i64 {c : Nat} (h : c < 18446744073709551616) : I64 (numN c) := by
  unfold numN I64; split <;> omega
def vnum (c : Nat) : List UInt8 := if c < 128 then [UInt8.ofNat c] else UInt8.ofNat (128 + c % 128) :: vnum (c / 128)
theorem vnum_lo {c : Nat} (h : c < 128) : vnum c = [UInt8.ofNat c] := by rw [vnum, if_pos h]
theorem vnum_hi {c : Nat} (h : 128 ≤ c) : vnum c = UInt8.ofNat (128 + c % 128) :: vnum (c / 128) := by rw [vnum, if_neg (by omega)]
theorem vnum_len (k : Nat) : ∀ c, c < 128 ^ (k + 1) → (vnum c).length ≤ k + 1 := by
  induction k with
  | zero => intro c h; rw [vnum_lo (by simpa using h)]; simp
  | succ k ih =>
    intro c h
    rcases Nat.lt_or_ge c 128 with h1 | h1
    · rw [vnum_lo h1]; simp
    · rw [vnum_hi h1, List.length_cons]
      have := ih (c / 128) (by rw [Nat.div_lt_iff_lt_mul (by omega)]; rw [Nat.pow_succ] at h; exact h)
      omega
theorem vnum_len10 {c : Nat} (h : c < 18446744073709551616) : (vnum c).length ≤ 10 := vnum_len 9 c (Nat.lt_of_lt_of_le h (by decide))
theorem vnum_ne (c : Nat) : vnum c ≠ [] := by
  rw [vnum]; split <;> simp
def numS (n : Int) : List UInt8 := vnum (codeN n)
theorem numS_len {n : Int} (h : I64 n) : (numS n).length ≤ 10 := vnum_len10 (codeN_lt h)
def textS (s : List UInt8) : List UInt8 := numS s.length ++ s
theorem textS_len {s : List UInt8} (h : s.length ≤ 9223372036854775807) : (textS s).length ≤ 10 + s.length := by
  have := numS_len (n := s.length) ⟨by omega, by omega⟩
  rw [textS, List.length_append]; omega
/-- a number off the front: bytes from the i-th on, c the code of those ahead. -/
def takeG : Nat → Nat → List UInt8 → Int × List UInt8 × Int
  | _, _, [] => (0, [], 3)
  | i, c, b :: s => if (0 < i ∧ b = 0) ∨ (i = 9 ∧ 1 < b.toNat) then (0, [], 4) else if b.toNat < 128 then (numN (c + b.toNat % 128 * 128 ^ i), s, 0) else takeG (i + 1) (c + b.toNat % 128 * 128 ^ i) s
def takeN (s : List UInt8) : Int × List UInt8 × Int := takeG 0 0 s
def sizeS (s : List UInt8) (most : Int) : Int × List UInt8 × Int :=
  if (takeN s).2.2 ≠ 0 then (0, [], (takeN s).2.2) else if (takeN s).1 < 0 then (0, [], 4) else if most < (takeN s).1 then (0, [], 5) else takeN s
def takeT (s : List UInt8) (most : Int) : List UInt8 × List UInt8 × Int :=
  if (sizeS s most).2.2 ≠ 0 then ([], [], (sizeS s most).2.2) else if ((sizeS s most).2.1.length : Int) < (sizeS s most).1 then ([], [], 3) else ((sizeS s most).2.1.take (sizeS s most).1.toNat, (sizeS s most).2.1.drop (sizeS s most).1.toNat, 0)
theorem pow_le9 {k : Nat} (h : k ≤ 9) : 128 ^ k ≤ 9223372036854775808 := Nat.le_trans (Nat.pow_le_pow_right (by omega) h) (by decide)
theorem pow_le8 {k : Nat} (h : k < 9) : 128 ^ (k + 1) ≤ 9223372036854775808 := pow_le9 h
theorem pow_pos128 (k : Nat) : 0 < 128 ^ k := Nat.pow_pos (by omega)
theorem mul_lt_pow {d k : Nat} (h : d < 128) : d * 128 ^ k + 128 ^ k ≤ 128 ^ (k + 1) := by
  rw [Nat.pow_succ, ← Nat.succ_mul, Nat.mul_comm (128 ^ k)]
  exact Nat.mul_le_mul_right _ (by omega)
theorem take_fit {k c : Nat} {b : UInt8} (hk : k ≤ 9) (hc : c < 128 ^ k) (hb : ¬ (k = 9 ∧ 1 < b.toNat)) : c + b.toNat % 128 * 128 ^ k < 18446744073709551616 := by
  rcases Nat.lt_or_ge k 9 with h | h
  · have h1 := mul_lt_pow (d := b.toNat % 128) (k := k) (by omega)
    have h2 := pow_le8 h
    omega
  · obtain rfl : k = 9 := by omega
    have : b.toNat % 128 ≤ 1 := by omega
    have : b.toNat % 128 * 128 ^ 9 ≤ 1 * 128 ^ 9 := Nat.mul_le_mul_right _ this
    have e : 128 ^ 9 = 9223372036854775808 := by decide
    omega
theorem take_fit2 {k c : Nat} {b : UInt8} (hc : c < 128 ^ k) : c + b.toNat % 128 * 128 ^ k < 128 ^ (k + 1) := by
  have h1 := mul_lt_pow (d := b.toNat % 128) (k := k) (by omega)
  omega
theorem takeG_done {k c : Nat} {s : List UInt8} {b : UInt8} (h1 : ¬ ((0 < k ∧ b = 0) ∨ (k = 9 ∧ 1 < b.toNat))) (h2 : b.toNat < 128) : takeG k c (b :: s) = (numN (c + b.toNat % 128 * 128 ^ k), s, 0) := by
  rw [takeG, if_neg h1, if_pos h2]
theorem takeG_more {k c : Nat} {s : List UInt8} {b : UInt8} (h1 : ¬ ((0 < k ∧ b = 0) ∨ (k = 9 ∧ 1 < b.toNat))) (h2 : ¬ b.toNat < 128) : takeG k c (b :: s) = takeG (k + 1) (c + b.toNat % 128 * 128 ^ k) s := by
  rw [takeG, if_neg h1, if_neg h2]
theorem takeG_form {k c : Nat} {s : List UInt8} {b : UInt8} (h1 : (0 < k ∧ b = 0) ∨ (k = 9 ∧ 1 < b.toNat)) : takeG k c (b :: s) = (0, [], 4) := by
  rw [takeG, if_pos h1]
theorem drop_getD (s : List UInt8) (k : Nat) (h : k < s.length) : s.drop k = s.getD k 0 :: s.drop (k + 1) := by
  rw [List.drop_eq_getElem_cons h]; simp [List.getElem?_eq_getElem h]
theorem byte_lo {m : Nat} (h : m < 256) : (UInt8.ofNat m).toNat = m := by simp; omega
theorem takeG_vnum (r : List UInt8) : ∀ (m i c : Nat), i ≤ 9 → c + m * 128 ^ i < 18446744073709551616 → (0 < i → 0 < m) → takeG i c (vnum m ++ r) = (numN (c + m * 128 ^ i), r, 0) := by
  intro m
  induction m using Nat.strongRecOn with
  | _ m ih =>
    intro i c hi hc hm
    rcases Nat.lt_or_ge m 128 with h | h
    · have hb := byte_lo (m := m) (by omega)
      rw [vnum_lo h, List.singleton_append, takeG_done, hb, Nat.mod_eq_of_lt h]
      · rintro (⟨h1, h2⟩ | ⟨h1, h2⟩)
        · have := hm h1
          have : (UInt8.ofNat m).toNat = 0 := by rw [h2]; rfl
          omega
        · rw [hb] at h2
          subst h1
          have : 2 * 128 ^ 9 ≤ m * 128 ^ 9 := Nat.mul_le_mul_right _ h2
          have e : 128 ^ 9 = 9223372036854775808 := by decide
          omega
      · omega
    · have hb := byte_lo (m := 128 + m % 128) (by omega)
      have hi9 : i ≠ 9 := by
        rintro rfl
        have : 128 * 128 ^ 9 ≤ m * 128 ^ 9 := Nat.mul_le_mul_right _ h
        have e : 128 ^ 9 = 9223372036854775808 := by decide
        omega
      have e : c + (128 + m % 128) % 128 * 128 ^ i + m / 128 * 128 ^ (i + 1) = c + m * 128 ^ i := by
        rw [Nat.pow_succ, Nat.mul_comm (128 ^ i) 128, ← Nat.mul_assoc, Nat.add_assoc, ← Nat.add_mul]
        congr 2
        omega
      rw [vnum_hi h, List.cons_append, takeG_more, hb, ih (m / 128) (by omega) (i + 1) _ (by omega) (by rw [e]; exact hc) (fun _ => by omega), e]
      · rintro (⟨h1, h2⟩ | ⟨h1, h2⟩)
        · have : (UInt8.ofNat (128 + m % 128)).toNat = 0 := by rw [h2]; rfl
          omega
        · exact hi9 h1
      · omega
theorem take_num {n : Int} (h : I64 n) (r : List UInt8) : takeN (numS n ++ r) = (n, r, 0) := by
  rw [takeN, numS, takeG_vnum r _ 0 0 (by omega) (by have := codeN_lt h; omega) (by omega), show 0 + codeN n * 128 ^ 0 = codeN n by simp, num_code]
theorem vnum_takeG : ∀ (s : List UInt8) (i c : Nat), i ≤ 9 → c < 128 ^ i → (takeG i c s).2.2 = 0 → ∃ m, s = vnum m ++ (takeG i c s).2.1 ∧ (takeG i c s).1 = numN (c + m * 128 ^ i) ∧ c + m * 128 ^ i < 18446744073709551616 ∧ (0 < i → 0 < m) := by
  intro s
  induction s with
  | nil => intro i c _ _ h; simp [takeG] at h
  | cons b s ih =>
    intro i c hi hc h
    have hbl := b.toNat_lt
    by_cases h1 : (0 < i ∧ b = 0) ∨ (i = 9 ∧ 1 < b.toNat)
    · rw [takeG_form h1] at h; simp at h
    · have h9 : ¬ (i = 9 ∧ 1 < b.toNat) := fun h => h1 (.inr h)
      have hf := take_fit hi hc h9
      by_cases h2 : b.toNat < 128
      · rw [takeG_done h1 h2] at h ⊢
        rw [Nat.mod_eq_of_lt h2] at hf ⊢
        refine ⟨b.toNat, by rw [vnum_lo h2]; simp, rfl, hf, fun h0 => ?_⟩
        rcases Nat.eq_zero_or_pos b.toNat with hz | hz
        · exact absurd (.inl ⟨h0, UInt8.toNat_inj.1 hz⟩) h1
        · exact hz
      · rw [takeG_more h1 h2] at h ⊢
        obtain ⟨m, e1, e2, e3, e4⟩ := ih (i + 1) _ (by omega) (take_fit2 hc) h
        have e : c + b.toNat % 128 * 128 ^ i + m * 128 ^ (i + 1) = c + (b.toNat % 128 + 128 * m) * 128 ^ i := by
          rw [Nat.pow_succ, Nat.mul_comm (128 ^ i) 128, ← Nat.mul_assoc, Nat.add_assoc, ← Nat.add_mul, Nat.mul_comm 128 m]
        have hm := e4 (by omega)
        refine ⟨b.toNat % 128 + 128 * m, ?_, by rw [e2, e], by rw [← e]; exact e3, fun _ => by omega⟩
        rw [vnum_hi (by omega), List.cons_append, show (b.toNat % 128 + 128 * m) / 128 = m by omega, show 128 + (b.toNat % 128 + 128 * m) % 128 = b.toNat by omega]
        simp [← e1]
theorem num_take {s : List UInt8} (h : (takeN s).2.2 = 0) : s = numS (takeN s).1 ++ (takeN s).2.1 ∧ I64 (takeN s).1 := by
  obtain ⟨m, e1, e2, e3, _⟩ := vnum_takeG s 0 0 (by omega) (by simp) h
  simp only [Nat.pow_zero, Nat.mul_one, Nat.zero_add] at e2 e3
  refine ⟨?_, by rw [takeN, e2]; exact numN_i64 e3⟩
  rw [numS, takeN, e2, code_num]; exact e1
theorem takeG_err : ∀ (s : List UInt8) (i c : Nat), ((takeG i c s).2.2 = 0 ∨ (takeG i c s = (0, [], 3) ∨ takeG i c s = (0, [], 4))) ∧ (takeG i c s).2.1.length ≤ s.length := by
  intro s
  induction s with
  | nil => intro i c; simp [takeG]
  | cons b s ih =>
    intro i c
    by_cases h1 : (0 < i ∧ b = 0) ∨ (i = 9 ∧ 1 < b.toNat)
    · rw [takeG_form h1]; simp
    · by_cases h2 : b.toNat < 128
      · rw [takeG_done h1 h2]; simp
      · rw [takeG_more h1 h2]
        have := ih (i + 1) (c + b.toNat % 128 * 128 ^ i)
        exact ⟨this.1, Nat.le_trans this.2 (by simp)⟩
theorem takeN_err (s : List UInt8) : (takeN s).2.2 = 0 ∨ takeN s = (0, [], 3) ∨ takeN s = (0, [], 4) := (takeG_err s 0 0).1
theorem takeN_len (s : List UInt8) : (takeN s).2.1.length ≤ s.length := (takeG_err s 0 0).2
theorem takeN_i64 (s : List UInt8) : I64 (takeN s).1 := by
  rcases takeN_err s with h | h | h
  · exact (num_take h).2
  · rw [h]; exact ⟨show (-9223372036854775808 : Int) ≤ 0 by decide, show (0 : Int) ≤ 9223372036854775807 by decide⟩
  · rw [h]; exact ⟨show (-9223372036854775808 : Int) ≤ 0 by decide, show (0 : Int) ≤ 9223372036854775807 by decide⟩
theorem sizeS_ok {s : List UInt8} {most : Int} (h : (sizeS s most).2.2 = 0) : sizeS s most = takeN s ∧ (takeN s).2.2 = 0 ∧ 0 ≤ (takeN s).1 ∧ (takeN s).1 ≤ most := by
  unfold sizeS at h ⊢
  split at h
  · exact absurd h (by assumption)
  · rename_i h1
    rw [if_neg h1]
    split at h
    · cases h
    · rename_i h2
      rw [if_neg h2]
      split at h
      · cases h
      · rename_i h3
        rw [if_neg h3]
        exact ⟨rfl, h, by omega, by omega⟩
theorem sizeS_len (s : List UInt8) (most : Int) : (sizeS s most).2.1.length ≤ s.length := by
  have := takeN_len s
  unfold sizeS
  split
  · simp
  · split
    · simp
    · split
      · simp
      · exact this
theorem sizeS_i64 (s : List UInt8) (most : Int) : I64 (sizeS s most).1 := by
  have := takeN_i64 s
  have z : I64 0 := ⟨by decide, by decide⟩
  unfold sizeS
  split
  · exact z
  · split
    · exact z
    · split
      · exact z
      · exact this
theorem takeT_len (s : List UInt8) (most : Int) : (takeT s most).1.length ≤ s.length ∧ (takeT s most).2.1.length ≤ s.length := by
  have := sizeS_len s most
  unfold takeT
  split
  · simp
  · split
    · simp
    · constructor
      · simp [List.length_take]; omega
      · simp [List.length_drop]; omega
theorem take_text {t : List UInt8} {most : Int} (h : (t.length : Int) ≤ most) (h2 : t.length ≤ 9223372036854775807) (r : List UInt8) : takeT (textS t ++ r) most = (t, r, 0) := by
  have hn : takeN (textS t ++ r) = ((t.length : Int), t ++ r, 0) := by
    rw [textS, List.append_assoc]; exact take_num ⟨by omega, by omega⟩ _
  have hs : sizeS (textS t ++ r) most = ((t.length : Int), t ++ r, 0) := by
    rw [sizeS, hn, if_neg (by simp), if_neg (show ¬ ((t.length : Int) < 0) by omega), if_neg (show ¬ (most < (t.length : Int)) by omega)]
  rw [takeT, hs, if_neg (by simp), if_neg (show ¬ (((t ++ r).length : Int) < (t.length : Int)) by rw [List.length_append]; omega)]
  simp
theorem text_take {s : List UInt8} {most : Int} (h : (takeT s most).2.2 = 0) : s = textS (takeT s most).1 ++ (takeT s most).2.1 ∧ ((takeT s most).1.length : Int) ≤ most := by
  unfold takeT at h ⊢
  split at h
  · exact absurd h (by assumption)
  · rename_i h1
    rw [if_neg h1]
    split at h
    · cases h
    · rename_i h2
      rw [if_neg h2]
      obtain ⟨e1, e2, e3, e4⟩ := sizeS_ok (Decidable.not_not.1 h1)
      rw [e1] at h2 ⊢
      obtain ⟨n1, _⟩ := num_take e2
      have hl : ((takeN s).2.1.take (takeN s).1.toNat).length = (takeN s).1.toNat := by rw [List.length_take]; omega
      refine ⟨?_, by rw [hl]; omega⟩
      show s = textS ((takeN s).2.1.take (takeN s).1.toNat) ++ (takeN s).2.1.drop (takeN s).1.toNat
      rw [textS, hl, List.append_assoc, List.take_append_drop, show (((takeN s).1.toNat : Nat) : Int) = (takeN s).1 by omega]
      exact n1
theorem takeT_err (s : List UInt8) (most : Int) : (takeT s most).2.2 = 0 ∨ takeT s most = ([], [], (takeT s most).2.2) := by
  unfold takeT
  split
  · exact .inr rfl
  · split
    · exact .inr rfl
    · exact .inl rfl

/-! the same with bits -/
theorem ofInt_nat {k n : Nat} (h : n < 2 ^ k) : (BitVec.ofInt k (n : Int)).toNat = n := by
  rw [BitVec.toNat_ofInt, ← Int.natCast_emod, Int.toNat_natCast, Nat.mod_eq_of_lt h]
theorem code_bits {n : Int} (h : I64 n) : IntKind.u64.wrap ((BitVec.ofInt IntKind.u64.bits (IntKind.u64.wrap (IntKind.u64.wrap n * 2 ^ (min (Int.toNat 1) IntKind.u64.bits))) ^^^ BitVec.ofInt IntKind.u64.bits (IntKind.u64.wrap (n.fdiv (2 ^ (min (Int.toNat 63) IntKind.i64.bits))))).toNat : Int) = (codeN n : Int) := by
  obtain ⟨h1, h2⟩ := h
  have e1 : (2 : Int) ^ (min (Int.toNat 1) IntKind.u64.bits) = 2 := by decide
  have e2 : (2 : Int) ^ (min (Int.toNat 63) IntKind.i64.bits) = 9223372036854775808 := by decide
  rw [e1, e2]
  show IntKind.u64.wrap ((BitVec.ofInt 64 _ ^^^ BitVec.ofInt 64 _).toNat : Int) = _
  rw [Int.fdiv_eq_ediv_of_nonneg _ (by omega)]
  by_cases hn : n < 0
  · have a : IntKind.u64.wrap n = n + 18446744073709551616 := by
      simp only [IntKind.wrap, IntKind.bits, IntKind.signed, Bool.false_and, Bool.false_eq_true, if_false]; omega
    have b : IntKind.u64.wrap ((n + 18446744073709551616) * 2) = ((18446744073709551615 - codeN n : Nat) : Int) := by
      simp only [IntKind.wrap, IntKind.bits, IntKind.signed, Bool.false_and, Bool.false_eq_true, if_false, codeN, if_pos hn]; omega
    have c : IntKind.u64.wrap (n / 9223372036854775808) = ((18446744073709551615 : Nat) : Int) := by
      rw [show n / 9223372036854775808 = -1 by omega]; decide
    have hc : codeN n ≤ 18446744073709551615 := by have := codeN_lt ⟨h1, h2⟩; omega
    rw [a, b, c, BitVec.toNat_xor, ofInt_nat (by omega), ofInt_nat (by omega)]
    have : ∀ m, m ≤ 18446744073709551615 → (m ^^^ 18446744073709551615) = 18446744073709551615 - m := fun m hm => by
      have h3 := BitVec.toNat_not (x := BitVec.ofNat 64 m)
      rw [BitVec.not_def, BitVec.toNat_xor, BitVec.toNat_ofNat, BitVec.toNat_allOnes, Nat.mod_eq_of_lt (by omega), Nat.xor_comm] at h3
      rw [show (18446744073709551615 : Nat) = 2 ^ 64 - 1 by decide]
      rw [Nat.xor_comm] at h3 ⊢
      first | exact h3 | (rw [Nat.xor_comm]; exact h3)
    rw [this _ (by omega), wrap_u64 (by omega) (by omega)]
    omega
  · have a : IntKind.u64.wrap n = n := wrap_u64 (by omega) (by omega)
    have b : IntKind.u64.wrap (n * 2) = (codeN n : Int) := by
      rw [wrap_u64 (by omega) (by omega), codeN, if_neg hn]; omega
    have c : IntKind.u64.wrap (n / 9223372036854775808) = ((0 : Nat) : Int) := by
      rw [show n / 9223372036854775808 = 0 by omega]; decide
    have hc := codeN_lt ⟨h1, h2⟩
    rw [a, b, c, BitVec.toNat_xor, ofInt_nat (by omega), ofInt_nat (by omega), Nat.xor_zero, wrap_u64 (by omega) (by omega)]
theorem num_bits {c : Nat} (h : c < 18446744073709551616) : IntKind.i64.wrap ((BitVec.ofInt IntKind.i64.bits (IntKind.i64.wrap ((c : Int).fdiv (2 ^ (min (Int.toNat 1) IntKind.u64.bits)))) ^^^ BitVec.ofInt IntKind.i64.bits (IntKind.i64.wrap (0 - IntKind.i64.wrap (IntKind.u64.wrap ((BitVec.ofInt IntKind.u64.bits (c : Int) &&& BitVec.ofInt IntKind.u64.bits 1).toNat : Int))))).toNat : Int) = numN c := by
  have e1 : (2 : Int) ^ (min (Int.toNat 1) IntKind.u64.bits) = ((2 : Nat) : Int) := by decide
  rw [e1, fdiv_nat]
  show IntKind.i64.wrap ((BitVec.ofInt 64 _ ^^^ BitVec.ofInt 64 (IntKind.i64.wrap (0 - IntKind.i64.wrap (IntKind.u64.wrap ((BitVec.ofInt 64 (c : Int) &&& BitVec.ofInt 64 ((1 : Nat) : Int)).toNat : Int))))).toNat : Int) = _
  have ea : (BitVec.ofInt 64 (c : Int) &&& BitVec.ofInt 64 ((1 : Nat) : Int)).toNat = c % 2 := by
    rw [BitVec.toNat_and, ofInt_nat (by omega), ofInt_nat (by omega), Nat.and_one_is_mod]
  rw [ea, wrap_u64 (by omega) (by omega), wrap_i64 (n := ((c % 2 : Nat) : Int)) (by omega) (by omega), wrap_i64 (n := 0 - _) (by omega) (by omega), wrap_i64 (n := ((c / 2 : Nat) : Int)) (by omega) (by omega)]
  by_cases hc : c % 2 = 1
  · rw [numN, if_pos hc, hc]
    have hm : BitVec.ofInt 64 (0 - ((1 : Nat) : Int)) = BitVec.allOnes 64 := by decide
    rw [hm, BitVec.xor_comm, ← BitVec.not_def, BitVec.toNat_not, ofInt_nat (by omega)]
    have e3 : ((2 ^ 64 - 1 - c / 2 : Nat) : Int) = 18446744073709551615 - ((c / 2 : Nat) : Int) := by omega
    have h3 : ((c / 2 : Nat) : Int) < 9223372036854775808 := by omega
    have h4 : (0 : Int) ≤ ((c / 2 : Nat) : Int) := by omega
    rw [e3]
    generalize ((c / 2 : Nat) : Int) = q at *
    have h5 : (18446744073709551615 - q) % (2 ^ 64 : Int) = 18446744073709551615 - q := Int.emod_eq_of_lt (by omega) (by omega)
    have h6 : IntKind.i64.wrap (18446744073709551615 - q) = (if (18446744073709551615 - q) % (2 ^ 64 : Int) ≥ (2 ^ 63 : Int) then (18446744073709551615 - q) % (2 ^ 64 : Int) - 2 ^ 64 else (18446744073709551615 - q) % (2 ^ 64 : Int)) := by
      show (if (true && decide _) = true then _ else _) = _
      simp only [Bool.true_and, decide_eq_true_eq]; rfl
    rw [h6, h5, if_pos (by omega)]; omega
  · rw [numN, if_neg hc, show c % 2 = 0 by omega]
    have hm : BitVec.ofInt 64 (0 - ((0 : Nat) : Int)) = 0#64 := by decide
    rw [hm, BitVec.xor_zero, ofInt_nat (by omega), wrap_i64 (by omega) (by omega)]
theorem and127 : ∀ n : Nat, n < 256 → IntKind.u8.wrap ((BitVec.ofInt IntKind.u8.bits (n : Int) &&& BitVec.ofInt IntKind.u8.bits 127).toNat : Int) = ((n % 128 : Nat) : Int) := by decide +kernel
theorem or128 : ∀ n : Nat, n < 128 → IntKind.u8.wrap ((BitVec.ofInt IntKind.u8.bits (n : Int) ||| BitVec.ofInt IntKind.u8.bits 128).toNat : Int) = (((UInt8.ofNat (128 + n)).toNat : Nat) : Int) := by decide +kernel
theorem low_bits (c : Nat) : IntKind.u8.wrap ((BitVec.ofInt IntKind.u8.bits (IntKind.u8.wrap (c : Int)) &&& BitVec.ofInt IntKind.u8.bits 127).toNat : Int) = ((c % 128 : Nat) : Int) := by
  have h := and127 (c % 2 ^ 8) (by omega)
  rw [wrap_u8_nat c, h]
  congr 1; omega
theorem shl_or {c d k : Nat} (hc : c < 128 ^ k) (hd : d < 128) (hk : k ≤ 9) (hf : c + d * 128 ^ k < 18446744073709551616) :
    IntKind.u64.wrap ((BitVec.ofInt IntKind.u64.bits (c : Int) ||| BitVec.ofInt IntKind.u64.bits (IntKind.u64.wrap ((d : Int) * 2 ^ (min (Int.toNat ((7 * k : Nat) : Int)) IntKind.u64.bits)))).toNat : Int) = ((c + d * 128 ^ k : Nat) : Int) := by
  have e7 : min (Int.toNat ((7 * k : Nat) : Int)) IntKind.u64.bits = 7 * k := by
    rw [Int.toNat_natCast]; exact Nat.min_eq_left (show 7 * k ≤ 64 by omega)
  have e2 : (2 : Int) ^ (7 * k) = ((128 ^ k : Nat) : Int) := by rw [show 128 ^ k = 2 ^ (7 * k) by rw [Nat.pow_mul]]; simp
  rw [e7, e2, ← Int.natCast_mul, wrap_u64 (n := ((d * 128 ^ k : Nat) : Int)) (by omega) (by omega)]
  show IntKind.u64.wrap ((BitVec.ofInt 64 _ ||| BitVec.ofInt 64 _).toNat : Int) = _
  rw [BitVec.toNat_or, ofInt_nat (by omega), ofInt_nat (by omega)]
  have hp : 128 ^ k = 2 ^ (7 * k) := by rw [Nat.pow_mul]
  have : c ||| d * 128 ^ k = c + d * 128 ^ k := by
    rw [hp] at hc ⊢
    rw [← Nat.shiftLeft_eq, Nat.or_comm, ← Nat.shiftLeft_add_eq_or_of_lt hc, Nat.add_comm]
  rw [this, wrap_u64 (by omega) (by omega)]

/-! two arrays of plain elements -/
section
variable {P : Program}
theorem run_eqArr {d n : Nat} {t e : TypeId} {k : PK} (ht : P.underlying t = some (.array n e)) (hz : SzIs P e 1) (hk : k.ty P e) {xs ys : Array Value} (hc : ∀ i, i < n → ∃ u v, xs[i]? = some u ∧ ys[i]? = some v ∧ k.fits u ∧ k.fits v) (w : World) :
    (Op.equalIn (d + 2) t (.agg xs) (.agg ys)).run P w = .ok ((List.range n).all fun i => eqC (xs.getD i undef) (ys.getD i undef)) w := by
  obtain ⟨inf, hi, hs⟩ := hz
  have hz : ∀ w, (sizeOf e).run P w = .ok 1 w := fun w => by rw [← hs]; simp [sizeOf, typeInfo, hi]
  rw [Op.equalIn]
  simp only [Sem.run_bind, run_underlying ht, Result.andThen_ok, hz]
  simp only [Std.Legacy.Range.forIn_eq_forIn_range', Std.Legacy.Range.size, Nat.sub_zero, Nat.add_sub_cancel, Nat.div_one, Nat.mul_one]
  rw [← List.range_eq_range']
  have hl : ∀ i ∈ List.range n, i < n := fun i hi => List.mem_range.1 hi
  generalize List.range n = l at hl
  induction l with
  | nil => simp
  | cons i l ih =>
    obtain ⟨u, v, hu, hv, fu, fv⟩ := hc i (hl i (by simp))
    have eu : xs.getD i undef = u := by simp [hu]
    have ev : ys.getD i undef = v := by simp [hv]
    have ih := ih fun j hj => hl j (by simp [hj])
    simp only [List.forIn_cons, Sem.run_bind, run_partC hk hu, run_partC hk hv, Result.andThen_ok, run_eqC hk fu fv, List.all_cons, eu, ev]
    cases eqC u v
    · simp
    · simpa using ih
theorem EqT.ofArr {α : Type} [DecidableEq α] {t e : TypeId} {f : α → List Value} (n : Nat) (k : PK) (hg : P.eqGuardType P.depth t = false) (ht : P.underlying t = some (.array n e)) (hz : SzIs P e 1) (hk : k.ty P e)
    (hc : ∀ a b : α, ∀ i, i < n → ∃ u v, (f a)[i]? = some u ∧ (f b)[i]? = some v ∧ k.fits u ∧ k.fits v)
    (he : ∀ a b : α, ((List.range n).all fun i => eqC ((f a).toArray.getD i undef) ((f b).toArray.getD i undef)) = decide (a = b)) : EqT P t f := by
  refine ⟨hg, fun w a b => ?_⟩
  rw [show (10000 : Nat) = 9998 + 2 from rfl, run_eqArr ht hz hk (fun i hi => by
    obtain ⟨u, v, h1, h2, h3, h4⟩ := hc a b i hi
    exact ⟨u, v, by simpa using h1, by simpa using h2, h3, h4⟩), he a b]
end
theorem shr7 (c : Nat) : (c : Int).fdiv (2 ^ (min (Int.toNat 7) IntKind.u64.bits)) = ((c / 128 : Nat) : Int) := by
  rw [show (2 : Int) ^ (min (Int.toNat 7) IntKind.u64.bits) = ((128 : Nat) : Int) by decide, fdiv_nat]
theorem quo_u64 {c d : Nat} (h : c < 18446744073709551616) (hd : 0 < d) : IntKind.u64.wrap ((c : Int).tdiv (d : Int)) = ((c / d : Nat) : Int) := by
  have h1 := Nat.div_le_self c d
  have e : (c : Int).tdiv (d : Int) = ((c / d : Nat) : Int) := by rw [Int.tdiv_eq_ediv_of_nonneg (by omega)]; rfl
  rw [e]
  generalize c / d = q at *
  exact wrap_u64 (by omega) (by omega)
theorem tmod_nat (c d : Nat) : (c : Int).tmod (d : Int) = ((c % d : Nat) : Int) := by rw [Int.tmod_eq_emod_of_nonneg (by omega)]; rfl
theorem tg_end {s : List UInt8} {k c : Nat} (h : s.length ≤ k) : takeG k c (s.drop k) = (0, [], 3) := by rw [List.drop_of_length_le h]; rfl
theorem tg_form {s : List UInt8} {k c : Nat} (hd : k < s.length) (h : (0 < k ∧ (s.getD k 0).toNat = 0) ∨ (k = 9 ∧ 1 < (s.getD k 0).toNat)) : takeG k c (s.drop k) = (0, [], 4) := by
  rw [drop_getD s k hd, takeG_form (h.imp (fun h => ⟨h.1, UInt8.toNat_inj.1 h.2⟩) id)]
theorem tg_not {k : Nat} {b : UInt8} (h : ¬ ((0 < k ∧ b.toNat = 0) ∨ (k = 9 ∧ 1 < b.toNat))) : ¬ ((0 < k ∧ b = 0) ∨ (k = 9 ∧ 1 < b.toNat)) := by
  rintro (⟨h1, rfl⟩ | h2)
  · exact h (.inl ⟨h1, rfl⟩)
  · exact h (.inr h2)
theorem tg_done {s : List UInt8} {k c : Nat} (hd : k < s.length) (h : ¬ ((0 < k ∧ (s.getD k 0).toNat = 0) ∨ (k = 9 ∧ 1 < (s.getD k 0).toNat))) (h2 : (s.getD k 0).toNat < 128) : takeG k c (s.drop k) = (numN (c + (s.getD k 0).toNat % 128 * 128 ^ k), s.drop (k + 1), 0) := by
  rw [drop_getD s k hd, takeG_done (tg_not h) h2]
theorem tg_more {s : List UInt8} {k c : Nat} (hd : k < s.length) (h : ¬ ((0 < k ∧ (s.getD k 0).toNat = 0) ∨ (k = 9 ∧ 1 < (s.getD k 0).toNat))) (h2 : ¬ (s.getD k 0).toNat < 128) : takeG k c (s.drop k) = takeG (k + 1) (c + (s.getD k 0).toNat % 128 * 128 ^ k) (s.drop (k + 1)) := by
  rw [drop_getD s k hd, takeG_more (tg_not h) h2]
def tkV (r : Int × List UInt8 × Int) : Value := .tuple #[.int .i64 r.1, vs r.2.1, .int .i64 r.2.2]
def ttV (r : List UInt8 × List UInt8 × Int) : Value := .tuple #[vs r.1, vs r.2.1, .int .i64 r.2.2]

/-! strings in their order; calls that hand back a new buffer beside other values -/
theorem less_cmp : ∀ a b : List UInt8, Op.bytesLess a b = decide (Lib.compareBytes a b = -1)
  | [], [] => rfl
  | [], _ :: _ => rfl
  | _ :: _, [] => rfl
  | a :: as, b :: bs => by
    unfold Op.bytesLess Lib.compareBytes
    by_cases h1 : a < b
    · simp [h1]
    · by_cases h2 : b < a
      · have : ¬ a = b := fun e => by subst e; exact h1 h2
        simp [h1, h2, this]
      · have : a = b := UInt8.le_antisymm (UInt8.not_lt.1 h2) (UInt8.not_lt.1 h1)
        subst this
        simp [h1, less_cmp as bs]
theorem cmp_refl : ∀ a : List UInt8, Lib.compareBytes a a = 0
  | [] => rfl
  | a :: as => by unfold Lib.compareBytes; simp [cmp_refl as]
theorem cmp_zero : ∀ {a b : List UInt8}, Lib.compareBytes a b = 0 → a = b
  | [], [], _ => rfl
  | [], _ :: _, h => by cases h
  | _ :: _, [], h => by cases h
  | a :: as, b :: bs, h => by
    unfold Lib.compareBytes at h
    by_cases h1 : a < b
    · simp [h1] at h
    · by_cases h2 : b < a
      · simp [h1, h2] at h
      · simp [h1, h2] at h
        have hab : a = b := UInt8.le_antisymm (UInt8.not_lt.1 h2) (UInt8.not_lt.1 h1)
        rw [hab, cmp_zero h]
theorem cmp_three : ∀ a b : List UInt8, Lib.compareBytes a b = -1 ∨ Lib.compareBytes a b = 0 ∨ Lib.compareBytes a b = 1
  | [], [] => .inr (.inl rfl)
  | [], _ :: _ => .inl rfl
  | _ :: _, [] => .inr (.inr rfl)
  | a :: as, b :: bs => by
    unfold Lib.compareBytes
    by_cases h1 : a < b
    · simp [h1]
    · by_cases h2 : b < a
      · simp [h1, h2]
      · simp only [h1, h2, if_false]; exact cmp_three as bs
theorem cmp_swap : ∀ a b : List UInt8, Lib.compareBytes b a = -Lib.compareBytes a b
  | [], [] => rfl
  | [], _ :: _ => rfl
  | _ :: _, [] => rfl
  | a :: as, b :: bs => by
    unfold Lib.compareBytes
    by_cases h1 : a < b
    · have h2 : ¬ b < a := fun h => UInt8.lt_irrefl _ (UInt8.lt_trans h1 h)
      simp [h1, h2]
    · by_cases h2 : b < a
      · simp [h1, h2]
      · simp [h1, h2, cmp_swap as bs]
theorem cmp_trans : ∀ a b c : List UInt8, Lib.compareBytes a b = -1 → Lib.compareBytes b c = -1 → Lib.compareBytes a c = -1
  | [], [], _, h, _ => by cases h
  | [], _ :: _, [], _, h => by cases h
  | [], _ :: _, _ :: _, _, _ => rfl
  | _ :: _, [], _, h, _ => by cases h
  | _ :: _, _ :: _, [], _, h => by cases h
  | a :: as, b :: bs, c :: cs, h, k => by
    unfold Lib.compareBytes at h k ⊢
    by_cases h1 : a < b
    · by_cases k1 : b < c
      · simp [UInt8.lt_trans h1 k1]
      · by_cases k2 : c < b
        · simp [k1, k2] at k
        · have : b = c := UInt8.le_antisymm (UInt8.not_lt.1 k2) (UInt8.not_lt.1 k1)
          subst this; simp [h1]
    · by_cases h2 : b < a
      · simp [h1, h2] at h
      · have : a = b := UInt8.le_antisymm (UInt8.not_lt.1 h2) (UInt8.not_lt.1 h1)
        subst this
        by_cases k1 : a < c
        · simp [k1]
        · by_cases k2 : c < a
          · simp [k1, k2] at k
          · simp only [k1, k2, h1, if_false] at h k ⊢
            exact cmp_trans as bs cs h k
section
variable {P : Program} {L : FL} {w : World} {d : Option Nat} {ty t t' : TypeId} {pos : String} {af : Array Edge} {g : Option (Nat × Bool)} {x y : Operand} {l l' : List UInt8}
theorem pu_slt (hx : ev L x = some (vs l)) (hy : ev L y = some (vs l')) : Pu P L ⟨d, .binOp .lss t x y t', ty, pos, af, g⟩ w (.bool (decide (Lib.compareBytes l l' = -1))) := by
  intro ρ hρ
  have e : binOp .lss t (vs l) (vs l') = pure (.bool (decide (Lib.compareBytes l l' = -1))) := by rw [binOp_string_lss, less_cmp]; simp [toList_mk]
  simp only [execOp, hρ x (by simp [Op.operands]) _ hx, hρ y (by simp [Op.operands]) _ hy, Sem.run_bind, e]
  simp [eqGuard]
end
section
variable {md : Md} {P : Program} {opsA : Array Oper} {rest : List Oper} {Q : Exit → Act → World → Prop} {a : Act} {w w0 : World} {h0 : View} {M : List Nat} {O : List OE} {F : View → Prop} {n : Nat} {L : FL} {T ty : TypeId} {pos : String} {af : Array Edge}
theorem s_callBT {dd sz : Nat} {xs : List Value} {tl : List Value} {f : FuncId} {args : List Operand} {vsl : List Value} {ats : Array TypeId} (hF : Fr a n L) (hS : St w0 h0 M w O F) (hc : CallOk P f) (ha : evs L args = some vsl)
    (H : Calls P f vsl.toArray w (RetM [] w fun v w' => ∃ u, v = .tuple (u :: tl).toArray ∧ NewBuf w T sz xs u w')) (hd : Nat.blt dd n = true)
    (k : ∀ a0 nn c w' a, nn * sz = xs.length → St w0 h0 M w' (bufE T sz (.slice a0 nn c) xs :: O) F → Fr a n ((dd, .val (.tuple (.slice a0 nn c :: tl).toArray)) :: L) → wpM md P opsA Q rest a w') :
    wpM md P opsA Q (⟨some dd, .call ⟨.value (.func f), args.toArray, ats⟩, ty, pos, af, none⟩ :: rest) a w := by
  refine s_ds hF (ds_call (Post := fun u w' => ∃ a0 nn c, u = .tuple (.slice a0 nn c :: tl).toArray ∧ nn * sz = xs.length ∧ St w0 h0 M w' (bufE T sz (.slice a0 nn c) xs :: O) F) hc ha (H.mono ?_)) hd ?_
  · rintro e w' ⟨v, rfl, hk, u, rfl, hB⟩
    obtain ⟨a0, nn, c, rfl, hnn⟩ := hB.form
    exact ⟨_, rfl, a0, nn, c, rfl, hnn, hS.addBuf hk hB⟩
  · rintro v w' a' ⟨a0, nn, c, rfl, hnn, hS'⟩ hF'
    exact k a0 nn c w' a' hnn hS' hF'
end
theorem calls_same {P : Program} {w : World} {f : FuncId} {args : Array Value} {v : Value} {h : View} (H : Calls P f args w fun e w' => e = .returned v ∧ w' = w) : Calls P f args w (Ret w h fun u _ => u = v) :=
  calls_below (H.mono fun e w' ⟨he, hw⟩ => ⟨he, by subst hw; exact Below.refl _ _⟩)
theorem St.bufFull {w w0 : World} {h0 : View} {M : List Nat} {O : List OE} {F : View → Prop} {T : TypeId} {i sz nn c : Nat} {a0 : Option Addr} {α : Type} {f : α → List Value} {l : List α} (hS : St w0 h0 M w O F) (hi : O[i]? = some (bufE T sz (.slice a0 nn c) (l.map f).flatten)) (hf : ∀ x ∈ l, (f x).length = sz) (hn : nn = l.length) :
    SlC T sz (flatR f) (Full w) (.slice a0 nn c) l := by
  refine BufC.sl (hS.own _ (List.mem_of_getElem? hi)) (fun b hb => ?_) hf hn
  have hb2 : (bufE T sz (Value.slice a0 nn c) (l.map f).flatten).1 = some b := hb
  rw [hb2]; rfl
end Go.Dx
namespace Go.Proofs.Ytnmhenglealadaa
open Go Go.Dx Go.RowKit
def digits : List UInt8 := [48, 49, 50, 51, 52, 53, 54, 55, 56, 57, 97, 98, 99, 100, 101, 102]
def hexS (l : List UInt8) : List UInt8 := l.flatMap fun b => [digits.getD (b.toNat / 16) 0, digits.getD (b.toNat % 16) 0]
theorem getD_mem {α : Type} (l : List α) (k : Nat) (d : α) (h : k < l.length) : l.getD k d ∈ l := by simp [List.getD, h]
theorem take_snoc {α : Type} (l : List α) (k : Nat) (h : k < l.length) : l.take (k + 1) = l.take k ++ [l[k]] := by
  rw [List.take_succ_eq_append_getElem h]
theorem getD_lt {α : Type} (l : List α) (k : Nat) (d : α) (h : k < l.length) : l.getD k d = l[k] := by simp [List.getD, h]
theorem hex_step (l : List UInt8) (k : Nat) (h : k < l.length) : (hexS (l.take (k + 1))).map v8 = (hexS (l.take k)).map v8 ++ [v8 (digits.getD ((l.getD k 0).toNat / 16) 0), v8 (digits.getD ((l.getD k 0).toNat % 16) 0)] := by
  rw [take_snoc l k h, getD_lt l k 0 h]
  simp only [hexS, List.flatMap_append, List.map_append, List.flatMap_cons, List.flatMap_nil, List.append_nil, List.map_cons, List.map_nil]
theorem hexS_len (l : List UInt8) : (hexS l).length = 2 * l.length := by
  unfold hexS
  induction l with
  | nil => rfl
  | cons a l ih => simp only [List.flatMap_cons, List.length_append, List.length_cons, List.length_nil, ih]; omega

def K : List (BitVec 32) := [0x428a2f98#32, 0x71374491#32, 0xb5c0fbcf#32, 0xe9b5dba5#32, 0x3956c25b#32, 0x59f111f1#32, 0x923f82a4#32, 0xab1c5ed5#32, 0xd807aa98#32, 0x12835b01#32, 0x243185be#32, 0x550c7dc3#32, 0x72be5d74#32, 0x80deb1fe#32, 0x9bdc06a7#32, 0xc19bf174#32, 0xe49b69c1#32, 0xefbe4786#32, 0x0fc19dc6#32, 0x240ca1cc#32, 0x2de92c6f#32, 0x4a7484aa#32, 0x5cb0a9dc#32, 0x76f988da#32, 0x983e5152#32, 0xa831c66d#32, 0xb00327c8#32, 0xbf597fc7#32, 0xc6e00bf3#32, 0xd5a79147#32, 0x06ca6351#32, 0x14292967#32, 0x27b70a85#32, 0x2e1b2138#32, 0x4d2c6dfc#32, 0x53380d13#32, 0x650a7354#32, 0x766a0abb#32, 0x81c2c92e#32, 0x92722c85#32, 0xa2bfe8a1#32, 0xa81a664b#32, 0xc24b8b70#32, 0xc76c51a3#32, 0xd192e819#32, 0xd6990624#32, 0xf40e3585#32, 0x106aa070#32, 0x19a4c116#32, 0x1e376c08#32, 0x2748774c#32, 0x34b0bcb5#32, 0x391c0cb3#32, 0x4ed8aa4a#32, 0x5b9cca4f#32, 0x682e6ff3#32, 0x748f82ee#32, 0x78a5636f#32, 0x84c87814#32, 0x8cc70208#32, 0x90befffa#32, 0xa4506ceb#32, 0xbef9a3f7#32, 0xc67178f2#32]
def rotrS (x : BitVec 32) (n : Nat) : BitVec 32 := x <<< (32 - n) ||| x >>> n
def by4 (b : List UInt8) (i : Nat) : BitVec 32 := BitVec.ofNat 32 (b.getD i 0).toNat
def word (b : List UInt8) (t : Nat) : BitVec 32 := by4 b (4 * t) <<< 24 ||| by4 b (4 * t + 1) <<< 16 ||| by4 b (4 * t + 2) <<< 8 ||| by4 b (4 * t + 3)
def sig0 (x : BitVec 32) : BitVec 32 := rotrS x 7 ^^^ rotrS x 18 ^^^ x >>> 3
def sig1 (x : BitVec 32) : BitVec 32 := rotrS x 17 ^^^ rotrS x 19 ^^^ x >>> 10
def wnext (w : List (BitVec 32)) (t : Nat) : BitVec 32 := w.getD (t - 16) 0 + w.getD (t - 7) 0 + sig0 (w.getD (t - 15) 0) + sig1 (w.getD (t - 2) 0)
def wl (b : List UInt8) : Nat → List (BitVec 32)
  | 0 => []
  | t + 1 => wl b t ++ [if t < 16 then word b t else wnext (wl b t) t]
def sched (b : List UInt8) : List (BitVec 32) := wl b 64
theorem wl_len (b : List UInt8) : ∀ t, (wl b t).length = t
  | 0 => rfl
  | t + 1 => by simp [wl, wl_len b t]
def rnd (v : List (BitVec 32)) (k w : BitVec 32) : List (BitVec 32) :=
  match v with
  | [a, b, c, d, e, f, g, h] =>
    let x := h + (rotrS e 6 ^^^ rotrS e 11 ^^^ rotrS e 25) + (g ^^^ e &&& (f ^^^ g)) + k + w
    let y := (rotrS a 2 ^^^ rotrS a 13 ^^^ rotrS a 22) + (a &&& b ||| c &&& (a ||| b))
    [x + y, a, b, c, d + x, e, f, g]
  | v => v
def rnds (v : List (BitVec 32)) (b : List UInt8) : Nat → List (BitVec 32)
  | 0 => v
  | t + 1 => rnd (rnds v b t) (K.getD t 0) ((sched b).getD t 0)
def mixS (h : List (BitVec 32)) (b : List UInt8) : List (BitVec 32) := List.zipWith (· + ·) h (rnds h b 64)
theorem eight {α : Type} {v : List α} (h : v.length = 8) : ∃ a b c d e f g k, v = [a, b, c, d, e, f, g, k] := by
  match v, h with
  | [a, b, c, d, e, f, g, k], _ => exact ⟨a, b, c, d, e, f, g, k, rfl⟩
theorem rnd_len {v : List (BitVec 32)} (h : v.length = 8) (k w : BitVec 32) : (rnd v k w).length = 8 := by
  obtain ⟨_, _, _, _, _, _, _, _, rfl⟩ := eight h; rfl
theorem rnds_len {v : List (BitVec 32)} (h : v.length = 8) (b : List UInt8) : ∀ t, (rnds v b t).length = 8
  | 0 => h
  | t + 1 => rnd_len (rnds_len h b t) _ _
theorem mixS_len {h : List (BitVec 32)} (hh : h.length = 8) (b : List UInt8) : (mixS h b).length = 8 := by simp [mixS, hh, rnds_len hh]

/-! cells -/
theorem map_get {α : Type} (f : α → Value) (l : List α) (d : α) {i : Nat} (h : i < l.length) : (l.map f)[i]? = some (f (l.getD i d)) := by simp [List.getD, h]
theorem map_get_app {α : Type} (f : α → Value) (l r : List α) (d : α) {i : Nat} (h : i < l.length) : ((l ++ r).map f)[i]? = some (f (l.getD i d)) := by
  simp [List.getD, List.getElem?_append, h]
theorem spl_snoc {α : Type} (f : α → Value) (A : List α) (z x : α) (n m : Nat) (hA : A.length = n) (hm : 0 < m) : spl ((A ++ List.replicate m z).map f) n [f x] = ((A ++ [x]) ++ List.replicate (m - 1) z).map f := by
  unfold spl
  have e1 : ((A ++ List.replicate m z).map f).take n = A.map f := by simp [hA]
  have e2 : ((A ++ List.replicate m z).map f).drop (n + [f x].length) = (List.replicate (m - 1) z).map f := by
    simp [hA, List.drop_append]
  rw [e1, e2]
  simp
theorem spl_set {α : Type} (f : α → Value) (A : List α) (x : α) (n : Nat) (h : n < A.length) : spl (A.map f) n [f x] = (A.set n x).map f := by
  unfold spl
  rw [← List.map_drop, ← List.map_take, List.set_eq_take_append_cons_drop, if_pos h]
  simp
/-! the state -/
def stC (h : List (BitVec 32)) (rv : Value) (sz : Int) : List Value := h.map v32 ++ ([rv, .int .i64 sz] ++ K.map v32)
def H0 : List (BitVec 32) := [0x6a09e667#32, 0xbb67ae85#32, 0x3c6ef372#32, 0xa54ff53a#32, 0x510e527f#32, 0x9b05688c#32, 0x1f83d9ab#32, 0x5be0cd19#32]
theorem K_len : K.length = 64 := rfl
theorem stC_len {h : List (BitVec 32)} (hh : h.length = 8) (rv : Value) (sz : Int) : (stC h rv sz).length = 74 := by simp [stC, hh, K_len]
theorem stC_h {h : List (BitVec 32)} (hh : h.length = 8) (rv : Value) (sz : Int) : ((stC h rv sz).drop 0).take (h.map v32).length = h.map v32 := by simp [stC]
theorem stC_hi {h : List (BitVec 32)} (hh : h.length = 8) (rv : Value) (sz : Int) {i : Nat} (hi : i < 8) : (stC h rv sz)[i]? = some (v32 (h.getD i 0)) := by
  unfold stC
  rw [List.getElem?_append_left (by simp [hh, hi])]
  exact map_get v32 h 0 (by omega)
theorem stC_rv {h : List (BitVec 32)} (hh : h.length = 8) (rv : Value) (sz : Int) : (stC h rv sz)[8]? = some rv := by simp [stC, hh, List.getElem?_append]
theorem stC_rvE {h : List (BitVec 32)} (hh : h.length = 8) {rv v : Value} (e : rv = v) (sz : Int) : (stC h rv sz)[8]? = some v := by rw [stC_rv hh, e]
theorem stC_sz {h : List (BitVec 32)} (hh : h.length = 8) (rv : Value) (sz : Int) : (stC h rv sz)[9]? = some (.int .i64 sz) := by simp [stC, hh, List.getElem?_append]
theorem stC_k {h : List (BitVec 32)} (hh : h.length = 8) (rv : Value) (sz : Int) {i : Nat} (hi : i < 64) : (stC h rv sz)[10 + i]? = some (v32 (K.getD i 0)) := by
  unfold stC
  rw [List.getElem?_append_right (by simp [hh]; omega), List.getElem?_append_right (by simp [hh]; omega)]
  simp only [List.length_map, hh, List.length_cons, List.length_nil]
  rw [show 10 + i - 8 - (0 + 1 + 1) = i by omega]
  exact map_get v32 K 0 (by rw [K_len]; exact hi)
theorem spl_stC_h {h : List (BitVec 32)} (hh : h.length = 8) (rv : Value) (sz : Int) {i : Nat} (hi : i < 8) (x : BitVec 32) : spl (stC h rv sz) i [v32 x] = stC (h.set i x) rv sz := by
  have e := spl_set v32 h x i (by omega)
  unfold spl stC at *
  rw [← e]
  simp only [List.length_cons, List.length_nil]
  rw [List.take_append_of_le_length (by simp [hh]; omega), List.drop_append_of_le_length (by simp [hh]; omega)]
  simp
theorem spl_stC_rv {h : List (BitVec 32)} (hh : h.length = 8) (rv rv' : Value) (sz : Int) : spl (stC h rv sz) 8 [rv'] = stC h rv' sz := by
  obtain ⟨a, b, c, d, e, f, g, k, rfl⟩ := eight hh
  rfl
theorem spl_stC_sz {h : List (BitVec 32)} (hh : h.length = 8) (rv : Value) (sz sz' : Int) : spl (stC h rv sz) 9 [.int .i64 sz'] = stC h rv sz' := by
  obtain ⟨a, b, c, d, e, f, g, k, rfl⟩ := eight hh
  rfl
def addN (h v : List (BitVec 32)) (k : Nat) : List (BitVec 32) := (List.zipWith (· + ·) h v).take k ++ h.drop k
theorem addN_len {h v : List (BitVec 32)} (hh : h.length = 8) (hv : v.length = 8) {k : Nat} (hk : k ≤ 8) : (addN h v k).length = 8 := by simp [addN, hh, hv]; omega
theorem addN_get {h v : List (BitVec 32)} (hh : h.length = 8) (hv : v.length = 8) {k : Nat} (hk : k < 8) : (addN h v k).getD k 0 = h.getD k 0 := by
  simp [addN, List.getD, List.getElem?_append, hh, hv]
  rw [if_neg (by omega)]
  congr 2; omega
theorem addN_set {h v : List (BitVec 32)} (hh : h.length = 8) (hv : v.length = 8) {k : Nat} (hk : k < 8) : (addN h v k).set k (h.getD k 0 + v.getD k 0) = addN h v (k + 1) := by
  have hz : (List.zipWith (· + ·) h v).length = 8 := by simp [hh, hv]
  have hg : (List.zipWith (· + ·) h v)[k]'(by omega) = h.getD k 0 + v.getD k 0 := by simp [List.getD, hh, hv, hk]
  unfold addN
  have ht : (List.take k (List.zipWith (· + ·) h v)).length = k := by rw [List.length_take, hz]; omega
  rw [take_snoc _ k (by omega), hg, List.set_append_right _ _ (by rw [ht]; exact Nat.le_refl _), ht, Nat.sub_self, show h.drop k = h[k]'(by omega) :: h.drop (k + 1) from List.drop_eq_getElem_cons (by omega), List.set_cons_zero]
  rw [List.append_assoc, List.singleton_append]
theorem addN_all {h v : List (BitVec 32)} (hh : h.length = 8) (hv : v.length = 8) : addN h v 8 = List.zipWith (· + ·) h v := by
  unfold addN
  rw [List.take_of_length_le (by simp [hh, hv]), List.drop_of_length_le (by omega), List.append_nil]
/-! absorbing bytes -/
def absorb : Nat → List (BitVec 32) → List UInt8 → List (BitVec 32) × List UInt8
  | 0, h, r => (h, r)
  | n + 1, h, r => if 64 ≤ r.length then absorb n (mixS h (r.take 64)) (r.drop 64) else (h, r)
theorem absorb_fuel : ∀ (n m : Nat) (h : List (BitVec 32)) (r : List UInt8), r.length < 64 * (n + 1) → r.length < 64 * (m + 1) → absorb n h r = absorb m h r
  | 0, 0, _, _, _, _ => rfl
  | 0, m + 1, h, r, h1, _ => by rw [absorb, absorb, if_neg (by omega)]
  | n + 1, 0, h, r, _, h2 => by rw [absorb, absorb, if_neg (by omega)]
  | n + 1, m + 1, h, r, h1, h2 => by
    rw [absorb, absorb]
    split
    · exact absorb_fuel n m _ _ (by rw [List.length_drop]; omega) (by rw [List.length_drop]; omega)
    · rfl
def ab (h : List (BitVec 32)) (r : List UInt8) : List (BitVec 32) × List UInt8 := absorb r.length h r
theorem ab_step {h : List (BitVec 32)} {r : List UInt8} (hr : 64 ≤ r.length) : ab h r = ab (mixS h (r.take 64)) (r.drop 64) := by
  unfold ab
  rw [absorb_fuel r.length (r.length - 64 + 1) h r (by omega) (by omega), absorb, if_pos hr]
  exact absorb_fuel _ _ _ _ (by rw [List.length_drop]; omega) (by omega)
theorem ab_done {h : List (BitVec 32)} {r : List UInt8} (hr : r.length < 64) : ab h r = (h, r) := by
  unfold ab
  rw [absorb_fuel r.length 1 h r (by omega) (by omega), absorb, if_neg (by omega)]
theorem ab_ind {Q : List (BitVec 32) → List UInt8 → Prop} (h1 : ∀ h r, r.length < 64 → Q h r) (h2 : ∀ h r, 64 ≤ r.length → Q (mixS h (r.take 64)) (r.drop 64) → Q h r) : ∀ (n : Nat) (h : List (BitVec 32)) (r : List UInt8), r.length < 64 * (n + 1) → Q h r
  | 0, h, r, hr => h1 h r (by omega)
  | n + 1, h, r, hr => by
    by_cases hl : 64 ≤ r.length
    · exact h2 h r hl (ab_ind h1 h2 n _ _ (by rw [List.length_drop]; omega))
    · exact h1 h r (by omega)
theorem ab_len {h : List (BitVec 32)} {r : List UInt8} (hh : h.length = 8) : (ab h r).1.length = 8 :=
  ab_ind (Q := fun h r => h.length = 8 → (ab h r).1.length = 8) (fun h r hr hh => by rw [ab_done hr]; exact hh) (fun h r hr ih hh => by rw [ab_step hr]; exact ih (mixS_len hh _)) r.length h r (by omega) hh
theorem ab_lt (h : List (BitVec 32)) (r : List UInt8) : (ab h r).2.length = r.length % 64 :=
  ab_ind (Q := fun h r => (ab h r).2.length = r.length % 64) (fun h r hr => by rw [ab_done hr]; exact (Nat.mod_eq_of_lt hr).symm)
    (fun h r hr ih => by rw [ab_step hr, ih, List.length_drop]; omega) r.length h r (by omega)
theorem ab_app (h : List (BitVec 32)) (r t : List UInt8) : ab (ab h r).1 ((ab h r).2 ++ t) = ab h (r ++ t) :=
  ab_ind (Q := fun h r => ab (ab h r).1 ((ab h r).2 ++ t) = ab h (r ++ t)) (fun h r hr => by rw [ab_done hr])
    (fun h r hr ih => by
      rw [ab_step hr, ih, ab_step (r := r ++ t) (by rw [List.length_append]; omega)]
      rw [List.take_append_of_le_length hr, List.drop_append_of_le_length hr]) r.length h r (by omega)
/-! the digest -/
def padz (n : Nat) : Nat := (119 - n % 64) % 64
def lb (n j : Nat) : UInt8 := UInt8.ofNat (8 * n / 2 ^ (8 * j))
def len8 (n : Nat) : List UInt8 := [lb n 7, lb n 6, lb n 5, lb n 4, lb n 3, lb n 2, lb n 1, lb n 0]
def pad (n : Nat) : List UInt8 := 0x80 :: (List.replicate (padz n) 0 ++ len8 n)
def wout (x : BitVec 32) : List UInt8 := [UInt8.ofNat (x >>> 24).toNat, UInt8.ofNat (x >>> 16).toNat, UInt8.ofNat (x >>> 8).toNat, UInt8.ofNat x.toNat]
def outS (h : List (BitVec 32)) : List UInt8 := h.flatMap wout
def dig (l : List UInt8) : List UInt8 := outS (ab H0 (l ++ pad l.length)).1
theorem outS_len : ∀ h : List (BitVec 32), (outS h).length = 4 * h.length
  | [] => rfl
  | x :: h => by have := outS_len h; unfold outS at *; rw [List.flatMap_cons, List.length_append, this, List.length_cons]; show 4 + 4 * h.length = _; omega
theorem dig_len (l : List UInt8) : (dig l).length = 32 := by unfold dig; rw [outS_len, ab_len (h := H0) rfl]
theorem out_step (h : List (BitVec 32)) (k : Nat) (hk : k < h.length) : (outS (h.take (k + 1))).map v8 = (outS (h.take k)).map v8 ++ (wout (h.getD k 0)).map v8 := by
  rw [take_snoc h k hk, getD_lt h k 0 hk]
  simp only [outS, List.flatMap_append, List.map_append, List.flatMap_cons, List.flatMap_nil, List.append_nil]
def bpart (n k : Nat) : List UInt8 := List.replicate (8 - k) 0 ++ (len8 n).drop (8 - k)
theorem bpart_set (n k : Nat) (hk : k < 8) : (bpart n k).set (7 - k) (lb n k) = bpart n (k + 1) := by
  match k, hk with
  | 0, _ => rfl
  | 1, _ => rfl
  | 2, _ => rfl
  | 3, _ => rfl
  | 4, _ => rfl
  | 5, _ => rfl
  | 6, _ => rfl
  | 7, _ => rfl
theorem bpart_len (n k : Nat) (hk : k ≤ 8) : (bpart n k).length = 8 := by simp [bpart, len8, hk]
theorem lb_wrap (n : Nat) (k : Nat) (hk : k < 8) : IntKind.u8.wrap (((n : Int) * 8).fdiv (2 ^ min (8 * (k : Int)).toNat IntKind.i64.bits)) = ((lb n k).toNat : Int) := by
  have e : ((n : Int) * 8) = ((8 * n : Nat) : Int) := by omega
  have e2 : (2 : Int) ^ min (8 * (k : Int)).toNat IntKind.i64.bits = ((2 ^ (8 * k) : Nat) : Int) := by
    have : min (8 * (k : Int)).toNat IntKind.i64.bits = 8 * k := by
      have : (8 * (k : Int)).toNat = 8 * k := by omega
      rw [this]; exact Nat.min_eq_left (by show 8 * k ≤ 64; omega)
    rw [this]; simp
  rw [e, e2, fdiv_nat, wrap_u8_nat]
  simp [lb]
theorem padz_lt (n : Nat) : padz n < 64 := Nat.mod_lt _ (by omega)
def linkS (a b : List UInt8) : List UInt8 := dig (a ++ b)
def chainS (h : List UInt8) (l : List (List UInt8)) : List UInt8 := l.foldl linkS h
theorem chain_step (h : List UInt8) (l : List (List UInt8)) (k : Nat) (hk : k < l.length) : chainS h (l.take (k + 1)) = linkS (chainS h (l.take k)) (l.getD k []) := by
  rw [take_snoc l k hk, getD_lt l k [] hk]
  rw [chainS, List.foldl_append]; rfl
theorem chain_len (h : List UInt8) (l : List (List UInt8)) (n : Nat) (hn : h.length ≤ n) (h32 : 32 ≤ n) : (chainS h l).length ≤ n := by
  induction l generalizing h with
  | nil => exact hn
  | cons a l ih => exact ih _ (by unfold linkS; rw [dig_len]; exact h32)
theorem flat_step (l : List (List UInt8)) (k : Nat) (hk : k < l.length) : (l.take (k + 1)).flatten = (l.take k).flatten ++ l.getD k [] := by
  rw [take_snoc l k hk, getD_lt l k [] hk, List.flatten_append]; simp only [List.flatten_cons, List.flatten_nil, List.append_nil]
theorem flat_le (l : List (List UInt8)) (k : Nat) : (l.take k).flatten.length ≤ l.flatten.length := by
  conv => rhs; rw [← List.take_append_drop k l, List.flatten_append, List.length_append]
  omega
/-! the other side -/
theorem lb_wrap2 (n k : Nat) (hk : k < 8) {x i : Int} (hx : x = (n : Int) * 8) (hi : i = 8 * (k : Int)) : IntKind.u8.wrap (x.fdiv (2 ^ min i.toNat IntKind.i64.bits)) = ((lb n k).toNat : Int) := by
  subst hx hi; exact lb_wrap n k hk
theorem len8_get (n k : Nat) (hk : k < 8) : (len8 n).take (k + 1) = (len8 n).take k ++ [lb n (7 - k)] := by
  match k, hk with
  | 0, _ => rfl
  | 1, _ => rfl
  | 2, _ => rfl
  | 3, _ => rfl
  | 4, _ => rfl
  | 5, _ => rfl
  | 6, _ => rfl
  | 7, _ => rfl
theorem wnext_ref (w : List (BitVec 32)) (t : Nat) : w.getD (t - 16) 0 + sig0 (w.getD (t - 15) 0) + w.getD (t - 7) 0 + sig1 (w.getD (t - 2) 0) = wnext w t := by
  unfold wnext; ac_rfl
theorem ch_ref (e f g : BitVec 32) : (e &&& f) ^^^ ((4294967295#32 ^^^ e) &&& g) = g ^^^ e &&& (f ^^^ g) := by
  rw [show (4294967295#32 : BitVec 32) = BitVec.allOnes 32 from rfl, BitVec.allOnes_xor]
  ext i hi
  simp
  cases e[i] <;> cases f[i] <;> cases g[i] <;> simp
theorem maj_ref (a b c : BitVec 32) : (a &&& b) ^^^ (a &&& c) ^^^ (b &&& c) = a &&& b ||| c &&& (a ||| b) := by
  ext i hi
  simp
  cases a[i] <;> cases b[i] <;> cases c[i] <;> rfl
def rndR (v : List (BitVec 32)) (k w : BitVec 32) : List (BitVec 32) :=
  match v with
  | [a, b, c, d, e, f, g, h] =>
    let x := h + (rotrS e 6 ^^^ rotrS e 11 ^^^ rotrS e 25) + ((e &&& f) ^^^ ((4294967295#32 ^^^ e) &&& g)) + k + w
    let y := (rotrS a 2 ^^^ rotrS a 13 ^^^ rotrS a 22) + ((a &&& b) ^^^ (a &&& c) ^^^ (b &&& c))
    [x + y, a, b, c, d + x, e, f, g]
  | v => v
theorem rnd_ref (v : List (BitVec 32)) (k w : BitVec 32) : rndR v k w = rnd v k w := by
  unfold rndR rnd
  split
  · simp only [ch_ref, maj_ref]
  · rfl
def blks (l : List UInt8) (k : Nat) : List (BitVec 32) := (ab H0 ((l ++ pad l.length).take (64 * k))).1
theorem whole_len (l : List UInt8) : (l ++ pad l.length).length % 64 = 0 := by
  simp [pad, len8, padz]; omega
theorem blks_step (l : List UInt8) (k : Nat) (hk : 64 * k + 64 ≤ (l ++ pad l.length).length) : mixS (blks l k) (((l ++ pad l.length).drop (64 * k)).take 64) = blks l (k + 1) := by
  unfold blks
  generalize l ++ pad l.length = X at *
  have h0 : (ab H0 (X.take (64 * k))).2 = [] := by
    rw [← List.length_eq_zero_iff, ab_lt, List.length_take, Nat.min_eq_left (by omega)]; omega
  have e : X.take (64 * (k + 1)) = X.take (64 * k) ++ (X.drop (64 * k)).take 64 := by rw [show 64 * (k + 1) = 64 * k + 64 by omega, List.take_add]
  have hl : ((X.drop (64 * k)).take 64).length = 64 := by simp; omega
  rw [e, ← ab_app, h0, List.nil_append]
  generalize (ab H0 (X.take (64 * k))).1 = g
  generalize (X.drop (64 * k)).take 64 = t at hl
  rw [ab_step (by omega), List.take_of_length_le (by omega), List.drop_of_length_le (by omega), ab_done (by simp)]
theorem blks_len (l : List UInt8) (k : Nat) : (blks l k).length = 8 := ab_len (h := H0) rfl
theorem blks_all (l : List UInt8) (k : Nat) (hk : (l ++ pad l.length).length < 64 * k + 64) (hk2 : 64 * k ≤ (l ++ pad l.length).length) : outS (blks l k) = dig l := by
  have := whole_len l
  unfold blks dig
  rw [List.take_of_length_le (by omega)]
theorem abcDig : hexS (dig [97, 98, 99]) = [98, 97, 55, 56, 49, 54, 98, 102, 56, 102, 48, 49, 99, 102, 101, 97, 52, 49, 52, 49, 52, 48, 100, 101, 53, 100, 97, 101, 50, 50, 50, 51, 98, 48, 48, 51, 54, 49, 97, 51, 57, 54, 49, 55, 55, 97, 57, 99, 98, 52, 49, 48, 102, 102, 54, 49, 102, 50, 48, 48, 49, 53, 97, 100] := by decide +kernel
theorem flat_one (x : List UInt8) : [x].flatten = x := by simp
theorem mem_flat_le {l : List (List UInt8)} : ∀ {s : List UInt8}, s ∈ l → s.length ≤ l.flatten.length := by
  induction l with
  | nil => intro s h; cases h
  | cons a l ih =>
    intro s h
    rw [List.flatten_cons, List.length_append]
    rcases List.mem_cons.1 h with rfl | h
    · omega
    · have := ih h; omega
theorem u64_nat (z : Int) : ∃ q : Nat, IntKind.u64.wrap z = (q : Int) := by
  refine ⟨(IntKind.u64.wrap z).toNat, ?_⟩
  have : 0 ≤ IntKind.u64.wrap z := Int.emod_nonneg _ (by decide)
  omega
theorem chain_two (x : List UInt8) (l : List (List UInt8)) (c : Nat) : chainS (chainS x (l.take c)) (l.drop c) = chainS x l := by
  unfold chainS
  rw [← List.foldl_append, List.take_append_drop]
end Go.Proofs.Ytnmhenglealadaa
namespace Go.Proofs.Ytnmhenglealadaa
open Go Go.Dx Go.RowKit
def i64 (n : Int) : Prop := -9223372036854775808 ≤ n ∧ n ≤ 9223372036854775807
structure Mk where
  base : Int
  count : Int
  anchor : List UInt8
  head : List UInt8
deriving DecidableEq
def mkC (m : Mk) : List Value := [.int .i64 m.base, .int .i64 m.count, vs m.anchor, vs m.head]
def mkB (m : Mk) : Prop := i64 m.base ∧ i64 m.count
def mz : Mk := ⟨0, 0, [], []⟩
def RightM (m : Mk) : Prop := 0 ≤ m.base ∧ m.base ≤ m.count ∧ m.count ≤ 1125899906842624 ∧ m.anchor.length = 32 ∧ m.head.length = 32 ∧ (m.base < m.count ∨ m.anchor = m.head)
instance (m : Mk) : Decidable (RightM m) := inferInstanceAs (Decidable (_ ∧ _ ∧ _ ∧ _ ∧ _ ∧ _))
def chkM (m : Mk) : Int := if RightM m then 0 else 2
def verM (m : Mk) (l : List (List UInt8)) : Int := if RightM m then (if (l.length : Int) ≠ m.count - m.base ∨ chainS m.anchor l ≠ m.head then 23 else 0) else 2
def cutM (m : Mk) (l : List (List UInt8)) (k : Int) : Mk × Int := if verM m l ≠ 0 then (mz, verM m l) else if k < m.base ∨ m.count < k then (mz, 22) else (⟨k, m.count, chainS m.anchor (l.take (k - m.base).toNat), m.head⟩, 0)
def pushM (m : Mk) (s : List UInt8) : Mk × Int := if RightM m then (if m.count = 1125899906842624 then (mz, 24) else (⟨m.base, m.count + 1, m.anchor, linkS m.head s⟩, 0)) else (mz, 2)
def Z32 : List UInt8 := List.replicate 32 0
def beginM : Mk := ⟨0, 0, Z32, Z32⟩
def mkV (r : Mk × Int) : Value := .tuple #[.agg (mkC r.1).toArray, .int .i64 r.2]
theorem chk_right {m : Mk} (h : chkM m = 0) : RightM m := by
  unfold chkM at h
  split at h
  · assumption
  · cases h
theorem chk_not {m : Mk} (h : ¬ chkM m = 0) : ¬ RightM m := fun h2 => h (if_pos h2)
theorem ver_ok {m : Mk} {l : List (List UInt8)} (h : verM m l = 0) : RightM m ∧ (l.length : Int) = m.count - m.base ∧ chainS m.anchor l = m.head := by
  unfold verM at h
  split at h
  · rename_i hr
    split at h
    · cases h
    · rename_i hn
      exact ⟨hr, Decidable.not_not.1 fun h1 => hn (.inl h1), Decidable.not_not.1 fun h2 => hn (.inr h2)⟩
  · cases h
theorem push_begin (s : List UInt8) : pushM beginM s = (⟨0, 1, Z32, linkS Z32 s⟩, 0) := by
  rw [pushM, if_pos (by decide), if_neg (by decide)]; rfl
theorem ver_one (s : List UInt8) : verM ⟨0, 1, Z32, linkS Z32 s⟩ [s] = 0 := by
  have hr : RightM ⟨0, 1, Z32, linkS Z32 s⟩ := ⟨show (0 : Int) ≤ 0 by decide, show (0 : Int) ≤ 1 by decide, show (1 : Int) ≤ 1125899906842624 by decide, show Z32.length = 32 by decide, show (linkS Z32 s).length = 32 by simp [linkS, dig_len], .inl (show (0 : Int) < 1 by decide)⟩
  rw [verM, if_pos hr, if_neg]
  rintro (h | h)
  · exact h rfl
  · exact h rfl
theorem upto_snoc {P : Nat → Prop} {k : Nat} (h : ∀ j, j < k → P j) (hk : P k) : ∀ j, j < k + 1 → P j := by
  intro j hj
  rcases Nat.lt_or_ge j k with h1 | h1
  · exact h j h1
  · rw [show j = k by omega]; exact hk
def stM (l : List (List UInt8)) (k : Nat) : Mk := ⟨0, (k : Int), Z32, chainS Z32 (l.take k)⟩
def cN (l : List (List UInt8)) (k : Nat) : Mk := ⟨(k : Int), (l.length : Int), chainS Z32 (l.take k), chainS Z32 l⟩
def oN (l : List (List UInt8)) : Mk := ⟨(l.length : Int), (l.length : Int), chainS Z32 l, chainS Z32 l⟩
theorem chain32 (l : List (List UInt8)) : ∀ x : List UInt8, x.length = 32 → (chainS x l).length = 32 := by
  induction l with
  | nil => intro x h; exact h
  | cons a l ih => intro x _; exact ih _ (by unfold linkS; rw [dig_len])
theorem z_len : Z32.length = 32 := by decide
theorem right_st (l : List (List UInt8)) (k : Nat) (hk : k ≤ l.length) (hl : l.length ≤ 12) : RightM (stM l k) := by
  refine ⟨show (0 : Int) ≤ 0 by decide, show (0 : Int) ≤ (k : Int) by omega, show (k : Int) ≤ 1125899906842624 by omega, z_len, chain32 _ _ z_len, ?_⟩
  rcases Nat.eq_zero_or_pos k with rfl | h
  · exact .inr rfl
  · exact .inl (show (0 : Int) < (k : Int) by omega)
theorem push_st (l : List (List UInt8)) (k : Nat) (hk : k < l.length) (hl : l.length ≤ 12) : pushM (stM l k) (l.getD k []) = (stM l (k + 1), 0) := by
  rw [pushM, if_pos (right_st l k (by omega) hl), if_neg (show ¬ ((stM l k).count = 1125899906842624) by show ¬ ((k : Int) = 1125899906842624); omega)]
  show ((⟨0, (k : Int) + 1, Z32, linkS (chainS Z32 (l.take k)) (l.getD k [])⟩ : Mk), (0 : Int)) = _
  rw [← chain_step Z32 l k hk]
  rfl
theorem ver_st (l : List (List UInt8)) (hl : l.length ≤ 12) : verM (stM l l.length) l = 0 := by
  rw [verM, if_pos (right_st l _ (Nat.le_refl _) hl), if_neg]
  rintro (h | h)
  · exact h (show (l.length : Int) = (l.length : Int) - 0 by omega)
  · exact h (show chainS Z32 l = chainS Z32 (l.take l.length) by rw [List.take_length])
theorem cut_st (l : List (List UInt8)) (k : Nat) (hk : k ≤ l.length) (hl : l.length ≤ 12) : cutM (stM l l.length) l (k : Int) = (cN l k, 0) := by
  rw [cutM, if_neg (by rw [ver_st l hl]; simp), if_neg (show ¬ ((k : Int) < (stM l l.length).base ∨ (stM l l.length).count < (k : Int)) by show ¬ ((k : Int) < 0 ∨ (l.length : Int) < (k : Int)); omega)]
  show ((⟨(k : Int), (l.length : Int), chainS Z32 (l.take ((k : Int) - 0).toNat), chainS Z32 (l.take l.length)⟩ : Mk), (0 : Int)) = _
  rw [List.take_length, show ((k : Int) - 0).toNat = k by omega]
  rfl
theorem right_cN (l : List (List UInt8)) (k : Nat) (hk : k ≤ l.length) (hl : l.length ≤ 12) : RightM (cN l k) := by
  refine ⟨show (0 : Int) ≤ (k : Int) by omega, show (k : Int) ≤ (l.length : Int) by omega, show (l.length : Int) ≤ 1125899906842624 by omega, chain32 _ _ z_len, chain32 _ _ z_len, ?_⟩
  rcases Nat.lt_or_ge k l.length with h | h
  · exact .inl (show (k : Int) < (l.length : Int) by omega)
  · exact .inr (show chainS Z32 (l.take k) = chainS Z32 l by rw [List.take_of_length_le h])
theorem chain_cat (x : List UInt8) (l : List (List UInt8)) (k : Nat) : chainS (chainS x (l.take k)) (l.drop k) = chainS x l := by
  unfold chainS
  rw [← List.foldl_append, List.take_append_drop]
theorem ver_cN (l : List (List UInt8)) (k : Nat) (hk : k ≤ l.length) (hl : l.length ≤ 12) : verM (cN l k) (l.drop k) = 0 := by
  rw [verM, if_pos (right_cN l k hk hl), if_neg]
  rintro (h | h)
  · exact h (show ((l.drop k).length : Int) = (l.length : Int) - (k : Int) by rw [List.length_drop]; omega)
  · exact h (chain_cat Z32 l k)
theorem cut_cN (l : List (List UInt8)) (k : Nat) (hk : k ≤ l.length) (hl : l.length ≤ 12) : cutM (cN l k) (l.drop k) (l.length : Int) = (oN l, 0) := by
  rw [cutM, if_neg (by rw [ver_cN l k hk hl]; simp), if_neg (show ¬ ((l.length : Int) < (cN l k).base ∨ (cN l k).count < (l.length : Int)) by show ¬ ((l.length : Int) < (k : Int) ∨ (l.length : Int) < (l.length : Int)); omega)]
  show ((⟨(l.length : Int), (l.length : Int), chainS (chainS Z32 (l.take k)) ((l.drop k).take ((l.length : Int) - (k : Int)).toNat), chainS Z32 l⟩ : Mk), (0 : Int)) = _
  rw [List.take_of_length_le (show (l.drop k).length ≤ ((l.length : Int) - (k : Int)).toNat by rw [List.length_drop]; omega), chain_cat]
  rfl
theorem ver_oN (l : List (List UInt8)) (hl : l.length ≤ 12) : verM (oN l) [] = 0 := by
  have hr : RightM (oN l) := ⟨show (0 : Int) ≤ (l.length : Int) by omega, Int.le_refl _, show (l.length : Int) ≤ 1125899906842624 by omega, chain32 _ _ z_len, chain32 _ _ z_len, .inr rfl⟩
  rw [verM, if_pos hr, if_neg]
  rintro (h | h)
  · exact h (show (0 : Int) = (l.length : Int) - (l.length : Int) by omega)
  · exact h rfl
def lightS (m : Mk) : Bool := decide (m.anchor.length ≤ 300) && decide (m.head.length ≤ 300)
def longS (l : List (List UInt8)) : Bool := decide (12 < l.length) || decide (1500 < l.flatten.length)
theorem long_not {l : List (List UInt8)} (h : longS l = false) : l.length ≤ 12 ∧ l.flatten.length ≤ 1500 ∧ ∀ s ∈ l, s.length ≤ 1500 := by
  simp only [longS, Bool.or_eq_false_iff, decide_eq_false_iff_not] at h
  refine ⟨by omega, by omega, fun s hs => ?_⟩
  have := mem_flat_le hs
  omega
def textM (m : Mk) : List UInt8 := numS m.base ++ numS m.count ++ textS m.anchor ++ textS m.head
def bytesM (m : Mk) : List UInt8 × Int := if RightM m then (textM m, 0) else ([], 2)
def parseT (s : List UInt8) : Mk := ⟨(takeN s).1, (takeN (takeN s).2.1).1, (takeT (takeN (takeN s).2.1).2.1 32).1, (takeT (takeT (takeN (takeN s).2.1).2.1 32).2.1 32).1⟩
def parseR (s : List UInt8) : List UInt8 := (takeT (takeT (takeN (takeN s).2.1).2.1 32).2.1 32).2.1
def parseE (s : List UInt8) : Prop := (takeN s).2.2 = 0 ∧ (takeN (takeN s).2.1).2.2 = 0 ∧ (takeT (takeN (takeN s).2.1).2.1 32).2.2 = 0 ∧ (takeT (takeT (takeN (takeN s).2.1).2.1 32).2.1 32).2.2 = 0
instance (s : List UInt8) : Decidable (parseE s) := inferInstanceAs (Decidable (_ ∧ _ ∧ _ ∧ _))
def parseM (s : List UInt8) : Mk × Int := if parseE s ∧ RightM (parseT s) ∧ parseR s = [] then (parseT s, 0) else (mz, 4)
def tsV (r : List UInt8 × Int) : Value := .tuple #[vs r.1, .int .i64 r.2]
theorem parse_cat {s : List UInt8} (h : parseE s) : s = textM (parseT s) ++ parseR s := by
  obtain ⟨h1, h2, h3, h4⟩ := h
  have e1 := (num_take h1).1
  have e2 := (num_take h2).1
  have e3 := (text_take h3).1
  have e4 := (text_take h4).1
  simp only [textM, parseT, parseR]
  rw [List.append_assoc, List.append_assoc, List.append_assoc, ← e4, ← e3, ← e2]
  exact e1
theorem parse_ok {s : List UInt8} (h : parseE s) (hr : RightM (parseT s)) (ht : textM (parseT s) = s) : parseM s = (parseT s, 0) := by
  have hc := parse_cat h
  rw [ht] at hc
  have : parseR s = [] := by
    have hl := congrArg List.length hc
    rw [List.length_append] at hl
    exact List.length_eq_zero_iff.1 (by omega)
  rw [parseM, if_pos ⟨h, hr, this⟩]
theorem parse_not {s : List UInt8} (h : ¬ (parseE s ∧ RightM (parseT s) ∧ textM (parseT s) = s)) : parseM s = (mz, 4) := by
  rw [parseM, if_neg]
  rintro ⟨h1, h2, h3⟩
  have hc := parse_cat h1
  rw [h3, List.append_nil] at hc
  exact h ⟨h1, h2, hc.symm⟩
theorem parse_bytes {m : Mk} (h : RightM m) : parseM (textM m) = (m, 0) := by
  obtain ⟨h1, h2, h3, h4, h5, h6⟩ := id h
  have a1 : takeN (textM m) = (m.base, numS m.count ++ textS m.anchor ++ textS m.head, 0) := by
    rw [textM, List.append_assoc, List.append_assoc]; rw [take_num ⟨by omega, by omega⟩, List.append_assoc]
  have a2 : takeN (numS m.count ++ textS m.anchor ++ textS m.head) = (m.count, textS m.anchor ++ textS m.head, 0) := by
    rw [List.append_assoc, take_num ⟨by omega, by omega⟩]
  have a3 : takeT (textS m.anchor ++ textS m.head) 32 = (m.anchor, textS m.head, 0) := take_text (by omega) (by omega) _
  have a4 : takeT (textS m.head) 32 = (m.head, [], 0) := by
    have := take_text (t := m.head) (most := 32) (by omega) (by omega) []
    rwa [List.append_nil] at this
  have e : parseT (textM m) = m := by simp only [parseT, a1, a2, a3, a4]
  rw [parse_ok, e]
  · simp only [parseE, a1, a2, a3, a4, and_self]
  · rw [e]; exact h
  · rw [e]
theorem parse_back {s : List UInt8} (h : (parseM s).2 = 0) : RightM (parseM s).1 ∧ textM (parseM s).1 = s := by
  unfold parseM at h ⊢
  split
  · rename_i h1
    have hc := parse_cat h1.1
    rw [h1.2.2, List.append_nil] at hc
    exact ⟨h1.2.1, hc.symm⟩
  · rename_i h1; rw [if_neg h1] at h; cases h
theorem parse_or (s : List UInt8) : (parseM s).2 = 0 ∨ parseM s = (mz, 4) := by
  unfold parseM; split
  · exact .inl rfl
  · exact .inr rfl
theorem chk_bytes (m : Mk) : chkM m = (bytesM m).2 := by
  unfold chkM bytesM; split <;> rfl
theorem right_len {m : Mk} (h : RightM m) : (textM m).length ≤ 104 := by
  obtain ⟨h1, h2, h3, h4, h5, h6⟩ := h
  have l1 := numS_len (n := m.base) ⟨by omega, by omega⟩
  have l2 := numS_len (n := m.count) ⟨by omega, by omega⟩
  have l3 := textS_len (s := m.anchor) (by omega)
  have l4 := textS_len (s := m.head) (by omega)
  simp only [textM, List.length_append]; omega
end Go.Proofs.Ytnmhenglealadaa
namespace Go.Dx
open Go Go.RowKit

/-! ### Tables of types -/
inductive TU where
  | int (k : IntKind) | str | bool
  | sl (e sz : Nat) | ar (n e sz : Nat) | st (fs : List (Nat × Nat × Bool)) | ot
structure TD where
  u : TU
  sz : Nat
  ag : Bool
  z : List Value
structure Tab where
  tys : List (Nat × TD)
  fs : List Nat

def lkA {β : Type} : List (Nat × β) → Nat → Option β
  | [], _ => none
  | (k, v) :: r, i => bif Nat.beq k i then some v else lkA r i
theorem lkA_eq {β : Type} (k : Nat) (v : β) (r : List (Nat × β)) : lkA ((k, v) :: r) k = some v := by simp [lkA]
theorem beq_ne {d i : Nat} (h : d ≠ i) : Nat.beq d i = false := by
  cases hb : Nat.beq d i with
  | false => rfl
  | true => exact absurd (Nat.eq_of_beq_eq_true hb) h
theorem lkA_ne {β : Type} {k i : Nat} (h : k ≠ i) (v : β) (r : List (Nat × β)) : lkA ((k, v) :: r) i = lkA r i := by simp [lkA, beq_ne h]
theorem lkA_mem {β : Type} : ∀ {r : List (Nat × β)} {i : Nat} {v : β}, lkA r i = some v → (i, v) ∈ r
  | [], i, v, h => by simp [lkA] at h
  | (k, u) :: r, i, v, h => by
    by_cases hk : k = i
    · subst hk; rw [lkA_eq] at h; cases h; simp
    · rw [lkA_ne hk] at h; exact List.mem_cons_of_mem _ (lkA_mem h)

def aggOf (P : Program) (t : Nat) : Bool := match P.underlying t with
  | some u => aggB u
  | none => false
def fldsOf (P : Program) : List Field → Option (List (Nat × Nat × Bool))
  | [] => some []
  | f :: r => match P.info? f.type, P.underlying f.type, fldsOf P r with
    | some i, some u, some l => some ((f.offset, i.size, aggB u) :: l)
    | _, _, _ => none
def tuOf (P : Program) : TypeDesc → Option TU
  | .int k => some (.int k)
  | .string => some .str
  | .bool => some .bool
  | .slice e => (P.info? e).map fun i => .sl e i.size
  | .array n e => (P.info? e).map fun i => .ar n e i.size
  | .struct fs => (fldsOf P fs.toList).map .st
  | _ => some .ot
def tdOf (P : Program) (t : Nat) : Option TD := match P.underlying t, P.info? t with
  | some u, some i => match tuOf P u, i.zero with
    | some tu, some z => some ⟨tu, i.size, aggB u, z.cells.toList⟩
    | _, _ => none
  | _, _ => none
structure Tab.Ok (P : Program) (T : Tab) : Prop where
  tys : T.tys.map (fun p => tdOf P p.1) = T.tys.map (fun p => some p.2)
  fs : T.fs.map (fun f => (P.funcs[f]?).map (fun fn => fn.name == "runtime.NumGoroutine" || fn.body.isNone)) = T.fs.map (fun _ => some false)
  mix : P.follows .mixedOrders = true

theorem map_eq_mem {α β : Type} {f g : α → β} : ∀ {l : List α}, l.map f = l.map g → ∀ x ∈ l, f x = g x
  | [], _, _, h => by cases h
  | y :: l, e, x, h => by
    simp only [List.map_cons, List.cons.injEq] at e
    rcases List.mem_cons.1 h with rfl | h
    · exact e.1
    · exact map_eq_mem e.2 x h
theorem Tab.Ok.td {P : Program} {T : Tab} (h : T.Ok P) {t : Nat} {d : TD} (hd : lkA T.tys t = some d) : tdOf P t = some d := map_eq_mem h.tys _ (lkA_mem hd)
def memF : List Nat → Nat → Bool
  | [], _ => false
  | k :: r, f => bif Nat.beq k f then true else memF r f
theorem memF_mem : ∀ {l : List Nat} {f : Nat}, memF l f = true → f ∈ l
  | [], f, h => by simp [memF] at h
  | k :: r, f, h => by
    by_cases hk : k = f
    · subst hk; simp
    · simp only [memF, beq_ne hk, cond_false] at h; exact List.mem_cons_of_mem _ (memF_mem h)
theorem Tab.Ok.call {P : Program} {T : Tab} (h : T.Ok P) {f : Nat} (hf : memF T.fs f = true) : CallOk P f := CallOk.of (map_eq_mem h.fs _ (memF_mem hf))

theorem tdOf_parts {P : Program} {t : Nat} {d : TD} (h : tdOf P t = some d) : ∃ u i z, P.underlying t = some u ∧ P.info? t = some i ∧ i.zero = some z ∧ tuOf P u = some d.u ∧ d.sz = i.size ∧ d.ag = aggB u ∧ d.z = z.cells.toList := by
  unfold tdOf at h
  split at h
  · rename_i u i hu hi
    split at h
    · rename_i tu z ht hz
      cases h
      exact ⟨u, i, z, hu, hi, hz, ht, rfl, rfl, rfl⟩
    · cases h
  · cases h
section td
variable {P : Program} {t : Nat} {d : TD}
theorem td_int {k : IntKind} (h : tdOf P t = some d) (hu : d.u = .int k) : P.underlying t = some (.int k) := by
  obtain ⟨u, i, z, h1, _, _, h2, _⟩ := tdOf_parts h
  rw [hu] at h2
  cases u <;> simp [tuOf] at h2
  subst h2; exact h1
theorem td_str (h : tdOf P t = some d) (hu : d.u = .str) : P.underlying t = some .string := by
  obtain ⟨u, i, z, h1, _, _, h2, _⟩ := tdOf_parts h
  rw [hu] at h2
  cases u <;> simp [tuOf] at h2
  exact h1
theorem td_bool (h : tdOf P t = some d) (hu : d.u = .bool) : P.underlying t = some .bool := by
  obtain ⟨u, i, z, h1, _, _, h2, _⟩ := tdOf_parts h
  rw [hu] at h2
  cases u <;> simp [tuOf] at h2
  exact h1
theorem td_sl {e sz : Nat} (h : tdOf P t = some d) (hu : d.u = .sl e sz) : SlT P t e sz := by
  obtain ⟨u, i, z, h1, _, _, h2, _⟩ := tdOf_parts h
  rw [hu] at h2
  cases u <;> simp [tuOf] at h2
  obtain ⟨i, hi, rfl, rfl⟩ := h2
  exact ⟨h1, i, hi, rfl⟩
theorem td_ar {n e sz : Nat} (h : tdOf P t = some d) (hu : d.u = .ar n e sz) : ArT P t n e sz := by
  obtain ⟨u, i, z, h1, _, _, h2, _⟩ := tdOf_parts h
  rw [hu] at h2
  cases u <;> simp [tuOf] at h2
  obtain ⟨i, hi, rfl, rfl, rfl⟩ := h2
  exact ⟨h1, i, hi, rfl⟩
theorem fldsOf_spec {P : Program} : ∀ {l : List Field} {fs : List (Nat × Nat × Bool)}, fldsOf P l = some fs → l.length = fs.length ∧ ∀ (i off sz : Nat) (ag : Bool), fs[i]? = some (off, sz, ag) → ∃ f : Field, l[i]? = some f ∧ f.offset = off ∧ SzIs P f.type sz ∧ (P.underlying f.type).map aggB = some ag
  | [], fs, h => by simp [fldsOf] at h; subst h; simp
  | f :: r, fs, h => by
    unfold fldsOf at h
    split at h
    · rename_i i u l hi hu hl
      cases h
      have ih := fldsOf_spec hl
      refine ⟨by simp [ih.1], fun j off sz ag hj => ?_⟩
      cases j with
      | zero =>
        simp only [List.getElem?_cons_zero, Option.some.injEq, Prod.mk.injEq] at hj
        obtain ⟨rfl, rfl, rfl⟩ := hj
        exact ⟨f, rfl, rfl, ⟨i, hi, rfl⟩, by rw [hu]; rfl⟩
      | succ j => exact ih.2 j off sz ag (by simpa using hj)
    · cases h
theorem td_fld {fs : List (Nat × Nat × Bool)} {i off sz : Nat} {ag : Bool} (h : tdOf P t = some d) (hu : d.u = .st fs) (hf : fs[i]? = some (off, sz, ag)) :
    ∃ (fa : Array Field) (f : Field), P.underlying t = some (.struct fa) ∧ fa[i]? = some f ∧ f.offset = off ∧ SzIs P f.type sz ∧ (P.underlying f.type).map aggB = some ag := by
  obtain ⟨u, i, z, h1, _, _, h2, _⟩ := tdOf_parts h
  rw [hu] at h2
  obtain ⟨fa, rfl⟩ : ∃ fa, u = .struct fa := by cases u <;> simp [tuOf] at h2 ⊢
  simp [tuOf] at h2
  obtain ⟨f, g1, g2, g3, g4⟩ := (fldsOf_spec h2).2 _ _ _ _ hf
  exact ⟨fa, f, h1, by simpa using g1, g2, g3, g4⟩
theorem td_strb {fs : List (Nat × Nat × Bool)} (h : tdOf P t = some d) (hu : d.u = .st fs) : StrB P t (fs.map fun p => (p.1, p.2.1)) d.z := by
  obtain ⟨u, i, z, h1, hi, hz, h2, _, _, hdz⟩ := tdOf_parts h
  rw [hu] at h2
  obtain ⟨fa, rfl⟩ : ∃ fa, u = .struct fa := by cases u <;> simp [tuOf] at h2 ⊢
  simp [tuOf] at h2
  refine ⟨i, z, fa, hi, hz, by rw [hdz], h1, ?_⟩
  have hs := fldsOf_spec h2
  apply List.ext_getElem?
  intro j
  simp only [List.getElem?_map]
  cases hj : fs[j]? with
  | none =>
    have : fa.toList[j]? = none := by
      rw [List.getElem?_eq_none_iff] at hj ⊢; omega
    rw [this]; rfl
  | some p =>
    obtain ⟨off, sz, ag⟩ := p
    obtain ⟨f, g1, g2, ⟨inf, g3, g4⟩, _⟩ := hs.2 _ _ _ _ hj
    rw [g1]; simp [g3, g2, g4]
theorem td_zero (h : tdOf P t = some d) : ∃ inf z, P.info? t = some inf ∧ inf.zero = some z ∧ z.cells = d.z.toArray := by
  obtain ⟨u, i, z, h1, hi, hz, _, _, _, hdz⟩ := tdOf_parts h
  exact ⟨i, z, hi, hz, by rw [hdz]⟩
theorem td_sz (h : tdOf P t = some d) : SzIs P t d.sz := by
  obtain ⟨u, i, z, h1, hi, hz, _, hs, _⟩ := tdOf_parts h
  exact ⟨i, hi, hs.symm⟩
theorem td_one (h : tdOf P t = some d) (ha : d.ag = false) : OneT P t := by
  obtain ⟨u, i, z, h1, hi, hz, _, hs, hag, _⟩ := tdOf_parts h
  exact ⟨u, h1, by rw [← hag]; exact ha⟩
theorem td_agg (h : tdOf P t = some d) (ha : d.ag = true) : AggT P t d.sz := by
  obtain ⟨u, i, z, h1, hi, hz, _, hs, hag, _⟩ := tdOf_parts h
  exact ⟨⟨u, h1, by rw [← hag]; exact ha⟩, i, hi, hs.symm⟩
end td

/-! ### What is known of slots -/
inductive SV where
  | v (x : Value)
  | o (k off : Nat)
  | s (k off n cp : Nat)
  | r (e n : Nat) (cs : List Value)
  | u
structure IE where
  t : Nat
  c : Bool
  g : Bool
  s : SV
inductive OB where
  | c (b T : Nat) (cs : List Value)
  | k (g : Option Bool) (b o : Nat) (cs : List Value)
  | e (e : OE)
abbrev SL := List (Nat × SV)
abbrev IL := List (Nat × IE)
abbrev BL := List (Nat × OB)

def dvO (B : BL) : SV → Option Value
  | .v x => some x
  | .o k f => match lkA B k with
    | some (.c b _ _) => some (.pointer (some ⟨b, f, none⟩))
    | some (.k _ b o _) => some (.pointer (some ⟨b, o + f, none⟩))
    | _ => none
  | .s k f n cp => match lkA B k with
    | some (.c b _ _) => some (.slice (some ⟨b, f, none⟩) n cp)
    | _ => none
  | .r _ _ _ => none
  | .u => none
def dv (B : BL) (s : SV) : Value := (dvO B s).getD undef
def kI (B : BL) (e : IE) : Value := bif e.g then dv B e.s else undef
def entS (B : BL) (s : SV) : Ent := match dvO B s with
  | some v => .val v
  | none => .prd fun _ _ => True
def fl (L : SL) (I : IL) (B : BL) : FL := I.map (fun p => (p.1, .val (kI B p.2))) ++ L.map (fun p => (p.1, entS B p.2))

theorem lk_app (A C : FL) (i : Nat) : lk (A ++ C) i = match lk A i with
  | some e => some e
  | none => lk C i := by
  induction A with
  | nil => rfl
  | cons p r ih =>
    obtain ⟨k, e⟩ := p
    by_cases hk : k = i
    · subst hk; rw [List.cons_append, lk_cons_eq, lk_cons_eq]
    · rw [List.cons_append, lk_cons_ne hk, lk_cons_ne hk, ih]
theorem lk_mapI (B : BL) (I : IL) (i : Nat) : lk (I.map (fun p => (p.1, Ent.val (kI B p.2)))) i = (lkA I i).map fun e => .val (kI B e) := by
  induction I with
  | nil => rfl
  | cons p r ih =>
    obtain ⟨k, e⟩ := p
    by_cases hk : k = i
    · subst hk; rw [List.map_cons, lk_cons_eq, lkA_eq]; rfl
    · rw [List.map_cons, lk_cons_ne hk, lkA_ne hk, ih]
theorem lk_mapL (B : BL) (L : SL) (i : Nat) : lk (L.map (fun p => (p.1, entS B p.2))) i = (lkA L i).map (entS B) := by
  induction L with
  | nil => rfl
  | cons p r ih =>
    obtain ⟨k, e⟩ := p
    by_cases hk : k = i
    · subst hk; rw [List.map_cons, lk_cons_eq, lkA_eq]; rfl
    · rw [List.map_cons, lk_cons_ne hk, lkA_ne hk, ih]
def kv (L : SL) (I : IL) (B : BL) (t : Nat) : Option Value := match lkA I t with
  | some e => some (kI B e)
  | none => match lkA L t with
    | some s => dvO B s
    | none => none
theorem vl_fl (L : SL) (I : IL) (B : BL) (t : Nat) : vl (lk (fl L I B) t) = kv L I B t := by
  unfold fl kv
  rw [lk_app, lk_mapI, lk_mapL]
  cases lkA I t with
  | some e => rfl
  | none =>
    cases lkA L t with
    | none => rfl
    | some s =>
      show vl (some (entS B s)) = dvO B s
      unfold entS
      cases dvO B s <;> rfl

def bq (c b : Bool) : Bool := match c with
  | true => b
  | false => !b
theorem bq_eq {c b : Bool} (h : bq c b = true) : c = b := by cases c <;> cases b <;> simp_all [bq]
def gx (L : SL) (I : IL) (t : Nat) (c : Bool) : Option Bool := match lkA I t with
  | some e => match e.s with
    | .v (.bool b) => some (e.g && bq c b)
    | _ => none
  | none => match lkA L t with
    | some (.v (.bool b)) => some (bq c b)
    | _ => none
def Inv (L : SL) (I : IL) : Prop := ∀ d e, lkA I d = some e → gx L I e.t e.c = some e.g
def usb (I : IL) : Nat → Nat → Bool → Nat → Bool → Bool
  | 0, t0, c0, t1, c1 => Nat.beq t0 t1 && bq c0 c1
  | f + 1, t0, c0, t1, c1 => (Nat.beq t0 t1 && bq c0 c1) || (match lkA I t0 with
    | some e => usb I f e.t e.c t1 c1
    | none => false)
theorem usb_sound {L : SL} {I : IL} (hI : Inv L I) : ∀ (f t0 : Nat) (c0 : Bool) (t1 : Nat) (c1 g0 : Bool), gx L I t0 c0 = some g0 → usb I f t0 c0 t1 c1 = true → g0 = true → gx L I t1 c1 = some true := by
  intro f
  induction f with
  | zero =>
    intro t0 c0 t1 c1 g0 h0 hu hg
    simp only [usb, Bool.and_eq_true] at hu
    obtain rfl := Nat.eq_of_beq_eq_true hu.1
    obtain rfl := bq_eq hu.2
    rw [h0, hg]
  | succ f ih =>
    intro t0 c0 t1 c1 g0 h0 hu hg
    simp only [usb, Bool.or_eq_true, Bool.and_eq_true] at hu
    rcases hu with hu | hu
    · obtain rfl := Nat.eq_of_beq_eq_true hu.1
      obtain rfl := bq_eq hu.2
      rw [h0, hg]
    · cases hl : lkA I t0 with
      | none => rw [hl] at hu; cases hu
      | some e =>
        rw [hl] at hu
        have h1 := h0
        unfold gx at h1
        rw [hl] at h1
        simp only at h1
        have he : e.g = true := by
          cases hs : e.s with
          | v x =>
            rw [hs] at h1
            cases x <;> simp at h1
            rw [hg] at h1
            simp only [Bool.and_eq_true] at h1
            exact h1.1
          | _ => rw [hs] at h1; cases h1
        exact ih _ _ _ _ _ (hI _ _ hl) hu he

/-- a slot as an operand, where the guard `cx` holds -/
def rdT (L : SL) (I : IL) (cx : Option (Nat × Bool)) (t : Nat) : Option SV := match lkA I t with
  | some e => match cx with
    | none => none
    | some (t0, c0) => bif usb I 8 t0 c0 e.t e.c then some e.s else none
  | none => lkA L t
def rdS (L : SL) (I : IL) (cx : Option (Nat × Bool)) : Operand → Option SV
  | .tmp t => match rdT L I cx t with
    | some .u => none
    | r => r
  | .const v => some (.v v)
  | .global g => some (.v (.pointer (some ⟨g, 0, none⟩)))
  | .func f => some (.v (.func (.func f) #[] #[]))
/-- the guard's outcome -/
def cxOk (L : SL) (I : IL) (cx : Option (Nat × Bool)) (og : Option Bool) : Prop := match cx with
  | none => og = none
  | some (t, c) => ∃ g, gx L I t c = some g ∧ og = some g
def yes (og : Option Bool) : Prop := ∀ g, og = some g → g = true
def gc (og : Option Bool) (C : Prop) : Prop := match og with
  | none => C
  | some g => g = true → C
theorem gc_yes {og : Option Bool} {C : Prop} (h : gc og C) (hy : yes og) : C := by
  cases og with
  | none => exact h
  | some g => exact h (hy g rfl)
theorem dv_some {B : BL} {s : SV} {v : Value} (h : dvO B s = some v) : dv B s = v := by simp [dv, h]

theorem rdS_ev {L : SL} {I : IL} {B : BL} {cx : Option (Nat × Bool)} {og : Option Bool} (hI : Inv L I) (hc : cxOk L I cx og) (hy : yes og) {x : Operand} {s : SV} {v : Value} (h : rdS L I cx x = some s) (hv : dvO B s = some v) :
    ev (fl L I B) x = some v := by
  cases x with
  | tmp t =>
    show vl (lk (fl L I B) t) = some v
    rw [vl_fl]
    have h1 : rdT L I cx t = some s := by
      simp only [rdS] at h
      split at h
      · cases h
      · exact h
    unfold rdT at h1
    unfold kv
    cases hl : lkA I t with
    | none =>
      rw [hl] at h1
      simp only at h1 ⊢
      rw [h1]; exact hv
    | some e =>
      rw [hl] at h1
      cases cx with
      | none => cases h1
      | some p =>
        obtain ⟨t0, c0⟩ := p
        simp only at h1
        cases hu : usb I 8 t0 c0 e.t e.c with
        | false => rw [hu] at h1; cases h1
        | true =>
          rw [hu] at h1
          have hs : e.s = s := Option.some.inj h1
          obtain ⟨g, hg, hog⟩ := hc
          have := usb_sound hI 8 t0 c0 e.t e.c g hg hu (hy g hog)
          rw [hI t e hl] at this
          have he : e.g = true := Option.some.inj this
          simp only [kI, he, cond_true, hs, dv_some hv]
  | const c => simp only [rdS, Option.some.injEq] at h; subst h; exact hv
  | global c => simp only [rdS, Option.some.injEq] at h; subst h; exact hv
  | func c => simp only [rdS, Option.some.injEq] at h; subst h; exact hv

/-! ### Lists by their cells -/
def nthV {β : Type} : List β → Nat → Option β
  | [], _ => none
  | x :: _, 0 => some x
  | _ :: l, n + 1 => nthV l n
theorem nthV_eq {β : Type} : ∀ (l : List β) (n : Nat), nthV l n = l[n]?
  | [], n => by simp [nthV]
  | x :: l, 0 => by simp [nthV]
  | x :: l, n + 1 => by simp [nthV, nthV_eq l n]
def takK : List Value → Nat → (List Value → Prop) → Prop
  | _, 0, K => K []
  | x :: l, n + 1, K => takK l n fun r => K (x :: r)
  | [], _ + 1, _ => False
def subK : List Value → Nat → Nat → (List Value → Prop) → Prop
  | l, 0, n, K => takK l n K
  | _ :: l, o + 1, n, K => subK l o n K
  | [], _ + 1, _, _ => False
theorem takK_sound : ∀ {l : List Value} {n : Nat} {K : List Value → Prop}, takK l n K → K (l.take n) ∧ n ≤ l.length
  | l, 0, K, h => by cases l <;> exact ⟨h, Nat.zero_le _⟩
  | x :: l, n + 1, K, h => by have := takK_sound (l := l) h; exact ⟨by simpa using this.1, by simpa using this.2⟩
  | [], _ + 1, _, h => h.elim
theorem subK_sound : ∀ {l : List Value} {o n : Nat} {K : List Value → Prop}, subK l o n K → K ((l.drop o).take n) ∧ o + n ≤ l.length
  | l, 0, n, K, h => by
    have h' : takK l n K := by cases l <;> exact h
    have := takK_sound h'; simpa using this
  | x :: l, o + 1, n, K, h => by have := subK_sound (l := l) h; exact ⟨by simpa using this.1, by simp; omega⟩
  | [], _ + 1, _, _, h => h.elim
def putK : List Value → List Value → (List Value → Prop) → Prop
  | l, [], K => K l
  | _ :: l, c :: cs, K => putK l cs fun r => K (c :: r)
  | [], _ :: _, _ => False
def setK : List Value → Nat → List Value → (List Value → Prop) → Prop
  | l, 0, cs, K => putK l cs K
  | x :: l, o + 1, cs, K => setK l o cs fun r => K (x :: r)
  | [], _ + 1, _, _ => False
theorem putK_sound : ∀ {l cs : List Value} {K : List Value → Prop}, putK l cs K → K (cs ++ l.drop cs.length) ∧ cs.length ≤ l.length
  | l, [], K, h => by cases l <;> exact ⟨by simpa [putK] using h, Nat.zero_le _⟩
  | x :: l, c :: cs, K, h => by have := putK_sound (l := l) (cs := cs) h; exact ⟨by simpa using this.1, by simpa using this.2⟩
  | [], _ :: _, _, h => h.elim
theorem setK_sound : ∀ {l : List Value} {o : Nat} {cs : List Value} {K : List Value → Prop}, setK l o cs K → K (spl l o cs) ∧ o + cs.length ≤ l.length
  | l, 0, cs, K, h => by
    have h' : putK l cs K := by cases l <;> exact h
    have := putK_sound h'
    exact ⟨by simpa [spl] using this.1, by simpa using this.2⟩
  | x :: l, o + 1, cs, K, h => by
    have := setK_sound (l := l) h
    refine ⟨?_, by simp; omega⟩
    have h1 := this.1
    simpa [spl, Nat.add_right_comm] using h1
  | [], _ + 1, _, _, h => h.elim
def lenB : List Value → Nat → Bool
  | [], 0 => true
  | _ :: l, n + 1 => lenB l n
  | _, _ => false
theorem lenB_eq : ∀ {l : List Value} {n : Nat}, lenB l n = true → l.length = n
  | [], 0, _ => rfl
  | _ :: l, n + 1, h => by simp [lenB_eq (l := l) h]
  | [], _ + 1, h => by cases h
  | _ :: _, 0, h => by cases h
def notAgg : Value → Bool
  | .agg _ => false
  | _ => true
/-- a value's cells -/
def celK (B : BL) (s : SV) (K : List Value → Prop) : Prop := match s with
  | .v (.agg ⟨l⟩) => K l
  | .v v => bif notAgg v then K [v] else False
  | .o k f => match dvO B (.o k f) with
    | some v => K [v]
    | none => False
  | .s k f n cp => match dvO B (.s k f n cp) with
    | some v => K [v]
    | none => False
  | _ => False
theorem cells_one {v : Value} (h : notAgg v = true) : v.cells = #[v] := by cases v <;> first | rfl | (simp [notAgg] at h)
theorem celK_sound {B : BL} {s : SV} {K : List Value → Prop} (h : celK B s K) : ∃ cs v, K cs ∧ dvO B s = some v ∧ v.cells = cs.toArray := by
  cases s with
  | v x =>
    by_cases hx : notAgg x = true
    · have : K [x] := by
        cases x <;> first | exact h | (simp [notAgg] at hx)
      exact ⟨[x], x, this, rfl, cells_one hx⟩
    · cases x with
      | agg cs =>
        obtain ⟨l⟩ := cs
        exact ⟨l, _, h, rfl, rfl⟩
      | _ => exact absurd rfl hx
  | o k f =>
    simp only [celK] at h
    cases hd : dvO B (.o k f) with
    | none => rw [hd] at h; exact h.elim
    | some v =>
      rw [hd] at h
      refine ⟨[v], v, h, rfl, cells_one ?_⟩
      simp only [dvO] at hd
      split at hd <;> cases hd <;> rfl
  | s k f n cp =>
    simp only [celK] at h
    cases hd : dvO B (.s k f n cp) with
    | none => rw [hd] at h; exact h.elim
    | some v =>
      rw [hd] at h
      refine ⟨[v], v, h, rfl, cells_one ?_⟩
      simp only [dvO] at hd
      split at hd <;> cases hd <;> rfl
  | r e n cs => exact h.elim
  | u => exact h.elim
end Go.Dx
namespace Go.Dx
open Go Go.RowKit

def AggEq (P : Program) (t : Nat) (a b : List Value) (r : Bool) : Prop :=
  P.eqGuardType P.depth t = false ∧ ∀ w, (Op.equalIn 10000 t (.agg a.toArray) (.agg b.toArray)).run P w = .ok r w
theorem EqT.ag {P : Program} {t : Nat} {α : Type} [DecidableEq α] {f : α → List Value} (h : EqT P t f) (a b : α) : AggEq P t (f a) (f b) (decide (a = b)) := ⟨h.1, fun w => h.2 w a b⟩

def ikb : IntKind → IntKind → Bool
  | .i8, .i8 | .i16, .i16 | .i32, .i32 | .i64, .i64 | .u8, .u8 | .u16, .u16 | .u32, .u32 | .u64, .u64 => true
  | _, _ => false
theorem ikb_eq {k l : IntKind} (h : ikb k l = true) : k = l := by cases k <;> cases l <;> first | rfl | cases h

def pvArith (og : Option Bool) (b : BinOp) (k : IntKind) (m n : Int) (K : SV → Prop) : Prop := match b with
  | .add => ∃ r, gc og (k.wrap (m + n) = r) ∧ K (.v (.int k r))
  | .sub => ∃ r, gc og (k.wrap (m - n) = r) ∧ K (.v (.int k r))
  | .mul => ∃ r, gc og (k.wrap (m * n) = r) ∧ K (.v (.int k r))
  | .quo => ∃ r, gc og (n ≠ 0 ∧ k.wrap (m.tdiv n) = r) ∧ K (.v (.int k r))
  | .rem => ∃ r, gc og (n ≠ 0 ∧ m.tmod n = r) ∧ K (.v (.int k r))
  | .and => ∃ r, gc og (k.wrap ((BitVec.ofInt k.bits m &&& BitVec.ofInt k.bits n).toNat : Int) = r) ∧ K (.v (.int k r))
  | .or => ∃ r, gc og (k.wrap ((BitVec.ofInt k.bits m ||| BitVec.ofInt k.bits n).toNat : Int) = r) ∧ K (.v (.int k r))
  | .xor => ∃ r, gc og (k.wrap ((BitVec.ofInt k.bits m ^^^ BitVec.ofInt k.bits n).toNat : Int) = r) ∧ K (.v (.int k r))
  | .andNot => ∃ r, gc og (k.wrap ((BitVec.ofInt k.bits m &&& ~~~ BitVec.ofInt k.bits n).toNat : Int) = r) ∧ K (.v (.int k r))
  | .eql => K (.v (.bool (decide (m = n))))
  | .neq => K (.v (.bool (!decide (m = n))))
  | .lss => K (.v (.bool (decide (m < n))))
  | .leq => K (.v (.bool (decide (m ≤ n))))
  | .gtr => K (.v (.bool (decide (n < m))))
  | .geq => K (.v (.bool (decide (n ≤ m))))
  | _ => False
def pvInt (og : Option Bool) (b : BinOp) (k : IntKind) (m : Int) (k2 : IntKind) (n : Int) (K : SV → Prop) : Prop := match b with
  | .shl => ∃ r, gc og (0 ≤ n ∧ k.wrap (m * 2 ^ (min n.toNat k.bits)) = r) ∧ K (.v (.int k r))
  | .shr => ∃ r, gc og (0 ≤ n ∧ m.fdiv (2 ^ (min n.toNat k.bits)) = r) ∧ K (.v (.int k r))
  | b => bif ikb k k2 then pvArith og b k m n K else False
def pvStr (og : Option Bool) (b : BinOp) (l l' : List UInt8) (K : SV → Prop) : Prop := match b with
  | .add => gc og (l.length + l'.length ≤ 9223372036854775807) ∧ K (.v (vs (l ++ l')))
  | .eql => K (.v (.bool (decide (l = l'))))
  | .neq => K (.v (.bool (!decide (l = l'))))
  | .lss => K (.v (.bool (decide (Lib.compareBytes l l' = -1))))
  | _ => False
def ldK (td : TD) (cs : List Value) (f : Nat) (K : SV → Prop) : Prop :=
  bif td.ag then (bif Nat.beq f 0 && lenB cs td.sz then K (.v (.agg cs.toArray)) else subK cs f td.sz fun l => K (.v (.agg l.toArray)))
  else match nthV cs f with
    | some v => K (.v v)
    | none => False
def kg (og g : Option Bool) (X : Prop) : Prop := match g with
  | none => X
  | some g1 => gc og (g1 = true) ∧ X
def pvLoad (h0 : View) (F : View → Prop) (B : BL) (og : Option Bool) (td : TD) (K : SV → Prop) : SV → Prop
  | .o k f => match lkA B k with
    | some (.c _ _ cs) => ldK td cs f K
    | some (.k g _ _ cs) => kg og g (ldK td cs f K)
    | _ => False
  | .v (.pointer (some ad)) => bif td.ag then (∃ cs : List Value, gc og (cs.length = td.sz ∧ ∀ v w, VLe h0 v → F v → VLe v (Full w) → ∀ j v, cs[j]? = some v → w.cell? (ad.add j) = some v) ∧ K (.v (.agg cs.toArray)))
    else ∃ v, gc og (∀ v' w, VLe h0 v' → F v' → VLe v' (Full w) → w.cell? ad = some v) ∧ K (.v v)
  | _ => False
def argK (ρ : Operand → Option SV) (B : BL) : List Operand → (List Value → Prop) → Prop
  | [], K => K []
  | x :: r, K => match ρ x with
    | some s => match dvO B s with
      | some v => argK ρ B r fun l => K (v :: l)
      | none => False
    | none => False
def bldK (ρ : Operand → Option SV) (B : BL) (fs : List (Nat × Nat × Bool)) : List (Nat × Operand) → List Value → (List Value → Prop) → Prop
  | [], z, K => K z
  | (i, x) :: r, z, K => match nthV fs i, ρ x with
    | some (off, sz, _), some s => celK B s fun cs => bif lenB cs sz then setK z off cs fun z' => bldK ρ B fs r z' K else False
    | _, _ => False
def hasN (B : BL) (s : SV) (X : Prop) : Prop := match dvO B s with
  | some _ => X
  | none => False
def pvSlice (og : Option Bool) (td : TD) (x : SV) (lo hi : Option SV) (K : SV → Prop) : Prop := match x with
  | .v (.string ⟨⟨l⟩⟩) => match td.u, lo, hi with
    | .str, some (.v (.int _ i)), none => ∃ j : Nat, gc og (i = (j : Int) ∧ j ≤ l.length) ∧ K (.v (vs (l.drop j)))
    | .str, none, some (.v (.int _ i)) => ∃ j : Nat, gc og (i = (j : Int) ∧ j ≤ l.length) ∧ K (.v (vs (l.take j)))
    | .str, some (.v (.int _ i)), some (.v (.int _ i2)) => ∃ j j2 : Nat, gc og (i = (j : Int) ∧ i2 = (j2 : Int) ∧ j ≤ j2 ∧ j2 ≤ l.length) ∧ K (.v (vs ((l.drop j).take (j2 - j))))
    | _, _, _ => False
  | .v (.slice ad n c) => match td.u, lo, hi with
    | .sl _ sz, some (.v (.int _ i)), none => ∃ j : Nat, gc og (i = (j : Int) ∧ j ≤ n ∧ n ≤ c) ∧ K (.v (.slice (if c = j then ad else ad.map (·.add (j * sz))) (n - j) (c - j)))
    | .sl _ _, none, some (.v (.int _ i)) => ∃ j : Nat, gc og (i = (j : Int) ∧ j ≤ c) ∧ K (.v (.slice ad j c))
    | _, _, _ => False
  | _ => False
def pvField (cs : List Value) (f : Option (Nat × Nat × Bool)) (K : SV → Prop) : Prop := match f with
  | some (off, _, false) => match nthV cs off with
    | some v => K (.v v)
    | none => False
  | _ => False
def optR (ρ : Operand → Option SV) (x : Option Operand) (K : Option SV → Prop) : Prop := match x with
  | none => K none
  | some y => match ρ y with
    | some s => K (some s)
    | none => False
def pvBin (P : Program) (T : Tab) (og : Option Bool) (b : BinOp) (t : Nat) (x y : SV) (K : SV → Prop) : Prop := match x, y with
  | .v (.int k m), .v (.int k2 n) => pvInt og b k m k2 n K
  | .v (.string ⟨⟨l⟩⟩), .v (.string ⟨⟨l'⟩⟩) => pvStr og b l l' K
  | .v (.bool p), .v (.bool q) => match lkA T.tys t with
    | some ⟨.bool, _, _, _⟩ => match b with
      | .eql => K (.v (.bool (p == q)))
      | .neq => K (.v (.bool (!(p == q))))
      | _ => False
    | _ => False
  | .v (.agg ⟨a⟩), .v (.agg ⟨c⟩) => match b with
    | .eql => ∃ r, gc og (AggEq P t a c r) ∧ K (.v (.bool r))
    | .neq => ∃ r, gc og (AggEq P t a c r) ∧ K (.v (.bool (!r)))
    | _ => False
  | _, _ => False
def pvNil (B : BL) (x : SV) (K : SV → Prop) : Prop := match x with
  | .o k f => hasN B (.o k f) (K (.o k f))
  | .v (.pointer (some ad)) => K (.v (.pointer (some ad)))
  | .v (.func (.func f) a c) => K (.v (.func (.func f) a c))
  | _ => False
def pvUn (og : Option Bool) (o : UnOp) (x : SV) (K : SV → Prop) : Prop := match o, x with
  | .not, .v (.bool b) => K (.v (.bool (!b)))
  | .neg, .v (.int k m) => ∃ r, gc og (k.wrap (0 - m) = r) ∧ K (.v (.int k r))
  | _, _ => False
def pvFA (B : BL) (f : Option (Nat × Nat × Bool)) (x : SV) (K : SV → Prop) : Prop := match f with
  | some (off, _ + 1, _) => match x with
    | .o k o => hasN B (.o k o) (K (.o k (o + off)))
    | .v (.pointer (some ⟨b, o, none⟩)) => K (.v (.pointer (some ⟨b, o + off, none⟩)))
    | _ => False
  | _ => False
def pvMM (og : Option Bool) (mx : Bool) (x y : SV) (K : SV → Prop) : Prop := match x, y with
  | .v (.int k m), .v (.int _ n) => match mx with
    | true => ∃ r, gc og ((if m < n then n else m) = r) ∧ K (.v (.int k r))
    | false => ∃ r, gc og ((if n < m then n else m) = r) ∧ K (.v (.int k r))
  | _, _ => False
def pvLen (B : BL) (td : Option TD) (x : SV) (K : SV → Prop) : Prop := match td, x with
  | some ⟨.str, _, _, _⟩, .v (.string ⟨⟨l⟩⟩) => K (.v (.int .i64 l.length))
  | some ⟨.sl _ _, _, _, _⟩, .v (.slice _ n _) => K (.v (.int .i64 n))
  | some ⟨.sl _ _, _, _, _⟩, .s k f n cp => hasN B (.s k f n cp) (K (.v (.int .i64 n)))
  | _, _ => False
def pvConv (og : Option Bool) (a b : Option TD) (x : SV) (K : SV → Prop) : Prop := match a, b, x with
  | some _, some ⟨.int k', _, _, _⟩, .v (.int _ m) => ∃ r, gc og (k'.wrap m = r) ∧ K (.v (.int k' r))
  | _, _, _ => False
def pvIdx (og : Option Bool) (td : Option TD) (x y : SV) (K : SV → Prop) : Prop := match td, x, y with
  | some ⟨.str, _, _, _⟩, .v (.string ⟨⟨l⟩⟩), .v (.int _ i) => ∃ j : Nat, gc og (i = (j : Int) ∧ j < l.length) ∧ K (.v (v8 (l.getD j 0)))
  | _, _, _ => False
def rd1 (ρ : Operand → Option SV) (x : Operand) (K : SV → Prop) : Prop := match ρ x with
  | some s => K s
  | none => False
def pv (P : Program) (T : Tab) (h0 : View) (F : View → Prop) (B : BL) (og : Option Bool) (ρ : Operand → Option SV) (K : SV → Prop) : Op → Prop
  | .move x => rd1 ρ x fun s => hasN B s (K s)
  | .assign x => rd1 ρ x fun s => hasN B s (K s)
  | .nilCheck x => rd1 ρ x fun s => pvNil B s K
  | .binOp b t x y _ => rd1 ρ x fun s => rd1 ρ y fun s' => pvBin P T og b t s s' K
  | .unOp o _ x => rd1 ρ x fun s => pvUn og o s K
  | .convert a b x => rd1 ρ x fun s => pvConv og (lkA T.tys a) (lkA T.tys b) s K
  | .extract x i => rd1 ρ x fun s => match s with
    | .v (.tuple ⟨l⟩) => match nthV l i with
      | some v => K (.v v)
      | none => False
    | _ => False
  | .makeFunc fn ⟨[]⟩ ⟨cs⟩ => argK ρ B cs fun l => K (.v (.func fn #[] l.toArray))
  | .fieldAddr t x i => match lkA T.tys t with
    | some ⟨.st fs, _, _, _⟩ => rd1 ρ x fun s => pvFA B (nthV fs i) s K
    | _ => False
  | .field t x i => match lkA T.tys t with
    | some ⟨.st fs, _, _, _⟩ => rd1 ρ x fun s => match s with
      | .v (.agg ⟨cs⟩) => pvField cs (nthV fs i) K
      | _ => False
    | _ => False
  | .index t x y => rd1 ρ x fun s => rd1 ρ y fun s' => pvIdx og (lkA T.tys t) s s' K
  | .slice t x lo hi none => match lkA T.tys t with
    | some td => rd1 ρ x fun s => optR ρ lo fun a => optR ρ hi fun b => pvSlice og td s a b K
    | none => False
  | .load t x => match lkA T.tys t with
    | some td => rd1 ρ x fun s => pvLoad h0 F B og td K s
    | none => False
  | .build t ⟨ps⟩ => match lkA T.tys t with
    | some ⟨.st fs, _, _, z⟩ => bldK ρ B fs ps z fun l => K (.v (.agg l.toArray))
    | _ => False
  | .call ⟨.builtin .len, ⟨[x]⟩, ⟨t :: _⟩⟩ => rd1 ρ x fun s => pvLen B (lkA T.tys t) s K
  | .call ⟨.builtin .min, ⟨[x, y]⟩, _⟩ => rd1 ρ x fun s => rd1 ρ y fun s' => pvMM og false s s' K
  | .call ⟨.builtin .max, ⟨[x, y]⟩, _⟩ => rd1 ρ x fun s => rd1 ρ y fun s' => pvMM og true s s' K
  | _ => False

/-! ### It is so -/
structure WOk (h0 : View) (F : View → Prop) (B : BL) (w : World) : Prop where
  vw : ∃ v, VLe h0 v ∧ F v ∧ VLe v (Full w)
  own : ∀ k b T cs, lkA B k = some (.c b T cs) → w.heap[b]? = some (.cells cs.toArray T (0, 0))
def KnC (h0 : View) (F : View → Prop) (b o : Nat) (cs : List Value) : Prop := ∀ v w, VLe h0 v → F v → VLe v (Full w) → ∀ j x, cs[j]? = some x → w.cell? ⟨b, o + j, none⟩ = some x
def BOk (h0 : View) (F : View → Prop) (B : BL) : Prop := ∀ k g b o cs, (k, OB.k g b o cs) ∈ B → gc g (KnC h0 F b o cs)
/-- the operation gives what `K` was asked of -/
def Good (P : Program) (B : BL) (L : FL) (h0 : View) (F : View → Prop) (op : Op) (og : Option Bool) (K : SV → Prop) : Prop :=
  ∃ s v, K s ∧ dvO B s = some v ∧ (yes og → ∀ w, WOk h0 F B w → ∀ d ty pos af g, Pu P L ⟨d, op, ty, pos, af, g⟩ w v)

section sound
variable {P : Program} {T : Tab} {h0 : View} {F : View → Prop} {B : BL} {og : Option Bool} {ρ : Operand → Option SV} {K : SV → Prop} {L : FL} (hT : T.Ok P) (hB : BOk h0 F B)
  (hρ : yes og → ∀ x s v, ρ x = some s → dvO B s = some v → ev L x = some v)
include hρ
theorem ev_v {x : Operand} {v : Value} (hy : yes og) (h : ρ x = some (.v v)) : ev L x = some v := hρ hy x _ v h rfl
theorem argK_sound : ∀ {l : List Operand} {K : List Value → Prop}, argK ρ B l K → ∃ vsl, K vsl ∧ (yes og → evs L l = some vsl)
  | [], K, h => ⟨[], h, fun _ => rfl⟩
  | x :: r, K, h => by
    unfold argK at h
    split at h
    · rename_i s hs
      split at h
      · rename_i v hv
        obtain ⟨vsl, h1, h2⟩ := argK_sound h
        exact ⟨_, h1, fun hy => by simp only [evs, hρ hy x s v hs hv, h2 hy]⟩
      · exact h.elim
    · exact h.elim
theorem bldK_sound {fs : List (Nat × Nat × Bool)} : ∀ {ps : List (Nat × Operand)} {z : List Value} {K : List Value → Prop}, bldK ρ B fs ps z K →
    ∃ cs vsl, K cs ∧ (yes og → evs L (ps.map (·.2)) = some vsl) ∧ fillL (fs.map fun p => (p.1, p.2.1)) z ((ps.map (·.1)).zip vsl) = some cs
  | [], z, K, h => ⟨z, [], h, fun _ => rfl, rfl⟩
  | (i, x) :: r, z, K, h => by
    unfold bldK at h
    split at h
    · rename_i off sz ag s hf hs
      obtain ⟨cs, v, h1, hv, hc⟩ := celK_sound h
      cases hl : lenB cs sz with
      | false => rw [hl] at h1; exact h1.elim
      | true =>
        rw [hl] at h1
        obtain ⟨h2, hle⟩ := setK_sound h1
        obtain ⟨cs', vsl, g1, g2, g3⟩ := bldK_sound h2
        refine ⟨cs', v :: vsl, g1, fun hy => by simp only [List.map_cons, evs, hρ hy x s v hs hv, g2 hy], ?_⟩
        simp only [List.map_cons, List.zip_cons_cons]
        have hlen := lenB_eq hl
        unfold fillL
        have hp : (fs.map fun p => (p.1, p.2.1))[i]? = some (off, sz) := by
          rw [nthV_eq] at hf; simp [hf]
        simp only [hp, hc]
        rw [if_neg (by simp; omega)]
        exact g3
    · exact h.elim
omit hρ in
theorem rd1_sound {x : Operand} {K : SV → Prop} (h : rd1 ρ x K) : ∃ s, ρ x = some s ∧ K s := by
  unfold rd1 at h
  split at h
  · exact ⟨_, by assumption, h⟩
  · exact h.elim
omit hρ in
theorem gc_mk {og : Option Bool} {C : Prop} (h : yes og → C) : gc og C := by
  cases og with
  | none => exact h (fun g hg => by cases hg)
  | some g => exact fun hg => h fun g' hg' => by cases hg'; exact hg
theorem pvArith_sound {b : BinOp} {k : IntKind} {m n : Int} {x y : Operand} {t t' : Nat} (hx : ρ x = some (.v (.int k m))) (hy : ρ y = some (.v (.int k n))) (h : pvArith og b k m n K) : Good P B L h0 F (.binOp b t x y t') og K := by
  have ex := fun hy => ev_v hρ hy hx
  have ey := fun hz => ev_v hρ hz hy
  cases b <;> simp only [pvArith] at h <;> first | exact h.elim | skip
  case eql => exact ⟨_, _, h, rfl, fun hz w _ d ty pos af g => pu_ieq (ex hz) (ey hz)⟩
  case neq => exact ⟨_, _, h, rfl, fun hz w _ d ty pos af g => pu_ine (ex hz) (ey hz)⟩
  case lss => exact ⟨_, _, h, rfl, fun hz w _ d ty pos af g => pu_ilt (ex hz) (ey hz)⟩
  case leq => exact ⟨_, _, h, rfl, fun hz w _ d ty pos af g => pu_ile (ex hz) (ey hz)⟩
  case gtr => exact ⟨_, _, h, rfl, fun hz w _ d ty pos af g => pu_igt (ex hz) (ey hz)⟩
  case geq => exact ⟨_, _, h, rfl, fun hz w _ d ty pos af g => pu_ige (ex hz) (ey hz)⟩
  all_goals obtain ⟨r, hr, hk⟩ := h
  case add => exact ⟨_, _, hk, rfl, fun hz w _ d ty pos af g => pu_add (ex hz) (ey hz) (gc_yes hr hz)⟩
  case sub => exact ⟨_, _, hk, rfl, fun hz w _ d ty pos af g => pu_sub (ex hz) (ey hz) (gc_yes hr hz)⟩
  case mul => exact ⟨_, _, hk, rfl, fun hz w _ d ty pos af g => pu_mul (ex hz) (ey hz) (gc_yes hr hz)⟩
  case quo => exact ⟨_, _, hk, rfl, fun hz w _ d ty pos af g => pu_quo (ex hz) (ey hz) (gc_yes hr hz).1 (gc_yes hr hz).2⟩
  case rem => exact ⟨_, _, hk, rfl, fun hz w _ d ty pos af g => pu_rem (ex hz) (ey hz) (gc_yes hr hz).1 (gc_yes hr hz).2⟩
  case and => exact ⟨_, _, hk, rfl, fun hz w _ d ty pos af g => pu_and (ex hz) (ey hz) (gc_yes hr hz)⟩
  case or => exact ⟨_, _, hk, rfl, fun hz w _ d ty pos af g => pu_or (ex hz) (ey hz) (gc_yes hr hz)⟩
  case xor => exact ⟨_, _, hk, rfl, fun hz w _ d ty pos af g => pu_xor (ex hz) (ey hz) (gc_yes hr hz)⟩
  case andNot => exact ⟨_, _, hk, rfl, fun hz w _ d ty pos af g => pu_andnot (ex hz) (ey hz) (gc_yes hr hz)⟩
theorem pvInt_sound {b : BinOp} {k k2 : IntKind} {m n : Int} {x y : Operand} {t t' : Nat} (hx : ρ x = some (.v (.int k m))) (hy : ρ y = some (.v (.int k2 n))) (h : pvInt og b k m k2 n K) : Good P B L h0 F (.binOp b t x y t') og K := by
  have key : (bif ikb k k2 then pvArith og b k m n K else False) → Good P B L h0 F (.binOp b t x y t') og K := by
    intro h1
    cases hk : ikb k k2 with
    | false => rw [hk] at h1; exact h1.elim
    | true =>
      rw [hk] at h1
      obtain rfl := ikb_eq hk
      exact pvArith_sound hρ hx hy h1
  cases b
  case shl =>
    obtain ⟨r, hr, hk⟩ := h
    exact ⟨_, _, hk, rfl, fun hz w _ d ty pos af g => pu_shl (ev_v hρ hz hx) (ev_v hρ hz hy) (gc_yes hr hz).1 (gc_yes hr hz).2⟩
  case shr =>
    obtain ⟨r, hr, hk⟩ := h
    exact ⟨_, _, hk, rfl, fun hz w _ d ty pos af g => pu_shr (ev_v hρ hz hx) (ev_v hρ hz hy) (gc_yes hr hz).1 (gc_yes hr hz).2⟩
  all_goals exact key h
theorem pvStr_sound {b : BinOp} {l l' : List UInt8} {x y : Operand} {t t' : Nat} (hx : ρ x = some (.v (vs l))) (hy : ρ y = some (.v (vs l'))) (h : pvStr og b l l' K) : Good P B L h0 F (.binOp b t x y t') og K := by
  have ex := fun hy => ev_v hρ hy hx
  have ey := fun hz => ev_v hρ hz hy
  cases b <;> simp only [pvStr] at h <;> first | exact h.elim | skip
  case eql => exact ⟨_, _, h, rfl, fun hz w _ d ty pos af g => pu_seq (ex hz) (ey hz)⟩
  case neq => exact ⟨_, _, h, rfl, fun hz w _ d ty pos af g => pu_sne (ex hz) (ey hz)⟩
  case lss => exact ⟨_, _, h, rfl, fun hz w _ d ty pos af g => pu_slt (ex hz) (ey hz)⟩
  case add => exact ⟨_, _, h.2, rfl, fun hz w _ d ty pos af g => pu_cat (ex hz) (ey hz) (gc_yes h.1 hz)⟩
include hT in
theorem pvBin_sound {b : BinOp} {x y : Operand} {s s' : SV} {t t' : Nat} (hx : ρ x = some s) (hy : ρ y = some s') (h : pvBin P T og b t s s' K) : Good P B L h0 F (.binOp b t x y t') og K := by
  unfold pvBin at h
  split at h
  · exact pvInt_sound hρ hx hy h
  · exact pvStr_sound hρ hx hy h
  · split at h
    · rename_i hl
      have ht := td_bool (hT.td hl) rfl
      split at h
      · exact ⟨_, _, h, rfl, fun hz w _ d ty pos af g => pu_beq ht (ev_v hρ hz hx) (ev_v hρ hz hy)⟩
      · exact ⟨_, _, h, rfl, fun hz w _ d ty pos af g => pu_bne ht (ev_v hρ hz hx) (ev_v hρ hz hy)⟩
      · exact h.elim
    · exact h.elim
  · split at h
    · obtain ⟨r, hr, hk⟩ := h
      refine ⟨_, _, hk, rfl, fun hz w _ d ty pos af g => ?_⟩
      have ha := gc_yes hr hz
      intro σ hσ
      simp only [execOp, hσ x (by simp [Op.operands]) _ (ev_v hρ hz hx), hσ y (by simp [Op.operands]) _ (ev_v hρ hz hy), Sem.run_bind, run_eqGuard_agg w _ _ _ _ _ _ ha.1, Result.andThen_ok, run_eql_struct, ha.2]
      rfl
    · obtain ⟨r, hr, hk⟩ := h
      refine ⟨_, _, hk, rfl, fun hz w _ d ty pos af g => ?_⟩
      have ha := gc_yes hr hz
      intro σ hσ
      simp only [execOp, hσ x (by simp [Op.operands]) _ (ev_v hρ hz hx), hσ y (by simp [Op.operands]) _ (ev_v hρ hz hy), Sem.run_bind, run_eqGuard_agg w _ _ _ _ _ _ ha.1, Result.andThen_ok, run_neq_struct, ha.2]
      rfl
    · exact h.elim
  · exact h.elim
omit hρ in
theorem hasN_sound {s : SV} {X : Prop} (h : hasN B s X) : ∃ v, dvO B s = some v ∧ X := by
  unfold hasN at h
  split at h
  · exact ⟨_, by assumption, h⟩
  · exact h.elim
include hT hB in
theorem pvLoad_sound {x : Operand} {s : SV} {t : Nat} {td : TD} (ht : lkA T.tys t = some td) (hx : ρ x = some s) (h : pvLoad h0 F B og td K s) : Good P B L h0 F (.load t x) og K := by
  have ht := hT.td ht
  have key : ∀ (cs : List Value) (b o f : Nat), (yes og → ev L x = some (.pointer (some ⟨b, o + f, none⟩))) → (yes og → ∀ w, WOk h0 F B w → ∀ j v, cs[j]? = some v → w.cell? ⟨b, o + j, none⟩ = some v) → ldK td cs f K → Good P B L h0 F (.load t x) og K := by
    intro cs b o f hx hc h
    unfold ldK at h
    cases hag : td.ag with
    | true =>
      rw [hag] at h
      have hsub : ∀ l : List Value, l.length = td.sz → (∀ j v, l[j]? = some v → cs[f + j]? = some v) → K (.v (.agg l.toArray)) → Good P B L h0 F (.load t x) og K := by
        intro l hl hj hk
        refine ⟨_, _, hk, rfl, fun hz w hw d ty pos af g => pu_loadA (by rw [hl]; exact td_agg ht hag) (hx hz) fun j v hjv => ?_⟩
        rw [add_mk, Nat.add_assoc]
        exact hc hz w hw _ _ (hj j v hjv)
      simp only [cond_true] at h
      cases hw : (Nat.beq f 0 && lenB cs td.sz) with
      | true =>
        rw [hw] at h
        simp only [Bool.and_eq_true] at hw
        obtain rfl := Nat.eq_of_beq_eq_true hw.1
        exact hsub cs (lenB_eq hw.2) (fun j v hjv => by simpa using hjv) h
      | false =>
        rw [hw] at h
        obtain ⟨hk, hle⟩ := subK_sound h
        refine hsub _ (by simp; omega) (fun j v hjv => ?_) hk
        rw [List.getElem?_take] at hjv
        split at hjv
        · simpa using hjv
        · cases hjv
    | false =>
      rw [hag] at h
      simp only [cond_false] at h
      split at h
      · rename_i v hv
        rw [nthV_eq] at hv
        exact ⟨_, _, h, rfl, fun hz w hw d ty pos af g => pu_load1 (td_one ht hag) (hx hz) (hc hz w hw _ _ hv)⟩
      · exact h.elim
  unfold pvLoad at h
  split at h
  · rename_i k f
    split at h
    · rename_i b T' cs hl
      refine key cs b 0 f (fun hz => ?_) (fun hz w hw j v hj => ?_) h
      · have := hρ hz x (.o k f) (.pointer (some ⟨b, f, none⟩)) hx (by simp [dvO, hl])
        rwa [Nat.zero_add]
      · rw [cell_row (hw.own _ _ _ _ hl), Nat.zero_add]; exact hj
    · rename_i g b o cs hl
      have hg : ldK td cs f K ∧ (yes og → yes g) := by
        unfold kg at h
        split at h
        · exact ⟨h, fun _ g' hg' => by cases hg'⟩
        · rename_i g1; exact ⟨h.2, fun hz g' hg' => by cases hg'; exact gc_yes h.1 hz⟩
      refine key cs b o f (fun hz => ?_) (fun hz w hw j v hj => ?_) hg.1
      · exact hρ hz x (.o k f) (.pointer (some ⟨b, o + f, none⟩)) hx (by simp [dvO, hl])
      · obtain ⟨v', q1, q2, q3⟩ := hw.vw
        exact gc_yes (hB _ _ _ _ _ (lkA_mem hl)) (hg.2 hz) v' w q1 q2 q3 j v hj
    · exact h.elim
  · rename_i ad
    cases hag : td.ag with
    | true =>
      rw [hag] at h
      obtain ⟨cs, hc, hk⟩ := h
      exact ⟨_, _, hk, rfl, fun hz w hw d ty pos af g => pu_loadA (by rw [(gc_yes hc hz).1]; exact td_agg ht hag) (ev_v hρ hz hx) (let ⟨v', q1, q2, q3⟩ := hw.vw; (gc_yes hc hz).2 v' w q1 q2 q3)⟩
    | false =>
      rw [hag] at h
      obtain ⟨v, hc, hk⟩ := h
      exact ⟨_, _, hk, rfl, fun hz w hw d ty pos af g => pu_load1 (td_one ht hag) (ev_v hρ hz hx) (let ⟨v', q1, q2, q3⟩ := hw.vw; gc_yes hc hz v' w q1 q2 q3)⟩
  · exact h.elim
omit hρ in
theorem optR_sound {x : Option Operand} {K : Option SV → Prop} (h : optR ρ x K) : (x = none ∧ K none) ∨ ∃ y s, x = some y ∧ ρ y = some s ∧ K (some s) := by
  unfold optR at h
  split at h
  · exact .inl ⟨rfl, h⟩
  · split at h
    · exact .inr ⟨_, _, rfl, by assumption, h⟩
    · exact h.elim
include hT in
theorem pvSlice_sound {x : Operand} {lo hi : Option Operand} {s : SV} {t : Nat} {td : TD} (ht : lkA T.tys t = some td) (hx : ρ x = some s) (h : optR ρ lo fun a => optR ρ hi fun b => pvSlice og td s a b K) : Good P B L h0 F (.slice t x lo hi none) og K := by
  have ht := hT.td ht
  rcases optR_sound h with ⟨rfl, h1⟩ | ⟨ya, sa, rfl, ha, h1⟩ <;> clear h <;> rcases optR_sound h1 with ⟨rfl, h⟩ | ⟨yb, sb, rfl, hb, h⟩ <;> clear h1 <;> unfold pvSlice at h
  · split at h <;> (try exact h.elim) <;> split at h <;> first | exact h.elim | simp_all
  · split at h
    · split at h
      · simp_all
      · rename_i hu _ e
        cases e
        obtain ⟨j, hj, hk⟩ := h
        refine ⟨_, _, hk, rfl, fun hz w _ d ty pos af g => ?_⟩
        have := pu_to (P := P) (w := w) (d := d) (ty := ty) (pos := pos) (af := af) (g := g) (td_str ht hu) (ev_v hρ hz hx) (ev_v hρ hz hb) (by have := gc_yes hj hz; omega) (by have := gc_yes hj hz; omega)
        rw [(gc_yes hj hz).1] at this
        simpa using this
      · simp_all
      · exact h.elim
    · split at h
      · simp_all
      · rename_i hu _ e
        cases e
        obtain ⟨j, hj, hk⟩ := h
        exact ⟨_, _, hk, rfl, fun hz w _ d ty pos af g => pu_sl_ton (td_sl ht hu) (ev_v hρ hz hx) (ev_v hρ hz hb) (gc_yes hj hz).1 (gc_yes hj hz).2⟩
      · exact h.elim
    · exact h.elim
  · split at h
    · split at h
      · rename_i hu e _
        cases e
        obtain ⟨j, hj, hk⟩ := h
        refine ⟨_, _, hk, rfl, fun hz w _ d ty pos af g => ?_⟩
        have := pu_from (P := P) (w := w) (d := d) (ty := ty) (pos := pos) (af := af) (g := g) (td_str ht hu) (ev_v hρ hz hx) (ev_v hρ hz ha) (by have := gc_yes hj hz; omega) (by have := gc_yes hj hz; omega)
        rw [(gc_yes hj hz).1] at this
        simpa using this
      · simp_all
      · simp_all
      · exact h.elim
    · split at h
      · rename_i hu e _
        cases e
        obtain ⟨j, hj, hk⟩ := h
        exact ⟨_, _, hk, rfl, fun hz w _ d ty pos af g => pu_sl_fromn (td_sl ht hu) (ev_v hρ hz hx) (ev_v hρ hz ha) (gc_yes hj hz).1 (gc_yes hj hz).2.1 (gc_yes hj hz).2.2⟩
      · simp_all
      · exact h.elim
    · exact h.elim
  · split at h
    · split at h
      · simp_all
      · simp_all
      · rename_i hu e e2
        cases e; cases e2
        obtain ⟨j, j2, hj, hk⟩ := h
        refine ⟨_, _, hk, rfl, fun hz w _ d ty pos af g => ?_⟩
        have := pu_fromto (P := P) (w := w) (d := d) (ty := ty) (pos := pos) (af := af) (g := g) (td_str ht hu) (ev_v hρ hz hx) (ev_v hρ hz ha) (ev_v hρ hz hb) (by have := gc_yes hj hz; omega) (by have := gc_yes hj hz; omega) (by have := gc_yes hj hz; omega)
        rw [(gc_yes hj hz).1, (gc_yes hj hz).2.1] at this
        simpa using this
      · exact h.elim
    · split at h
      · simp_all
      · simp_all
      · exact h.elim
    · exact h.elim
theorem pvNil_sound {x : Operand} {s : SV} (hx : ρ x = some s) (h : pvNil B s K) : Good P B L h0 F (.nilCheck x) og K := by
  unfold pvNil at h
  split at h
  · obtain ⟨v, hv, hk⟩ := hasN_sound h
    refine ⟨_, v, hk, hv, fun hz w _ d ty pos af g => ?_⟩
    have e := hρ hz _ _ _ hx hv
    have : ∃ ad, v = .pointer (some ad) := by
      simp only [dvO] at hv
      split at hv <;> cases hv <;> exact ⟨_, rfl⟩
    obtain ⟨ad, rfl⟩ := this
    exact pu_nil e
  · exact ⟨_, _, h, rfl, fun hz w _ d ty pos af g => pu_nil (ev_v hρ hz hx)⟩
  · refine ⟨_, _, h, rfl, fun hz w _ d ty pos af g => ?_⟩
    intro σ hσ
    simp [execOp, hσ x (by simp [Op.operands]) _ (ev_v hρ hz hx)]
  · exact h.elim
theorem pvUn_sound {x : Operand} {s : SV} {o : UnOp} {t : Nat} (hx : ρ x = some s) (h : pvUn og o s K) : Good P B L h0 F (.unOp o t x) og K := by
  unfold pvUn at h
  split at h
  · exact ⟨_, _, h, rfl, fun hz w _ d ty pos af g => pu_not (ev_v hρ hz hx)⟩
  · obtain ⟨r, hr, hk⟩ := h
    exact ⟨_, _, hk, rfl, fun hz w _ d ty pos af g => pu_neg (ev_v hρ hz hx) (gc_yes hr hz)⟩
  · exact h.elim
include hT in
theorem pvConv_sound {x : Operand} {s : SV} {a b : Nat} (hx : ρ x = some s) (h : pvConv og (lkA T.tys a) (lkA T.tys b) s K) : Good P B L h0 F (.convert a b x) og K := by
  unfold pvConv at h
  split at h
  · rename_i ha hb
    obtain ⟨r, hr, hk⟩ := h
    obtain ⟨u, _, _, hu, _⟩ := tdOf_parts (hT.td ha)
    exact ⟨_, _, hk, rfl, fun hz w _ d ty pos af g => pu_conv (td_int (hT.td hb) rfl) ⟨u, hu⟩ (ev_v hρ hz hx) (gc_yes hr hz)⟩
  · exact h.elim
include hT in
theorem pvFA_sound {x : Operand} {s : SV} {t i : Nat} {td : TD} {fs : List (Nat × Nat × Bool)} (ht : lkA T.tys t = some td) (hu : td.u = .st fs) (hx : ρ x = some s) (h : pvFA B (nthV fs i) s K) : Good P B L h0 F (.fieldAddr t x i) og K := by
  unfold pvFA at h
  split at h
  · rename_i off sz ag hf
    rw [nthV_eq] at hf
    obtain ⟨fa, f, g1, g2, g3, g4, _⟩ := td_fld (hT.td ht) hu hf
    have hfld : FldAt P t i off := ⟨fa, f, sz + 1, g1, g2, g4, by omega, g3⟩
    split at h
    · rename_i k o
      obtain ⟨v, hv, hk⟩ := hasN_sound h
      have hv2 : ∃ b p, v = .pointer (some ⟨b, p, none⟩) ∧ dvO B (.o k (o + off)) = some (.pointer (some ⟨b, p + off, none⟩)) := by
        simp only [dvO] at hv ⊢
        split at hv <;> cases hv
        · exact ⟨_, _, rfl, rfl⟩
        · exact ⟨_, _, rfl, by rw [Nat.add_assoc]⟩
      obtain ⟨b, p, rfl, hv2⟩ := hv2
      exact ⟨_, _, hk, hv2, fun hz w _ d ty pos af g => pu_faddr hfld (hρ hz _ _ _ hx hv)⟩
    · exact ⟨_, _, h, rfl, fun hz w _ d ty pos af g => pu_faddr hfld (ev_v hρ hz hx)⟩
    · exact h.elim
  · exact h.elim
include hT in
theorem pvIdx_sound {x y : Operand} {s s' : SV} {t : Nat} (hx : ρ x = some s) (hy : ρ y = some s') (h : pvIdx og (lkA T.tys t) s s' K) : Good P B L h0 F (.index t x y) og K := by
  unfold pvIdx at h
  split at h
  · rename_i ht
    obtain ⟨j, hj, hk⟩ := h
    exact ⟨_, _, hk, rfl, fun hz w _ d ty pos af g => pu_idxn (td_str (hT.td ht) rfl) (ev_v hρ hz hx) (ev_v hρ hz hy) (gc_yes hj hz).1 (gc_yes hj hz).2⟩
  · exact h.elim
include hT in
theorem pvLen_sound {x : Operand} {s : SV} {t : Nat} {r : List TypeId} (hx : ρ x = some s) (h : pvLen B (lkA T.tys t) s K) : Good P B L h0 F (.call ⟨.builtin .len, ⟨[x]⟩, ⟨t :: r⟩⟩) og K := by
  unfold pvLen at h
  split at h
  · rename_i ht
    exact ⟨_, _, h, rfl, fun hz w _ d ty pos af g => pu_len_s (td_str (hT.td ht) rfl) rfl (ev_v hρ hz hx)⟩
  · rename_i ht
    exact ⟨_, _, h, rfl, fun hz w _ d ty pos af g => pu_len_sl (td_sl (hT.td ht) rfl).1 rfl (ev_v hρ hz hx)⟩
  · rename_i k f n cp ht
    obtain ⟨v, hv, hk⟩ := hasN_sound h
    have : ∃ a, v = .slice a n cp := by
      simp only [dvO] at hv
      split at hv <;> cases hv <;> exact ⟨_, rfl⟩
    obtain ⟨a, rfl⟩ := this
    exact ⟨_, _, hk, rfl, fun hz w _ d ty pos af g => pu_len_sl (td_sl (hT.td ht) rfl).1 rfl (hρ hz _ _ _ hx hv)⟩
  · exact h.elim
include hT hB in
/-- **A pure operation gives what was reckoned.** -/
theorem pv_sound {op : Op} (h : pv P T h0 F B og ρ K op) : Good P B L h0 F op og K := by
  unfold pv at h
  split at h
  · obtain ⟨s, hx, h⟩ := rd1_sound h
    obtain ⟨v, hv, hk⟩ := hasN_sound h
    exact ⟨s, v, hk, hv, fun hz w _ d ty pos af g => pu_move (hρ hz _ _ _ hx hv)⟩
  · obtain ⟨s, hx, h⟩ := rd1_sound h
    obtain ⟨v, hv, hk⟩ := hasN_sound h
    exact ⟨s, v, hk, hv, fun hz w _ d ty pos af g => pu_assign (hρ hz _ _ _ hx hv)⟩
  · obtain ⟨s, hx, h⟩ := rd1_sound h
    exact pvNil_sound hρ hx h
  · obtain ⟨s, hx, h⟩ := rd1_sound h
    obtain ⟨s', hy, h⟩ := rd1_sound h
    exact pvBin_sound hT hρ hx hy h
  · obtain ⟨s, hx, h⟩ := rd1_sound h
    exact pvUn_sound hρ hx h
  · obtain ⟨s, hx, h⟩ := rd1_sound h
    exact pvConv_sound hT hρ hx h
  · obtain ⟨s, hx, h⟩ := rd1_sound h
    split at h
    · split at h
      · rename_i v hv
        rw [nthV_eq] at hv
        exact ⟨_, _, h, rfl, fun hz w _ d ty pos af g => pu_extract (ev_v hρ hz hx) hv⟩
      · exact h.elim
    · exact h.elim
  · obtain ⟨vsl, hk, hv⟩ := argK_sound hρ h
    exact ⟨_, _, hk, rfl, fun hz w _ d ty pos af g => pu_mkfunc (hv hz)⟩
  · split at h
    · rename_i ht
      obtain ⟨s, hx, h⟩ := rd1_sound h
      exact pvFA_sound hT hρ ht rfl hx h
    · exact h.elim
  · split at h
    · rename_i ht
      obtain ⟨s, hx, h⟩ := rd1_sound h
      split at h
      · unfold pvField at h
        split at h
        · rename_i hf
          rw [nthV_eq] at hf
          obtain ⟨fa, f, g1, g2, g3, g4, g5⟩ := td_fld (hT.td ht) rfl hf
          split at h
          · rename_i v hv
            rw [nthV_eq] at hv
            exact ⟨_, _, h, rfl, fun hz w _ d ty pos af g => pu_field ⟨fa, f, g1, g2, g3, g5⟩ (ev_v hρ hz hx) hv⟩
          · exact h.elim
        · exact h.elim
      · exact h.elim
    · exact h.elim
  · obtain ⟨s, hx, h⟩ := rd1_sound h
    obtain ⟨s', hy, h⟩ := rd1_sound h
    exact pvIdx_sound hT hρ hx hy h
  · split at h
    · rename_i ht
      obtain ⟨s, hx, h⟩ := rd1_sound h
      exact pvSlice_sound hT hρ ht hx h
    · exact h.elim
  · split at h
    · rename_i ht
      obtain ⟨s, hx, h⟩ := rd1_sound h
      exact pvLoad_sound hT hB hρ ht hx h
    · exact h.elim
  · split at h
    · rename_i ht
      obtain ⟨cs, vsl, hk, hv, hf⟩ := bldK_sound hρ h
      exact ⟨_, _, hk, rfl, fun hz w _ d ty pos af g => pu_build_st (td_strb (hT.td ht) rfl) (hv hz) hf⟩
    · exact h.elim
  · obtain ⟨s, hx, h⟩ := rd1_sound h
    exact pvLen_sound hT hρ hx h
  · obtain ⟨s, hx, h⟩ := rd1_sound h
    obtain ⟨s', hy, h⟩ := rd1_sound h
    unfold pvMM at h
    split at h
    · obtain ⟨r, hr, hk⟩ := h
      exact ⟨_, _, hk, rfl, fun hz w _ d ty pos af g => pu_min (ev_v hρ hz hx) (ev_v hρ hz hy) (gc_yes hr hz)⟩
    · exact h.elim
  · obtain ⟨s, hx, h⟩ := rd1_sound h
    obtain ⟨s', hy, h⟩ := rd1_sound h
    unfold pvMM at h
    split at h
    · obtain ⟨r, hr, hk⟩ := h
      exact ⟨_, _, hk, rfl, fun hz w _ d ty pos af g => pu_max (ev_v hρ hz hx) (ev_v hρ hz hy) (gc_yes hr hz)⟩
    · exact h.elim
  · exact h.elim
end sound
end Go.Dx
namespace Go.Dx
open Go Go.RowKit

structure Cx where
  P : Program
  T : Tab
  md : Md
  n : Nat
  w0 : World
  h0 : View
  M : List Nat
  kp : List PanicEntry → Prop
  stop : List Nat
  cut : List Nat
abbrev FV := View → Prop
abbrev KR := SL → IL → BL → FV → Prop

def oeOf : OB → Option OE
  | .c b T cs => some (some b, CellsC T cs)
  | .k .. => none
  | .e e => some e
def oes (B : BL) : List OE := B.filterMap fun p => oeOf p.2
structure Sx (c : Cx) (B : BL) (F : FV) (w : World) : Prop where
  st : St c.w0 c.h0 c.M w (oes B) F
  bk : BOk c.h0 F B
structure Dn (c : Cx) (L : SL) (I : IL) (B : BL) (a : Act) : Prop where
  fr : Fr a c.n (fl L I B)
  inv : Inv L I
def PanOk (c : Cx) (Q : Exit → Act → World → Prop) : Prop := ∀ ch a w, c.kp ch → a.defers = [] → Keep c.M c.w0 w → Q (.panic ch) a w
def NormOk (c : Cx) (K : KR) (Q : Exit → Act → World → Prop) : Prop := ∀ L I B F a w, K L I B F → Dn c L I B a → Sx c B F w → Q .normal a w
/-- what stands behind the rest of a region -/
structure WP (c : Cx) (al l : List Oper) (L : SL) (I : IL) (B : BL) (F : FV) (K : KR) : Prop where
  run : ∀ Q a w, NormOk c K Q → PanOk c Q → Dn c L I B a → Sx c B F w → wpM c.md c.P al.toArray Q l a w

def noNm : SL → Nat → Bool
  | [], _ => true
  | (_, .o k _) :: r, d => bif Nat.beq k d then false else noNm r d
  | (_, .s k _ _ _) :: r, d => bif Nat.beq k d then false else noNm r d
  | (_, _) :: r, d => noNm r d
def noNmI : IL → Nat → Bool
  | [], _ => true
  | (_, ⟨_, _, _, .o k _⟩) :: r, d => bif Nat.beq k d then false else noNmI r d
  | (_, ⟨_, _, _, .s k _ _ _⟩) :: r, d => bif Nat.beq k d then false else noNmI r d
  | (_, _) :: r, d => noNmI r d
def noLab : IL → Nat → Bool
  | [], _ => true
  | (_, e) :: r, d => bif Nat.beq e.t d then false else noLab r d
def delK : IL → Nat → (IL → Prop) → Prop
  | [], _, K => K []
  | (k, e) :: r, d, K => bif Nat.beq k d then delK r d K else delK r d fun r' => K ((k, e) :: r')
def wr (n d : Nat) (s : SV) (L : SL) (I : IL) (X : SL → IL → Prop) : Prop :=
  bif Nat.blt d n && noLab I d then delK I d fun I' => X ((d, s) :: L) I' else False
def wrG (n d t : Nat) (c g : Bool) (s : SV) (L : SL) (I : IL) (X : SL → IL → Prop) : Prop :=
  bif Nat.blt d n && noLab I d && !Nat.beq d t then X ((d, .u) :: L) ((d, ⟨t, c, g, s⟩) :: I) else False
def fresh (d : Nat) (L : SL) (I : IL) (B : BL) (X : Prop) : Prop := match lkA B d with
  | some _ => False
  | none => bif noNm L d && noNmI I d then X else False
def setAK : BL → Nat → OB → (BL → Prop) → Prop
  | [], _, _, _ => False
  | (k, o) :: r, d, o', K => bif Nat.beq k d then K ((k, o') :: r) else setAK r d o' fun r' => K ((k, o) :: r')
def adB (a : Option Addr) : Nat := match a with
  | some x => x.block
  | none => 0
def adO (a : Option Addr) : Nat := match a with
  | some x => x.off
  | none => 0

/-- a call: by its answer, or by whatever it does -/
inductive CallG (c : Cx) (sq : Bool) (og : Option Bool) (B : BL) (F : FV) (f : Nat) (vsl : List Value) (Kv : SV → Prop) (W : Prop) : Prop where
  | v (x : Value) (H : gc og (∀ w, Sx c B F w → ∃ h, Calls c.P f vsl.toArray w (Ret w h fun u _ => u = x))) (k : Kv (.v x)) : CallG c sq og B F f vsl Kv W
  | w (hs : sq = true) (h : W) : CallG c sq og B F f vsl Kv W
  | r (e n : Nat) (cs : List Value) (hs : sq = false) (ho : og = none) (H : ∀ w, Sx c B F w → Calls c.P f vsl.toArray w (RetM [] w fun v w' => ∃ b, v = .slice (some ⟨b, 0, none⟩) n n ∧ NewRow w e cs b w')) (k : Kv (.r e n cs)) : CallG c sq og B F f vsl Kv W
def calG (c : Cx) (sq : Bool) (og : Option Bool) (B : BL) (F : FV) (ρ : Operand → Option SV) (f : Operand) (args : List Operand) (Kv : SV → Prop) (W : Prop) : Prop := match f with
  | .func g => bif memF c.T.fs g then argK ρ B args fun vsl => CallG c sq og B F g vsl Kv W else False
  | x => rd1 ρ x fun s => match s with
    | .v (.func (.func g) ⟨first⟩ ⟨cap⟩) => bif memF c.T.fs g then argK ρ B args fun vsl => CallG c sq og B F g (first ++ vsl ++ cap) Kv W else False
    | .v (.func (.yield _) _ _) => sq = true ∧ W
    | _ => False
def ElC (h0 : View) (F : FV) (ad : Option Addr) (o : Nat) (cs : List Value) : Prop := ∀ v, VLe h0 v → F v → ad = some ⟨adB ad, adO ad, none⟩ ∧ ∀ w, VLe v (Full w) → ∀ j x, cs[j]? = some x → w.cell? ⟨adB ad, adO ad + o + j, none⟩ = some x
/-- an element of a slice -/
def ixG (c : Cx) (F : FV) (og : Option Bool) (td : Option TD) (s s' : SV) (X : Nat → Nat → List Value → Prop) : Prop := match td, s, s' with
  | some ⟨.sl _ sz, _, _, _⟩, .v (.slice ad n _), .v (.int _ i) => ∃ (j : Nat) (cs : List Value), gc og (i = (j : Int) ∧ j < n ∧ ElC c.h0 F ad (j * sz) cs) ∧ X (adB ad) (adO ad + j * sz) cs
  | _, _, _ => False
def isSl (td : Option TD) : Bool := match td with
  | some ⟨.sl _ _, _, _, _⟩ => true
  | _ => false
def usC (I : IL) (cx : Option (Nat × Bool)) (t : Nat) (c : Bool) : Bool := match cx with
  | none => false
  | some (t0, c0) => usb I 8 t0 c0 t c
/-- an arm of a choice -/
def armS (L : SL) (I : IL) (cx : Option (Nat × Bool)) (tc : Nat) (p : Bool) : Operand → Option SV
  | .tmp t => match lkA I t with
    | some e => bif (Nat.beq e.t tc && bq e.c p) || usC I cx e.t e.c then some e.s else none
    | none => lkA L t
  | .const v => some (.v v)
  | _ => none
def pickK (b : Bool) (x y : Operand) (sx sy : Option SV) (K : SV → Prop) : Prop := match sx, sy with
  | some (.v vx), some (.v vy) => match x, y with
    | .const (.bool true), _ => match vy with
      | .bool q => K (.v (.bool (b || q)))
      | _ => False
    | _, .const (.bool false) => match vx with
      | .bool p => K (.v (.bool (b && p)))
      | _ => False
    | _, _ => match vx, vy with
      | .bool p, .bool q => K (.v (.bool (bif b then p else q)))
      | .int k m, .int k2 n => bif ikb k k2 then K (.v (.int k (bif b then m else n))) else False
      | .string ⟨⟨l⟩⟩, .string ⟨⟨l'⟩⟩ => K (.v (vs (bif b then l else l')))
      | _, _ => K (.v (bif b then vx else vy))
  | _, _ => False
def pkG (L : SL) (I : IL) (cx : Option (Nat × Bool)) (x y z : Operand) (K : SV → Prop) : Prop := match x with
  | .tmp tc => match rdT L I cx tc with
    | some (.v (.bool b)) => pickK b y z (armS L I cx tc true y) (armS L I cx tc false z) K
    | _ => False
  | _ => False
/-- the operands of a row that is built, in their order -/
def unEnum : Nat → List (Nat × Operand) → Option (List Operand)
  | _, [] => some []
  | k, (i, x) :: r => bif Nat.beq i k then (match unEnum (k + 1) r with
    | some l => some (x :: l)
    | none => none) else none
def bslK (ρ : Operand → Option SV) (B : BL) (sz : Nat) : List Operand → (List Value → Prop) → Prop
  | [], K => K []
  | x :: r, K => rd1 ρ x fun s => celK B s fun cs => bif lenB cs sz then bslK ρ B sz r fun rest => K (cs ++ rest) else False
def bsl (ρ : Operand → Option SV) (B : BL) (T : Tab) (t len : Nat) (ps : List (Nat × Operand)) (X : Nat → List Value → Prop) : Prop := match lkA T.tys t with
  | some ⟨.sl e sz, _, _, _⟩ => match lkA T.tys e, unEnum 0 ps with
    | some te, some xs => bif lenB te.z sz && Nat.beq xs.length len && Nat.ble (len * sz) 16777216 then bslK ρ B sz xs fun cs => X e cs else False
    | _, _ => False
  | _ => False
/-- bytes to text -/
def strS (sq : Bool) (B : BL) (x : SV) (X : List Value → Prop) : Prop := match x with
  | .r _ n cs => bif !sq && lenB cs n then X cs else False
  | .s k f n _ => match lkA B k with
    | some (.c _ _ cs) => bif Nat.beq f 0 && lenB cs n then X cs else False
    | _ => False
  | _ => False
def isBytes (T : Tab) (a b : Nat) : Bool := match lkA T.tys a, lkA T.tys b with
  | some ⟨.sl e _, _, _, _⟩, some ⟨.str, _, _, _⟩ => match lkA T.tys e with
    | some ⟨.int .u8, _, _, _⟩ => true
    | _ => false
  | _, _ => false
/-- a call with a new row among its arguments -/
def splitR (ρ : Operand → Option SV) : List Operand → Option (List Operand × List Operand × Nat × Nat × List Value)
  | [] => none
  | x :: r => match ρ x with
    | some (.r e n cs) => some ([], r, e, n, cs)
    | _ => match splitR ρ r with
      | some (l, q) => some (x :: l, q)
      | none => none
structure CallR (c : Cx) (B : BL) (F : FV) (f : Nat) (vsl vsr : List Value) (e n : Nat) (cs : List Value) (Kv : SV → Prop) : Prop where
  ex : ∃ x : Value, (∀ (w : World) (b : Nat), Sx c B F w → w.heap[b]? = some (.cells cs.toArray e (0, 0)) → ∃ h, Calls c.P f (vsl ++ Value.slice (some ⟨b, 0, none⟩) n n :: vsr).toArray w (Ret w h fun u _ => u = x)) ∧ Kv (.v x)
def isPure : Op → Bool
  | .move _ | .assign _ | .nilCheck _ | .binOp .. | .unOp .. | .convert .. | .extract .. | .makeFunc .. | .fieldAddr .. | .field .. | .index .. | .slice .. | .load .. | .build .. => true
  | .call ⟨.builtin .len, _, _⟩ | .call ⟨.builtin .min, _, _⟩ | .call ⟨.builtin .max, _, _⟩ => true
  | _ => false
def stepB (c : Cx) (sq : Bool) (dst : Option Nat) (op : Op) (L : SL) (I : IL) (B : BL) (F : FV) (X : SL → IL → BL → FV → Prop) (W : Prop) : Prop := match dst with
  | some d => match op with
    | .alloc t => match sq, lkA c.T.tys t with
      | true, some td => fresh d L I B (∀ b : Nat, wr c.n d (.o d 0) L I fun L I => X L I ((d, .c b t td.z) :: B) F)
      | _, _ => False
    | .box t x => match sq with
      | true => rd1 (rdS L I none) x fun s => celK B s fun cs => fresh d L I B (∀ b : Nat, wr c.n d (.o d 0) L I fun L I => X L I ((d, .c b t cs) :: B) F)
      | false => False
    | .pick x y z => pkG L I none x y z fun s => hasN B s (wr c.n d s L I fun L I => X L I B F)
    | .call ⟨.value f, ⟨args⟩, _⟩ => match splitR (rdS L I none) args, f with
      | some (xs, ys, e, n, cs), .func g => bif memF c.T.fs g && !sq then argK (rdS L I none) B xs fun vsl => argK (rdS L I none) B ys fun vsr => CallR c B F g vsl vsr e n cs fun s => wr c.n d s L I fun L I => X L I B F else False
      | _, _ => calG c sq none B F (rdS L I none) f args (fun s => wr c.n d s L I fun L I => X L I B F) W
    | .buildSlice t len ⟨ps⟩ => bsl (rdS L I none) B c.T t len ps fun e cs => match sq with
      | true => fresh d L I B (∀ b : Nat, wr c.n d (.s d 0 len len) L I fun L I => X L I ((d, .c b e cs) :: B) F)
      | false => wr c.n d (.r e len cs) L I fun L I => X L I B F
    | .convert a b x => bif isBytes c.T a b then rd1 (rdS L I none) x fun s => strS sq B s fun cs => ∃ l : List UInt8, cs = l.map v8 ∧ wr c.n d (.v (vs l)) L I fun L I => X L I B F
      else pv c.P c.T c.h0 F B none (rdS L I none) (fun s => wr c.n d s L I fun L I => X L I B F) (.convert a b x)
    | .indexAddr t x y => bif isSl (lkA c.T.tys t) then rd1 (rdS L I none) x fun s => rd1 (rdS L I none) y fun s' => ixG c F none (lkA c.T.tys t) s s' fun b o cs =>
        fresh d L I B (wr c.n d (.o d 0) L I fun L I => X L I ((d, .k none b o cs) :: B) F) else False
    | op => bif isPure op then pv c.P c.T c.h0 F B none (rdS L I none) (fun s => wr c.n d s L I fun L I => X L I B F) op else sq = true ∧ W
  | none => match op with
    | .store t a x => match sq, lkA c.T.tys t with
      | true, some td => rd1 (rdS L I none) a fun s => match s with
        | .o k f => match lkA B k with
          | some (.c b T' cs) => rd1 (rdS L I none) x fun s' => celK B s' fun new => bif lenB new td.sz && allOne new then setK cs f new fun cs' => setAK B k (.c b T' cs') fun B' => X L I B' F else False
          | _ => W
        | _ => W
      | _, _ => False
    | .call ⟨.value f, ⟨args⟩, _⟩ => calG c sq none B F (rdS L I none) f args (fun _ => X L I B F) W
    | _ => sq = true ∧ W
def stepU (c : Cx) (sq : Bool) (dst : Option Nat) (op : Op) (L : SL) (I : IL) (B : BL) (F : FV) (X : SL → IL → BL → FV → Prop) (W : Prop) : Prop := match dst with
  | some d => bif memF c.stop d then sq = true ∧ W else stepB c sq (some d) op L I B F X W
  | none => stepB c sq none op L I B F X W
def stepG' (c : Cx) (sq : Bool) (d : Nat) (op : Op) (t : Nat) (b g : Bool) (L : SL) (I : IL) (B : BL) (F : FV) (X : SL → IL → BL → FV → Prop) : Prop := match op with
  | .pick x y z => pkG L I (some (t, b)) x y z fun s => hasN B s (wrG c.n d t b g s L I fun L I => X L I B F)
  | .call ⟨.value f, ⟨args⟩, _⟩ => calG c sq (some g) B F (rdS L I (some (t, b))) f args (fun s => wrG c.n d t b g s L I fun L I => X L I B F) False
  | .indexAddr t' x y => bif isSl (lkA c.T.tys t') then rd1 (rdS L I (some (t, b))) x fun s => rd1 (rdS L I (some (t, b))) y fun s' => ixG c F (some g) (lkA c.T.tys t') s s' fun bb o cs =>
      fresh d L I B (wrG c.n d t b g (.o d 0) L I fun L I => X L I ((d, .k (some g) bb o cs) :: B) F) else False
  | op => bif isPure op then pv c.P c.T c.h0 F B (some g) (rdS L I (some (t, b))) (fun s => wrG c.n d t b g s L I fun L I => X L I B F) op else False
/-- a guard that holds: what stands under it is plain -/
def noRw : SV → Bool
  | .r .. => false
  | _ => true
def opnK (t : Nat) (b : Bool) : IL → SL → (SL → IL → Prop) → Prop
  | [], L, K => K L []
  | (d, e) :: r, L, K => match lkA r d with
    | some _ => False
    | none => bif Nat.beq e.t t && bq e.c b then (bif noRw e.s then opnK t b r ((d, e.s) :: L) K else False) else opnK t b r L fun L I => K L ((d, e) :: I)
def stepG (c : Cx) (sq : Bool) (d : Nat) (op : Op) (t : Nat) (b g : Bool) (L : SL) (I : IL) (B : BL) (F : FV) (X : SL → IL → BL → FV → Prop) (W : SL → IL → Prop) : Prop :=
  bif memF c.stop (2000000 + d) then g = true ∧ stepB c sq (some d) op L I B F X (W L I) else
    bif memF c.stop (4000000 + d) then (g = true → opnK t b I L fun L I => stepB c sq (some d) op L I B F X (W L I)) ∧ (g = false → ∃ v : Value, wrG c.n d t b g (.v v) L I fun L I => X L I B F) else stepG' c sq d op t b g L I B F X
def guardAt (al : List Oper) (L : SL) (I : IL) (j : Nat) (b : Bool) (X : Nat → Bool → Prop) : Prop := match nthV al j with
  | some ⟨some t, _, _, _, _, _⟩ => match gx L I t b with
    | some g => X t g
    | none => False
  | _ => False
def runs (c : Cx) (al : List Oper) (sq : Bool) (K : KR) : List Oper → SL → IL → BL → FV → Prop
  | [], L, I, B, F => K L I B F
  | ⟨dst, op, ty, pos, af, none⟩ :: r, L, I, B, F => stepU c sq dst op L I B F (fun L I B F => runs c al sq K r L I B F) (WP c al (⟨dst, op, ty, pos, af, none⟩ :: r) L I B F K)
  | ⟨some d, op, ty, pos, af, some (j, b)⟩ :: r, L, I, B, F => guardAt al L I j b fun t g => stepG c sq d op t b g L I B F (fun L I B F => runs c al sq K r L I B F) (fun L I => WP c al (⟨some d, op, ty, pos, af, none⟩ :: r) L I B F K)
  | ⟨none, _, _, _, _, some _⟩ :: _, _, _, _, _ => False

/-! ### Frames, as they go on -/
def nmOf : SV → Option Nat
  | .o k _ => some k
  | .s k _ _ _ => some k
  | _ => none
theorem noNm_ne : ∀ {L : SL} {d : Nat}, noNm L d = true → ∀ i s, (i, s) ∈ L → nmOf s ≠ some d
  | [], _, _, i, s, h => by cases h
  | (k, s0) :: r, d, h, i, s, hm => by
    have key : nmOf s0 ≠ some d ∧ noNm r d = true := by
      cases s0 with
      | o k' f' =>
        by_cases hk : k' = d
        · subst hk; simp [noNm] at h
        · exact ⟨by simpa [nmOf] using hk, by simpa [noNm, beq_ne hk] using h⟩
      | s k' f' n cp =>
        by_cases hk : k' = d
        · subst hk; simp [noNm] at h
        · exact ⟨by simpa [nmOf] using hk, by simpa [noNm, beq_ne hk] using h⟩
      | _ => exact ⟨by simp [nmOf], h⟩
    rcases List.mem_cons.1 hm with e | hm
    · obtain ⟨-, rfl⟩ := Prod.mk.inj e
      exact key.1
    · exact noNm_ne key.2 i s hm
theorem noNmI_ne : ∀ {I : IL} {d : Nat}, noNmI I d = true → ∀ i e, (i, e) ∈ I → nmOf e.s ≠ some d
  | [], _, _, i, s, h => by cases h
  | (k, ⟨t, c, g, s0⟩) :: r, d, h, i, e, hm => by
    have key : nmOf s0 ≠ some d ∧ noNmI r d = true := by
      cases s0 with
      | o k' f' =>
        by_cases hk : k' = d
        · subst hk; simp [noNmI] at h
        · exact ⟨by simpa [nmOf] using hk, by simpa [noNmI, beq_ne hk] using h⟩
      | s k' f' n cp =>
        by_cases hk : k' = d
        · subst hk; simp [noNmI] at h
        · exact ⟨by simpa [nmOf] using hk, by simpa [noNmI, beq_ne hk] using h⟩
      | _ => exact ⟨by simp [nmOf], h⟩
    rcases List.mem_cons.1 hm with e | hm
    · obtain ⟨-, rfl⟩ := Prod.mk.inj e
      exact key.1
    · exact noNmI_ne key.2 i e hm
theorem dvO_new {B : BL} {d : Nat} {ob : OB} {s : SV} (h : nmOf s ≠ some d) : dvO ((d, ob) :: B) s = dvO B s := by
  cases s with
  | o k f =>
    have : d ≠ k := fun e => h (by rw [e]; rfl)
    simp only [dvO, lkA_ne this]
  | s k f n cp =>
    have : d ≠ k := fun e => h (by rw [e]; rfl)
    simp only [dvO, lkA_ne this]
  | _ => rfl
theorem fl_new {L : SL} {I : IL} {B : BL} {d : Nat} {ob : OB} (h1 : noNm L d = true) (h2 : noNmI I d = true) : fl L I ((d, ob) :: B) = fl L I B := by
  unfold fl
  congr 1
  · apply List.map_congr_left
    intro p hp
    have := noNmI_ne h2 p.1 p.2 hp
    simp only [kI, dv, dvO_new this]
  · apply List.map_congr_left
    intro p hp
    have := noNm_ne h1 p.1 p.2 hp
    simp only [entS, dvO_new this]
theorem fresh_sound {d : Nat} {L : SL} {I : IL} {B : BL} {X : Prop} (h : fresh d L I B X) : lkA B d = none ∧ (∀ ob, fl L I ((d, ob) :: B) = fl L I B) ∧ X := by
  unfold fresh at h
  split at h
  · exact h.elim
  · rename_i hl
    cases hn : (noNm L d && noNmI I d) with
    | false => rw [hn] at h; exact h.elim
    | true =>
      rw [hn] at h
      simp only [Bool.and_eq_true] at hn
      exact ⟨hl, fun ob => fl_new hn.1 hn.2, h⟩
theorem delK_sound : ∀ {I : IL} {d : Nat} {K : IL → Prop}, delK I d K → ∃ I', K I' ∧ ∀ i, lkA I' i = if i = d then none else lkA I i
  | [], d, K, h => ⟨[], h, fun i => by simp [lkA]⟩
  | (k, e) :: r, d, K, h => by
    unfold delK at h
    by_cases hk : k = d
    · subst hk
      simp only [Nat.beq_refl, cond_true] at h
      obtain ⟨I', h1, h2⟩ := delK_sound h
      refine ⟨I', h1, fun i => ?_⟩
      rw [h2]
      split
      · rfl
      · rename_i hi; rw [lkA_ne (Ne.symm hi)]
    · simp only [beq_ne hk, cond_false] at h
      obtain ⟨I', h1, h2⟩ := delK_sound h
      refine ⟨_, h1, fun i => ?_⟩
      by_cases hi : k = i
      · subst hi; rw [lkA_eq, lkA_eq, if_neg hk]
      · rw [lkA_ne hi, lkA_ne hi, h2]
theorem noLab_ne : ∀ {I : IL} {d : Nat}, noLab I d = true → ∀ i e, (i, e) ∈ I → e.t ≠ d
  | [], _, _, _, _, h => by cases h
  | (k, e0) :: r, d, h, i, e, hm => by
    unfold noLab at h
    by_cases hk : e0.t = d
    · rw [hk] at h; simp at h
    · simp only [beq_ne hk, cond_false] at h
      rcases List.mem_cons.1 hm with e1 | hm
      · cases e1; exact hk
      · exact noLab_ne h i e hm
theorem gx_ne {L L' : SL} {I I' : IL} {t : Nat} {c : Bool} (h1 : lkA I' t = lkA I t) (h2 : lkA L' t = lkA L t) : gx L' I' t c = gx L I t c := by
  unfold gx; rw [h1, h2]
/-- rows known behind a write -/
def RwOk (d : Nat) (s : Option SV) (L : SL) (I : IL) (L' : SL) (I' : IL) : Prop := ∀ t e m cs, lkA I' t = none → lkA L' t = some (.r e m cs) → (t = d ∧ s = some (.r e m cs)) ∨ (t ≠ d ∧ lkA I t = none ∧ lkA L t = some (.r e m cs))
/-- values known behind a write -/
theorem wr_sound {n d : Nat} {s : SV} {L : SL} {I : IL} {X : SL → IL → Prop} (hI : Inv L I) (h : wr n d s L I X) :
    ∃ L' I', X L' I' ∧ Inv L' I' ∧ Nat.blt d n = true ∧ (∀ B t, kv L' I' B t = if t = d then dvO B s else kv L I B t) ∧ RwOk d (some s) L I L' I' := by
  unfold wr at h
  cases hb : (Nat.blt d n && noLab I d) with
  | false => rw [hb] at h; exact h.elim
  | true =>
    rw [hb] at h
    simp only [Bool.and_eq_true] at hb
    obtain ⟨I', hX, hI'⟩ := delK_sound h
    refine ⟨_, I', hX, fun i e hi => ?_, hb.1, fun B t => ?_, fun t e m cs h1 h2 => ?_⟩
    rotate_left
    rotate_left
    · by_cases ht : t = d
      · subst ht; rw [lkA_eq] at h2; exact .inl ⟨rfl, h2⟩
      · rw [lkA_ne (Ne.symm ht)] at h2
        rw [hI', if_neg ht] at h1
        exact .inr ⟨ht, h1, h2⟩
    · rw [hI'] at hi
      split at hi
      · cases hi
      · have hne := noLab_ne hb.2 i e (lkA_mem hi)
        rw [← hI i e hi]
        exact gx_ne (by rw [hI', if_neg hne]) (lkA_ne (Ne.symm hne) _ _)
    · unfold kv
      rw [hI']
      by_cases ht : t = d
      · subst ht; simp only [if_true]; rw [lkA_eq]
      · simp only [if_neg ht]; rw [lkA_ne (Ne.symm ht)]
theorem wrG_sound {n d t0 : Nat} {c g : Bool} {s : SV} {L : SL} {I : IL} {X : SL → IL → Prop} (hI : Inv L I) (hg : gx L I t0 c = some g) (h : wrG n d t0 c g s L I X) :
    ∃ L' I', X L' I' ∧ Inv L' I' ∧ Nat.blt d n = true ∧ (∀ B t, kv L' I' B t = if t = d then some (bif g then dv B s else undef) else kv L I B t) ∧ RwOk d none L I L' I' := by
  unfold wrG at h
  cases hb : (Nat.blt d n && noLab I d && !Nat.beq d t0) with
  | false => rw [hb] at h; exact h.elim
  | true =>
    rw [hb] at h
    simp only [Bool.and_eq_true, Bool.not_eq_true'] at hb
    have hdt : d ≠ t0 := fun e => by subst e; simp at hb
    refine ⟨_, _, h, fun i e hi => ?_, hb.1.1, fun B t => ?_, fun t e m cs h1 h2 => ?_⟩
    rotate_left
    rotate_left
    · by_cases ht : t = d
      · subst ht; rw [lkA_eq] at h1; cases h1
      · rw [lkA_ne (Ne.symm ht)] at h1 h2
        exact .inr ⟨ht, h1, h2⟩
    · by_cases hid : d = i
      · subst hid
        rw [lkA_eq] at hi
        cases hi
        rw [← hg]
        exact gx_ne (lkA_ne hdt _ _) (lkA_ne hdt _ _)
      · rw [lkA_ne hid] at hi
        have hne := noLab_ne hb.1.2 i e (lkA_mem hi)
        rw [← hI i e hi]
        exact gx_ne (lkA_ne (Ne.symm hne) _ _) (lkA_ne (Ne.symm hne) _ _)
    · unfold kv
      by_cases ht : t = d
      · subst ht; rw [lkA_eq]; simp [kI]
      · rw [lkA_ne (Ne.symm ht), lkA_ne (Ne.symm ht), if_neg ht]
theorem Fr.of_kv {a : Act} {n : Nat} {L : SL} {I : IL} {B : BL} (hd : a.defers = []) (hs : a.tmps.size = n) (h : ∀ t v, kv L I B t = some v → a.tmps.getD t undef = v) : Fr a n (fl L I B) :=
  ⟨hd, hs, fun t v ht => h t v (by rwa [vl_fl] at ht)⟩
theorem Fr.kv {a : Act} {n : Nat} {L : SL} {I : IL} {B : BL} (hF : Fr a n (fl L I B)) {t : Nat} {v : Value} (h : kv L I B t = some v) : a.tmps.getD t undef = v := hF.at_ t v (by rwa [vl_fl])
theorem put_at {a : Act} {n d : Nat} {v : Value} (hs : a.tmps.size = n) (hd : Nat.blt d n = true) (t : Nat) : (a.put (some d) v).tmps.getD t undef = if t = d then v else a.tmps.getD t undef := by
  have hlt : d < n := by simpa [Nat.blt_eq] using hd
  by_cases ht : t = d
  · subst ht; simp [Act.put, hs, hlt]
  · simp [Act.put, Array.getElem?_setIfInBounds_ne (Ne.symm ht), ht]
theorem Dn.put {c : Cx} {L L' : SL} {I I' : IL} {B : BL} {a : Act} {d : Nat} {r : Option Value} {v : Value} (hD : Dn c L I B a) (hd : Nat.blt d c.n = true) (hI : Inv L' I') (hk : ∀ t, kv L' I' B t = if t = d then r else kv L I B t) (hr : ∀ u, r = some u → u = v) :
    Dn c L' I' B (a.put (some d) v) := by
  refine ⟨Fr.of_kv (by rw [put_df]; exact hD.fr.df) (by rw [put_size]; exact hD.fr.sz) fun t u hu => ?_, hI⟩
  rw [put_at hD.fr.sz hd]
  rw [hk] at hu
  by_cases ht : t = d
  · rw [if_pos ht] at hu ⊢; exact (hr u hu).symm
  · rw [if_neg ht] at hu ⊢; exact hD.fr.kv hu

theorem opnK_sound {t : Nat} {b : Bool} : ∀ {I : IL} {L : SL} {K : SL → IL → Prop}, opnK t b I L K → ∃ L' I', K L' I' ∧ ∀ τ, (lkA I' τ = lkA I τ ∧ lkA L' τ = lkA L τ) ∨ ∃ e, lkA I τ = some e ∧ e.t = t ∧ e.c = b ∧ lkA I' τ = none ∧ lkA L' τ = some e.s ∧ noRw e.s = true
  | [], L, K, h => ⟨L, [], h, fun τ => .inl ⟨rfl, rfl⟩⟩
  | (d, e) :: r, L, K, h => by
    unfold opnK at h
    cases hr : lkA r d with
    | some x => rw [hr] at h; exact h.elim
    | none =>
      rw [hr] at h
      cases hm : (Nat.beq e.t t && bq e.c b) with
      | true =>
        rw [hm] at h
        cases hn : noRw e.s with
        | false => rw [hn] at h; exact h.elim
        | true =>
          rw [hn] at h
          simp only [Bool.and_eq_true] at hm
          obtain ⟨L', I', h1, h2⟩ := opnK_sound (I := r) h
          refine ⟨L', I', h1, fun τ => ?_⟩
          by_cases hd : d = τ
          · subst hd
            rcases h2 d with ⟨g1, g2⟩ | ⟨e', g1, _⟩
            · exact .inr ⟨e, lkA_eq _ _ _, Nat.eq_of_beq_eq_true hm.1, bq_eq hm.2, by rw [g1, hr], by rw [g2, lkA_eq], hn⟩
            · rw [hr] at g1; cases g1
          · rcases h2 τ with ⟨g1, g2⟩ | ⟨e', g1, g3⟩
            · exact .inl ⟨by rw [g1, lkA_ne hd], by rw [g2, lkA_ne hd]⟩
            · exact .inr ⟨e', by rw [lkA_ne hd]; exact g1, g3⟩
      | false =>
        rw [hm] at h
        obtain ⟨L', I', h1, h2⟩ := opnK_sound (I := r) h
        refine ⟨L', _, h1, fun τ => ?_⟩
        by_cases hd : d = τ
        · subst hd
          rcases h2 d with ⟨g1, g2⟩ | ⟨e', g1, _⟩
          · exact .inl ⟨by rw [lkA_eq, lkA_eq], g2⟩
          · rw [hr] at g1; cases g1
        · rcases h2 τ with ⟨g1, g2⟩ | ⟨e', g1, g3, g4, g5, g6⟩
          · exact .inl ⟨by rw [lkA_ne hd, lkA_ne hd, g1], g2⟩
          · exact .inr ⟨e', by rw [lkA_ne hd]; exact g1, g3, g4, by rw [lkA_ne hd]; exact g5, g6⟩
theorem opn_inv {t : Nat} {b : Bool} {L L' : SL} {I I' : IL} (hI : Inv L I) (hg : gx L I t b = some true) (h : ∀ τ, (lkA I' τ = lkA I τ ∧ lkA L' τ = lkA L τ) ∨ ∃ e, lkA I τ = some e ∧ e.t = t ∧ e.c = b ∧ lkA I' τ = none ∧ lkA L' τ = some e.s ∧ noRw e.s = true) :
    Inv L' I' ∧ (∀ B τ v, kv L' I' B τ = some v → kv L I B τ = some v) ∧ ∀ τ x y z, lkA I' τ = none → lkA L' τ = some (.r x y z) → lkA I τ = none ∧ lkA L τ = some (.r x y z) := by
  have hgt : ∀ τ e, lkA I τ = some e → e.t = t → e.c = b → e.g = true := fun τ e h1 h2 h3 => by
    have := hI τ e h1
    rw [h2, h3, hg] at this
    exact (Option.some.inj this).symm
  refine ⟨fun d e hd => ?_, fun B τ v hv => ?_, fun τ x y z h1 h2 => ?_⟩
  · rcases h d with ⟨g1, _⟩ | ⟨e', _, _, _, g1, _⟩
    · rw [g1] at hd
      rw [← hI d e hd]
      rcases h e.t with ⟨q1, q2⟩ | ⟨e', q1, q2, q3, q4, q5, _⟩
      · exact gx_ne q1 q2
      · unfold gx
        rw [q4, q1, q5]
        have := hgt _ _ q1 q2 q3
        obtain ⟨et, ec, eg, es⟩ := e'
        simp only at this
        subst this
        cases es with
        | v x => cases x <;> simp
        | _ => rfl
    · rw [g1] at hd; cases hd
  · unfold kv at hv ⊢
    rcases h τ with ⟨g1, g2⟩ | ⟨e, g1, g2, g3, g4, g5, _⟩
    · rw [g1, g2] at hv; exact hv
    · rw [g4, g5] at hv
      rw [g1]
      simp only at hv ⊢
      simp only [kI, hgt _ _ g1 g2 g3, cond_true, dv_some hv]
  · rcases h τ with ⟨g1, g2⟩ | ⟨e, g1, g2, g3, g4, g5, g6⟩
    · exact ⟨by rw [← g1]; exact h1, by rw [← g2]; exact h2⟩
    · rw [g5] at h2
      rw [Option.some.inj h2] at g6
      cases g6
/-! ### The memory, as it goes on -/
theorem oes_mem {B : BL} {k : Nat} {ob : OB} {e : OE} (h : lkA B k = some ob) (he : oeOf ob = some e) : e ∈ oes B :=
  List.mem_filterMap.2 ⟨(k, ob), lkA_mem h, he⟩
theorem Sx.wok {c : Cx} {B : BL} {F : FV} {w : World} (h : Sx c B F w) : WOk c.h0 F B w :=
  ⟨⟨_, h.st.base_cv, h.st.facts, h.st.view⟩, fun k b T cs hl => by
    have := h.st.own _ (oes_mem hl rfl)
    simpa [CellsC] using this⟩
theorem setAK_sound : ∀ {B : BL} {k : Nat} {b T : Nat} {cs cs' : List Value} {K : BL → Prop}, lkA B k = some (.c b T cs) → setAK B k (.c b T cs') K →
    ∃ B' i, K B' ∧ (oes B)[i]? = some (some b, CellsC T cs) ∧ oes B' = (oes B).set i (some b, CellsC T cs') ∧ (∀ m, lkA B' m = if m = k then some (.c b T cs') else lkA B m) ∧ ∀ p ∈ B', p ∈ B ∨ p.2 = .c b T cs'
  | [], k, b, T, cs, cs', K, h, _ => by simp [lkA] at h
  | (k0, o0) :: r, k, b, T, cs, cs', K, h, hK => by
    unfold setAK at hK
    by_cases hk : k0 = k
    · subst hk
      rw [lkA_eq] at h
      cases h
      simp only [Nat.beq_refl, cond_true] at hK
      refine ⟨_, 0, hK, rfl, rfl, fun m => ?_, fun p hp => ?_⟩
      · by_cases hm : m = k0
        · subst hm; rw [lkA_eq, if_pos rfl]
        · rw [lkA_ne (Ne.symm hm), lkA_ne (Ne.symm hm), if_neg hm]
      · rcases List.mem_cons.1 hp with rfl | hp
        · exact .inr rfl
        · exact .inl (List.mem_cons_of_mem _ hp)
    · rw [lkA_ne hk] at h
      simp only [beq_ne hk, cond_false] at hK
      obtain ⟨B', i, h1, h2, h3, h4, h5⟩ := setAK_sound h hK
      have hmem : ∀ p ∈ (k0, o0) :: B', p ∈ (k0, o0) :: r ∨ p.2 = .c b T cs' := fun p hp => by
        rcases List.mem_cons.1 hp with rfl | hp
        · exact .inl (by simp)
        · rcases h5 p hp with h | h
          · exact .inl (List.mem_cons_of_mem _ h)
          · exact .inr h
      have hl : ∀ m, lkA ((k0, o0) :: B') m = if m = k then some (.c b T cs') else lkA ((k0, o0) :: r) m := fun m => by
        by_cases hm : k0 = m
        · subst hm; rw [lkA_eq, lkA_eq, if_neg hk]
        · rw [lkA_ne hm, lkA_ne hm, h4]
      cases ho : oeOf o0 with
      | none =>
        have e : ∀ r : BL, oes ((k0, o0) :: r) = oes r := fun r => by unfold oes; rw [List.filterMap_cons]; simp only [ho]
        exact ⟨_, i, h1, by rw [e]; exact h2, by rw [e, e]; exact h3, hl, hmem⟩
      | some e0 =>
        have e : ∀ r : BL, oes ((k0, o0) :: r) = e0 :: oes r := fun r => by unfold oes; rw [List.filterMap_cons]; simp only [ho]
        exact ⟨_, i + 1, h1, by rw [e]; simpa using h2, by rw [e, e, h3]; rfl, hl, hmem⟩
theorem dvO_setA {B B' : BL} {k b T : Nat} {cs cs' : List Value} (hl : lkA B k = some (.c b T cs)) (h : ∀ m, lkA B' m = if m = k then some (.c b T cs') else lkA B m) (s : SV) : dvO B' s = dvO B s := by
  cases s with
  | o m f =>
    simp only [dvO, h]
    by_cases hm : m = k
    · subst hm; rw [if_pos rfl, hl]
    · rw [if_neg hm]
  | s m f n cp =>
    simp only [dvO, h]
    by_cases hm : m = k
    · subst hm; rw [if_pos rfl, hl]
    · rw [if_neg hm]
  | _ => rfl
theorem fl_congr {L : SL} {I : IL} {B B' : BL} (h : ∀ s, dvO B' s = dvO B s) : fl L I B' = fl L I B := by
  unfold fl
  have e1 : kI B' = kI B := by funext e; simp only [kI, dv, h]
  have e2 : entS B' = entS B := by funext s; simp only [entS, h]
  rw [e1, e2]
end Go.Dx
namespace Go.Dx
open Go Go.RowKit

theorem wanted_of {al : List Oper} {tmps : Array Value} {j t : Nat} {b g : Bool} {L : SL} {I : IL} {B : BL} {o o' : Oper} (ho : nthV al j = some o') (hd : o'.dst = some t)
    (hv : ∀ v, kv L I B t = some v → tmps.getD t undef = v) (hg : gx L I t b = some g) (hog : o.guard = some (j, b)) : Region.wanted o (yielded al.toArray tmps) = g := by
  have hj : al.toArray[j]? = some o' := by rw [nthV_eq] at ho; simpa using ho
  have key : ∀ x : Bool, tmps.getD t undef = .bool x → yielded al.toArray tmps j = some x := by
    intro x hx
    have h2 : tmps[t]? = some (.bool x) := by
      cases h : tmps[t]? with
      | none => simp [h, undef] at hx
      | some y => simp [h] at hx; rw [hx]
    unfold yielded
    simp only [hj, Option.bind_some, hd, h2]
  have un : tmps.getD t undef = undef → yielded al.toArray tmps j = none := fun h => yielded_un (a := { tmps := tmps, defers := [] }) ⟨o', t, hj, hd, h⟩
  unfold gx at hg
  unfold kv at hv
  cases hl : lkA I t with
  | some e =>
    rw [hl] at hg hv
    simp only at hg hv
    have h1 := hv _ rfl
    cases hs : e.s with
    | v x =>
      rw [hs] at hg
      cases x <;> simp at hg
      rename_i x
      unfold kI dv at h1
      rw [hs] at h1
      cases heg : e.g with
      | true =>
        rw [heg] at h1 hg
        have := key x (by simpa [dvO] using h1)
        simp only [Region.wanted, hog, this]
        subst hg
        cases b <;> cases x <;> rfl
      | false =>
        rw [heg] at h1 hg
        have := un (by simpa using h1)
        simp only [Region.wanted, hog, this]
        subst hg
        rfl
    | _ => rw [hs] at hg; cases hg
  | none =>
    rw [hl] at hg hv
    simp only at hg hv
    split at hg
    · rename_i x hx
      rw [hx] at hv
      have := key x (hv _ rfl)
      have e : bq b x = g := Option.some.inj hg
      simp only [Region.wanted, hog, this]
      subst e
      cases b <;> cases x <;> rfl
    · cases hg

section pick
variable {P : Program} {L : SL} {I : IL} {B : BL} {cx : Option (Nat × Bool)} {og : Option Bool}
theorem armS_sound (hI : Inv L I) (hc : cxOk L I cx og) (hy : yes og) {tc : Nat} {p b : Bool} (hb : rdT L I cx tc = some (.v (.bool b))) (hp : bq p b = true) {x : Operand} {s : SV} {v : Value} (h : armS L I cx tc p x = some s) (hv : dvO B s = some v) : ev (fl L I B) x = some v := by
  cases x with
  | tmp t =>
    show vl (lk (fl L I B) t) = some v
    rw [vl_fl]
    simp only [armS] at h
    unfold kv
    cases hl : lkA I t with
    | none => rw [hl] at h; dsimp only at h ⊢; rw [h]; exact hv
    | some e =>
      rw [hl] at h
      dsimp only at h ⊢
      have he : e.s = s ∧ e.g = true := by
        cases hu : ((Nat.beq e.t tc && bq e.c p) || usC I cx e.t e.c) with
        | false => rw [hu] at h; cases h
        | true =>
          rw [hu] at h
          refine ⟨Option.some.inj h, ?_⟩
          simp only [Bool.or_eq_true, Bool.and_eq_true] at hu
          have hgx := hI t e hl
          rcases hu with hu | hu
          · obtain ⟨h1, h2⟩ := hu
            have h1 := Nat.eq_of_beq_eq_true h1
            have h2 := bq_eq h2
            rw [h1, h2] at hgx
            -- the choice's own test
            unfold rdT at hb
            unfold gx at hgx
            cases hlc : lkA I tc with
            | none =>
              rw [hlc] at hb hgx
              simp only at hb hgx
              rw [hb] at hgx
              simp only [Option.some.injEq] at hgx
              rw [← hgx]; exact hp
            | some ec =>
              rw [hlc] at hb hgx
              cases cx with
              | none => simp at hb
              | some q =>
                obtain ⟨t0, c0⟩ := q
                simp only at hb hgx
                cases huc : usb I 8 t0 c0 ec.t ec.c with
                | false => rw [huc] at hb; cases hb
                | true =>
                  rw [huc] at hb
                  have hs : ec.s = .v (.bool b) := Option.some.inj hb
                  obtain ⟨g, hg, hog⟩ := hc
                  have := usb_sound hI 8 t0 c0 ec.t ec.c g hg huc (hy g hog)
                  rw [hI tc ec hlc] at this
                  have hec : ec.g = true := Option.some.inj this
                  rw [hs] at hgx
                  simp only [Option.some.injEq, hec, Bool.true_and] at hgx
                  rw [← hgx]; exact hp
          · cases cx with
            | none => cases hu
            | some q =>
              obtain ⟨t0, c0⟩ := q
              obtain ⟨g, hg, hog⟩ := hc
              have := usb_sound hI 8 t0 c0 e.t e.c g hg hu (hy g hog)
              rw [hgx] at this
              exact Option.some.inj this
      simp only [kI, he.2, cond_true, he.1, dv_some hv]
  | const c => simp only [armS, Option.some.injEq] at h; subst h; exact hv
  | global c => cases h
  | func c => cases h
theorem pkG_sound {h0 : View} {F : View → Prop} {x y z : Operand} {K : SV → Prop} (hI : Inv L I) (hc : cxOk L I cx og) (h : pkG L I cx x y z K) : Good P B (fl L I B) h0 F (.pick x y z) og K := by
  unfold pkG at h
  split at h
  · rename_i tc
    split at h
    · rename_i b hb
      have hbx : yes og → ev (fl L I B) (.tmp tc) = some (.bool b) := fun hy => rdS_ev hI hc hy (x := .tmp tc) (s := .v (.bool b)) (by simp only [rdS, hb]) rfl
      unfold pickK at h
      split at h
      · rename_i vx vy hx hy'
        have ex : yes og → b = true → ev (fl L I B) y = some vx := fun hy h1 => armS_sound hI hc hy hb (by simpa [bq] using h1) hx rfl
        have ey : yes og → b = false → ev (fl L I B) z = some vy := fun hy h1 => armS_sound hI hc hy hb (by simpa [bq] using h1) hy' rfl
        have fin : ∀ v : Value, (b = true → v = vx) → (b = false → v = vy) → K (.v v) → Good P B (fl L I B) h0 F (.pick (.tmp tc) y z) og K := by
          intro v h1 h2 hk
          refine ⟨_, _, hk, rfl, fun hz w _ d ty pos af g => ?_⟩
          cases hbb : b with
          | true => rw [h1 hbb]; exact pu_pick_t (hbx hz) hbb (ex hz hbb)
          | false => rw [h2 hbb]; exact pu_pick_f (hbx hz) hbb (ey hz hbb)
        split at h
        · split at h
          · rename_i q
            refine fin _ (fun hb1 => ?_) (fun hb1 => ?_) h
            · have : vx = .bool true := by
                simp only [armS, Option.some.injEq, SV.v.injEq] at hx; exact hx.symm
              rw [this, hb1]; rfl
            · rw [hb1]; rfl
          · exact h.elim
        · split at h
          · rename_i p
            refine fin _ (fun hb1 => ?_) (fun hb1 => ?_) h
            · rw [hb1]; rfl
            · have : vy = .bool false := by
                simp only [armS, Option.some.injEq, SV.v.injEq] at hy'; exact hy'.symm
              rw [this, hb1]; rfl
          · exact h.elim
        · split at h
          · exact fin _ (fun hb1 => by rw [hb1]; rfl) (fun hb1 => by rw [hb1]; rfl) h
          · rename_i k m k2 n
            cases hkk : ikb k k2 with
            | false => rw [hkk] at h; exact h.elim
            | true =>
              rw [hkk] at h
              obtain rfl := ikb_eq hkk
              exact fin _ (fun hb1 => by rw [hb1]; rfl) (fun hb1 => by rw [hb1]; rfl) h
          · exact fin _ (fun hb1 => by rw [hb1]; rfl) (fun hb1 => by rw [hb1]; rfl) h
          · exact fin _ (fun hb1 => by rw [hb1]; rfl) (fun hb1 => by rw [hb1]; rfl) h
      · exact h.elim
    · exact h.elim
  · exact h.elim
end pick

theorem hρ_of {L : SL} {I : IL} {B : BL} {cx : Option (Nat × Bool)} {og : Option Bool} (hI : Inv L I) (hc : cxOk L I cx og) : yes og → ∀ x s v, rdS L I cx x = some s → dvO B s = some v → ev (fl L I B) x = some v := fun hy _ _ _ h hv => rdS_ev hI hc hy h hv
theorem yes_none : yes none := fun g h => by cases h

/-- what a call gives, behind its arguments -/
theorem calG_sound {c : Cx} {sq : Bool} {og : Option Bool} {L : SL} {I : IL} {B : BL} {F : FV} {cx : Option (Nat × Bool)} {f : Operand} {args : List Operand} {Kv : SV → Prop} {W : Prop} (hT : c.T.Ok c.P) (hI : Inv L I) (hc : cxOk L I cx og)
    (h : calG c sq og B F (rdS L I cx) f args Kv W) : (∃ v, Kv (.v v) ∧ (yes og → ∀ w, Sx c B F w → ∀ d ats ty pos af g, Ds c.P (fl L I B) ⟨d, .call ⟨.value f, args.toArray, ats⟩, ty, pos, af, g⟩ w fun u w' => u = v ∧ Keep [] w w')) ∨ (sq = true ∧ W) ∨ (sq = false ∧ og = none ∧ ∃ e n cs, Kv (.r e n cs) ∧ ∀ w, Sx c B F w → ∀ d ats ty pos af g, Ds c.P (fl L I B) ⟨d, .call ⟨.value f, args.toArray, ats⟩, ty, pos, af, g⟩ w fun u w' => (∃ b, u = .slice (some ⟨b, 0, none⟩) n n ∧ NewRow w e cs b w') ∧ Keep [] w w') := by
  have hρ := hρ_of (B := B) hI hc
  unfold calG at h
  split at h
  · rename_i g
    cases hm : memF c.T.fs g with
    | false => rw [hm] at h; exact h.elim
    | true =>
      rw [hm] at h
      obtain ⟨vsl, hk, hv⟩ := argK_sound hρ h
      rcases hk with ⟨x, H, k⟩ | ⟨hs, hw⟩ | ⟨e, n, cs, hs, ho, H, k⟩
      rotate_left 2
      · refine .inr (.inr ⟨hs, ho, e, n, cs, k, fun w hS d ats ty pos af gg => ?_⟩)
        refine ds_call (hT.call hm) (hv (by rw [ho]; exact yes_none)) ((H w hS).mono ?_)
        rintro e w' ⟨u, rfl, hk, hb⟩
        exact ⟨u, rfl, hb, hk⟩
      · refine .inl ⟨x, k, fun hy w hS d ats ty pos af gg => ?_⟩
        obtain ⟨hh, H⟩ := gc_yes H hy w hS
        refine ds_call (hT.call hm) (hv hy) (H.mono ?_)
        rintro e w' ⟨u, rfl, hk, rfl⟩
        exact ⟨u, rfl, rfl, hk⟩
      · exact .inr (.inl ⟨hs, hw⟩)
  · obtain ⟨s, hs', h⟩ := rd1_sound h
    split at h
    · rename_i g first cap
      cases hm : memF c.T.fs g with
      | false => rw [hm] at h; exact h.elim
      | true =>
        rw [hm] at h
        obtain ⟨vsl, hk, hv⟩ := argK_sound hρ h
        rcases hk with ⟨x, H, k⟩ | ⟨hs, hw⟩ | ⟨e, n, cs, hs, ho, H, k⟩
        rotate_left 2
        · refine .inr (.inr ⟨hs, ho, e, n, cs, k, fun w hS d ats ty pos af gg => ?_⟩)
          have hy : yes og := by rw [ho]; exact yes_none
          refine ds_callF (hT.call hm) (ev_v hρ hy hs') (hv hy) ((H w hS).mono ?_)
          rintro e w' ⟨u, rfl, hk, hb⟩
          exact ⟨u, rfl, hb, hk⟩
        · refine .inl ⟨x, k, fun hy w hS d ats ty pos af gg => ?_⟩
          obtain ⟨hh, H⟩ := gc_yes H hy w hS
          refine ds_callF (hT.call hm) (ev_v hρ hy hs') (hv hy) (H.mono ?_)
          rintro e w' ⟨u, rfl, hk, rfl⟩
          exact ⟨u, rfl, rfl, hk⟩
        · exact .inr (.inl ⟨hs, hw⟩)
    · exact .inr (.inl h)
    · exact h.elim
theorem ixG_sound {c : Cx} {F : FV} {og : Option Bool} {t : Nat} {L : FL} {x y : Operand} {ρ : Operand → Option SV} {s s' : SV} {X : Nat → Nat → List Value → Prop} {B : BL} (hT : c.T.Ok c.P) (hρ : yes og → ∀ x s v, ρ x = some s → dvO B s = some v → ev L x = some v)
    (hx : ρ x = some s) (hy : ρ y = some s') (h : ixG c F og (lkA c.T.tys t) s s' X) : ∃ b o cs, X b o cs ∧ (yes og → KnC c.h0 F b o cs) ∧ (yes og → ∀ w, WOk c.h0 F B w → ∀ d ty pos af g, Pu c.P L ⟨d, .indexAddr t x y, ty, pos, af, g⟩ w (.pointer (some ⟨b, o, none⟩))) := by
  unfold ixG at h
  split at h
  · rename_i ht
    obtain ⟨j, cs, hg, hX⟩ := h
    refine ⟨_, _, cs, hX, fun hz v w q1 q2 q3 => ((gc_yes hg hz).2.2 v q1 q2).2 w q3, fun hz w hw d ty pos af g => ?_⟩
    obtain ⟨h1, h2, h3⟩ := gc_yes hg hz
    obtain ⟨v, q1, q2, _⟩ := hw.vw
    exact pu_iaddr_sla (h3 v q1 q2).1 (td_sl (hT.td ht) rfl) (ev_v hρ hz hx) (ev_v hρ hz hy) h1 h2
  · exact h.elim

theorem Dn.cons {c : Cx} {L L' : SL} {I I' : IL} {B B' : BL} {a : Act} {d : Nat} {rr : Option Value} {v : Value} (hF : Fr a c.n ((d, .val v) :: fl L I B)) (hI : Inv L' I') (hk : ∀ t, kv L' I' B' t = if t = d then rr else kv L I B t) (hr : ∀ u, rr = some u → u = v) :
    Dn c L' I' B' a := by
  refine ⟨Fr.of_kv hF.df hF.sz fun t u hu => ?_, hI⟩
  rw [hk] at hu
  by_cases ht : t = d
  · subst ht
    rw [if_pos rfl] at hu
    rw [hr u hu]
    exact hF.at_ t v (by rw [lk_cons_eq]; rfl)
  · rw [if_neg ht] at hu
    exact hF.at_ t u (by rw [lk_cons_ne (Ne.symm ht), vl_fl]; exact hu)
theorem kv_fl {L : SL} {I : IL} {B B' : BL} (h : fl L I B' = fl L I B) (t : Nat) : kv L I B' t = kv L I B t := by
  rw [← vl_fl, ← vl_fl, h]
theorem unEnum_sound : ∀ {ps : List (Nat × Operand)} {k : Nat} {xs : List Operand}, unEnum k ps = some xs → ps = enumO k xs
  | [], k, xs, h => by simp [unEnum] at h; subst h; rfl
  | (i, x) :: r, k, xs, h => by
    unfold unEnum at h
    by_cases hi : i = k
    · subst hi
      simp only [Nat.beq_refl, cond_true] at h
      cases hr : unEnum (i + 1) r with
      | none => rw [hr] at h; cases h
      | some l =>
        rw [hr] at h
        cases h
        rw [unEnum_sound hr]; rfl
    · simp only [beq_ne hi, cond_false] at h; cases h
theorem bslK_sound {ρ : Operand → Option SV} {B : BL} {sz : Nat} {L : FL} (hρ : ∀ x s v, ρ x = some s → dvO B s = some v → ev L x = some v) : ∀ {xs : List Operand} {K : List Value → Prop}, bslK ρ B sz xs K →
    ∃ vsl, K (cellsL vsl) ∧ evs L xs = some vsl ∧ ∀ v ∈ vsl, v.cells.size = sz
  | [], K, h => ⟨[], h, rfl, fun v hv => by cases hv⟩
  | x :: r, K, h => by
    unfold bslK at h
    obtain ⟨s, hs, h⟩ := rd1_sound h
    obtain ⟨cs, v, h, hv, hc⟩ := celK_sound h
    cases hl : lenB cs sz with
    | false => rw [hl] at h; exact h.elim
    | true =>
      rw [hl] at h
      obtain ⟨vsl, g1, g2, g3⟩ := bslK_sound hρ h
      refine ⟨v :: vsl, ?_, by simp only [evs, hρ x s v hs hv, g2], fun u hu => ?_⟩
      · simp only [cellsL, hc]; exact g1
      · rcases List.mem_cons.1 hu with rfl | hu
        · rw [hc]; simpa using lenB_eq hl
        · exact g3 u hu
theorem bsl_sound {P : Program} {T : Tab} (hT : T.Ok P) {ρ : Operand → Option SV} {B : BL} {L : FL} {t len : Nat} {ps : List (Nat × Operand)} {X : Nat → List Value → Prop} (hρ : ∀ x s v, ρ x = some s → dvO B s = some v → ev L x = some v) (h : bsl ρ B T t len ps X) :
    ∃ e vsl, X e (cellsL vsl) ∧ ∀ w d ty pos af g, Ds P L ⟨d, .buildSlice t len ⟨ps⟩, ty, pos, af, g⟩ w fun v w' => v = .slice (some ⟨w.heap.size, 0, none⟩) len len ∧ w' = w.alloc (.cells (cellsL vsl).toArray e) := by
  unfold bsl at h
  split at h
  · rename_i e sz _ _ _ ht
    split at h
    · rename_i te xs hte hxs
      cases hb : (lenB te.z sz && Nat.beq xs.length len && Nat.ble (len * sz) 16777216) with
      | false => rw [hb] at h; exact h.elim
      | true =>
        rw [hb] at h
        simp only [Bool.and_eq_true] at hb
        obtain ⟨vsl, hX, hv, hcs⟩ := bslK_sound hρ h
        obtain ⟨hu, inf, hi, hs⟩ := td_sl (hT.td ht) rfl
        obtain ⟨inf', z, hi', hz, hzc⟩ := td_zero (hT.td hte)
        have hii : inf' = inf := Option.some.inj (hi'.symm.trans hi)
        subst hii
        have hzs : z.cells.size = sz := by rw [hzc]; simpa using lenB_eq hb.1.1
        refine ⟨e, vsl, hX, fun w d ty pos af g => ?_⟩
        rw [unEnum_sound hxs]
        exact ds_build ⟨hu, inf', z, hi, hz, by omega, hs⟩ (Nat.eq_of_beq_eq_true hb.1.2) hv hcs (Nat.le_of_ble_eq_true hb.2)
    · exact h.elim
  · exact h.elim
theorem isBytes_sound {P : Program} {T : Tab} (hT : T.Ok P) {a b : Nat} (h : isBytes T a b = true) : ∃ e, P.underlying a = some (.slice e) ∧ P.underlying e = some (.int .u8) ∧ P.underlying b = some .string := by
  unfold isBytes at h
  split at h
  · rename_i ha hb
    split at h
    · rename_i he
      exact ⟨_, (td_sl (hT.td ha) rfl).1, td_int (hT.td he) rfl, td_str (hT.td hb) rfl⟩
    · cases h
  · cases h
theorem src_row {P : Program} {w : World} {b e cp : Nat} {l : List UInt8} (hg : w.heap[b]? = some (.cells (l.map v8).toArray e (0, 0))) : Src P w (.slice (some ⟨b, 0, none⟩) l.length cp) 1 l.length (l.map v8) :=
  Src.own hg (by simp) (allOne_map _ (fun _ => rfl) l)
section seq
variable {c : Cx} {al : List Oper} {K : KR}
/-- in turn: the operation yields a value, the state still stands -/
theorem seq_ds {d : Nat} {op : Op} {ty : TypeId} {pos : String} {af : Array Edge} {r : List Oper} {L L' : SL} {I I' : IL} {B B' : BL} {F : FV} {v : Value} {rr : Option Value}
    (hI : Inv L' I') (hd : Nat.blt d c.n = true) (hk : ∀ t, kv L' I' B' t = if t = d then rr else kv L I B t) (hr : ∀ u, rr = some u → u = v)
    (H : ∀ w, Sx c B F w → Ds c.P (fl L I B) ⟨some d, op, ty, pos, af, none⟩ w fun u w' => u = v ∧ Sx c B' F w') (ih : WP c al r L' I' B' F K) : WP c al (⟨some d, op, ty, pos, af, none⟩ :: r) L I B F K := by
  refine ⟨fun Q a w hn hp hD hS => s_ds hD.fr (H w hS) hd ?_⟩
  rintro v' w' a' ⟨rfl, hS'⟩ hF'
  exact ih.run Q a' w' hn hp (Dn.cons hF' hI hk hr) hS'
theorem Sx.step {B : BL} {F : FV} {w w' : World} (hS : Sx c B F w) (hk : Keep [] w w') : Sx c B F w' := ⟨hS.st.step hk, hS.bk⟩
theorem Good.ds {P : Program} {B : BL} {L : FL} {h0 : View} {F : View → Prop} {op : Op} {s : SV} {v : Value} (h : yes none → ∀ w, WOk h0 F B w → ∀ d ty pos af g, Pu P L ⟨d, op, ty, pos, af, g⟩ w v) {w : World} (hw : WOk h0 F B w) {d : Option Nat} {ty : TypeId} {pos : String} {af : Array Edge} {g : Option (Nat × Bool)} :
    Ds P L ⟨d, op, ty, pos, af, g⟩ w fun u w' => u = v ∧ w' = w := (h yes_none w hw d ty pos af g).ds
theorem seq_good {d : Nat} {op : Op} {ty : TypeId} {pos : String} {af : Array Edge} {r : List Oper} {L : SL} {I : IL} {B : BL} {F : FV} {X : SL → IL → Prop} (hI : Inv L I) 
    (h : Good c.P B (fl L I B) c.h0 F op none fun s => wr c.n d s L I X) (ih : ∀ L I, X L I → Inv L I → WP c al r L I B F K) : WP c al (⟨some d, op, ty, pos, af, none⟩ :: r) L I B F K := by
  obtain ⟨s, v, hk, hv, hp⟩ := h
  obtain ⟨L', I', hX, hI', hd, hkv, hrw⟩ := wr_sound hI hk
  refine seq_ds hI' hd (hkv B) (fun u hu => by rw [hv] at hu; exact (Option.some.inj hu).symm) (fun w hS => ?_) (ih L' I' hX hI')
  exact (hp yes_none w hS.wok _ _ _ _ _).ds.mono fun u w' ⟨h1, h2⟩ => ⟨h1, h2 ▸ hS⟩
/-- a new block -/
theorem seq_new {d : Nat} {op : Op} {ty : TypeId} {pos : String} {af : Array Edge} {r : List Oper} {L : SL} {I : IL} {B : BL} {F : FV} {T : Nat} {cs : List Value} {X : Nat → SL → IL → Prop} (hI : Inv L I)
    (H : ∀ w, Ds c.P (fl L I B) ⟨some d, op, ty, pos, af, none⟩ w fun u w' => u = .pointer (some ⟨w.heap.size, 0, none⟩) ∧ w' = w.alloc (.cells cs.toArray T))
    (hl : lkA B d = none) (hfl : ∀ ob, fl L I ((d, ob) :: B) = fl L I B) (h : ∀ b, wr c.n d (.o d 0) L I (X b)) (ih : ∀ b L I, X b L I → Inv L I → WP c al r L I ((d, .c b T cs) :: B) F K) : WP c al (⟨some d, op, ty, pos, af, none⟩ :: r) L I B F K := by
  refine ⟨fun Q a w hn hp hD hS => ?_⟩
  obtain ⟨L', I', hX, hI', hd, hkv, hrw⟩ := wr_sound hI (h w.heap.size)
  refine s_ds hD.fr (H w) hd ?_
  rintro v' w' a' ⟨rfl, rfl⟩ hF'
  refine (ih _ _ _ hX hI').run Q a' _ hn hp (Dn.cons (rr := some (.pointer (some ⟨w.heap.size, 0, none⟩))) hF' hI' (fun t => ?_) (fun u hu => (Option.some.inj hu).symm)) ⟨?_, ?_⟩
  · rw [hkv, kv_fl (hfl _)]
    simp only [dvO, lkA_eq]
  · exact hS.st.new _ rfl
  · intro k g b o cs' hk
    rcases List.mem_cons.1 hk with hk | hk
    · cases hk
    · exact hS.bk _ _ _ _ _ hk
/-- a new row -/
theorem seq_row {d : Nat} {op : Op} {ty : TypeId} {pos : String} {af : Array Edge} {r : List Oper} {L : SL} {I : IL} {B : BL} {F : FV} {T len : Nat} {cs : List Value} {X : Nat → SL → IL → Prop} (hI : Inv L I)
    (H : ∀ w, Ds c.P (fl L I B) ⟨some d, op, ty, pos, af, none⟩ w fun u w' => u = .slice (some ⟨w.heap.size, 0, none⟩) len len ∧ w' = w.alloc (.cells cs.toArray T))
    (hl : lkA B d = none) (hfl : ∀ ob, fl L I ((d, ob) :: B) = fl L I B) (h : ∀ b, wr c.n d (.s d 0 len len) L I (X b)) (ih : ∀ b L I, X b L I → Inv L I → WP c al r L I ((d, .c b T cs) :: B) F K) : WP c al (⟨some d, op, ty, pos, af, none⟩ :: r) L I B F K := by
  refine ⟨fun Q a w hn hp hD hS => ?_⟩
  obtain ⟨L', I', hX, hI', hd, hkv, hrw⟩ := wr_sound hI (h w.heap.size)
  refine s_ds hD.fr (H w) hd ?_
  rintro v' w' a' ⟨rfl, rfl⟩ hF'
  refine (ih _ _ _ hX hI').run Q a' _ hn hp (Dn.cons (rr := some (.slice (some ⟨w.heap.size, 0, none⟩) len len)) hF' hI' (fun t => ?_) (fun u hu => (Option.some.inj hu).symm)) ⟨?_, ?_⟩
  · rw [hkv, kv_fl (hfl _)]
    simp only [dvO, lkA_eq]
  · exact hS.st.new _ rfl
  · intro k g b o cs' hk
    rcases List.mem_cons.1 hk with hk | hk
    · cases hk
    · exact hS.bk _ _ _ _ _ hk
theorem bok_k {F : FV} {B : BL} {d b o : Nat} {cs : List Value} {og : Option Bool} (h : BOk c.h0 F B) (hk : yes og → KnC c.h0 F b o cs)   : BOk c.h0 F ((d, .k og b o cs) :: B) := by
  intro k g b' o' cs' hl
  rcases List.mem_cons.1 hl with hl | hl
  · cases hl; exact gc_mk hk
  · exact h _ _ _ _ _ hl
theorem oes_k {B : BL} {d b o : Nat} {cs : List Value} {og : Option Bool} : oes ((d, .k og b o cs) :: B) = oes B := rfl
theorem WP.bok {l : List Oper} {L : SL} {I : IL} {B : BL} {F : FV} (h : BOk c.h0 F B → WP c al l L I B F K) : WP c al l L I B F K := ⟨fun Q a w hn hp hD hS => (h hS.bk).run Q a w hn hp hD hS⟩
variable (hT : c.T.Ok c.P)
include hT
theorem stepB_sound {dst : Option Nat} {op : Op} {ty : TypeId} {pos : String} {af : Array Edge} {r : List Oper} {L : SL} {I : IL} {B : BL} {F : FV} {X : SL → IL → BL → FV → Prop} (hI : Inv L I)
    (ih : ∀ L I B F, X L I B F → Inv L I → WP c al r L I B F K)
    (h : stepB c true dst op L I B F X (WP c al (⟨dst, op, ty, pos, af, none⟩ :: r) L I B F K)) : WP c al (⟨dst, op, ty, pos, af, none⟩ :: r) L I B F K := by
  refine WP.bok fun hB => ?_
  have hρ : yes none → ∀ x s v, rdS L I none x = some s → dvO B s = some v → ev (fl L I B) x = some v := hρ_of hI rfl
  unfold stepB at h
  split at h
  · rename_i d
    split at h
    · rename_i t
      split at h
      · rename_i td _ htd
        obtain ⟨hl, hfl, h⟩ := fresh_sound h
        obtain ⟨inf, z, hi, hz, hc⟩ := td_zero (hT.td htd)
        refine seq_new (T := t) (cs := td.z) hI (fun w ρ hρ => ?_) hl hfl h fun b L I hX hI' => ih _ _ _ _ hX hI'
        have : (execOp ρ ⟨some d, .alloc t, ty, pos, af, none⟩).run c.P w = .ok (.value (.pointer (some ⟨w.heap.size, 0, none⟩))) (w.alloc (.cells td.z.toArray t)) := by
          simp [execOp, Instr.alloc, zeroValue, typeInfo, hi, hz, newVar, newRow, hc]
        unfold Does
        rw [this]
        exact ⟨rfl, rfl⟩
      · exact h.elim
    · rename_i t x
      obtain ⟨s, hs, h⟩ := rd1_sound h
      obtain ⟨cs, v, h, hv, hc⟩ := celK_sound h
      obtain ⟨hl, hfl, h⟩ := fresh_sound h
      refine seq_new (T := t) (cs := cs) hI (fun w ρ hρ' => ?_) hl hfl h fun b L I hX hI' => ih _ _ _ _ hX hI'
      have : (execOp ρ ⟨some d, .box t x, ty, pos, af, none⟩).run c.P w = .ok (.value (.pointer (some ⟨w.heap.size, 0, none⟩))) (w.alloc (.cells cs.toArray t)) := by
        simp [execOp, hρ' x (by simp [Op.operands]) _ (hρ yes_none _ _ _ hs hv), Instr.box, newVar, newRow, hc]
      unfold Does
      rw [this]
      exact ⟨rfl, rfl⟩
    · obtain ⟨s, v, hk, hv, hp⟩ := pkG_sound (P := c.P) (h0 := c.h0) (B := B) (cx := none) (og := none) hI rfl h
      obtain ⟨_, _, hk⟩ := hasN_sound hk
      exact seq_good hI ⟨s, v, hk, hv, hp⟩ fun L I hX hI' => ih _ _ _ _ hX hI'
    · rename_i f args ats
      split at h
      · cases hm : (memF c.T.fs _ && !true) with
        | false => rw [hm] at h; exact h.elim
        | true => simp at hm
      rcases calG_sound (cx := none) hT hI rfl h with ⟨v, hk, hd⟩ | ⟨_, hw⟩ | ⟨hq, _⟩
      · obtain ⟨L', I', hX, hI', hdn, hkv, hrw⟩ := wr_sound hI hk
        exact seq_ds hI' hdn (hkv B) (fun u hu => (Option.some.inj hu).symm) (fun w hS => (hd yes_none w hS _ _ _ _ _ _).mono fun u w' ⟨h1, h2⟩ => ⟨h1, hS.step h2⟩) (ih _ _ _ _ hX hI')
      · exact hw
      · cases hq
    · rename_i t len ps
      obtain ⟨e, vsl, h, hds⟩ := bsl_sound hT (hρ yes_none) h
      obtain ⟨hl, hfl, h⟩ := fresh_sound h
      exact seq_row hI (fun w => hds w _ _ _ _ _) hl hfl h fun b L I hX hI' => ih _ _ _ _ hX hI'
    · rename_i a b x
      cases hby : isBytes c.T a b with
      | false => rw [hby] at h; exact seq_good hI (pv_sound hT hB hρ h) fun L I hX hI' => ih _ _ _ _ hX hI'
      | true =>
        rw [hby] at h
        obtain ⟨s, hs, h⟩ := rd1_sound h
        obtain ⟨e, ha, he, hb⟩ := isBytes_sound hT hby
        unfold strS at h
        split at h
        · exact h.elim
        · rename_i k f n' cp
          split at h
          · rename_i bb T' cs hlk
            cases hl : (Nat.beq f 0 && lenB cs n') with
            | false => rw [hl] at h; exact h.elim
            | true =>
              rw [hl] at h
              simp only [Bool.and_eq_true] at hl
              obtain rfl := Nat.eq_of_beq_eq_true hl.1
              obtain ⟨l, rfl, h⟩ := h
              obtain rfl : n' = l.length := by have := lenB_eq hl.2; simpa using this.symm
              obtain ⟨L', I', hX, hI', hdn, hkv, hrw⟩ := wr_sound hI h
              refine seq_ds hI' hdn (hkv B) (fun u hu => (Option.some.inj hu).symm) (fun w hS => ?_) (ih _ _ _ _ hX hI')
              exact (pu_tostr ha he hb (hρ yes_none _ _ (.slice (some ⟨bb, 0, none⟩) l.length cp) hs (by simp [dvO, hlk])) rfl (src_row (hS.wok.own _ _ _ _ hlk))).ds.mono fun u w' ⟨h1, h2⟩ => ⟨h1, h2 ▸ hS⟩
          · exact h.elim
        · exact h.elim
    · rename_i t x y
      cases hsl : isSl (lkA c.T.tys t) with
      | false => rw [hsl] at h; exact h.elim
      | true =>
        rw [hsl] at h
        obtain ⟨s, hs, h⟩ := rd1_sound h
        obtain ⟨s', hs', h⟩ := rd1_sound h
        obtain ⟨b, o, cs, h, hkn, hpu⟩ := ixG_sound hT hρ hs hs' h
        obtain ⟨hl, hfl, h⟩ := fresh_sound h
        obtain ⟨L', I', hX, hI', hdn, hkv, hrw⟩ := wr_sound hI h
        refine seq_ds (rr := some (.pointer (some ⟨b, o, none⟩))) hI' hdn (fun t => ?_) (fun u hu => (Option.some.inj hu).symm) (fun w hS => (hpu yes_none w hS.wok _ _ _ _ _).ds.mono fun u w' ⟨h1, h2⟩ => ⟨h1, h2 ▸ ⟨?_, ?_⟩⟩) (ih _ _ _ _ hX hI')
        · rw [hkv, kv_fl (hfl _)]
          simp only [dvO, lkA_eq, Nat.add_zero]
        · rw [oes_k]; exact hS.st
        · exact bok_k hS.bk hkn
    · cases hp : isPure op with
      | false => rw [hp] at h; exact h.2
      | true =>
        rw [hp] at h
        exact seq_good hI (pv_sound hT hB hρ h) fun L I hX hI' => ih _ _ _ _ hX hI'
  · split at h
    · rename_i t ax x
      split at h
      · rename_i td _ htd
        obtain ⟨s, hs, h⟩ := rd1_sound h
        split at h
        · rename_i k f
          split at h
          · rename_i b T' cs hlk
            obtain ⟨s', hs', h⟩ := rd1_sound h
            obtain ⟨new, v, h, hv, hc⟩ := celK_sound h
            cases hln : (lenB new td.sz && allOne new) with
            | false => rw [hln] at h; exact h.elim
            | true =>
              rw [hln] at h
              simp only [Bool.and_eq_true] at hln
              obtain ⟨h, hfit⟩ := setK_sound h
              obtain ⟨B', i, h, hi, hset, hlB, hmB⟩ := setAK_sound hlk h
              have hdv := dvO_setA hlk hlB
              refine ⟨fun Q a w hn hp hD hS => s_store hD.fr hS.st hi (hρ yes_none _ _ (.pointer (some ⟨b, f, none⟩)) hs (by simp [dvO, hlk])) (hρ yes_none _ _ _ hs' hv) hc (by rw [lenB_eq hln.1]; exact td_sz (hT.td htd)) hln.2 hfit fun w' a' hS' hF' => ?_⟩
              refine (ih _ _ _ _ h hI).run Q a' w' hn hp ⟨by rw [fl_congr hdv]; exact hF', hI⟩ ⟨by rw [hset]; exact hS', ?_⟩
              intro m g b' o cs' hm
              rcases hmB _ hm with hm | hm
              · exact hS.bk _ _ _ _ _ hm
              · cases hm
          · exact h
        · exact h
      · exact h.elim
    · rename_i f args ats
      rcases calG_sound (cx := none) hT hI rfl h with ⟨v, hk, hd⟩ | ⟨_, hw⟩ | ⟨hq, _⟩
      · refine ⟨fun Q a w hn hp hD hS => s_dsN hD.fr ((hd yes_none w hS _ _ _ _ _ _).mono fun u w' ⟨h1, h2⟩ => hS.step h2) fun v' w' a' hS' hF' => ?_⟩
        exact (ih _ _ _ _ hk hI).run Q a' w' hn hp ⟨hF', hI⟩ hS'
      · exact hw
      · cases hq
    · exact h.2
theorem stepU_sound {dst : Option Nat} {op : Op} {ty : TypeId} {pos : String} {af : Array Edge} {r : List Oper} {L : SL} {I : IL} {B : BL} {F : FV} {X : SL → IL → BL → FV → Prop} (hI : Inv L I)
    (ih : ∀ L I B F, X L I B F → Inv L I → WP c al r L I B F K)
    (h : stepU c true dst op L I B F X (WP c al (⟨dst, op, ty, pos, af, none⟩ :: r) L I B F K)) : WP c al (⟨dst, op, ty, pos, af, none⟩ :: r) L I B F K := by
  unfold stepU at h
  split at h
  · rename_i d
    cases hst : memF c.stop d with
    | true => rw [hst] at h; exact h.2
    | false => rw [hst] at h; exact stepB_sound hT hI ih h
  · exact stepB_sound hT hI ih h
omit hT in
/-- a guard that holds is none -/
theorem wpM_guard {md : Md} {P : Program} {Q : Exit → Act → World → Prop} {a : Act} {w : World} {d : Option Nat} {op : Op} {ty : TypeId} {pos : String} {af : Array Edge} {r : List Oper} {gd : Option (Nat × Bool)} (hw : Region.wanted ⟨d, op, ty, pos, af, gd⟩ (yielded al.toArray a.tmps) = true)
    (h : wpM md P al.toArray Q (⟨d, op, ty, pos, af, none⟩ :: r) a w) : wpM md P al.toArray Q (⟨d, op, ty, pos, af, gd⟩ :: r) a w := by
  cases md with
  | wp =>
    simp only [wpM, wpList] at h ⊢
    rw [if_pos hw]
    rw [if_pos (by simp [Region.wanted])] at h
    exact h
  | rd q =>
    simp only [wpM, wpListIn] at h ⊢
    rw [if_pos hw]
    rw [if_pos (by simp [Region.wanted])] at h
    exact h
omit hT in
/-- in turn: a guarded operation -/
theorem seq_gd {d j : Nat} {b g : Bool} {op : Op} {ty : TypeId} {pos : String} {af : Array Edge} {r : List Oper} {L L' : SL} {I I' : IL} {B B' : BL} {F : FV} {v : Value} {rr : Value}
    (hg : ∀ a, Dn c L I B a → Region.wanted ⟨some d, op, ty, pos, af, some (j, b)⟩ (yielded al.toArray a.tmps) = g)
    (hI : Inv L' I') (hd : Nat.blt d c.n = true) (hk : ∀ t, kv L' I' B' t = if t = d then some rr else kv L I B t) (hr : rr = if g = true then v else undef)
    (H : g = true → ∀ w, Sx c B F w → Ds c.P (fl L I B) ⟨some d, op, ty, pos, af, some (j, b)⟩ w fun u w' => u = v ∧ Sx c B' F w') (hBB : ∀ w, Sx c B F w → Sx c B' F w) (ih : WP c al r L' I' B' F K) : WP c al (⟨some d, op, ty, pos, af, some (j, b)⟩ :: r) L I B F K := by
  refine ⟨fun Q a w hn hp hD hS => wpM_step fun K' hK => ?_⟩
  rw [hg a hD]
  cases hgg : g with
  | false =>
    simp only [Bool.false_eq_true, if_false]
    have e : rr = undef := by rw [hr, hgg]; rfl
    refine hK _ _ (ih.run Q _ w hn hp (Dn.cons (v := undef) (hD.fr.put hd undef) hI hk (fun u hu => ?_)) (hBB w hS))
    rw [← e]; exact (Option.some.inj hu).symm
  | true =>
    simp only [if_true]
    have e : rr = v := by rw [hr, hgg]; rfl
    refine opM_of_does ?_
    have := H hgg w hS a.eval (fun x _ u hu => hD.fr.ev hu)
    have fin : ∀ u w', u = v ∧ Sx c B' F w' → K' (a.put (some d) u) w' := by
      rintro u w' ⟨rfl, hS'⟩
      refine hK _ _ (ih.run Q _ w' hn hp (Dn.cons (v := u) (hD.fr.put hd u) hI hk (fun u' hu => ?_)) hS')
      rw [← e]; exact (Option.some.inj hu).symm
    unfold Does at *
    generalize (execOp a.eval _).run c.P w = r at *
    cases r with
    | ok nx w' =>
      cases nx <;> simp only [DoesR] at this ⊢
      case value u => exact fin _ _ this
      case enter f args => exact this.mono fun e w'' ⟨u, he, hv⟩ => ⟨u, he, fin _ _ hv⟩
    | halt x w' => exact this.elim
omit hT in
theorem guardAt_sound {L : SL} {I : IL} {j : Nat} {b : Bool} {X : Nat → Bool → Prop} (h : guardAt al L I j b X) : ∃ o t g, nthV al j = some o ∧ o.dst = some t ∧ gx L I t b = some g ∧ X t g := by
  unfold guardAt at h
  split at h
  · rename_i ho
    split at h
    · exact ⟨_, _, _, ho, rfl, by assumption, h⟩
    · exact h.elim
  · exact h.elim
omit hT in
theorem gd_val {B : BL} {g : Bool} {s : SV} {v : Value} (hv : dvO B s = some v) : (bif g then dv B s else undef) = if g = true then v else undef := by
  rw [dv_some hv]; cases g <;> rfl
theorem stepG'_sound {d j t : Nat} {b g : Bool} {op : Op} {ty : TypeId} {pos : String} {af : Array Edge} {r : List Oper} {L : SL} {I : IL} {B : BL} {F : FV} {X : SL → IL → BL → FV → Prop} (hI : Inv L I) {o : Oper} (ho : nthV al j = some o) (hod : o.dst = some t) (hgx : gx L I t b = some g)
    (ih : ∀ L I B F, X L I B F → Inv L I → WP c al r L I B F K)
    (h : stepG' c true d op t b g L I B F X) : WP c al (⟨some d, op, ty, pos, af, some (j, b)⟩ :: r) L I B F K := by
  refine WP.bok fun hB => ?_
  have hc : cxOk L I (some (t, b)) (some g) := ⟨g, hgx, rfl⟩
  have hρ : yes (some g) → ∀ x s v, rdS L I (some (t, b)) x = some s → dvO B s = some v → ev (fl L I B) x = some v := hρ_of hI hc
  have hw : ∀ a, Dn c L I B a → Region.wanted ⟨some d, op, ty, pos, af, some (j, b)⟩ (yielded al.toArray a.tmps) = g := fun a hD => wanted_of ho hod (fun v hv => hD.fr.kv hv) hgx rfl
  have hy : g = true → yes (some g) := fun hg g' hg' => by cases hg'; exact hg
  have good : Good c.P B (fl L I B) c.h0 F op (some g) (fun s => wrG c.n d t b g s L I fun L I => X L I B F) → WP c al (⟨some d, op, ty, pos, af, some (j, b)⟩ :: r) L I B F K := by
    rintro ⟨s, v, hk, hv, hp⟩
    obtain ⟨L', I', hX, hI', hdn, hkv, hrw⟩ := wrG_sound hI hgx hk
    exact seq_gd hw hI' hdn (hkv B) (gd_val hv) (fun hg w hS => (hp (hy hg) w hS.wok _ _ _ _ _).ds.mono fun u w' ⟨h1, h2⟩ => ⟨h1, h2 ▸ hS⟩) (fun _ h => h) (ih _ _ _ _ hX hI')
  unfold stepG' at h
  split at h
  · obtain ⟨s, v, hk, hv, hp⟩ := pkG_sound (P := c.P) (h0 := c.h0) (B := B) hI hc h
    obtain ⟨_, _, hk⟩ := hasN_sound hk
    exact good ⟨s, v, hk, hv, hp⟩
  · rcases calG_sound hT hI hc h with ⟨v, hk, hd⟩ | ⟨_, hw⟩ | ⟨hq, _⟩
    · obtain ⟨L', I', hX, hI', hdn, hkv, hrw⟩ := wrG_sound hI hgx hk
      exact seq_gd hw hI' hdn (hkv B) (gd_val (s := .v v) rfl) (fun hg w hS => (hd (hy hg) w hS _ _ _ _ _ _).mono fun u w' ⟨h1, h2⟩ => ⟨h1, hS.step h2⟩) (fun _ h => h) (ih _ _ _ _ hX hI')
    · exact hw.elim
    · cases hq
  · rename_i t' x y
    cases hsl : isSl (lkA c.T.tys t') with
    | false => rw [hsl] at h; exact h.elim
    | true =>
      rw [hsl] at h
      obtain ⟨s, hs, h⟩ := rd1_sound h
      obtain ⟨s', hs', h⟩ := rd1_sound h
      obtain ⟨bb, o', cs, h, hkn, hpu⟩ := ixG_sound hT hρ hs hs' h
      obtain ⟨hl, hfl, h⟩ := fresh_sound h
      obtain ⟨L', I', hX, hI', hdn, hkv, hrw⟩ := wrG_sound hI hgx h
      have hBB : ∀ w, Sx c B F w → Sx c ((d, .k (some g) bb o' cs) :: B) F w := fun w hS => ⟨by rw [oes_k]; exact hS.st, bok_k hS.bk hkn⟩
      refine seq_gd (B' := (d, .k (some g) bb o' cs) :: B) hw hI' hdn (fun t => ?_) (gd_val (B := (d, .k (some g) bb o' cs) :: B) (s := .o d 0) (v := .pointer (some ⟨bb, o', none⟩)) (by simp only [dvO, lkA_eq, Nat.add_zero])) (fun hg w hS => (hpu (hy hg) w hS.wok _ _ _ _ _).ds.mono fun u w' ⟨h1, h2⟩ => ⟨h1, h2 ▸ hBB w hS⟩) hBB (ih _ _ _ _ hX hI')
      rw [hkv, kv_fl (hfl _)]
  · cases hp : isPure op with
    | false => rw [hp] at h; exact h.elim
    | true =>
      rw [hp] at h
      exact good (pv_sound hT hB hρ h)
theorem stepG_sound {d j t : Nat} {b g : Bool} {op : Op} {ty : TypeId} {pos : String} {af : Array Edge} {r : List Oper} {L : SL} {I : IL} {B : BL} {F : FV} {X : SL → IL → BL → FV → Prop} (hI : Inv L I) {o : Oper} (ho : nthV al j = some o) (hod : o.dst = some t) (hgx : gx L I t b = some g)
    (ih : ∀ L I B F, X L I B F → Inv L I → WP c al r L I B F K)
    (h : stepG c true d op t b g L I B F X fun L I => WP c al (⟨some d, op, ty, pos, af, none⟩ :: r) L I B F K) : WP c al (⟨some d, op, ty, pos, af, some (j, b)⟩ :: r) L I B F K := by
  unfold stepG at h
  cases hst : memF c.stop (2000000 + d) with
  | false =>
    rw [hst] at h
    simp only [cond_false] at h
    cases hst2 : memF c.stop (4000000 + d) with
    | false => rw [hst2] at h; exact stepG'_sound hT hI ho hod hgx ih h
    | true =>
      rw [hst2] at h
      cases hgg : g with
      | true =>
        obtain ⟨L', I', hX, hop⟩ := opnK_sound (h.1 hgg)
        obtain ⟨hI', hkv, _⟩ := opn_inv hI (by rw [hgx, hgg]) hop
        have h1 := stepB_sound hT hI' (ty := ty) (pos := pos) (af := af) ih hX
        refine ⟨fun Q a w hn hp hD hS => wpM_guard ?_ (h1.run Q a w hn hp ⟨Fr.of_kv hD.fr.df hD.fr.sz fun t v hv => hD.fr.kv (hkv B t v hv), hI'⟩ hS)⟩
        rw [wanted_of ho hod (fun v hv => hD.fr.kv hv) hgx rfl]; exact hgg
      | false =>
        obtain ⟨v, hv⟩ := h.2 hgg
        obtain ⟨L', I', hX, hI', hdn, hkv, hrw⟩ := wrG_sound hI hgx hv
        exact seq_gd (fun a hD => wanted_of ho hod (fun v hv => hD.fr.kv hv) hgx rfl) hI' hdn (hkv B) (gd_val (s := .v v) rfl) (fun hg => by rw [hgg] at hg; cases hg) (fun _ h => h) (ih _ _ _ _ hX hI')
  | true =>
    rw [hst] at h
    obtain ⟨hg, h⟩ := h
    have h1 := stepB_sound hT hI (ty := ty) (pos := pos) (af := af) ih h
    refine ⟨fun Q a w hn hp hD hS => wpM_guard ?_ (h1.run Q a w hn hp hD hS)⟩
    rw [wanted_of ho hod (fun v hv => hD.fr.kv hv) hgx rfl]; exact hg
/-- **A run in turn.** -/
theorem runs_sound : ∀ (l : List Oper) (L : SL) (I : IL) (B : BL) (F : FV), runs c al true K l L I B F → Inv L I → WP c al l L I B F K
  | [], L, I, B, F, h, hI => ⟨fun Q a w hn hp hD hS => c_nil (hn L I B F a w h hD hS)⟩
  | ⟨dst, op, ty, pos, af, none⟩ :: r, L, I, B, F, h, hI => stepU_sound hT hI (fun L I B F h hI => runs_sound r L I B F h hI) h
  | ⟨some d, op, ty, pos, af, some (j, b)⟩ :: r, L, I, B, F, h, hI => by
    obtain ⟨o, t, g, ho, hod, hgx, h⟩ := guardAt_sound h
    exact stepG_sound hT hI ho hod hgx (fun L I B F h hI => runs_sound r L I B F h hI) h
  | ⟨none, _, _, _, _, some _⟩ :: _, _, _, _, _, h, _ => h.elim
end seq
end Go.Dx
namespace Go.Dx
open Go Go.RowKit

def GV (Γ : Nat → VP) (A : FL) : Prop := ∀ t v, vl (lk A t) = some v → ∀ u w, Γ t u w → u = v
theorem GV.ev {Γ : Nat → VP} {A : FL} (h : GV Γ A) {a : Act} {w : World} {o : Oper} {ops : Array Oper} (hs : ∀ t ∈ o.looksAt ops, Γ t (a.tmps.getD t undef) w) :
    ∀ x ∈ o.op.operands, ∀ u, ev A x = some u → a.eval x = u := by
  intro x hx u hu
  cases x with
  | tmp t =>
    have ht : t ∈ o.looksAt ops := by
      unfold Oper.looksAt
      exact List.mem_append_left _ (List.mem_filterMap.2 ⟨.tmp t, by simpa using hx, rfl⟩)
    exact h t u hu _ _ (hs t ht)
  | const u => exact Option.some.inj hu
  | global g => exact Option.some.inj hu
  | func f => exact Option.some.inj hu
theorem GV.cons {Γ : Nat → VP} {L L' : SL} {I I' : IL} {B B' : BL} {d : Nat} {rr : Option Value} {v : Value} (h : GV Γ (fl L I B)) (hk : ∀ t, kv L' I' B' t = if t = d then rr else kv L I B t) (hr : ∀ u, rr = some u → u = v) :
    GV (Γset Γ (some d) fun u _ => u = v) (fl L' I' B') := by
  intro t u hu x w hx
  rw [vl_fl, hk] at hu
  by_cases ht : t = d
  · subst ht
    rw [if_pos rfl] at hu
    simp only [Γset, if_true] at hx
    rw [hx, hr u hu]
  · rw [if_neg ht] at hu
    have e : Γset Γ (some d) (fun u _ => u = v) t = Γ t := by simp [Γset, Ne.symm ht]
    rw [e] at hx
    exact h t u (by rw [vl_fl]; exact hu) x w hx

def RowP (w : World) (e n : Nat) (cs : List Value) : VP := fun u w' => ∃ b, u = .slice (some ⟨b, 0, none⟩) n n ∧ NewRow w e cs b w'
/-- what is known of the slots, of whatever order -/
structure GX (w : World) (Γ : Nat → VP) (L : SL) (I : IL) (B : BL) : Prop where
  gv : GV Γ (fl L I B)
  gr : ∀ t e n cs, lkA I t = none → lkA L t = some (.r e n cs) → ∀ u w', Γ t u w' → RowP w e n cs u w'
theorem GX.cons {w : World} {Γ : Nat → VP} {L L' : SL} {I I' : IL} {B B' : BL} {d : Nat} {rr : Option Value} {v : Value} {so : Option SV} (h : GX w Γ L I B) (hk : ∀ t, kv L' I' B' t = if t = d then rr else kv L I B t) (hr : ∀ u, rr = some u → u = v) (hrw : RwOk d so L I L' I') (hs : ∀ e n cs, so ≠ some (.r e n cs)) :
    GX w (Γset Γ (some d) fun u _ => u = v) L' I' B' := by
  refine ⟨h.gv.cons hk hr, fun t e n cs h1 h2 u w' hu => ?_⟩
  rcases hrw t e n cs h1 h2 with ⟨_, h3⟩ | ⟨hne, h3, h4⟩
  · exact absurd h3 (hs _ _ _)
  · have e1 : Γset Γ (some d) (fun u _ => u = v) t = Γ t := by simp [Γset, Ne.symm hne]
    rw [e1] at hu
    exact h.gr t e n cs h3 h4 u w' hu
theorem GX.row {w : World} {Γ : Nat → VP} {L L' : SL} {I I' : IL} {B : BL} {d e n : Nat} {cs : List Value} (h : GX w Γ L I B) (hk : ∀ B t, kv L' I' B t = if t = d then dvO B (.r e n cs) else kv L I B t) (hrw : RwOk d (some (.r e n cs)) L I L' I') :
    GX w (Γset Γ (some d) (RowP w e n cs)) L' I' B := by
  refine ⟨fun t v hv u w' hu => ?_, fun t e' n' cs' h1 h2 u w' hu => ?_⟩
  · rw [vl_fl, hk] at hv
    by_cases ht : t = d
    · rw [if_pos ht] at hv; cases hv
    · rw [if_neg ht] at hv
      have e1 : Γset Γ (some d) (RowP w e n cs) t = Γ t := by simp [Γset, Ne.symm ht]
      rw [e1] at hu
      exact h.gv t v (by rw [vl_fl]; exact hv) u w' hu
  · rcases hrw t e' n' cs' h1 h2 with ⟨rfl, h3⟩ | ⟨hne, h3, h4⟩
    · simp only [Γset, if_true] at hu
      cases h3
      exact hu
    · have e1 : Γset Γ (some d) (RowP w e n cs) t = Γ t := by simp [Γset, Ne.symm hne]
      rw [e1] at hu
      exact h.gr t e' n' cs' h3 h4 u w' hu
theorem rowP_step {w w1 w2 : World} {e n : Nat} {cs : List Value} {u : Value} (h : RowP w e n cs u w1) (hk : Keep [] w1 w2) : RowP w e n cs u w2 := by
  obtain ⟨b, h1, h2⟩ := h
  exact ⟨b, h1, h2.keep hk⟩
section ty
variable {c : Cx} {al : List Oper} {w : World} {O : List OE} {F : FV} {Qf : SP → (Nat → VP) → Prop}
abbrev Cty (c : Cx) (w : World) (O : List OE) (F : FV) : World → Prop := CR (Keep []) w c.w0 c.h0 c.M O F
theorem does_of {o : Oper} {a : Act} {w1 : World} {Γ : Nat → VP} {A : FL} {Post : VP} (hG : GV Γ A) (hs : ∀ t ∈ o.looksAt al.toArray, Γ t (a.tmps.getD t undef) w1) (H : Ds c.P A o w1 Post) : Does c.P o a.eval w1 Post := H a.eval (hG.ev hs)
theorem ty_ds {d : Option Nat} {op : Op} {ty : TypeId} {pos : String} {af : Array Edge} {r : List Oper} {Γ : Nat → VP} {A : FL} {v : Value} (hG : GV Γ A)
    (H : ∀ w1, Cty c w O F w1 → Ds c.P A ⟨d, op, ty, pos, af, none⟩ w1 fun u w' => u = v ∧ Keep [] w1 w') (k : TyW c.P al.toArray (Cty c w O F) (Keep []) Qf r (Γset Γ d fun u _ => u = v)) :
    TyW c.P al.toArray (Cty c w O F) (Keep []) Qf (⟨d, op, ty, pos, af, none⟩ :: r) Γ := by
  refine tyw_no (fun u _ => u = v) (fun _ _ _ _ _ h => h) (fun a w1 hC hs => ?_) k
  simp only [Region.wanted, if_true]
  have := does_of hG hs (H w1 hC)
  unfold Does at *
  generalize (execOp a.eval _).run c.P w1 = r at *
  cases r with
  | ok nx w' =>
    cases nx <;> simp only [DoesR] at this ⊢
    case value u => exact ⟨hC.step this.2, this.2, this.1⟩
    case enter f args => exact this.mono fun e w'' ⟨u, he, hv⟩ => ⟨u, he, hC.step hv.2, hv.2, hv.1⟩
  | halt x w' => exact this.elim
/-- of the value a predicate is known -/
theorem ty_dp {d : Option Nat} {op : Op} {ty : TypeId} {pos : String} {af : Array Edge} {r : List Oper} {Γ : Nat → VP} (Φ : VP) (hst : ∀ v w1 w2, Cty c w O F w1 → Keep [] w1 w2 → Φ v w1 → Φ v w2)
    (H : ∀ (a : Act) w1, Cty c w O F w1 → (∀ t ∈ Oper.looksAt al.toArray ⟨d, op, ty, pos, af, none⟩, Γ t (a.tmps.getD t undef) w1) → Does c.P ⟨d, op, ty, pos, af, none⟩ a.eval w1 fun u w' => Φ u w' ∧ Keep [] w1 w') (k : TyW c.P al.toArray (Cty c w O F) (Keep []) Qf r (Γset Γ d Φ)) :
    TyW c.P al.toArray (Cty c w O F) (Keep []) Qf (⟨d, op, ty, pos, af, none⟩ :: r) Γ := by
  refine tyw_no Φ (fun v w1 w2 hC hR h => hst v w1 w2 hC hR h) (fun a w1 hC hs => ?_) k
  simp only [Region.wanted, if_true]
  have := H a w1 hC hs
  unfold Does at *
  generalize (execOp a.eval _).run c.P w1 = r at *
  cases r with
  | ok nx w' =>
    cases nx <;> simp only [DoesR] at this ⊢
    case value u => exact ⟨hC.step this.2, this.2, this.1⟩
    case enter f args => exact this.mono fun e w'' ⟨u, he, hv⟩ => ⟨u, he, hC.step hv.2, hv.2, hv.1⟩
  | halt x w' => exact this.elim
theorem tyg_ds {d j : Nat} {b g : Bool} {op : Op} {ty : TypeId} {pos : String} {af : Array Edge} {r : List Oper} {Γ : Nat → VP} {A : FL} {v rr : Value} (hG : GV Γ A)
    (hw : ∀ (a : Act) w1, (∀ t ∈ Oper.looksAt al.toArray ⟨some d, op, ty, pos, af, some (j, b)⟩, Γ t (a.tmps.getD t undef) w1) → Region.wanted ⟨some d, op, ty, pos, af, some (j, b)⟩ (yielded al.toArray a.tmps) = g) (hr : rr = if g = true then v else undef)
    (H : g = true → ∀ w1, Cty c w O F w1 → Ds c.P A ⟨some d, op, ty, pos, af, some (j, b)⟩ w1 fun u w' => u = v ∧ Keep [] w1 w') (k : TyW c.P al.toArray (Cty c w O F) (Keep []) Qf r (Γset Γ (some d) fun u _ => u = rr)) :
    TyW c.P al.toArray (Cty c w O F) (Keep []) Qf (⟨some d, op, ty, pos, af, some (j, b)⟩ :: r) Γ := by
  refine tyw_no (fun u _ => u = rr) (fun _ _ _ _ _ h => h) (fun a w1 hC hs => ?_) k
  rw [hw a w1 hs]
  cases hgg : g with
  | false =>
    simp only [Bool.false_eq_true, if_false]
    rw [hr, hgg]; rfl
  | true =>
    simp only [if_true]
    have e : rr = v := by rw [hr, hgg]; rfl
    have := does_of hG hs (H hgg w1 hC)
    unfold Does at *
    generalize (execOp a.eval _).run c.P w1 = r at *
    cases r with
    | ok nx w' =>
      cases nx <;> simp only [DoesR] at this ⊢
      case value u => exact ⟨hC.step this.2, this.2, by rw [e]; exact this.1⟩
      case enter f args => exact this.mono fun e' w'' ⟨u, he, hv⟩ => ⟨u, he, hC.step hv.2, hv.2, by rw [e]; exact hv.1⟩
    | halt x w' => exact this.elim
theorem sx_of {B : BL} {w1 : World} (hO : oes B = O) (hB : BOk c.h0 F B) (hC : Cty c w O F w1) : Sx c B F w1 := ⟨hO ▸ hC.st, hB⟩
structure TB (c : Cx) (O : List OE) (F : FV) (B : BL) : Prop where
  oes : oes B = O
  bok : BOk c.h0 F B
theorem Γset_none {Γ : Nat → VP} {Φ : VP} : Γset Γ none Φ = Γ := by funext t; simp [Γset]
theorem rd_row {L : SL} {I : IL} {x : Operand} {e n : Nat} {cs : List Value} (h : rdS L I none x = some (.r e n cs)) : ∃ t, x = .tmp t ∧ (lkA I t = none ∧ lkA L t = some (.r e n cs)) := by
  cases x with
  | tmp t =>
    refine ⟨t, rfl, ?_⟩
    simp only [rdS] at h
    unfold rdT at h
    cases hl : lkA I t with
    | none =>
      rw [hl] at h
      refine ⟨rfl, ?_⟩
      split at h
      · cases h
      · exact h
    | some e => rw [hl] at h; cases h
  | const c => simp [rdS] at h
  | global c => simp [rdS] at h
  | func c => simp [rdS] at h
theorem splitR_sound {L : SL} {I : IL} : ∀ {args xs ys : List Operand} {e n : Nat} {cs : List Value}, splitR (rdS L I none) args = some (xs, ys, e, n, cs) → ∃ t, args = xs ++ .tmp t :: ys ∧ (lkA I t = none ∧ lkA L t = some (.r e n cs))
  | [], xs, ys, e, n, cs, h => by simp [splitR] at h
  | x :: r, xs, ys, e, n, cs, h => by
    unfold splitR at h
    split at h
    · rename_i hx
      simp only [Option.some.injEq, Prod.mk.injEq] at h
      obtain ⟨rfl, rfl, rfl, rfl, rfl⟩ := h
      obtain ⟨t, rfl, ht⟩ := rd_row hx
      exact ⟨t, rfl, ht⟩
    · split at h
      · rename_i l q hq
        simp only [Option.some.injEq, Prod.mk.injEq] at h
        obtain ⟨rfl, rfl⟩ := h
        obtain ⟨t, h1, h2⟩ := splitR_sound (args := r) hq
        exact ⟨t, by rw [h1]; rfl, h2⟩
      · cases h
theorem row_of {L : SL} {I : IL} {B : BL} {Γ : Nat → VP} {t e n : Nat} {cs : List Value} {a : Act} {w1 : World} {o : Oper} (hG : GX w Γ L I B) (h : lkA I t = none ∧ lkA L t = some (.r e n cs)) (hs : ∀ t ∈ o.looksAt al.toArray, Γ t (a.tmps.getD t undef) w1) (hm : Operand.tmp t ∈ o.op.operands) :
    ∃ b, a.tmps.getD t undef = .slice (some ⟨b, 0, none⟩) n n ∧ NewRow w e cs b w1 := by
  have ht : t ∈ o.looksAt al.toArray := by
    unfold Oper.looksAt
    exact List.mem_append_left _ (List.mem_filterMap.2 ⟨.tmp t, by simpa using hm, rfl⟩)
  exact hG.gr t e n cs h.1 h.2 _ _ (hs t ht)
theorem row_kv {L : SL} {I : IL} {B : BL} {t e n : Nat} {cs : List Value} (h : lkA I t = none ∧ lkA L t = some (.r e n cs)) : kv L I B t = none := by
  unfold kv; rw [h.1, h.2]; rfl
theorem ev_row {L : SL} {I : IL} {B : BL} {t : Nat} {v : Value} (hk : kv L I B t = none) {x : Operand} {u : Value} (h1 : Dx.ev (fl L I B) x = some u) : Dx.ev ((t, .val v) :: fl L I B) x = some u := by
  cases x with
  | tmp t' =>
    have hne : t ≠ t' := fun e => by
      subst e
      have : vl (lk (fl L I B) t) = some u := h1
      rw [vl_fl, hk] at this; cases this
    show vl (lk _ t') = _
    rw [lk_cons_ne hne]; exact h1
  | const c => exact h1
  | global c => exact h1
  | func c => exact h1
theorem evs_any {L : SL} {I : IL} {B : BL} {t : Nat} {v : Value} (hk : kv L I B t = none) : ∀ {xs : List Operand} {vsl : List Value}, evs (fl L I B) xs = some vsl → evs ((t, .val v) :: fl L I B) xs = some vsl
  | [], vsl, h => h
  | x :: r, vsl, h => by
    unfold evs at h
    cases h1 : Dx.ev (fl L I B) x with
    | none => simp [h1] at h
    | some u =>
      cases h2 : evs (fl L I B) r with
      | none => simp [h1, h2] at h
      | some us =>
        simp only [h1, h2, Option.some.injEq] at h
        subst h
        simp only [evs, ev_row (v := v) hk h1, evs_any (v := v) hk h2]
theorem evs_row {L : SL} {I : IL} {B : BL} {t : Nat} {v : Value} (hk : kv L I B t = none) {ys : List Operand} {vsr : List Value} (hy : evs (fl L I B) ys = some vsr) : ∀ {xs : List Operand} {vsl : List Value}, evs (fl L I B) xs = some vsl → evs ((t, .val v) :: fl L I B) (xs ++ .tmp t :: ys) = some (vsl ++ v :: vsr)
  | [], vsl, h => by
    simp only [evs, Option.some.injEq] at h
    subst h
    have : Dx.ev ((t, .val v) :: fl L I B) (.tmp t) = some v := by show vl (lk _ t) = _; rw [lk_cons_eq]; rfl
    simp only [List.nil_append, evs, this, evs_any (v := v) hk hy]
  | x :: r, vsl, h => by
    unfold evs at h
    cases h1 : Dx.ev (fl L I B) x with
    | none => simp [h1] at h
    | some u =>
      cases h2 : evs (fl L I B) r with
      | none => simp [h1, h2] at h
      | some us =>
        simp only [h1, h2, Option.some.injEq] at h
        subst h
        have ih := evs_row (v := v) hk hy h2
        simp only [List.cons_append, evs, ev_row (v := v) hk h1, ih]
theorem gv_cons {A : FL} {Γ : Nat → VP} {t : Nat} {v : Value} {a : Act} {w1 : World} {o : Oper} (hG : GV Γ A) (hv : a.tmps.getD t undef = v) (hs : ∀ t ∈ o.looksAt al.toArray, Γ t (a.tmps.getD t undef) w1) : ∀ x ∈ o.op.operands, ∀ u, Dx.ev ((t, .val v) :: A) x = some u → a.eval x = u := by
  intro x hx u hu
  cases x with
  | tmp t' =>
    by_cases ht : t = t'
    · subst ht
      have : vl (lk ((t, .val v) :: A) t) = some u := hu
      rw [lk_cons_eq] at this
      have : v = u := Option.some.inj this
      rw [← this]; exact hv
    · have : vl (lk ((t, .val v) :: A) t') = some u := hu
      rw [lk_cons_ne ht] at this
      exact hG.ev hs _ hx u this
  | const c => exact Option.some.inj hu
  | global c => exact Option.some.inj hu
  | func c => exact Option.some.inj hu
variable (hT : c.T.Ok c.P)
include hT
theorem tyB_sound {dst : Option Nat} {op : Op} {ty : TypeId} {pos : String} {af : Array Edge} {r : List Oper} {L : SL} {I : IL} {B : BL} {X : SL → IL → BL → FV → Prop} {W : Prop} {Γ : Nat → VP} (hI : Inv L I) (hG : GX w Γ L I B) (hB : TB c O F B)
    (ih : ∀ L I B Γ, X L I B F → Inv L I → GX w Γ L I B → TB c O F B → TyW c.P al.toArray (Cty c w O F) (Keep []) Qf r Γ)
    (h : stepB c false dst op L I B F X W) : TyW c.P al.toArray (Cty c w O F) (Keep []) Qf (⟨dst, op, ty, pos, af, none⟩ :: r) Γ := by
  have hρ : yes none → ∀ x s v, rdS L I none x = some s → dvO B s = some v → ev (fl L I B) x = some v := hρ_of hI rfl
  have hok : ∀ {w1}, Cty c w O F w1 → WOk c.h0 F B w1 := fun hC => (sx_of hB.oes hB.bok hC).wok
  have good : ∀ {d : Nat}, dst = some d → Good c.P B (fl L I B) c.h0 F op none (fun s => wr c.n d s L I fun L I => X L I B F) → TyW c.P al.toArray (Cty c w O F) (Keep []) Qf (⟨dst, op, ty, pos, af, none⟩ :: r) Γ := by
    rintro d rfl ⟨s, v, hk, hv, hp⟩
    obtain ⟨L', I', hX, hI', hdn, hkv, hrw⟩ := wr_sound hI hk
    refine ty_ds hG.gv (fun w1 hC => (hp yes_none w1 (hok hC) _ _ _ _ _).ds.mono fun u w' ⟨h1, h2⟩ => ⟨h1, h2 ▸ Keep.refl _ _⟩) (ih _ _ _ _ hX hI' (hG.cons (hkv B) (fun u hu => ?_) hrw fun e n cs he => ?_) hB)
    · rw [hv] at hu; exact (Option.some.inj hu).symm
    · cases he; cases hv
  unfold stepB at h
  split at h
  · rename_i d
    split at h
    · exact h.elim
    · exact h.elim
    · obtain ⟨s, v, hk, hv, hp⟩ := pkG_sound (P := c.P) (h0 := c.h0) (B := B) (cx := none) (og := none) hI rfl h
      obtain ⟨_, _, hk⟩ := hasN_sound hk
      exact good rfl ⟨s, v, hk, hv, hp⟩
    · rename_i f args ats
      split at h
      · rename_i xs ys e n cs g hsp
        cases hm : (memF c.T.fs g && !false) with
        | false => rw [hm] at h; exact h.elim
        | true =>
          rw [hm] at h
          simp only [Bool.not_false, Bool.and_true] at hm
          obtain ⟨vsl, h, hv⟩ := argK_sound hρ h
          obtain ⟨vsr, ⟨x, H, hk⟩, hvr⟩ := argK_sound hρ h
          obtain ⟨L', I', hX, hI', hdn, hkv, hrw⟩ := wr_sound hI hk
          refine ty_dp (fun u _ => u = x) (fun _ _ _ _ _ h => h) (fun a w1 hC hs => ?_) (ih _ _ _ _ hX hI' (hG.cons (hkv B) (fun u hu => (Option.some.inj hu).symm) hrw (by simp)) hB)
          obtain ⟨xr, rfl, hxr⟩ := splitR_sound hsp
          have hrow := row_of hG hxr hs (by simp [Op.operands, Call.operands])
          obtain ⟨b, hb, hnr⟩ := hrow
          obtain ⟨hh, H⟩ := H w1 b (sx_of hB.oes hB.bok hC) hnr.2
          have hev : evs ((xr, .val (.slice (some ⟨b, 0, none⟩) n n)) :: fl L I B) (xs ++ .tmp xr :: ys) = some (vsl ++ .slice (some ⟨b, 0, none⟩) n n :: vsr) := evs_row (row_kv hxr) (hvr yes_none) (hv yes_none)
          have hds : Ds c.P ((xr, .val (.slice (some ⟨b, 0, none⟩) n n)) :: fl L I B) ⟨some d, .call ⟨.value (.func g), (xs ++ Operand.tmp xr :: ys).toArray, ats⟩, ty, pos, af, none⟩ w1 fun u w' => u = x ∧ Keep [] w1 w' := by
            refine ds_call (hT.call hm) hev (H.mono ?_)
            rintro e w' ⟨u, rfl, hkp, rfl⟩
            exact ⟨u, rfl, rfl, hkp⟩
          exact hds a.eval (gv_cons hG.gv hb hs)
      rcases calG_sound (cx := none) hT hI rfl h with ⟨v, hk, hd⟩ | ⟨hs, _⟩ | ⟨_, _, e, n, cs, hk, hd⟩
      · obtain ⟨L', I', hX, hI', hdn, hkv, hrw⟩ := wr_sound hI hk
        refine ty_ds hG.gv (fun w1 hC => hd yes_none w1 (sx_of hB.oes hB.bok hC) _ _ _ _ _ _) (ih _ _ _ _ hX hI' (hG.cons (hkv B) (fun u hu => (Option.some.inj hu).symm) hrw (by simp)) hB)
      · cases hs
      · obtain ⟨L', I', hX, hI', hdn, hkv, hrw⟩ := wr_sound hI hk
        refine ty_dp (RowP w e n cs) (fun _ _ _ _ hk h => rowP_step h hk) (fun a w1 hC hs => does_of hG.gv hs ((hd w1 (sx_of hB.oes hB.bok hC) _ _ _ _ _ _).mono ?_)) (ih _ _ _ _ hX hI' (hG.row hkv hrw) hB)
        rintro u w' ⟨⟨b, rfl, hb⟩, hkp⟩
        exact ⟨⟨b, rfl, Nat.le_trans hC.rel.size hb.1, hb.2⟩, hkp⟩
    · rename_i t len ps
      obtain ⟨e, vsl, h, hds⟩ := bsl_sound hT (hρ yes_none) h
      obtain ⟨L', I', hX, hI', hdn, hkv, hrw⟩ := wr_sound hI h
      refine ty_dp (RowP w e len (cellsL vsl)) (fun _ _ _ _ hk h => rowP_step h hk) (fun a w1 hC hs => does_of hG.gv hs ((hds w1 _ _ _ _ _).mono ?_)) (ih _ _ _ _ hX hI' (hG.row hkv hrw) hB)
      rintro u w' ⟨rfl, rfl⟩
      exact ⟨⟨_, rfl, hC.rel.size, heap_alloc_new w1 _⟩, keep_alloc _ _⟩
    · rename_i a b x
      cases hby : isBytes c.T a b with
      | false => rw [hby] at h; exact good rfl (pv_sound hT hB.bok hρ h)
      | true =>
        rw [hby] at h
        obtain ⟨s, hs, h⟩ := rd1_sound h
        obtain ⟨e, ha, he, hb⟩ := isBytes_sound hT hby
        unfold strS at h
        split at h
        · rename_i e' n' cs
          cases hl : (!false && lenB cs n') with
          | false => rw [hl] at h; exact h.elim
          | true =>
            rw [hl] at h
            simp only [Bool.not_false, Bool.true_and] at hl
            obtain ⟨l, rfl, h⟩ := h
            obtain rfl : n' = l.length := by have := lenB_eq hl; simpa using this.symm
            obtain ⟨L', I', hX, hI', hdn, hkv, hrw⟩ := wr_sound hI h
            obtain ⟨xr, rfl, hxr⟩ := rd_row hs
            refine ty_dp (fun u _ => u = vs l) (fun _ _ _ _ _ h => h) (fun a' w1 hC hs' => ?_) (ih _ _ _ _ hX hI' (hG.cons (hkv B) (fun u hu => (Option.some.inj hu).symm) hrw (by simp)) hB)
            obtain ⟨bb, hbb, hnr⟩ := row_of hG hxr hs' (by simp [Op.operands])
            have hp : Pu c.P ((xr, .val (.slice (some ⟨bb, 0, none⟩) l.length l.length)) :: fl L I B) ⟨some d, .convert a b (.tmp xr), ty, pos, af, none⟩ w1 (vs l) := pu_tostr ha he hb (v := .slice (some ⟨bb, 0, none⟩) l.length l.length) (by show vl (lk _ xr) = _; rw [lk_cons_eq]; rfl) rfl (src_row hnr.2)
            have := hp.ds a'.eval (gv_cons hG.gv hbb hs')
            unfold Does at this ⊢
            generalize (execOp a'.eval _).run c.P w1 = r at *
            cases r with
            | ok nx w' =>
              cases nx <;> simp only [DoesR] at this ⊢
              case value u => exact ⟨this.1, by rw [this.2]; exact Keep.refl _ _⟩
              case enter f args => exact this.mono fun e w'' ⟨u, he, hv⟩ => ⟨u, he, hv.1, by rw [hv.2]; exact Keep.refl _ _⟩
            | halt x w' => exact this.elim
        · rename_i k f n' cp
          split at h
          · rename_i bb T' cs hlk
            cases hl : (Nat.beq f 0 && lenB cs n') with
            | false => rw [hl] at h; exact h.elim
            | true =>
              rw [hl] at h
              simp only [Bool.and_eq_true] at hl
              obtain rfl := Nat.eq_of_beq_eq_true hl.1
              obtain ⟨l, rfl, h⟩ := h
              obtain rfl : n' = l.length := by have := lenB_eq hl.2; simpa using this.symm
              obtain ⟨L', I', hX, hI', hdn, hkv, hrw⟩ := wr_sound hI h
              refine ty_ds hG.gv (fun w1 hC => ?_) (ih _ _ _ _ hX hI' (hG.cons (hkv B) (fun u hu => (Option.some.inj hu).symm) hrw (by simp)) hB)
              exact (pu_tostr ha he hb (hρ yes_none _ _ (.slice (some ⟨bb, 0, none⟩) l.length cp) hs (by simp [dvO, hlk])) rfl (src_row ((hok hC).own _ _ _ _ hlk))).ds.mono fun u w' ⟨h1, h2⟩ => ⟨h1, h2 ▸ Keep.refl _ _⟩
          · exact h.elim
        · exact h.elim
    · rename_i t x y
      cases hsl : isSl (lkA c.T.tys t) with
      | false => rw [hsl] at h; exact h.elim
      | true =>
        rw [hsl] at h
        obtain ⟨s, hs, h⟩ := rd1_sound h
        obtain ⟨s', hs', h⟩ := rd1_sound h
        obtain ⟨b, o, cs, h, hkn, hpu⟩ := ixG_sound hT hρ hs hs' h
        obtain ⟨hl, hfl, h⟩ := fresh_sound h
        obtain ⟨L', I', hX, hI', hdn, hkv, hrw⟩ := wr_sound hI h
        refine ty_ds hG.gv (fun w1 hC => (hpu yes_none w1 (hok hC) _ _ _ _ _).ds.mono fun u w' ⟨h1, h2⟩ => ⟨h1, h2 ▸ Keep.refl _ _⟩) (ih _ _ _ _ hX hI' (hG.cons (rr := some (.pointer (some ⟨b, o, none⟩))) (fun t => ?_) (fun u hu => (Option.some.inj hu).symm) hrw (by simp)) ⟨by rw [oes_k]; exact hB.oes, bok_k hB.bok hkn⟩)
        rw [hkv, kv_fl (hfl _)]
        simp only [dvO, lkA_eq, Nat.add_zero]
    · cases hp : isPure op with
      | false => rw [hp] at h; cases h.1
      | true =>
        rw [hp] at h
        exact good rfl (pv_sound hT hB.bok hρ h)
  · split at h
    · exact h.elim
    · rename_i f args ats
      rcases calG_sound (cx := none) hT hI rfl h with ⟨v, hk, hd⟩ | ⟨hs, _⟩ | ⟨_, _, e, n, cs, hk, hd⟩
      · refine ty_ds hG.gv (fun w1 hC => hd yes_none w1 (sx_of hB.oes hB.bok hC) _ _ _ _ _ _) ?_
        rw [Γset_none]
        exact ih _ _ _ _ hk hI hG hB
      · cases hs
      · refine ty_dp (fun _ _ => True) (fun _ _ _ _ _ h => h) (fun a w1 hC hs => does_of hG.gv hs ((hd w1 (sx_of hB.oes hB.bok hC) _ _ _ _ _ _).mono fun u w' h => ⟨trivial, h.2⟩)) ?_
        rw [Γset_none]
        exact ih _ _ _ _ hk hI hG hB
    · cases h.1
theorem tyU_sound {dst : Option Nat} {op : Op} {ty : TypeId} {pos : String} {af : Array Edge} {r : List Oper} {L : SL} {I : IL} {B : BL} {X : SL → IL → BL → FV → Prop} {W : Prop} {Γ : Nat → VP} (hI : Inv L I) (hG : GX w Γ L I B) (hB : TB c O F B)
    (ih : ∀ L I B Γ, X L I B F → Inv L I → GX w Γ L I B → TB c O F B → TyW c.P al.toArray (Cty c w O F) (Keep []) Qf r Γ)
    (h : stepU c false dst op L I B F X W) : TyW c.P al.toArray (Cty c w O F) (Keep []) Qf (⟨dst, op, ty, pos, af, none⟩ :: r) Γ := by
  unfold stepU at h
  split at h
  · rename_i d
    cases hst : memF c.stop d with
    | true => rw [hst] at h; cases h.1
    | false => rw [hst] at h; exact tyB_sound hT hI hG hB ih h
  · exact tyB_sound hT hI hG hB ih h
omit hT in
/-- typed: a guard that holds is none -/
theorem ty_guard {d : Option Nat} {op : Op} {ty : TypeId} {pos : String} {af : Array Edge} {r : List Oper} {Γ : Nat → VP} {gd : Option (Nat × Bool)}
    (hw : ∀ (a : Act) w1, (∀ t ∈ Oper.looksAt al.toArray ⟨d, op, ty, pos, af, gd⟩, Γ t (a.tmps.getD t undef) w1) → Region.wanted ⟨d, op, ty, pos, af, gd⟩ (yielded al.toArray a.tmps) = true)
    (h : TyW c.P al.toArray (Cty c w O F) (Keep []) Qf (⟨d, op, ty, pos, af, none⟩ :: r) Γ) : TyW c.P al.toArray (Cty c w O F) (Keep []) Qf (⟨d, op, ty, pos, af, gd⟩ :: r) Γ := by
  obtain ⟨Φ, D, ⟨h1, h2⟩, h3⟩ := h
  refine ⟨Φ, D, ⟨h1, fun a w1 hC hs => ?_⟩, h3⟩
  have := h2 a w1 hC (fun t ht => hs t (by
    unfold Oper.looksAt at ht ⊢
    rcases List.mem_append.1 ht with h | h
    · exact List.mem_append_left _ h
    · simp at h))
  rw [if_pos (hw a w1 hs)]
  rw [if_pos (by simp [Region.wanted])] at this
  exact this
omit hT in
theorem looks_guard {d j t : Nat} {b : Bool} {op : Op} {ty : TypeId} {pos : String} {af : Array Edge} {o : Oper} (ho : nthV al j = some o) (hd : o.dst = some t) : t ∈ Oper.looksAt al.toArray ⟨some d, op, ty, pos, af, some (j, b)⟩ := by
  unfold Oper.looksAt
  refine List.mem_append_right _ ?_
  have : al.toArray[j]? = some o := by rw [nthV_eq] at ho; simpa using ho
  simp only [Option.bind_some, this, hd, Option.toList_some, List.mem_singleton]
theorem tyG'_sound {d j t : Nat} {b g : Bool} {op : Op} {ty : TypeId} {pos : String} {af : Array Edge} {r : List Oper} {L : SL} {I : IL} {B : BL} {X : SL → IL → BL → FV → Prop} {Γ : Nat → VP} (hI : Inv L I) (hG : GX w Γ L I B) (hB : TB c O F B) {o : Oper} (ho : nthV al j = some o) (hod : o.dst = some t) (hgx : gx L I t b = some g)
    (ih : ∀ L I B Γ, X L I B F → Inv L I → GX w Γ L I B → TB c O F B → TyW c.P al.toArray (Cty c w O F) (Keep []) Qf r Γ)
    (h : stepG' c false d op t b g L I B F X) : TyW c.P al.toArray (Cty c w O F) (Keep []) Qf (⟨some d, op, ty, pos, af, some (j, b)⟩ :: r) Γ := by
  have hc : cxOk L I (some (t, b)) (some g) := ⟨g, hgx, rfl⟩
  have hρ : yes (some g) → ∀ x s v, rdS L I (some (t, b)) x = some s → dvO B s = some v → ev (fl L I B) x = some v := hρ_of hI hc
  have hok : ∀ {w1}, Cty c w O F w1 → WOk c.h0 F B w1 := fun hC => (sx_of hB.oes hB.bok hC).wok
  have hw : ∀ (a : Act) w1, (∀ t ∈ Oper.looksAt al.toArray ⟨some d, op, ty, pos, af, some (j, b)⟩, Γ t (a.tmps.getD t undef) w1) → Region.wanted ⟨some d, op, ty, pos, af, some (j, b)⟩ (yielded al.toArray a.tmps) = g :=
    fun a w1 hs => wanted_of ho hod (fun v hv => hG.gv t v (by rw [vl_fl]; exact hv) _ _ (hs t (looks_guard ho hod))) hgx rfl
  have hy : g = true → yes (some g) := fun hg g' hg' => by cases hg'; exact hg
  have good : Good c.P B (fl L I B) c.h0 F op (some g) (fun s => wrG c.n d t b g s L I fun L I => X L I B F) → TyW c.P al.toArray (Cty c w O F) (Keep []) Qf (⟨some d, op, ty, pos, af, some (j, b)⟩ :: r) Γ := by
    rintro ⟨s, v, hk, hv, hp⟩
    obtain ⟨L', I', hX, hI', hdn, hkv, hrw⟩ := wrG_sound hI hgx hk
    exact tyg_ds hG.gv hw (gd_val hv) (fun hg w1 hC => (hp (hy hg) w1 (hok hC) _ _ _ _ _).ds.mono fun u w' ⟨h1, h2⟩ => ⟨h1, h2 ▸ Keep.refl _ _⟩) (ih _ _ _ _ hX hI' (hG.cons (hkv B) (fun u hu => (Option.some.inj hu).symm) hrw (by simp)) hB)
  unfold stepG' at h
  split at h
  · obtain ⟨s, v, hk, hv, hp⟩ := pkG_sound (P := c.P) (h0 := c.h0) (B := B) hI hc h
    obtain ⟨_, _, hk⟩ := hasN_sound hk
    exact good ⟨s, v, hk, hv, hp⟩
  · rcases calG_sound hT hI hc h with ⟨v, hk, hd⟩ | ⟨_, hw⟩ | ⟨_, ho, _⟩
    · obtain ⟨L', I', hX, hI', hdn, hkv, hrw⟩ := wrG_sound hI hgx hk
      exact tyg_ds hG.gv hw (gd_val (s := .v v) (B := B) rfl) (fun hg w1 hC => hd (hy hg) w1 (sx_of hB.oes hB.bok hC) _ _ _ _ _ _) (ih _ _ _ _ hX hI' (hG.cons (hkv B) (fun u hu => (Option.some.inj hu).symm) hrw (by simp)) hB)
    · exact hw.elim
    · cases ho
  · rename_i t' x y
    cases hsl : isSl (lkA c.T.tys t') with
    | false => rw [hsl] at h; exact h.elim
    | true =>
      rw [hsl] at h
      obtain ⟨s, hs, h⟩ := rd1_sound h
      obtain ⟨s', hs', h⟩ := rd1_sound h
      obtain ⟨bb, o', cs, h, hkn, hpu⟩ := ixG_sound hT hρ hs hs' h
      obtain ⟨hl, hfl, h⟩ := fresh_sound h
      obtain ⟨L', I', hX, hI', hdn, hkv, hrw⟩ := wrG_sound hI hgx h
      refine tyg_ds hG.gv hw (gd_val (B := (d, .k (some g) bb o' cs) :: B) (s := .o d 0) (v := .pointer (some ⟨bb, o', none⟩)) (by simp only [dvO, lkA_eq, Nat.add_zero])) (fun hg w1 hC => (hpu (hy hg) w1 (hok hC) _ _ _ _ _).ds.mono fun u w' ⟨h1, h2⟩ => ⟨h1, h2 ▸ Keep.refl _ _⟩)
        (ih _ _ _ _ hX hI' (hG.cons (B' := (d, .k (some g) bb o' cs) :: B) (fun t => ?_) (fun u hu => (Option.some.inj hu).symm) hrw (by simp)) ⟨by rw [oes_k]; exact hB.oes, bok_k hB.bok hkn⟩)
      rw [hkv, kv_fl (hfl _)]
  · cases hp : isPure op with
    | false => rw [hp] at h; exact h.elim
    | true =>
      rw [hp] at h
      exact good (pv_sound hT hB.bok hρ h)
theorem tyG_sound {d j t : Nat} {b g : Bool} {op : Op} {ty : TypeId} {pos : String} {af : Array Edge} {r : List Oper} {L : SL} {I : IL} {B : BL} {X : SL → IL → BL → FV → Prop} {W : SL → IL → Prop} {Γ : Nat → VP} (hI : Inv L I) (hG : GX w Γ L I B) (hB : TB c O F B) {o : Oper} (ho : nthV al j = some o) (hod : o.dst = some t) (hgx : gx L I t b = some g)
    (ih : ∀ L I B Γ, X L I B F → Inv L I → GX w Γ L I B → TB c O F B → TyW c.P al.toArray (Cty c w O F) (Keep []) Qf r Γ)
    (h : stepG c false d op t b g L I B F X W) : TyW c.P al.toArray (Cty c w O F) (Keep []) Qf (⟨some d, op, ty, pos, af, some (j, b)⟩ :: r) Γ := by
  unfold stepG at h
  cases hst : memF c.stop (2000000 + d) with
  | false =>
    rw [hst] at h
    simp only [cond_false] at h
    cases hst2 : memF c.stop (4000000 + d) with
    | false => rw [hst2] at h; exact tyG'_sound hT hI hG hB ho hod hgx ih h
    | true =>
      rw [hst2] at h
      have hw : ∀ (a : Act) w1, (∀ t ∈ Oper.looksAt al.toArray ⟨some d, op, ty, pos, af, some (j, b)⟩, Γ t (a.tmps.getD t undef) w1) → Region.wanted ⟨some d, op, ty, pos, af, some (j, b)⟩ (yielded al.toArray a.tmps) = g :=
        fun a w1 hs => wanted_of ho hod (fun v hv => hG.gv t v (by rw [vl_fl]; exact hv) _ _ (hs t (looks_guard ho hod))) hgx rfl
      cases hgg : g with
      | true =>
        obtain ⟨L', I', hX, hop⟩ := opnK_sound (h.1 hgg)
        obtain ⟨hI', hkv, hrr⟩ := opn_inv hI (by rw [hgx, hgg]) hop
        refine ty_guard (fun a w1 hs => (hw a w1 hs).trans hgg) (tyB_sound hT (ty := ty) (pos := pos) (af := af) hI' ⟨fun t v hv => hG.gv t v ?_, fun t e n cs h1 h2 => hG.gr t e n cs (hrr t e n cs h1 h2).1 (hrr t e n cs h1 h2).2⟩ hB ih hX)
        rw [vl_fl] at hv ⊢; exact hkv B t v hv
      | false =>
        obtain ⟨v, hv⟩ := h.2 hgg
        obtain ⟨L', I', hX, hI', hdn, hkv, hrw⟩ := wrG_sound hI hgx hv
        exact tyg_ds hG.gv hw (gd_val (s := .v v) (B := B) rfl) (fun hg => by rw [hgg] at hg; cases hg) (ih _ _ _ _ hX hI' (hG.cons (hkv B) (fun u hu => (Option.some.inj hu).symm) hrw (by simp)) hB)
  | true =>
    rw [hst] at h
    obtain ⟨hg, h⟩ := h
    refine ty_guard (fun a w1 hs => ?_) (tyB_sound hT (ty := ty) (pos := pos) (af := af) hI hG hB ih h)
    rw [wanted_of ho hod (fun v hv => hG.gv t v (by rw [vl_fl]; exact hv) _ _ (hs t (looks_guard ho hod))) hgx rfl]; exact hg
/-- **A run in whatever order.** -/
theorem ty_sound {K : KR} (hQ : ∀ L I B Γ, K L I B F → Inv L I → GX w Γ L I B → TB c O F B → ∀ E, Qf E Γ) : ∀ (l : List Oper) (L : SL) (I : IL) (B : BL) (Γ : Nat → VP), runs c al false K l L I B F → Inv L I → GX w Γ L I B → TB c O F B →
    TyW c.P al.toArray (Cty c w O F) (Keep []) Qf l Γ
  | [], L, I, B, Γ, h, hI, hG, hB => hQ L I B Γ h hI hG hB _
  | ⟨dst, op, ty, pos, af, none⟩ :: r, L, I, B, Γ, h, hI, hG, hB => tyU_sound hT hI hG hB (fun L I B Γ h hI hG hB => ty_sound hQ r L I B Γ h hI hG hB) h
  | ⟨some d, op, ty, pos, af, some (j, b)⟩ :: r, L, I, B, Γ, h, hI, hG, hB => by
    obtain ⟨o, t, g, ho, hod, hgx, h⟩ := guardAt_sound h
    exact tyG_sound hT hI hG hB ho hod hgx (fun L I B Γ h hI hG hB => ty_sound hQ r L I B Γ h hI hG hB) h
  | ⟨none, _, _, _, _, some _⟩ :: _, _, _, _, _, h, _, _, _ => h.elim
end ty
end Go.Dx
