/- Laws of one step of a walk, and of what memory holds. No condition beyond what each names. -/
import Derived.Test.YtopbpdgnjnoddaaDoorDxH
set_option linter.unusedSimpArgs false
set_option linter.unusedVariables false
namespace Go.Dx
open Go Go.RowKit

/-- a source for append and copy -/
structure Src (P : Program) (w : World) (x : Value) (sz m : Nat) (news : List Value) : Prop where
  len : ∀ w', (Builtin.lenOf x).run P w' = .ok m w'
  fst : ∀ w', w'.heap = w.heap → (Builtin.firstCells sz m x).run P w' = .ok news.toArray w'
  cells : news.length = m * sz
  one : ∀ u ∈ news, u.oneCell' = true

section src
variable {md : Md} {P : Program} {w : World}
theorem Src.row {g off n c sz : Nat} {arr : Array Value} {T : TypeId} {fz : Nat × Nat} {news : List Value} (hg : w.heap[g]? = some (.cells arr T fz)) (hl : news.length = n * sz) (hn : (arr.toList.drop off).take (n * sz) = news) (h1 : ∀ u ∈ news, u.oneCell' = true) :
    Src P w (.slice (some ⟨g, off, none⟩) n c) sz n news := by
  refine ⟨fun _ => rfl, fun w' hw => run_firstCells_some w' sz n _ n c news hl fun j u hu => ?_, hl, h1⟩
  have hg' : w'.heap[g]? = some (.cells arr T fz) := by rw [hw]; exact hg
  rw [add_mk]
  have : w'.cell? ⟨g, off + j, none⟩ = arr[off + j]? := by simp [World.cell?, hg']
  rw [this]
  rw [← hn, List.getElem?_take] at hu
  split at hu
  · simpa using hu
  · cases hu
theorem Src.nil {c sz : Nat} {a : Option Addr} : Src P w (.slice a 0 c) sz 0 [] := by
  refine ⟨fun _ => rfl, fun w' _ => ?_, by simp, by simp⟩
  cases a <;> simp [Builtin.firstCells, loadCells, loadCellsFrom]
theorem Src.own {g n c sz : Nat} {cs : List Value} {T : TypeId} (hg : w.heap[g]? = some (.cells cs.toArray T (0, 0))) (hl : cs.length = n * sz) (h1 : allOne cs = true) : Src P w (.slice (some ⟨g, 0, none⟩) n c) sz n cs :=
  Src.row hg hl (by rw [← hl]; simp) (allOne_mem h1)
theorem v8_one (l : List UInt8) : ∀ u ∈ l.map v8, u.oneCell' = true := by
  intro u hu
  obtain ⟨b, _, rfl⟩ := List.mem_map.1 hu
  rfl
theorem Src.str {l : List UInt8} : Src P w (vs l) 1 l.length (l.map v8) := by
  refine ⟨fun w' => by simp [Builtin.lenOf, size_mk], fun w' _ => ?_, by simp, v8_one l⟩
  simp only [Builtin.firstCells, mk_extract, List.drop_zero, Nat.sub_zero, List.take_length]
  simp
end src

def AppT (P : Program) (t t2 e : TypeId) (sz bytes : Nat) : Prop :=
  P.underlying t = some (.slice e) ∧ (∃ u2, P.underlying t2 = some u2 ∧ ∀ k, u2 ≠ .int k) ∧ ∃ i z, P.info? e = some i ∧ i.zero = some z ∧ z.cells.size = i.size ∧ i.size = sz ∧ i.bytes = bytes ∧ 0 < sz
theorem AppT.of {P : Program} {t t2 e : TypeId} {sz bytes : Nat} (h1 : P.underlying t = some (.slice e)) (h2 : (P.underlying t2).map (fun u => match u with | .int _ => false | _ => true) = some true)
    (h3 : (P.info? e).map (fun i => (i.zero.map (·.cells.size), i.size, i.bytes)) = some (some (sz + 1), sz + 1, bytes)) : AppT P t t2 e (sz + 1) bytes := by
  refine ⟨h1, ?_, ?_⟩
  · cases hu : P.underlying t2 with
    | none => simp [hu] at h2
    | some u => exact ⟨u, rfl, fun k hk => by subst hk; simp [hu] at h2⟩
  · cases hi : P.info? e with
    | none => simp [hi] at h3
    | some i =>
      cases hz : i.zero with
      | none => simp [hi, hz] at h3
      | some z =>
        simp [hi, hz] at h3
        exact ⟨i, z, rfl, hz, by omega, h3.2.1, h3.2.2, by omega⟩

section mem
variable {md : Md} {P : Program} {opsA : Array Oper} {rest : List Oper} {Q : Exit → Act → World → Prop} {a : Act} {w w0 : World} {h0 : View} {M : List Nat} {O : List OE} {F : View → Prop} {n : Nat} {L : FL}
variable {op : Op} {d : Option Nat} {ty t t2 T e : TypeId} {pos : String} {af : Array Edge} {g : Option (Nat × Bool)} {x y : Operand}

theorem St.newNil (hS : St w0 h0 M w O F) (T : TypeId) (sz : Nat) : St w0 h0 M w (bufE T sz (.slice none 0 0) [] :: O) F :=
  ⟨hS.keep, hS.vw, fun e he => by
    rcases List.mem_cons.1 he with rfl | he
    · exact .inl ⟨rfl, rfl⟩
    · exact hS.own e he, fun b hb => hS.fresh b (by simpa [ids, bufE, Value.ownBlock] using hb), by simpa [ids, bufE, Value.ownBlock] using hS.nd, hS.mono, by simpa [ids, bufE, Value.ownBlock] using hS.facts⟩

theorem s_append {dd i sz m bytes : Nat} {v yv : Value} {xs news : List Value} (hF : Fr a n L) (hS : St w0 h0 M w O F) (hi : O[i]? = some (bufE e sz v xs)) (hT : AppT P t t2 e sz bytes)
    (hx : ev L x = some v) (hy : ev L y = some yv) (hsrc : Src P w yv sz m news) (hb : (xs.length + news.length) * (bytes + 1) ≤ 140737488355328) (hd : Nat.blt dd n = true)
    (k : ∀ a0 nn c w' a, nn * sz = xs.length + news.length → St w0 h0 M w' (O.set i (bufE e sz (.slice a0 nn c) (xs ++ news))) F → Fr a n ((dd, .val (.slice a0 nn c)) :: L) → wpM md P opsA Q rest a w') :
    wpM md P opsA Q (⟨some dd, .call ⟨.builtin .append, #[x, y], #[t, t2]⟩, ty, pos, af, none⟩ :: rest) a w := by
  obtain ⟨ht, ⟨u2, hu2, hu2'⟩, inf, z, hinf, hz, hzs, rfl, rfl, hsz⟩ := hT
  have hown := hS.own _ (List.mem_of_getElem? hi)
  have hml : xs.length + news.length ≤ maxLen := by
    have : xs.length + news.length ≤ (xs.length + news.length) * (inf.bytes + 1) := Nat.le_mul_of_pos_right _ (by omega)
    simp only [maxLen]; omega
  have hby : (xs.length + news.length) * inf.bytes ≤ 140737488355328 := Nat.le_trans (Nat.mul_le_mul_left _ (by omega)) hb
  obtain ⟨v', w', hr, hB, hk, hid, a0, nn, c, rfl, hnn⟩ := run_append_gen (P := P) w t t2 ty e inf z u2 ht hu2 hu2' hinf hz hzs v yv xs _ rfl hown m news hsrc.cells (hsrc.len w) hsrc.fst hsrc.one hsz hml hby
  have hrun : Ds P L ⟨some dd, .call ⟨.builtin .append, #[x, y], #[t, t2]⟩, ty, pos, af, none⟩ w fun u w2 => u = .slice a0 nn c ∧ w2 = w' := by
    intro ρ hρ
    unfold Does
    have : (execOp ρ ⟨some dd, .call ⟨.builtin .append, #[x, y], #[t, t2]⟩, ty, pos, af, none⟩).run P w = .ok (.value (.slice a0 nn c)) w' := by
      simp only [execOp, resolve, invoke, builtin, List.map_toArray, List.map_cons, List.map_nil, hρ x (by simp [Op.operands, Call.operands]) _ hx, hρ y (by simp [Op.operands, Call.operands]) _ hy, Sem.run_bind, Sem.run_pure, Result.andThen_ok, hr]
    rw [this]
    exact ⟨rfl, rfl⟩
  refine s_ds hF hrun hd ?_
  rintro u w2 a2 ⟨rfl, rfl⟩ hF'
  exact k _ _ _ _ _ hnn (hS.regrow hi hk hB (hid.imp id .inr)) hF'

/-- a buffer's cells, read -/
theorem buf_cell {sz j : Nat} {g off nn c : Nat} {xs : List Value} (h : BufC T sz (.slice (some ⟨g, off, none⟩) nn c) xs w.heap[g]?) (hj : j < xs.length) : w.cell? ⟨g, off + j, none⟩ = xs[j]? := by
  rcases h with ⟨h, _⟩ | ⟨g', off', n', cap', cur, fz, h, ho, _, h2, h3, h4, h5, h6⟩
  · cases h
  · cases h
    have : w.cell? ⟨g, off + j, none⟩ = cur[off + j]? := by simp [World.cell?, ho]
    rw [this, ← h6, List.getElem?_take, if_pos (by omega)]
    simp
theorem buf_src {i sz : Nat} {v : Value} {xs : List Value} (hS : St w0 h0 M w O F) (hi : O[i]? = some (bufE e sz v xs)) (h1 : ∀ u ∈ xs, u.oneCell' = true) : ∃ m, Src P w v sz m xs := by
  have hown := hS.own _ (List.mem_of_getElem? hi)
  rcases hown with ⟨h, hx⟩ | ⟨g', off', n', cap', cur, fz, h, ho, _, h2, h3, h4, h5, h6⟩
  · subst hx
    have : v = .slice none 0 0 := h
    subst this
    exact ⟨0, Src.nil⟩
  · have hv : v = .slice (some ⟨g', off', none⟩) n' cap' := h
    subst hv
    exact ⟨n', Src.row (by simpa [bufE, Value.ownBlock] using ho) h2 h6 h1⟩

/-! conversions -/
theorem run_tostr {l : List UInt8} {a0 : Option Addr} {nn c : Nat} (hsrc : Src P w (.slice a0 nn c) 1 l.length (l.map v8)) : (Conv.bytesToString (.slice a0 nn c)).run P w = .ok (vs l) w := by
  have hn : nn = l.length := by
    have := hsrc.len w
    simpa [Builtin.lenOf] using this
  subst hn
  have h := hsrc.fst w rfl
  cases a0 with
  | none =>
    simp [Builtin.firstCells] at h
    subst h
    simp [Conv.bytesToString]
    rfl
  | some ad =>
    simp only [Builtin.firstCells, Nat.mul_one] at h
    have e : (l.map v8).toArray = ((l.map fun b => (b.toNat : Int)).map (Value.int .u8)).toArray := by simp
    rw [e] at h
    have := run_bytesToString (P := P) w ad l.length c (l.map fun b => (b.toNat : Int)) h
    rw [this]
    congr 2
    have key : ∀ (l : List UInt8) (acc : List UInt8), (l.map fun b => (b.toNat : Int)).foldl (fun r n => r.push (UInt8.ofNat n.toNat)) (ByteArray.mk acc.toArray) = ⟨(acc ++ l).toArray⟩ := by
      intro l
      induction l with
      | nil => intro acc; simp
      | cons b l ih =>
        intro acc
        have e1 : (ByteArray.mk acc.toArray).push (UInt8.ofNat (b.toNat : Int).toNat) = ⟨(acc ++ [b]).toArray⟩ := by
          apply ByteArray.ext
          simp [ByteArray.push]
        simp only [List.map_cons, List.foldl_cons, e1, ih (acc ++ [b])]
        simp
    exact key l []
theorem pu_tostr {l : List UInt8} {v : Value} {a0 : Option Addr} {nn c : Nat} (ht : P.underlying t = some (.slice e)) (he : P.underlying e = some (.int .u8)) (ht2 : P.underlying t2 = some .string) (hx : ev L x = some v) (hv : v = .slice a0 nn c)
    (hsrc : Src P w v 1 l.length (l.map v8)) : Pu P L ⟨d, .convert t t2 x, ty, pos, af, g⟩ w (vs l) := by
  intro ρ hρ
  subst hv
  have := run_tostr hsrc
  simp only [execOp, hρ x (by simp [Op.operands]) _ hx, convert, Sem.run_bind, run_underlying ht, run_underlying ht2, run_underlying he, Result.andThen_ok, this, Sem.run_pure]
end mem
end Go.Dx
