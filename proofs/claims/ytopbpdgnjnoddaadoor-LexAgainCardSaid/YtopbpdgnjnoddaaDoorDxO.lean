/- Laws of one step of a walk, and of what memory holds. No condition beyond what each names. -/
import Derived.Test.YtopbpdgnjnoddaaDoorDxN
import Derived.Laws.IdiomStrings
set_option linter.unusedSimpArgs false
set_option linter.unusedVariables false
namespace Go.Dx
open Go Go.RowKit

section mem
variable {md : Md} {P : Program} {opsA : Array Oper} {rest : List Oper} {Q : Exit → Act → World → Prop} {a : Act} {w w0 : World} {h0 : View} {M : List Nat} {O : List OE} {F : View → Prop} {n : Nat} {L : FL}
variable {op : Op} {d : Option Nat} {ty t t2 T e : TypeId} {pos : String} {af : Array Edge} {g : Option (Nat × Bool)} {x y : Operand}

theorem keep_drawalloc (w : World) (o : Obj) : Keep [] w (w.drew.alloc o) := ⟨rfl, rfl, rfl, by simp, fun k hk _ => Below.heap_alloc w.drew _ k hk⟩

/-- the bytes of a string: a buffer of the call's own -/
theorem s_bytes {dd : Nat} {l : List UInt8} (hF : Fr a n L) (hS : St w0 h0 M w O F) (ht : P.underlying t = some .string) (ht2 : P.underlying t2 = some (.slice e)) (he : P.underlying e = some (.int .u8)) (hx : ev L x = some (vs l)) (hl : l.length ≤ maxLen) (hd : Nat.blt dd n = true)
    (k : ∀ b c w' a, St w0 h0 M w' (bufE e 1 (.slice (some ⟨b, 0, none⟩) l.length c) (l.map v8) :: O) F → Fr a n ((dd, .val (.slice (some ⟨b, 0, none⟩) l.length c)) :: L) → wpM md P opsA Q rest a w') :
    wpM md P opsA Q (⟨some dd, .convert t t2 x, ty, pos, af, none⟩ :: rest) a w := by
  have hsz : (⟨l.toArray⟩ : ByteArray).size = l.length := by simp [ByteArray.size]
  have hge := grownCap_ge w l.length 0 e
  have hcm : grownCap w l.length 0 e ≤ maxLen := grownCap_le_maxLen w l.length 0 e hl
  refine s_ds hF (Post := fun v w' => ∃ b c, v = .slice (some ⟨b, 0, none⟩) l.length c ∧ St w0 h0 M w' (bufE e 1 (.slice (some ⟨b, 0, none⟩) l.length c) (l.map v8) :: O) F) ?_ hd ?_
  · intro ρ hρ
    have := run_bytes_of_string (P := P) w t t2 e ⟨l.toArray⟩ ht ht2 he
    rw [hsz] at this
    unfold Does
    simp only [execOp, hρ x (by simp [Op.operands]) _ hx, vs, Sem.run_bind, this, Result.andThen_ok, Sem.run_pure]
    refine ⟨_, _, rfl, ?_⟩
    have hS1 : St w0 h0 M w.drew O F := hS.step ⟨rfl, rfl, rfl, Nat.le_refl _, fun _ _ _ => rfl⟩
    refine hS1.new _ (.inr ⟨w.heap.size, 0, l.length, grownCap w l.length 0 e, _, _, rfl, rfl, noFz_past _ _, by simp, hge, hcm, ?_, ?_⟩)
    · simp [bytesRow, hsz]; omega
    · simp [bytesRow, v8]
  · rintro v w' a' ⟨b, c, rfl, hS'⟩ hF'
    exact k b c w' a' hS' hF'
/-- a buffer that a call made -/
def NewBuf (w : World) (T : TypeId) (sz : Nat) (xs : List Value) (v : Value) (w' : World) : Prop :=
  BufC T sz v xs (v.ownBlock.bind fun b => w'.heap[b]?) ∧ ∀ b, v.ownBlock = some b → w.heap.size ≤ b ∧ b < w'.heap.size
theorem St.newBuf {i sz : Nat} {xs : List Value} {v : Value} (hS : St w0 h0 [] w O F) (hi : O[i]? = some (bufE T sz v xs)) : NewBuf w0 T sz xs v w :=
  ⟨hS.own _ (List.mem_of_getElem? hi), fun b hb => by
    have hm : b ∈ ids O := List.mem_filterMap.2 ⟨_, List.mem_of_getElem? hi, hb⟩
    exact ⟨(hS.fresh b hm).1.resolve_right (by simp), (hS.fresh b hm).2⟩⟩
/-- a call that hands back a new buffer -/
theorem s_callB {dd sz : Nat} {xs : List Value} {f : FuncId} {args : List Operand} {vsl : List Value} {ats : Array TypeId} (hF : Fr a n L) (hS : St w0 h0 M w O F) (hc : CallOk P f) (ha : evs L args = some vsl)
    (H : Calls P f vsl.toArray w (RetM [] w fun v w' => NewBuf w T sz xs v w')) (hd : Nat.blt dd n = true)
    (k : ∀ a0 nn c w' a, nn * sz = xs.length → St w0 h0 M w' (bufE T sz (.slice a0 nn c) xs :: O) F → Fr a n ((dd, .val (.slice a0 nn c)) :: L) → wpM md P opsA Q rest a w') :
    wpM md P opsA Q (⟨some dd, .call ⟨.value (.func f), args.toArray, ats⟩, ty, pos, af, none⟩ :: rest) a w := by
  refine s_ds hF (ds_call (Post := fun u w' => ∃ a0 nn c, u = .slice a0 nn c ∧ nn * sz = xs.length ∧ St w0 h0 M w' (bufE T sz (.slice a0 nn c) xs :: O) F) hc ha (H.mono ?_)) hd ?_
  · rintro e w' ⟨u, rfl, hk, hB, hfr⟩
    have hform : ∃ a0 nn c, u = .slice a0 nn c ∧ nn * sz = xs.length := by
      rcases hB with ⟨h1, h2⟩ | ⟨g, off, n', c', cur, fz, h1, _, _, h2, _⟩
      · exact ⟨none, 0, 0, h1, by simp [h2]⟩
      · exact ⟨_, n', c', h1, h2.symm⟩
    obtain ⟨a0, nn, c, rfl, hnn⟩ := hform
    refine ⟨_, rfl, a0, nn, c, rfl, hnn, hS.upds hk (by simp) (fun x hx => ?_) (fun q hq => ?_) ?_⟩
    · rcases List.mem_cons.1 hx with rfl | hx
      · exact hB
      · exact hS.still hk hx (by simp)
    · obtain ⟨e, he, he2⟩ := List.mem_filterMap.1 hq
      rcases List.mem_cons.1 he with rfl | he
      · exact .inr (hfr _ he2)
      · exact .inl (List.mem_filterMap.2 ⟨e, he, he2⟩)
    · cases h : (bufE T sz (.slice a0 nn c) xs).1 with
      | none =>
        have : ids (bufE T sz (.slice a0 nn c) xs :: O) = ids O := by simp [ids, h]
        rw [this]; exact hS.nd
      | some b =>
        have : ids (bufE T sz (.slice a0 nn c) xs :: O) = b :: ids O := by simp [ids, h]
        rw [this]
        exact List.nodup_cons.2 ⟨fun hm => by have := (hS.fresh b hm).2; have := (hfr b h).1; omega, hS.nd⟩
  · rintro u w' a' ⟨a0, nn, c, rfl, hnn, hS'⟩ hF'; exact k a0 nn c w' a' hnn hS' hF'
/-- typed: a call with a view of one's own choice -/
theorem t_calld {opsT : Array Oper} {R : World → World → Prop} [hR : Rel R] {Qf : SP → (Nat → VP) → Prop} {Γ : Nat → VP} {dd : Nat} {f : FuncId} {args : List Operand} {vsl : List Value} {ats : Array TypeId} {v : Value} (hG : GF Γ L) (hc : CallOk P f) (ha : evs L args = some vsl)
    (H : ∀ w', St w0 h0 M w' O F → ∃ h, Calls P f vsl.toArray w' (Ret w' h fun u _ => u = v))
    (k : ∀ Γ, GF Γ ((dd, .val v) :: L) → TyW P opsT (CR R w w0 h0 M O F) R Qf rest Γ) :
    TyW P opsT (CR R w w0 h0 M O F) R Qf (⟨some dd, .call ⟨.value (.func f), args.toArray, ats⟩, ty, pos, af, none⟩ :: rest) Γ := by
  refine t_ds hG (fun w1 hC => ?_) k
  obtain ⟨h, H⟩ := H w1 (hC.st)
  refine ds_call hc ha (H.mono ?_)
  rintro e w' ⟨u, rfl, hk, rfl⟩
  exact ⟨u, rfl, rfl, hC.step hk, hk⟩
theorem pu_sl_fton {k k' : IntKind} {i j : Int} {p q m : Nat} {z : Operand} {ad : Option Addr} {nn c sz : Nat} (ht : SlT P t e sz) (hx : ev L x = some (.slice ad nn c)) (hy : ev L y = some (.int k i)) (hz : ev L z = some (.int k' j)) (hp : i = (p : Int)) (hq : j = (q : Int)) (hpq : p ≤ q) (hqc : q ≤ c) (hm : q - p = m) :
    Pu P L ⟨d, .slice t x (some y) (some z) none, ty, pos, af, g⟩ w (.slice (if c = p then ad else ad.map (·.add (p * sz))) m (c - p)) := by
  subst hp hq hm
  have := pu_sl_fromto (P := P) (w := w) (d := d) (ty := ty) (pos := pos) (af := af) (g := g) ht hx hy hz (by omega) (by omega) (by omega)
  simpa using this
/-- a part of a buffer, read as a list -/
theorem BufC.part {nn c : Nat} {a0 : Option Addr} {α : Type} {f : α → Value} {l : List α} {h : View} {o : Option Obj} (p q : Nat) {m : Nat} (hB : BufC T 1 (.slice a0 nn c) (l.map f) o)
    (hg : ∀ b, (Value.slice a0 nn c).ownBlock = some b → h b = o) (hpq : p ≤ q) (hq : q ≤ l.length) (hm : q - p = m) : SlC T 1 (flatR fun x => [f x]) h (.slice (if c = p then a0 else a0.map (·.add (p * 1))) m (c - p)) ((l.drop p).take m) := by
  subst hm
  have hle := hB.le
  have hn : nn = l.length := by simpa using hle.1.symm
  have h1 := BufC.slc hB hg (Nat.le_refl l.length)
  rw [List.take_length] at h1
  have h2 := h1.drop (k := p) (by omega)
  exact h2.take (k := q - p) (by rw [List.length_drop]; omega)
theorem St.bufPart {i nn c : Nat} {a0 : Option Addr} {α : Type} {f : α → Value} {l : List α} (p q : Nat) {m : Nat} (hS : St w0 h0 M w O F) (hi : O[i]? = some (bufE T 1 (.slice a0 nn c) (l.map f))) (hpq : p ≤ q) (hq : q ≤ l.length) (hm : q - p = m) :
    SlC T 1 (flatR fun x => [f x]) (Full w) (.slice (if c = p then a0 else a0.map (·.add (p * 1))) m (c - p)) ((l.drop p).take m) := by
  refine BufC.part p q (hS.own _ (List.mem_of_getElem? hi)) (fun b hb => ?_) hpq hq hm
  rw [show (bufE T 1 (Value.slice a0 nn c) (l.map f)).1 = (Value.slice a0 nn c).ownBlock from rfl, hb]; rfl
end mem
end Go.Dx
