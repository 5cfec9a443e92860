/- Laws of one step of a walk, and of what memory holds. No condition beyond what each names. -/
import Derived.Test.YtopbpdgnjnoddaaDoorDxP
import Derived.Scope
set_option linter.unusedSimpArgs false
set_option linter.unusedVariables false
namespace Go.Dx
open Go Go.RowKit

section control
variable {md : Md} {P : Program} {Q : Exit → Act → World → Prop} {a : Act} {w : World}
theorem c_scope {c : Code} (h : codeM .wp P c (Exit.noGoto Q) a w) : codeM .wp P (Code.scope c) Q a w := wp_scope_straight h
theorem c_label {l : Nat} (h : Q .normal a w) : codeM .wp P (Code.label l) Q a w := wp_label h
theorem n_scope (h : Q .normal a w) : Exit.noGoto Q .normal a w := h
theorem r_scope (h : Q .ret a w) : Exit.noGoto Q .ret a w := h
theorem x_scope {i : Nat} (h : Q (.exit i) a w) : Exit.noGoto Q (.exit i) a w := h
end control

section mem
variable {md : Md} {P : Program} {opsA : Array Oper} {rest : List Oper} {Q : Exit → Act → World → Prop} {a : Act} {w w0 : World} {h0 : View} {M : List Nat} {O : List OE} {F : View → Prop} {n : Nat} {L : FL}
variable {op : Op} {d : Option Nat} {ty t t2 T e : TypeId} {pos : String} {af : Array Edge} {g : Option (Nat × Bool)} {x y : Operand}

/-- a call of a function value -/
theorem ds_callF {f : FuncId} {args : List Operand} {vsl first cap : List Value} {ats : Array TypeId} {Post : VP} (hc : CallOk P f) (hx : ev L x = some (.func (.func f) first.toArray cap.toArray)) (ha : evs L args = some vsl)
    (H : Calls P f (first ++ vsl ++ cap).toArray w fun e w' => ∃ v, e = .returned v ∧ Post v w') : Ds P L ⟨d, .call ⟨.value x, args.toArray, ats⟩, ty, pos, af, g⟩ w Post := by
  intro ρ hρ
  have hm := evs_map args vsl ha fun x hx u hu => hρ x (by simp [Op.operands, Call.operands, hx]) u hu
  have hf : ρ x = .func (.func f) first.toArray cap.toArray := hρ x (by simp [Op.operands, Call.operands]) _ hx
  unfold Does
  have : (execOp ρ ⟨d, .call ⟨.value x, args.toArray, ats⟩, ty, pos, af, g⟩).run P w = .ok (.enter f (first ++ vsl ++ cap).toArray) w := by
    simp only [execOp, resolve, List.map_toArray, hm, hf, Deferred.ofValue, Sem.run_bind, Sem.run_pure, Result.andThen_ok, invoke, List.append_toArray]
    exact run_call hc
  rw [this]
  exact H
theorem s_callF {dd : Nat} {f : FuncId} {args : List Operand} {vsl first cap : List Value} {ats : Array TypeId} {v : Value} {h : View} (hF : Fr a n L) (hS : St w0 h0 M w O F) (hc : CallOk P f) (hx : ev L x = some (.func (.func f) first.toArray cap.toArray)) (ha : evs L args = some vsl)
    (H : Calls P f (first ++ vsl ++ cap).toArray w (Ret w h fun u _ => u = v)) (hd : Nat.blt dd n = true)
    (k : ∀ w' a, St w0 h0 M w' O F → Fr a n ((dd, .val v) :: L) → wpM md P opsA Q rest a w') :
    wpM md P opsA Q (⟨some dd, .call ⟨.value x, args.toArray, ats⟩, ty, pos, af, none⟩ :: rest) a w := by
  refine s_ds hF (ds_callF (Post := fun u w' => u = v ∧ St w0 h0 M w' O F) hc hx ha (H.mono ?_)) hd ?_
  · rintro e w' ⟨u, rfl, hk, hv⟩; exact ⟨u, rfl, hv, hS.step hk⟩
  · rintro u w' a' ⟨rfl, hS'⟩ hF'; exact k w' a' hS' hF'
theorem pu_mkfunc {fn : Fn} {cs : List Operand} {vsl : List Value} (ha : evs L cs = some vsl) : Pu P L ⟨d, .makeFunc fn #[] cs.toArray, ty, pos, af, g⟩ w (.func fn #[] vsl.toArray) := by
  intro ρ hρ
  have hm := evs_map cs vsl ha fun x hx u hu => hρ x (by simp [Op.operands, hx]) u hu
  simp only [execOp, Instr.makeFunc, List.map_toArray, hm, Sem.run_bind, Sem.run_pure, Result.andThen_ok]
  rfl

/-- a call by its whole post -/
theorem s_callG {dd : Nat} {Ψ : Value → World → Prop} {f : FuncId} {args : List Operand} {vsl : List Value} {ats : Array TypeId} (hF : Fr a n L) (hc : CallOk P f) (ha : evs L args = some vsl)
    (H : Calls P f vsl.toArray w (RetM M w Ψ)) (hd : Nat.blt dd n = true)
    (k : ∀ v w' a, Keep M w w' → Ψ v w' → Fr a n ((dd, .val v) :: L) → wpM md P opsA Q rest a w') :
    wpM md P opsA Q (⟨some dd, .call ⟨.value (.func f), args.toArray, ats⟩, ty, pos, af, none⟩ :: rest) a w := by
  refine s_ds hF (ds_call (Post := fun u w' => Keep M w w' ∧ Ψ u w') hc ha (H.mono ?_)) hd ?_
  · rintro e w' ⟨u, rfl, hk, hv⟩; exact ⟨u, rfl, hk, hv⟩
  · rintro u w' a' ⟨hk, hv⟩ hF'; exact k u w' a' hk hv hF'
theorem St.addBuf {sz : Nat} {xs : List Value} {v : Value} {w' : World} (hS : St w0 h0 M w O F) (hk : Keep [] w w') (hB : NewBuf w T sz xs v w') : St w0 h0 M w' (bufE T sz v xs :: O) F := by
  obtain ⟨hB, hfr⟩ := hB
  refine hS.upds hk (by simp) (fun x hx => ?_) (fun q hq => ?_) ?_
  · rcases List.mem_cons.1 hx with rfl | hx
    · exact hB
    · exact hS.still hk hx (by simp)
  · obtain ⟨e, he, he2⟩ := List.mem_filterMap.1 hq
    rcases List.mem_cons.1 he with rfl | he
    · exact .inr (hfr _ he2)
    · exact .inl (List.mem_filterMap.2 ⟨e, he, he2⟩)
  · cases h : (bufE T sz v xs).1 with
    | none =>
      have : ids (bufE T sz v xs :: O) = ids O := by simp [ids, h]
      rw [this]; exact hS.nd
    | some b =>
      have : ids (bufE T sz v xs :: O) = b :: ids O := by simp [ids, h]
      rw [this]
      exact List.nodup_cons.2 ⟨fun hm => by have := (hS.fresh b hm).2; have := (hfr b h).1; omega, hS.nd⟩
theorem NewBuf.nil {sz : Nat} {w' : World} : NewBuf w T sz [] (.slice none 0 0) w' := ⟨.inl ⟨rfl, rfl⟩, fun b hb => by cases hb⟩
theorem St.addRow {cs : List Value} {b : Nat} {w' : World} (hS : St w0 h0 M w O F) (hk : Keep [] w w') (hb : NewRow w T cs b w') : St w0 h0 M w' ((some b, CellsC T cs) :: O) F := by
  refine hS.upds hk (by simp) (fun x hx => ?_) (fun c hc => ?_) ?_
  · rcases List.mem_cons.1 hx with rfl | hx
    · exact hb.2
    · exact hS.still hk hx (by simp)
  · have hc' : c = b ∨ c ∈ ids O := by simpa [ids] using hc
    rcases hc' with rfl | hc'
    · exact .inr ⟨hb.1, (Array.getElem?_eq_some_iff.1 hb.2).1⟩
    · exact .inl hc'
  · show (b :: ids O).Nodup
    exact List.nodup_cons.2 ⟨fun hm => by have := (hS.fresh b hm).2; have := hb.1; omega, hS.nd⟩
theorem NewBuf.form {sz : Nat} {xs : List Value} {v : Value} {w' : World} (hB : NewBuf w T sz xs v w') : ∃ a0 nn c, v = .slice a0 nn c ∧ nn * sz = xs.length := by
  rcases hB.1 with ⟨h1, h2⟩ | ⟨g, off, n', c', cur, fz, h1, _, _, h2, _⟩
  · exact ⟨none, 0, 0, h1, by simp [h2]⟩
  · exact ⟨_, n', c', h1, h2.symm⟩
/-- a whole buffer, read as a list -/
theorem BufC.sl {sz nn c : Nat} {a0 : Option Addr} {α : Type} {f : α → List Value} {l : List α} {h : View} {o : Option Obj} (hB : BufC T sz (.slice a0 nn c) (l.map f).flatten o)
    (hg : ∀ b, (Value.slice a0 nn c).ownBlock = some b → h b = o) (hf : ∀ x ∈ l, (f x).length = sz) (hn : nn = l.length) : SlC T sz (flatR f) h (.slice a0 nn c) l := by
  rcases hB with ⟨h1, h2⟩ | ⟨g', off, n', cap', cur, fz, h1, ho, _, h2, h3, h4, h5, h6⟩
  · cases h1
    have : l = [] := List.length_eq_zero_iff.1 hn.symm
    subst this
    exact SlC.nil (by simp [maxLen])
  · cases h1
    have hgo : h g' = some (.cells cur T fz) := by rw [hg g' rfl, ho]
    exact SlC.ofRow hf hgo hn h3 h4 h6
theorem St.bufSl {i sz nn c : Nat} {a0 : Option Addr} {α : Type} {f : α → List Value} {l : List α} (hS : St w0 h0 M w O F) (hi : O[i]? = some (bufE T sz (.slice a0 nn c) (l.map f).flatten)) (hf : ∀ x ∈ l, (f x).length = sz) (hn : nn = l.length) : SlC T sz (flatR f) (Full w) (.slice a0 nn c) l := by
  refine BufC.sl (hS.own _ (List.mem_of_getElem? hi)) (fun b hb => ?_) hf hn
  rw [show (bufE T sz (Value.slice a0 nn c) (l.map f).flatten).1 = (Value.slice a0 nn c).ownBlock from rfl, hb]; rfl
end mem
/-! a guard that was not asked -/
def gdUn (ops : Array Oper) (L : FL) (j : Nat) : Prop := ∃ o t, ops[j]? = some o ∧ o.dst = some t ∧ vl (lk L t) = some undef
section un
variable {md : Md} {P : Program} {ops rest : List Oper} {opsA : Array Oper} {Q : Exit → Act → World → Prop} {C : World → Prop} {R : World → World → Prop} {Qf : SP → (Nat → VP) → Prop} {Γ : Nat → VP} {a : Act} {w : World} {n : Nat} {L : FL} {op : Op} {ty : TypeId} {pos : String} {af : Array Edge}
theorem yielded_un {j : Nat} (h : ∃ o t, opsA[j]? = some o ∧ o.dst = some t ∧ a.tmps.getD t undef = undef) : yielded opsA a.tmps j = none := by
  obtain ⟨o, t, ho, ht, hv⟩ := h
  unfold yielded
  simp only [ho, Option.bind_some, ht]
  cases h : a.tmps[t]? with
  | none => rfl
  | some x =>
    have : x = undef := by simpa [h] using hv
    subst this; rfl
theorem g_noU {d j : Nat} {c : Bool} (hF : Fr a n L) (hg : gdUn opsA L j) (hd : Nat.blt d n = true)
    (k : ∀ a, Fr a n ((d, .val undef) :: L) → wpM md P opsA Q rest a w) : wpM md P opsA Q (⟨some d, op, ty, pos, af, some (j, c)⟩ :: rest) a w := by
  refine wpM_step fun K hK => ?_
  have hy : yielded opsA a.tmps j = none := by
    obtain ⟨o, t, ho, ht, hv⟩ := hg
    exact yielded_un ⟨o, t, ho, ht, hF.at_ t _ hv⟩
  have : Region.wanted ⟨some d, op, ty, pos, af, some (j, c)⟩ (yielded opsA a.tmps) = false := by simp [Region.wanted, hy]
  rw [this]
  simp only [Bool.false_eq_true, if_false]
  exact hK _ _ (k _ (hF.put hd undef))
theorem tg_noU {d j : Nat} {c : Bool} (hG : GF Γ L) (hg : gdUn opsA L j)
    (k : ∀ Γ, GF Γ ((d, .val undef) :: L) → TyW P opsA C R Qf rest Γ) : TyW P opsA C R Qf (⟨some d, op, ty, pos, af, some (j, c)⟩ :: rest) Γ := by
  refine tyw_no (fun u _ => u = undef) (fun _ _ _ _ _ h => h) (fun a w hC hs => ?_) (k _ (hG.set d undef fun _ _ h => h))
  have hy : yielded opsA a.tmps j = none := by
    obtain ⟨o, t, ho, ht, hv⟩ := hg
    refine yielded_un ⟨o, t, ho, ht, ?_⟩
    have hmem : t ∈ Oper.looksAt opsA ⟨some d, op, ty, pos, af, some (j, c)⟩ := by
      unfold Oper.looksAt
      refine List.mem_append_right _ ?_
      simp [ho, ht]
    have h1 := hG t
    cases hl : lk L t with
    | none => simp [hl, vl] at hv
    | some e =>
      cases e with
      | val v =>
        rw [hl] at h1
        have h3 : v = undef := by simpa [hl, vl] using hv
        exact (h1 _ _ (hs t hmem)).trans h3
      | prd Φ => simp [hl, vl] at hv
  have : Region.wanted ⟨some d, op, ty, pos, af, some (j, c)⟩ (yielded opsA a.tmps) = false := by simp [Region.wanted, hy]
  rw [this]
  simp
end un
end Go.Dx
