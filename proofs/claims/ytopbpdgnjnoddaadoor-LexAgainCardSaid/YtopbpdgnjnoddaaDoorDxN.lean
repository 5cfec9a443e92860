/- Laws of one step of a walk, and of what memory holds. No condition beyond what each names. -/
import Derived.Test.YtopbpdgnjnoddaaDoorDxM
set_option linter.unusedSimpArgs false
set_option linter.unusedVariables false
namespace Go.Dx
open Go Go.RowKit

theorem spl_all {cs new : List Value} (h : cs.length = new.length) : spl cs 0 new = new := by
  unfold spl
  simp [h]
theorem allOne_map {α : Type} (f : α → Value) (hf : ∀ x, oneV (f x) = true) : ∀ l : List α, allOne (l.map f) = true
  | [] => rfl
  | x :: l => by simp [allOne, hf x, allOne_map f hf l]

section mem
variable {md : Md} {P : Program} {opsA : Array Oper} {rest : List Oper} {Q : Exit → Act → World → Prop} {a : Act} {w w0 : World} {h0 : View} {M : List Nat} {O : List OE} {F : View → Prop} {n : Nat} {L : FL}
variable {op : Op} {d : Option Nat} {ty t t2 T e : TypeId} {pos : String} {af : Array Edge} {g : Option (Nat × Bool)} {x y : Operand}

/-- copy into an own row -/
theorem s_copy {dd i b o dl dc m : Nat} {yv : Value} {cs news : List Value} (hF : Fr a n L) (hS : St w0 h0 M w O F) (hi : O[i]? = some (some b, CellsC T cs)) (ht : SlT P t e 1)
    (hx : ev L x = some (.slice (some ⟨b, o, none⟩) dl dc)) (hy : ev L y = some yv) (hsrc : Src P w yv 1 m news) (hm : m ≤ dl) (hfit : o + news.length ≤ cs.length) (hd : Nat.blt dd n = true)
    (k : ∀ w' a, St w0 h0 M w' (O.set i (some b, CellsC T (spl cs o news))) F → Fr a n ((dd, .val (.int .i64 m)) :: L) → wpM md P opsA Q rest a w') :
    wpM md P opsA Q (⟨some dd, .call ⟨.builtin .copy, #[x, y], #[t, t2]⟩, ty, pos, af, none⟩ :: rest) a w := by
  obtain ⟨ht, inf, hinf, hsz⟩ := ht
  have hrun : Ds P L ⟨some dd, .call ⟨.builtin .copy, #[x, y], #[t, t2]⟩, ty, pos, af, none⟩ w fun u w2 => u = .int .i64 m ∧ w2 = w.setRow b (spl cs o news).toArray := by
    intro ρ hρ
    unfold Does
    have hst := run_storeCells_at P b o T news 0 cs.toArray w (hS.at hi) (by simpa using hfit) hsrc.one
    simp only [Nat.add_zero] at hst
    have hfst := hsrc.fst w rfl
    have hlen := hsrc.len w
    have hc : (Builtin.copy_ #[t, t2] ty #[.slice (some ⟨b, o, none⟩) dl dc, yv]).run P w = .ok (.int .i64 m) (w.setRow b (spl cs o news).toArray) := by
      simp [Builtin.copy_, run_underlying ht, hlen, sizeOf, typeInfo, hinf, hsz, Nat.min_eq_left hm, hfst, hst, goInt, spl]
    have : (execOp ρ ⟨some dd, .call ⟨.builtin .copy, #[x, y], #[t, t2]⟩, ty, pos, af, none⟩).run P w = .ok (.value (.int .i64 m)) (w.setRow b (spl cs o news).toArray) := by
      simp only [execOp, resolve, invoke, builtin, List.map_toArray, List.map_cons, List.map_nil, hρ x (by simp [Op.operands, Call.operands]) _ hx, hρ y (by simp [Op.operands, Call.operands]) _ hy, Sem.run_bind, Sem.run_pure, Result.andThen_ok, hc]
    rw [this]
    exact ⟨rfl, rfl⟩
  refine s_ds hF hrun hd ?_
  rintro u w2 a2 ⟨rfl, rfl⟩ hF'
  exact k _ _ (hS.write hi (keep_setRow _ _ _) (setRow_heap w b _ _ T _ (hS.at hi))) hF'

/-- a call that hands back a new block -/
theorem s_callN {dd : Nat} {cs : List Value} {f : FuncId} {args : List Operand} {vsl : List Value} {ats : Array TypeId} (hF : Fr a n L) (hS : St w0 h0 M w O F) (hc : CallOk P f) (ha : evs L args = some vsl)
    (H : Calls P f vsl.toArray w (RetM [] w fun v w' => ∃ b, v = .pointer (some ⟨b, 0, none⟩) ∧ NewRow w T cs b w')) (hd : Nat.blt dd n = true)
    (k : ∀ b w' a, St w0 h0 M w' ((some b, CellsC T cs) :: O) F → Fr a n ((dd, .val (.pointer (some ⟨b, 0, none⟩))) :: L) → wpM md P opsA Q rest a w') :
    wpM md P opsA Q (⟨some dd, .call ⟨.value (.func f), args.toArray, ats⟩, ty, pos, af, none⟩ :: rest) a w := by
  refine s_ds hF (ds_call (Post := fun u w' => ∃ b, u = .pointer (some ⟨b, 0, none⟩) ∧ St w0 h0 M w' ((some b, CellsC T cs) :: O) F) hc ha (H.mono ?_)) hd ?_
  · rintro e w' ⟨u, rfl, hk, b, rfl, hb⟩
    refine ⟨_, rfl, b, rfl, hS.upds hk (by simp) (fun x hx => ?_) (fun c hc => ?_) ?_⟩
    · rcases List.mem_cons.1 hx with rfl | hx
      · exact hb.2
      · exact hS.still hk hx (by simp)
    · have hc' : c = b ∨ c ∈ ids O := by simpa [ids] using hc
      rcases hc' with rfl | hc'
      · exact .inr ⟨hb.1, (Array.getElem?_eq_some_iff.1 hb.2).1⟩
      · exact .inl hc'
    · show (b :: ids O).Nodup
      exact List.nodup_cons.2 ⟨fun hm => by have := (hS.fresh b hm).2; have := hb.1; omega, hS.nd⟩
  · rintro u w' a' ⟨b, rfl, hS'⟩ hF'; exact k b w' a' hS' hF'

theorem ids_app (A B : List OE) : ids (A ++ B) = ids A ++ ids B := by simp [ids]
theorem ids_one (e : OE) : ids [e] = e.1.toList := by cases h : e.1 <;> simp [ids, h]
theorem St.upd2 {w' : World} {pre : List OE} {b : Nat} {C C' : Option Obj → Prop} {e2 e2' : OE} (hS : St w0 h0 M w (pre ++ [(some b, C), e2]) F) (hk : Keep (b :: e2.1.toList) w w') (hC : C' w'.heap[b]?) (he : e2'.2 (e2'.1.bind fun b => w'.heap[b]?))
    (hid : ∀ g, e2'.1 = some g → g ≠ b ∧ (e2.1 = some g ∨ w.heap.size ≤ g ∧ g < w'.heap.size)) : St w0 h0 M w' (pre ++ [(some b, C'), e2']) F := by
  have e1 : ids (pre ++ [(some b, C), e2]) = ids pre ++ (b :: e2.1.toList) := by rw [ids_app]; congr 1
  have e1' : ids (pre ++ [(some b, C'), e2']) = ids pre ++ (b :: e2'.1.toList) := by rw [ids_app]; congr 1
  have hnd := hS.nd
  rw [e1, List.nodup_append] at hnd
  obtain ⟨n1, n2, n3⟩ := hnd
  refine hS.upds hk (fun c hc => by rw [e1]; exact List.mem_append_right _ hc) (fun x hx => ?_) (fun c hc => ?_) ?_
  · rcases List.mem_append.1 hx with hx | hx
    · refine hS.still hk (List.mem_append_left _ hx) fun c hc hm => ?_
      exact n3 c (List.mem_filterMap.2 ⟨x, hx, hc⟩) c hm rfl
    · have : x = (some b, C') ∨ x = e2' := by simpa using hx
      rcases this with rfl | rfl
      · exact hC
      · exact he
  · rw [e1'] at hc
    rcases List.mem_append.1 hc with hc | hc
    · left; rw [e1]; exact List.mem_append_left _ hc
    · rcases List.mem_cons.1 hc with rfl | hc
      · left; rw [e1]; exact List.mem_append_right _ (by simp)
      · have hg : e2'.1 = some c := by simpa using hc
        rcases (hid c hg).2 with h | h
        · left; rw [e1]; exact List.mem_append_right _ (by simp [h])
        · exact .inr h
  · rw [e1', List.nodup_append]
    refine ⟨n1, ?_, fun x hx y hy hxy => ?_⟩
    · cases hg : e2'.1 with
      | none => simp
      | some g => simp [Ne.symm (hid g hg).1]
    · subst hxy
      rcases List.mem_cons.1 hy with rfl | hy
      · exact n3 x hx x (by simp) rfl
      · have hg : e2'.1 = some x := by simpa using hy
        rcases (hid x hg).2 with h | h
        · exact n3 x hx x (by simp [h]) rfl
        · have := (hS.fresh x (by rw [e1]; exact List.mem_append_left _ hx)).2; omega

/-- an own block is given up -/
theorem ids_erase (O : List OE) (i : Nat) : (∀ b ∈ ids (O.eraseIdx i), b ∈ ids O) ∧ ((ids O).Nodup → (ids (O.eraseIdx i)).Nodup) := by
  induction O generalizing i with
  | nil => simp [ids]
  | cons x O ih =>
    match i with
    | 0 =>
      cases hx : x.1 with
      | none => simp [ids, hx]
      | some y =>
        have e1 : ids (x :: O) = y :: ids O := by simp [ids, hx]
        rw [List.eraseIdx_cons_zero, e1]
        exact ⟨fun b hb => List.mem_cons_of_mem _ hb, fun h => (List.nodup_cons.1 h).2⟩
    | i + 1 =>
      obtain ⟨g1, g2⟩ := ih i
      cases hx : x.1 with
      | none =>
        have e1 : ids (x :: O) = ids O := by simp [ids, hx]
        have e2 : ids (x :: O.eraseIdx i) = ids (O.eraseIdx i) := by simp [ids, hx]
        rw [List.eraseIdx_cons_succ, e1, e2]
        exact ⟨g1, g2⟩
      | some y =>
        have e1 : ids (x :: O) = y :: ids O := by simp [ids, hx]
        have e2 : ids (x :: O.eraseIdx i) = y :: ids (O.eraseIdx i) := by simp [ids, hx]
        rw [List.eraseIdx_cons_succ, e1, e2]
        refine ⟨fun b hb => ?_, fun h => List.nodup_cons.2 ⟨fun hm => (List.nodup_cons.1 h).1 (g1 _ hm), g2 (List.nodup_cons.1 h).2⟩⟩
        rcases List.mem_cons.1 hb with rfl | hb
        · simp
        · exact List.mem_cons_of_mem _ (g1 b hb)
theorem St.forget (hS : St w0 h0 M w O F) (i : Nat) : St w0 h0 M w (O.eraseIdx i) F := by
  obtain ⟨g1, g2⟩ := ids_erase O i
  exact ⟨hS.keep, hS.vw, fun e he => hS.own e (List.mem_of_mem_eraseIdx he), fun b hb => hS.fresh b (g1 b hb), g2 hS.nd, hS.mono,
    hS.mono _ _ (cv_le (J := []) _ _ (Keep.refl [] w) (by simp) (fun c hc => .inl (g1 c hc)) hS.keep.size) hS.facts⟩

/-! buffers, read as lists -/
theorem BufC.slc {k nn c : Nat} {a0 : Option Addr} {α : Type} {f : α → Value} {l : List α} {h : View} {o : Option Obj} (hB : BufC T 1 (.slice a0 nn c) (l.map f) o)
    (hg : ∀ b, (Value.slice a0 nn c).ownBlock = some b → h b = o) (hk : k ≤ l.length) : SlC T 1 (flatR fun x => [f x]) h (.slice a0 k c) (l.take k) := by
  have hlen : (l.take k).length = k := by simp; omega
  rcases hB with ⟨h1, h2⟩ | ⟨g', off, n', cap', cur, fz, h1, ho, _, h2, h3, h4, h5, h6⟩
  · cases h1
    have hl : l = [] := by simpa using h2
    subst hl
    have : k = 0 := by simpa using hk
    subst this
    exact ⟨none, 0, rfl, by simp, by simp [maxLen], fun h => absurd rfl h⟩
  · cases h1
    have hn : l.length = nn := by simpa using h2
    have hgg := hg g' rfl
    have := SlC.ofRow (T := T) (sz := 1) (h := h) (l := l.take k) (f := fun x => [f x]) (fun _ _ => rfl) (g := g') (off := off) (n := k) (cap := c) (arr := cur) (fz := fz) (by rw [hgg, ho]) hlen.symm (by omega) h4 (by
      have h7 : (List.take k (List.drop off cur.toList)) = (l.map f).take k := by
        rw [← h6, List.take_take, Nat.mul_one, Nat.min_eq_left (by omega)]
      rw [Nat.mul_one, h7, ← List.map_take]
      generalize l.take k = q
      induction q with
      | nil => rfl
      | cons x q ih => simp [ih])
    exact this
theorem BufC.drop {nn c k : Nat} {a0 : Option Addr} {α : Type} {f : α → Value} {l : List α} {o : Option Obj} (hB : BufC T 1 (.slice a0 nn c) (l.map f) o) (hk : k ≤ l.length) (h0 : 0 < k) :
    BufC T 1 (.slice (if c = k then a0 else a0.map (·.add (k * 1))) (nn - k) (c - k)) ((l.drop k).map f) o := by
  rcases hB with ⟨h1, h2⟩ | ⟨g', off, n', cap', cur, fz, h1, ho, hz, h2, h3, h4, h5, h6⟩
  · cases h1
    have hl : l = [] := by simpa using h2
    subst hl
    simp at hk; omega
  · cases h1
    have hn : l.length = nn := by simpa using h2
    have h7 : (List.drop k (List.take nn (List.drop off cur.toList))) = (l.drop k).map f := by rw [Nat.mul_one] at h6; rw [h6, List.map_drop]
    by_cases hck : c = k
    · rw [if_pos hck]
      refine .inr ⟨g', off, nn - k, c - k, cur, fz, rfl, ho, hz, by simp [hn], by omega, by omega, by omega, ?_⟩
      have : l.drop k = [] := List.drop_of_length_le (by omega)
      have hz0 : nn - k = 0 := by omega
      simp [this, hz0]
    · rw [if_neg hck]
      refine .inr ⟨g', off + k * 1, nn - k, c - k, cur, fz, by simp [add_mk], ho, hz, by simp [hn], by omega, by omega, by omega, ?_⟩
      rw [← h7, List.drop_take, List.drop_drop]
      congr 1
      · omega
      · congr 1; omega
theorem own_drop {nn c k nn' c' : Nat} {a0 : Option Addr} : (Value.slice (if c = k then a0 else a0.map (·.add (k * 1))) nn' c').ownBlock = (Value.slice a0 nn c).ownBlock := by
  split
  · cases a0 <;> rfl
  · cases a0 with
    | none => rfl
    | some q => simp only [Option.map_some, Value.ownBlock, Addr.add]; split <;> rfl
theorem BufC.le {nn c : Nat} {a0 : Option Addr} {xs : List Value} {o : Option Obj} (h : BufC T 1 (.slice a0 nn c) xs o) : xs.length = nn ∧ nn ≤ c ∧ c ≤ maxLen := by
  rcases h with ⟨h1, rfl⟩ | ⟨g', off, n', cap', cur, fz, h1, ho, _, h2, h3, h4, h5, h6⟩
  · cases h1; simp [maxLen]
  · cases h1; exact ⟨by omega, h3, h4⟩
theorem pu_sl_ton {k : IntKind} {i : Int} {j : Nat} {ad : Option Addr} {nn c sz : Nat} (ht : SlT P t e sz) (hx : ev L x = some (.slice ad nn c)) (hy : ev L y = some (.int k i)) (hj : i = (j : Int)) (hi1 : j ≤ c) :
    Pu P L ⟨d, .slice t x none (some y) none, ty, pos, af, g⟩ w (.slice ad j c) := by
  subst hj; exact pu_sl_to ht hx hy (by omega) (by omega)
theorem pu_sl_fromn {k : IntKind} {i : Int} {j : Nat} {ad : Option Addr} {nn c sz : Nat} (ht : SlT P t e sz) (hx : ev L x = some (.slice ad nn c)) (hy : ev L y = some (.int k i)) (hj : i = (j : Int)) (hi1 : j ≤ nn) (hnc : nn ≤ c) :
    Pu P L ⟨d, .slice t x (some y) none none, ty, pos, af, g⟩ w (.slice (if c = j then ad else ad.map (·.add (j * sz))) (nn - j) (c - j)) := by
  subst hj; exact pu_sl_from ht hx hy (by omega) (by omega) hnc
theorem BufC.form {v : Value} {xs : List Value} {o : Option Obj} (h : BufC T 1 v xs o) : ∃ a0 c, v = .slice a0 xs.length c ∧ xs.length ≤ c ∧ c ≤ maxLen := by
  rcases h with ⟨rfl, rfl⟩ | ⟨g', off, n', cap', cur, fz, rfl, ho, _, h2, h3, h4, h5, h6⟩
  · exact ⟨none, 0, rfl, by simp, by simp [maxLen]⟩
  · rw [Nat.mul_one] at h2; exact ⟨_, cap', by rw [h2], by omega, h4⟩
end mem
end Go.Dx
