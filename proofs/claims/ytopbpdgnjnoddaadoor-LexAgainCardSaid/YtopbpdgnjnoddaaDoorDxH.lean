/- Laws of one step of a walk, and of what memory holds. No condition beyond what each names. -/
import Derived.Test.YtopbpdgnjnoddaaDoorDxG
set_option linter.unusedSimpArgs false
set_option linter.unusedVariables false
namespace Go.Dx
open Go Go.RowKit

section upd
variable {w0 w w' : World} {h0 : View} {M : List Nat} {O : List OE} {F Φ : View → Prop}

theorem St.upds {J : List Nat} {O' : List OE} (hS : St w0 h0 M w O F) (hk : Keep J w w') (hJ : ∀ b ∈ J, b ∈ ids O) (hO : ∀ e ∈ O', e.2 (e.1.bind fun b => w'.heap[b]?))
    (hid : ∀ b ∈ ids O', b ∈ ids O ∨ w.heap.size ≤ b ∧ b < w'.heap.size) (hnd : (ids O').Nodup) : St w0 h0 M w' O' F := by
  refine ⟨hS.keep.transIn hk fun b hb => (hS.fresh b (hJ b hb)).1, hS.vw, hO, fun b hb => ?_, hnd, hS.mono,
    hS.mono _ _ (cv_le _ _ hk hJ (fun b hb => (hid b hb).imp id And.left) hS.keep.size) hS.facts⟩
  rcases hid b hb with h | ⟨h, h'⟩
  · exact ⟨(hS.fresh b h).1, Nat.lt_of_lt_of_le (hS.fresh b h).2 hk.size⟩
  · exact ⟨.inl (Nat.le_trans hS.keep.size h), h'⟩

/-- an entry of another number still holds -/
theorem St.still {J : List Nat} (hS : St w0 h0 M w O F) (hk : Keep J w w') {e : OE} (he : e ∈ O) (hn : ∀ b, e.1 = some b → b ∉ J) : e.2 (e.1.bind fun b => w'.heap[b]?) := by
  have := hS.own e he
  cases h : e.1 with
  | none => rw [h] at this; exact this
  | some b =>
    rw [h] at this
    have hb : b ∈ ids O := List.mem_filterMap.2 ⟨e, he, h⟩
    simp only [Option.bind_some] at this ⊢
    rw [hk.block b (hS.fresh b hb).2 (hn b h)]
    exact this

/-- entry number `i` gets another number, or another content -/
theorem St.regrow {i : Nat} {e e' : OE} (hS : St w0 h0 M w O F) (hi : O[i]? = some e) (hk : Keep e.1.toList w w') (hC : e'.2 (e'.1.bind fun b => w'.heap[b]?))
    (hid : e'.1 = e.1 ∨ e'.1 = none ∨ ∃ b, e'.1 = some b ∧ w.heap.size ≤ b ∧ b < w'.heap.size) : St w0 h0 M w' (O.set i e') F := by
  have hil : i < O.length := (List.getElem?_eq_some_iff.1 hi).1
  have hmem : e ∈ O := List.mem_of_getElem? hi
  have hJ : ∀ b ∈ e.1.toList, b ∈ ids O := fun b hb => List.mem_filterMap.2 ⟨e, hmem, by simpa using hb⟩
  -- the numbers
  have key : ∀ (O : List OE) (i : Nat), O[i]? = some e → (ids O).Nodup → (∀ b ∈ ids O, b < w.heap.size) →
      (∀ b ∈ ids (O.set i e'), b ∈ ids O ∨ w.heap.size ≤ b ∧ b < w'.heap.size) ∧ (ids (O.set i e')).Nodup ∧ (∀ x ∈ O.set i e', x = e' ∨ (x ∈ O ∧ ∀ b, x.1 = some b → b ∉ e.1.toList)) := by
    intro O
    induction O with
    | nil => intro i h; simp at h
    | cons x O ih =>
      intro i h hnd hlt
      match i with
      | 0 =>
        have hx : x = e := by simpa using h
        subst hx
        have hnd' : (ids O).Nodup := by
          cases hx1 : x.1 with
          | none => simpa [ids, hx1] using hnd
          | some y => have : (y :: ids O).Nodup := by simpa [ids, hx1] using hnd
                      exact (List.nodup_cons.1 this).2
        have hothers : ∀ y, y ∈ ids O → x.1 ≠ some y := fun y hy hxy => by
          have : (y :: ids O).Nodup := by simpa [ids, hxy] using hnd
          exact (List.nodup_cons.1 this).1 hy
        refine ⟨fun b hb => ?_, ?_, fun z hz => ?_⟩
        · simp only [List.set_cons_zero] at hb
          cases he1 : e'.1 with
          | none =>
            have : b ∈ ids O := by simpa [ids, he1] using hb
            obtain ⟨z, hz, hz1⟩ := List.mem_filterMap.1 this
            exact .inl (List.mem_filterMap.2 ⟨z, by simp [hz], hz1⟩)
          | some c =>
            have : b = c ∨ b ∈ ids O := by simpa [ids, he1] using hb
            rcases this with rfl | this
            · rcases hid with hid | hid | ⟨b', hb', h1, h2⟩
              · exact .inl (List.mem_filterMap.2 ⟨x, by simp, by rw [← hid, he1]⟩)
              · rw [he1] at hid; cases hid
              · rw [he1] at hb'; cases hb'; exact .inr ⟨h1, h2⟩
            · obtain ⟨z, hz, hz1⟩ := List.mem_filterMap.1 this
              exact .inl (List.mem_filterMap.2 ⟨z, by simp [hz], hz1⟩)
        · simp only [List.set_cons_zero]
          cases he1 : e'.1 with
          | none => simpa [ids, he1] using hnd'
          | some c =>
            have : (c :: ids O).Nodup := by
              refine List.nodup_cons.2 ⟨fun hm => ?_, hnd'⟩
              rcases hid with hid | hid | ⟨b', hb', h1, h2⟩
              · exact hothers c hm (by rw [← hid, he1])
              · rw [he1] at hid; cases hid
              · rw [he1] at hb'; cases hb'
                have : c ∈ ids (x :: O) := by
                  obtain ⟨z, hz, hz1⟩ := List.mem_filterMap.1 hm
                  exact List.mem_filterMap.2 ⟨z, by simp [hz], hz1⟩
                have := hlt c this
                omega
            simpa [ids, he1] using this
        · simp only [List.set_cons_zero] at hz
          rcases List.mem_cons.1 hz with rfl | hz
          · exact .inl rfl
          · refine .inr ⟨by simp [hz], fun b hb hm => ?_⟩
            exact hothers b (List.mem_filterMap.2 ⟨z, hz, hb⟩) (by simpa using hm)
      | i + 1 =>
        have h' : O[i]? = some e := by simpa using h
        have heO : e ∈ O := List.mem_of_getElem? h'
        have hnd' : (ids O).Nodup := by
          cases hx1 : x.1 with
          | none => simpa [ids, hx1] using hnd
          | some y => have : (y :: ids O).Nodup := by simpa [ids, hx1] using hnd
                      exact (List.nodup_cons.1 this).2
        have hsub : ∀ b, b ∈ ids O → b ∈ ids (x :: O) := fun b hb => by
          obtain ⟨z, hz, hz1⟩ := List.mem_filterMap.1 hb
          exact List.mem_filterMap.2 ⟨z, by simp [hz], hz1⟩
        obtain ⟨g1, g2, g3⟩ := ih i h' hnd' fun b hb => hlt b (hsub b hb)
        refine ⟨fun b hb => ?_, ?_, fun z hz => ?_⟩
        · simp only [List.set_cons_succ] at hb
          cases hx1 : x.1 with
          | none =>
            have : b ∈ ids (O.set i e') := by simpa [ids, hx1] using hb
            exact (g1 b this).imp (hsub b) id
          | some y =>
            have : b = y ∨ b ∈ ids (O.set i e') := by simpa [ids, hx1] using hb
            rcases this with rfl | this
            · exact .inl (List.mem_filterMap.2 ⟨x, by simp, hx1⟩)
            · exact (g1 b this).imp (hsub b) id
        · simp only [List.set_cons_succ]
          cases hx1 : x.1 with
          | none => simpa [ids, hx1] using g2
          | some y =>
            have hy : (y :: ids O).Nodup := by simpa [ids, hx1] using hnd
            have : (y :: ids (O.set i e')).Nodup := by
              refine List.nodup_cons.2 ⟨fun hm => ?_, g2⟩
              rcases g1 y hm with hm' | ⟨hm', _⟩
              · exact (List.nodup_cons.1 hy).1 hm'
              · have := hlt y (List.mem_filterMap.2 ⟨x, by simp, hx1⟩); omega
            simpa [ids, hx1] using this
        · simp only [List.set_cons_succ] at hz
          rcases List.mem_cons.1 hz with rfl | hz
          · refine .inr ⟨by simp, fun b hb hm => ?_⟩
            have hb2 : b ∈ ids O := List.mem_filterMap.2 ⟨e, heO, by simpa using hm⟩
            have : (b :: ids O).Nodup := by simpa [ids, hb] using hnd
            exact (List.nodup_cons.1 this).1 hb2
          · rcases g3 z hz with rfl | ⟨hz', hz2⟩
            · exact .inl rfl
            · exact .inr ⟨by simp [hz'], hz2⟩
  obtain ⟨g1, g2, g3⟩ := key O i hi hS.nd fun b hb => (hS.fresh b hb).2
  refine hS.upds hk hJ (fun x hx => ?_) g1 g2
  rcases g3 x hx with rfl | ⟨hx', hn⟩
  · exact hC
  · exact hS.still hk hx' hn

/-- the arguments' memory is as it was -/
theorem St.base (hS : St w0 h0 M w O F) : VLe h0 (Full w) := fun k o hk => by
  have := hS.vw k o hk
  show w.heap[k]? = some o
  rw [hS.keep.block k ((Array.getElem?_eq_some_iff.1 this.1).1) this.2]
  exact this.1
theorem St.base_cv (hS : St w0 h0 M w O F) : VLe h0 (cv w0.heap.size h0 (ids O) w) := fun k o hk => by
  have := hS.vw k o hk
  have hlt : k < w0.heap.size := (Array.getElem?_eq_some_iff.1 this.1).1
  unfold cv
  rw [if_neg (fun hm => by rcases (hS.fresh k hm).1 with h | h; exact absurd hlt (by omega); exact this.2 h), if_pos hlt]
  exact hk
end upd

/-! ### A slice under construction -/
/-- no cell of the row is frozen -/
def noFz (fz : Nat × Nat) (n : Nat) : Prop := ∀ j, j < n → (decide (fz.1 ≤ j) && decide (j < fz.2)) = false
theorem noFz00 (n : Nat) : noFz (0, 0) n := fun j _ => by simp
theorem noFz_past (n k : Nat) : noFz (n, k) n := fun j hj => by simp; omega

theorem run_storeCells_fz (P : Program) (g o : Nat) (t : TypeId) (fz : Nat × Nat) : ∀ (vs : List Value) (i : Nat) (cur : Array Value) (w : World), w.heap[g]? = some (.cells cur t fz) → noFz fz cur.size → o + i + vs.length ≤ cur.size → (∀ v ∈ vs, v.oneCell' = true) →
    (storeCells ⟨g, o, none⟩ vs i).run P w = .ok () (w.setRow g (cur.toList.take (o + i) ++ vs ++ cur.toList.drop (o + i + vs.length)).toArray)
  | [], i, cur, w, hg, _, _, _ => by
    simp only [storeCells, List.append_nil, List.length_nil, Nat.add_zero, List.take_append_drop, Array.toArray_toList]
    rw [setRow_self w g cur t fz hg]
    rfl
  | v :: rest, i, cur, w, hg, hn, hl, h1 => by
    have hi : o + i < cur.size := by simp at hl; omega
    have hcell : w.cell? ⟨g, o + i, none⟩ = some cur[o + i] := by simp [World.cell?, hg, hi]
    have hfro : w.frozen? ⟨g, o + i, none⟩ = false := by
      have := hn (o + i) hi
      simpa [World.frozen?, hg] using this
    have hst : (store ((⟨g, o, none⟩ : Addr).add i) v).run P w = .ok () (w.setRow g (cur.setIfInBounds (o + i) v)) := by
      rw [add_mk, run_store P w _ v _ (h1 v (by simp)), hcell]
      simp [hfro, setCell_eq_setRow w g (o + i) cur t fz v hg]
    have ih := run_storeCells_fz P g o t fz rest (i + 1) (cur.setIfInBounds (o + i) v) (w.setRow g (cur.setIfInBounds (o + i) v)) (setRow_heap w g cur _ t _ hg) (by simpa using hn) (by simp at hl ⊢; omega) (fun x hx => h1 x (by simp [hx]))
    simp only [storeCells, Sem.run_bind, hst, Result.andThen_ok, ih, setRow_setRow]
    congr 3
    have e := list_seg_step cur.toList (o + i) v rest (by simp at hl ⊢; omega)
    simpa [Array.toList_setIfInBounds, Nat.add_assoc] using e

def BufC (T : TypeId) (sz : Nat) (v : Value) (xs : List Value) : Option Obj → Prop := fun o =>
  (v = .slice none 0 0 ∧ xs = []) ∨
  ∃ g off n cap cur fz, v = .slice (some ⟨g, off, none⟩) n cap ∧ o = some (.cells cur T fz) ∧ noFz fz cur.size ∧ xs.length = n * sz ∧ n ≤ cap ∧ cap ≤ maxLen ∧ off + cap * sz ≤ cur.size ∧ (cur.toList.drop off).take (n * sz) = xs

def bufE (T : TypeId) (sz : Nat) (v : Value) (xs : List Value) : OE := (v.ownBlock, BufC T sz v xs)

section append
variable {P : Program} (w : World)
theorem run_append_gen (t t2 ty e : TypeId) (i : TypeInfo) (z : Value) (u2 : TypeDesc) (ht : P.underlying t = some (.slice e)) (hu2 : P.underlying t2 = some u2) (hu2' : ∀ k, u2 ≠ .int k) (hi : P.info? e = some i) (hz : i.zero = some z)
    (hzs : z.cells.size = i.size) (v x : Value) (xs : List Value) (id : Option Nat) (hid : v.ownBlock = id) (hown : BufC e i.size v xs (id.bind fun b => w.heap[b]?))
    (m : Nat) (news : List Value) (hl : news.length = m * i.size) (hlen : (Builtin.lenOf x).run P w = .ok m w) (hfst : ∀ w', w'.heap = w.heap → (Builtin.firstCells i.size m x).run P w' = .ok news.toArray w') (h1 : ∀ u ∈ news, u.oneCell' = true)
    (hsz : 0 < i.size) (h63 : xs.length + news.length ≤ maxLen) (hbytes : (xs.length + news.length) * i.bytes ≤ 140737488355328) :
    ∃ v' w', (Builtin.append_ #[t, t2] ty #[v, x]).run P w = .ok v' w' ∧ BufC e i.size v' (xs ++ news) (v'.ownBlock.bind fun b => w'.heap[b]?) ∧ Keep v.ownBlock.toList w w' ∧
      (v'.ownBlock = v.ownBlock ∨ ∃ b, v'.ownBlock = some b ∧ w.heap.size ≤ b ∧ b < w'.heap.size) ∧ ∃ a n c, v' = .slice a n c ∧ n * i.size = xs.length + news.length := by
  subst hid
  obtain ⟨a0, n, cap, rfl⟩ : ∃ a n c, v = .slice a n c := by
    rcases hown with ⟨rfl, _⟩ | ⟨g, off, n, cap, cur, fz, rfl, _⟩ <;> exact ⟨_, _, _, rfl⟩
  have hnx : xs.length = n * i.size ∧ (n ≤ cap) ∧ cap ≤ maxLen ∧ (a0 = none → n = 0 ∧ cap = 0) := by
    rcases hown with ⟨h, rfl⟩ | ⟨g, off, n', cap', cur, fz, h, _, _, h2, h3, h4, _⟩
    · cases h; simp [maxLen]
    · cases h; exact ⟨h2, h3, h4, by simp⟩
  have hxs := hnx.1
  have hnm : (n + m) * i.size = xs.length + news.length := by rw [Nat.add_mul, hxs, hl]
  have hnm_le : n + m ≤ xs.length + news.length := by rw [← hnm]; exact Nat.le_mul_of_pos_right _ hsz
  have hby : (n + m) * i.bytes ≤ 140737488355328 := Nat.le_trans (Nat.mul_le_mul_right _ hnm_le) hbytes
  have hml : n + m ≤ maxLen := by omega
  by_cases hroom : n + m ≤ cap
  · -- there is room
    rcases hown with ⟨h, rfl⟩ | ⟨g, off, n', cap', cur, fz, h, ho, hnf, h2, h3, h4, h5, h6⟩
    · cases h
      have hm0 : m = 0 := by omega
      subst hm0
      have hn0 : news = [] := List.eq_nil_of_length_eq_zero (by omega)
      subst hn0
      refine ⟨.slice none 0 0, w, ?_, .inl ⟨rfl, rfl⟩, Keep.refl _ _, .inl rfl, _, _, _, rfl, by simp⟩
      simp [Builtin.append_, run_underlying ht, run_underlying hu2, sizeOf, typeInfo, hi, hlen, hfst w rfl]
    · cases h
      have hg : w.heap[g]? = some (.cells cur e fz) := by simpa [Value.ownBlock] using ho
      have hmul : n * i.size + news.length ≤ cap * i.size := by rw [hl, ← Nat.add_mul]; exact Nat.mul_le_mul_right _ hroom
      have hst := run_storeCells_fz P g (off + n * i.size) e fz news 0 cur w hg hnf (by omega) h1
      refine ⟨.slice (some ⟨g, off, none⟩) (n + m) cap, w.setRow g (cur.toList.take (off + n * i.size) ++ news ++ cur.toList.drop (off + n * i.size + news.length)).toArray, ?_, ?_, ?_, .inl rfl, _, _, _, rfl, hnm⟩
      · simp only [Nat.add_zero] at hst
        simp [Builtin.append_, run_underlying ht, run_underlying hu2, sizeOf, typeInfo, hi, hlen, hfst w rfl, hroom, add_mk, hst]
      · refine .inr ⟨g, off, n + m, cap, _, fz, rfl, by simp only [Value.ownBlock, Option.bind_some]; exact setRow_heap w g cur _ e _ hg, ?_, by rw [List.length_append, hnm], hroom, h4, ?_, ?_⟩
        · intro j hj; refine hnf j ?_; simp at hj; omega
        · simp; omega
        · rw [← h6]
          have e1 : off + n * i.size ≤ cur.toList.length := by simp; omega
          simp only [List.append_assoc]
          rw [List.drop_append_of_le_length (by simp; omega), List.drop_take, hnm]
          have e2 : off + n * i.size - off = n * i.size := by omega
          rw [e2]
          have e3 : (List.take (n * i.size) (List.drop off cur.toList)).length = xs.length := by rw [h6]
          rw [← List.append_assoc, List.take_append_of_le_length (by rw [List.length_append, e3]; exact Nat.le_refl _)]
          exact List.take_of_length_le (by rw [List.length_append, e3]; exact Nat.le_refl _)
      · exact keep_setRow w g _
  · -- it grows
    have hge := grownCap_ge w (n + m) cap e
    have hcm : grownCap w (n + m) cap e ≤ maxLen := grownCap_le_maxLen w (n + m) cap e hml
    have h63' : ¬ (9223372036854775807 < ((n : Int) + (m : Int))) := by simp only [maxLen] at hml; omega
    have h48' : ¬ (281474976710656 < Builtin.nextslicecap (n + m) cap * i.bytes) := by have := growslice_fits (old := cap) (by omega : cap < n + m) hby; omega
    have holdf : (Builtin.firstCells i.size n (.slice a0 n cap)).run P w.drew = .ok xs.toArray w.drew := by
      rcases hown with ⟨h, rfl⟩ | ⟨g, off, n', cap', cur, fz, h, ho, hnf, h2, h3, h4, h5, h6⟩
      · cases h; simp [Builtin.firstCells]
      · cases h
        have hg : w.heap[g]? = some (.cells cur e fz) := by simpa [Value.ownBlock] using ho
        refine run_firstCells_some w.drew i.size n ⟨g, off, none⟩ n cap xs hxs fun j u hu => ?_
        rw [add_mk]
        have : w.drew.cell? ⟨g, off + j, none⟩ = cur[off + j]? := by
          have e : w.drew.heap[g]? = some (.cells cur e fz) := hg
          simp [World.cell?, e]
        rw [this]
        rw [← h6, List.getElem?_take] at hu
        split at hu
        · simpa using hu
        · cases hu
    have hnewf := hfst w.drew rfl
    refine ⟨.slice (some ⟨w.heap.size, 0, none⟩) (n + m) (grownCap w (n + m) cap e), w.drew.alloc (.cells (xs.toArray ++ news.toArray ++ Builtin.zeroCells z.cells (grownCap w (n + m) cap e - (n + m))) e), ?_, ?_, ?_, ?_, _, _, _, rfl, hnm⟩
    · simp [Builtin.append_, run_underlying ht, run_underlying hu2, sizeOf, typeInfo, zeroValue, hi, hz, hlen, hroom, h63', h48', Question.forced, holdf, hnewf, newRow, grownCap]
      congr 2
      apply Array.ext'
      simp
    · refine .inr ⟨w.heap.size, 0, n + m, _, xs.toArray ++ news.toArray ++ Builtin.zeroCells z.cells (grownCap w (n + m) cap e - (n + m)), (0, 0), rfl, ?_, noFz00 _, by rw [List.length_append, hnm], hge, hcm, ?_, ?_⟩
      · simp only [Value.ownBlock, Option.bind_some]; exact heap_alloc_new w.drew _
      · simp only [Array.size_append, List.size_toArray, size_zeroCells, hzs, Nat.zero_add]
        have : (grownCap w (n + m) cap e) * i.size = (n + m) * i.size + (grownCap w (n + m) cap e - (n + m)) * i.size := by rw [← Nat.add_mul]; congr 1; omega
        omega
      · simp only [Array.toList_append, List.drop_zero, List.append_assoc]
        rw [← List.append_assoc, hnm]
        have : (xs ++ news).length = xs.length + news.length := List.length_append
        rw [← this]
        exact List.take_left
    · exact ⟨rfl, rfl, rfl, by simp, fun k hk _ => Below.heap_alloc w.drew _ k hk⟩
    · exact .inr ⟨w.heap.size, rfl, Nat.le_refl _, by simp⟩
end append
end Go.Dx
