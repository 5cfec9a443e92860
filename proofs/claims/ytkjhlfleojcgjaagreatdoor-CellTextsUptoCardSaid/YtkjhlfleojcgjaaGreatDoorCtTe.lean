/- Laws of walks, and what functions of the program compute: part 5. Each with the conditions that it names. -/
import Derived.LaidSub
import Derived.Test.YtkjhlfleojcgjaaGreatDoorCtTd
set_option linter.unusedSimpArgs false
set_option linter.unusedVariables false
set_option maxRecDepth 100000
namespace Go.Proofs.YtkjhlfleojcgjaaGreatDoor
open Go Go.Dx Go.RowKit
noncomputable def evalS (l : List Col) (row : List Val) (x : Ex) : Val × Int :=
  if rightS x = true ∧ l.length = row.length ∧ row.all valOk = true then (match evX l row (SizeOf.sizeOf x + 1) x with
    | .ok v => (v, 0)
    | .error e => (v0, e)) else (v0, 2)
def evR (p : Val × Int) : Value := .tuple #[.agg (valC p.1).toArray, .int .i64 p.2]
theorem evalS_not {l : List Col} {row : List Val} {x : Ex} (h : ¬ (rightS x = true ∧ l.length = row.length ∧ row.all valOk = true)) : evalS l row x = (v0, 2) := if_neg h
theorem res2 {fn : Func} {tmps : Array Value} {b6 b7 t6 t7 ty6 ty7 : Nat} {cs : List Value} {u : Value} {w : World} (hr : fn.results = #[.cell t6 ty6, .cell t7 ty7]) (h6 : tmps.getD t6 undef = .pointer (some ⟨b6, 0, none⟩)) (h7 : tmps.getD t7 undef = .pointer (some ⟨b7, 0, none⟩))
    (hne : t6 ≠ t7) (c6 : w.heap[b6]? = some (.cells cs.toArray ty6 (0, 0))) (c7 : w.heap[b7]? = some (.cells #[u] ty7 (0, 0))) (a6 : AggT Tryz.prog ty6 cs.length) (o7 : OneT Tryz.prog ty7) : (results fn tmps).run Tryz.prog w = .ok (.tuple #[.agg cs.toArray, u]) w := by
  have e6 : (loadVar ty6 ⟨b6, 0, none⟩).run Tryz.prog w = .ok (.agg cs.toArray) w := run_loadA a6 fun j v hj => by rw [add_mk, cell_row c6, Nat.zero_add]; exact hj
  have e7 : (loadVar ty7 ⟨b7, 0, none⟩).run Tryz.prog w = .ok u w := run_load1 o7 (by rw [cell_row (cs := [u]) c7]; rfl)
  have hF : Fr ({ tmps := tmps, defers := [] } : Act) tmps.size [(t6, .val (.pointer (some ⟨b6, 0, none⟩))), (t7, .val (.pointer (some ⟨b7, 0, none⟩)))] := by
    refine ⟨rfl, rfl, fun i v hi => ?_⟩
    by_cases h1 : t6 = i
    · subst h1; rw [lk_cons_eq] at hi; cases hi; exact h6
    · rw [lk_cons_ne h1] at hi
      by_cases h2 : t7 = i
      · subst h2; rw [lk_cons_eq] at hi; cases hi; exact h7
      · rw [lk_cons_ne h2] at hi; cases hi
  exact rvs_run (rs := [.cell t6 ty6, .cell t7 ty7]) hF hr (.cell (ad := ⟨b6, 0, none⟩) (by rw [lk_cons_eq]; rfl) e6 (.cell (ad := ⟨b7, 0, none⟩) (by rw [lk_cons_ne hne, lk_cons_eq]; rfl) e7 .nil))
set_option maxHeartbeats 1000000 in
theorem c_Eval (x : Ex) (ax : Option Addr) (cx : Nat) (ad : Option Addr) (cap : Nat) (l : List Col) (ad2 : Option Addr) (cap2 : Nat) (row : List Val) (hl : l.length ≤ 1000000) (hvb : ∀ v ∈ row, valB v) (w0 : World) (h0 : View) (hv : VLe h0 (Full w0)) (hx : GX h0 ax cx x)
    (hb : SlC 70 3 (flatR colC) h0 (.slice ad l.length cap) l) (hb2 : SlC 35 3 (flatR valC) h0 (.slice ad2 row.length cap2) row) :
    Calls Tryz.prog 77 #[.agg (exC x.op x.v x.s (.slice ax x.l.length cx)).toArray, .slice ad l.length cap, .slice ad2 row.length cap2] w0 (Ret w0 h0 fun u _ => u = evR (evalS l row x)) := by
  have hlm := slc_lm hb2
  refine entD (E := fun _ _ vs => tupV vs = evR (evalS l row x)) (args := [.agg (exC x.op x.v x.s (.slice ax x.l.length cx)).toArray, .slice ad l.length cap, .slice ad2 row.length cap2]) TT_ok [] [] 3 Tryz.func77 rfl Tryz.ntmps77 rfl rfl hv (fun B F vs w hq hS => hS.st.retv hq) ?_
  intro b3 b6 b7
  refine cb (fun w hw => c_Check x ax cx w h0 hw hx) ?_
  refine cnd (fun h => ?_) (fun h => ?_)
  · show _ = evR (evalS l row x)
    rw [evalS_not (fun hh => by
      rcases h with h | h
      · rw [if_pos hh.1] at h; omega
      · omega)]
    rfl
  have hr : rightS x = true := by
    rcases Bool.eq_false_or_eq_true (rightS x) with e | e
    · exact e
    · have := h.1; rw [e] at this; simp at this
  have hlr : l.length = row.length := by omega
  refine w_loop TT_ok (fun k : Nat => [(23, .v (.int .i64 k))]) 0 (fun k => k ≤ row.length ∧ ∀ j, j < k → valOk (row.getD j v0) = true) (fun k => row.length - k) ?_
  refine And.intro ⟨⟨Nat.zero_le _, fun j hj => absurd hj (Nat.not_lt_zero j)⟩, gs⟩ ?_
  intro k ⟨hk, hn⟩
  refine cnd (fun h1 => ?_) (fun h1 => ?_)
  · refine ixs hb2 k v0 ?_
    intro b9
    refine cl (c_VCheck (row.getD k v0) (hvb _ (getD_mem row k v0 (by omega)))) ?_
    refine cnd (fun h2 => ?_) (fun h2 => ?_)
    · show _ = evR (evalS l row x)
      rw [evalS_not (fun hh => by
        have := List.all_eq_true.1 hh.2.2 _ (getD_mem row k v0 (by omega))
        rw [if_pos this] at h2; omega)]
      rfl
    · refine wi ?_
      refine ⟨k + 1, ⟨⟨by omega, upto_snoc hn ?_⟩, by omega⟩, gs⟩
      rcases Bool.eq_false_or_eq_true (valOk (row.getD k v0)) with e | e
      · exact e
      · rw [e] at h2; simp at h2
  have hall : row.all valOk = true := all_upto v0 (fun j hj => hn j (by omega))
  have hrow : ∀ v ∈ row, okV v := fun v hv => ⟨List.all_eq_true.1 hall v hv, hvb v hv⟩
  have hes : evalS l row x = match evX l row (SizeOf.sizeOf x + 1) x with
    | .ok v => (v, 0)
    | .error e => (v0, e) := if_pos ⟨hr, hlr, hall⟩
  intro a w hD hS
  have s1 := hD.fr.kv (t := 1) (v := .slice ad l.length cap) rfl
  have s2 := hD.fr.kv (t := 2) (v := .slice ad2 row.length cap2) rfl
  have s3 := hD.fr.kv (t := 3) (v := .pointer (some ⟨b3, 0, none⟩)) rfl
  have s6 := hD.fr.kv (t := 6) (v := .pointer (some ⟨b6, 0, none⟩)) rfl
  have s7 := hD.fr.kv (t := 7) (v := .pointer (some ⟨b7, 0, none⟩)) rfl
  have c3 := hS.wok.own 3 _ _ _ rfl
  have c6 := hS.wok.own 6 _ _ _ rfl
  have c7 := hS.wok.own 7 _ _ _ rfl
  have hsz := hD.fr.sz
  have hdf := hD.fr.df
  have hne : b6 ≠ b7 := fun e => two_ids (k := 6) (k' := 7) rfl (by rw [e]; rfl) (by decide) hS.st.nd
  have f6 := hS.st.fresh b6 (List.mem_filterMap.2 ⟨_, oes_mem (k := 6) rfl rfl, rfl⟩)
  have f7 := hS.st.fresh b7 (List.mem_filterMap.2 ⟨_, oes_mem (k := 7) rfl rfl, rfl⟩)
  have g6 : w0.heap.size ≤ b6 := f6.1.resolve_right (by simp)
  have g7 : w0.heap.size ≤ b7 := f7.1.resolve_right (by simp)
  -- the closure is made, and put off
  refine c_seq (c_reg ?_)
  refine w_mkdefer (vsl := [.pointer (some ⟨b6, 0, none⟩), .pointer (some ⟨b7, 0, none⟩)]) (by show [a.tmps.getD 6 undef, a.tmps.getD 7 undef] = _; rw [s6, s7]) hsz rfl ?_
  rw [hdf]
  generalize hfv : Value.func (.func 114) #[] [Value.pointer (some ⟨b6, 0, none⟩), Value.pointer (some ⟨b7, 0, none⟩)].toArray = fv
  show codeM Md.wp Tryz.prog _ _ _ _
  refine c_seq (c_reg ?_)
  generalize hds : [(⟨.fn (.func 114) [Value.pointer (some ⟨b6, 0, none⟩), Value.pointer (some ⟨b7, 0, none⟩)].toArray, #[]⟩ : Deferred)] = ds
  refine wpList_df (ds := ds) _ (a.put (some 32) fv) w (fun o ho => ?_) ?_
  · simp only [List.mem_cons, List.not_mem_nil, or_false] at ho
    rcases ho with rfl | rfl | rfl | rfl | rfl | rfl | rfl
    all_goals first | exact nodef_quiet rfl | exact nodef_call (TT_ok.call rfl)
  have hDp := Dn.part (L0 := [(1, .v (.slice ad l.length cap)), (2, .v (.slice ad2 row.length cap2)), (3, .o 3 0), (6, .o 6 0), (7, .o 7 0)]) (d := 32) (v := fv) hD rfl rfl
  have fin : ∀ (tm : Array Value) (cs : List Value) (e : Int) (w2 : World) (hk : Keep [] w0 w2) (t6 : tm.getD 6 undef = .pointer (some ⟨b6, 0, none⟩)) (t7 : tm.getD 7 undef = .pointer (some ⟨b7, 0, none⟩)) (h6 : w2.heap[b6]? = some (.cells cs.toArray 35 (0, 0))) (h7 : w2.heap[b7]? = some (.cells #[.int .i64 e] 26 (0, 0))) (hcs : cs.length = 3)
      (hres : Value.tuple #[.agg cs.toArray, .int .i64 e] = evR (evalS l row x)), Leaves Tryz.prog Tryz.f77 tm (Ret w0 h0 fun u _ => u = evR (evalS l row x)) [] .returning w2 := by
    intro tm cs e w2 hk t6 t7 h6 h7 hcs hres
    refine ⟨_, res2 (t6 := 6) (t7 := 7) (ty6 := 35) (ty7 := 26) Tryz.results77 t6 t7 (by decide) h6 h7 (by rw [hcs]; exact AggT.of (by kernel_rfl) (by kernel_rfl)) (OneT.of (by kernel_rfl)), ?_⟩
    exact ⟨_, rfl, hk, hres⟩
  cases hev : evX l row (SizeOf.sizeOf x + 1) x with
  | ok v =>
    rw [hev] at hes
    refine runs_wp (c := ⟨Tryz.prog, TT, .wp, 38, w0, h0, [], fun _ => False, [], []⟩) (K := fun L I B F => I = [] ∧ kv L [] B 6 = some (.pointer (some ⟨b6, 0, none⟩)) ∧ kv L [] B 7 = some (.pointer (some ⟨b7, 0, none⟩)) ∧ lkA B 6 = some (.c b6 35 (valC v)) ∧ lkA B 7 = some (.c b7 26 [.int .i64 0])) TT_ok ?_ ?_ (fun _ _ _ h _ _ => h.elim) hDp hS
    · refine cb (fun w hw => RetE.ok (c_eval ad cap l ad2 cap2 row hlr hl hrow h0 hb hb2 _ x ax cx (RX.of hx.op hx.v hx.xl) hr (Nat.lt_succ_self _) w hw) hev) ?_
      exact ⟨rfl, rfl, rfl, rfl, rfl⟩
    · rintro L I B F a2 w2 ⟨rfl, k6, k7, l6, l7⟩ hD2 hS2
      show codeM Md.wp Tryz.prog Code.ret _ _ _
      refine c_ret ?_
      show Leaves Tryz.prog _ a2.tmps _ ds .returning w2
      rw [← hds]
      refine leaves_cons (by simp) (run_invoke (TT_ok.call rfl) _ _ w2) ((c_idle b6 b7 w2).mono ?_)
      rintro en u' w' ⟨rfl, rfl, hw'⟩
      rw [hw']
      exact fin a2.tmps (valC v) 0 w2 hS2.st.keep (hD2.fr.kv k6) (hD2.fr.kv k7) (hS2.wok.own _ _ _ _ l6) (hS2.wok.own _ _ _ _ l7) rfl (by rw [hes]; rfl)
  | error y =>
    rw [hev] at hes
    refine wpList_at 4 ?_
    refine runs_wp (c := ⟨Tryz.prog, TT, .wp, 38, w0, h0, [], fun _ => False, [], []⟩) (K := fun L I B F => I = [] ∧ kv L [] B 6 = some (.pointer (some ⟨b6, 0, none⟩)) ∧ kv L [] B 7 = some (.pointer (some ⟨b7, 0, none⟩)) ∧ kv L [] B 35 = some (.agg (scC ad l.length cap ad2 row.length cap2).toArray) ∧ kv L [] B 36 = some (.agg (exC x.op x.v x.s (.slice ax x.l.length cx)).toArray) ∧
      lkA B 6 = some (.c b6 35 (valC v0)) ∧ lkA B 7 = some (.c b7 26 [.int .i64 0])) TT_ok ?_ ?_ (fun _ _ _ h _ _ => h.elim) hDp hS
    · exact ⟨rfl, rfl, rfl, rfl, rfl, rfl, rfl⟩
    · rintro L I B F a2 w2 ⟨rfl, k6, k7, k35, k36, l6, l7⟩ hD2 hS2
      have hc := RetE.err (c_eval ad cap l ad2 cap2 row hlr hl hrow h0 hb hb2 _ x ax cx (RX.of hx.op hx.v hx.xl) hr (Nat.lt_succ_self _) w2 hS2.st.base) hev
      show wpList Tryz.prog _ _ _ a2 w2
      refine wpList_op rfl ?_
      unfold Oper.wp
      have hev2 : evs (fl L [] B) [.tmp 35, .tmp 36] = some [.agg (scC ad l.length cap ad2 row.length cap2).toArray, .agg (exC x.op x.v x.s (.slice ax x.l.length cx)).toArray] := by
        have e35 : ev (fl L [] B) (.tmp 35) = some (.agg (scC ad l.length cap ad2 row.length cap2).toArray) := (vl_fl L [] B 35).trans k35
        have e36 : ev (fl L [] B) (.tmp 36) = some (.agg (exC x.op x.v x.s (.slice ax x.l.length cx)).toArray) := (vl_fl L [] B 36).trans k36
        simp only [evs, e35, e36]
      rw [run_callf (L := fl L [] B) (args := [.tmp 35, .tmp 36]) (TT_ok.call rfl) hev2 (fun z hz u hu => hD2.fr.ev hu) w2]
      rw [Oper.upon_enter]
      refine hc.mono ?_
      rintro e w3 ⟨rfl, hk3⟩
      show Leaves Tryz.prog _ a2.tmps _ ds (.panicking (ech y)) w3
      rw [← hds]
      have m6 := hS2.wok.own _ _ _ _ l6
      have m7 := hS2.wok.own _ _ _ _ l7
      have n6 : w3.heap[b6]? = some (.cells (valC v0).toArray 35 (0, 0)) := by rw [hk3.block b6 (Array.getElem?_eq_some_iff.1 m6).1 (by simp)]; exact m6
      have n7 : w3.heap[b7]? = some (.cells #[.int .i64 0] 26 (0, 0)) := by rw [hk3.block b7 (Array.getElem?_eq_some_iff.1 m7).1 (by simp)]; exact m7
      refine leaves_cons (by simp) (run_invoke (TT_ok.call rfl) _ _ w3) ((c_catch b6 b7 (valC v0) (.int .i64 0) y [] hne w3 n6 rfl n7).mono ?_)
      rintro en u' w4 ⟨rfl, rfl, hk4, h6, h7⟩
      refine fin a2.tmps (valC v0) y w4 ((hS2.st.keep.trans hk3).transIn hk4 fun b hb => ?_) (hD2.fr.kv k6) (hD2.fr.kv k7) h6 h7 rfl (by rw [hes]; rfl)
      rcases List.mem_cons.1 hb with rfl | hb
      · exact .inl g6
      · rcases List.mem_cons.1 hb with rfl | hb
        · exact .inl g7
        · cases hb
end Go.Proofs.YtkjhlfleojcgjaaGreatDoor
set_option maxRecDepth 100000
namespace Go.Proofs.YtkjhlfleojcgjaaGreatDoor
open Go Go.Dx Go.RowKit
theorem c_EvalK {p : Val × Int} (x : Ex) (ax : Option Addr) (cx : Nat) (ad : Option Addr) (cap : Nat) (l : List Col) (ad2 : Option Addr) (cap2 : Nat) (row : List Val) (hp : evalS l row x = p) (hl : l.length ≤ 1000000) (hvb : ∀ v ∈ row, valB v) (w0 : World) (h0 : View) (hv : VLe h0 (Full w0)) (hx : GX h0 ax cx x)
    (hb : SlC 70 3 (flatR colC) h0 (.slice ad l.length cap) l) (hb2 : SlC 35 3 (flatR valC) h0 (.slice ad2 row.length cap2) row) :
    Calls Tryz.prog 77 #[.agg (exC x.op x.v x.s (.slice ax x.l.length cx)).toArray, .slice ad l.length cap, .slice ad2 row.length cap2] w0 (Ret w0 h0 fun u _ => u = evR p) := by
  subst hp
  exact c_Eval x ax cx ad cap l ad2 cap2 row hl hvb w0 h0 hv hx hb hb2
end Go.Proofs.YtkjhlfleojcgjaaGreatDoor
set_option maxRecDepth 100000
namespace Go.Proofs.YtkjhlfleojcgjaaGreatDoor
open Go Go.Dx Go.RowKit
end Go.Proofs.YtkjhlfleojcgjaaGreatDoor
set_option maxRecDepth 100000
namespace Go.Proofs.YtkjhlfleojcgjaaGreatDoor
open Go Go.Dx Go.RowKit
end Go.Proofs.YtkjhlfleojcgjaaGreatDoor
set_option maxRecDepth 100000
namespace Go.Proofs.YtkjhlfleojcgjaaGreatDoor
open Go Go.Dx Go.RowKit
end Go.Proofs.YtkjhlfleojcgjaaGreatDoor
set_option maxRecDepth 100000
namespace Go.Proofs.YtkjhlfleojcgjaaGreatDoor
open Go Go.Dx Go.RowKit
def parE (t : Tst) (aa : Option Addr) (ca : Nat) (ab : Option Addr) (cb : Nat) : List (Ex × Option Addr × Nat) := if t.k = 6 then [(t.a, aa, ca), (t.b, ab, cb)] else [(t.a, aa, ca)]
def parT (t : Tst) : List Ex := if t.k = 6 then [t.a, t.b] else [t.a]
theorem parE_map (t : Tst) (aa : Option Addr) (ca : Nat) (ab : Option Addr) (cb : Nat) : (parE t aa ca ab cb).map (·.1) = parT t := by
  unfold parE parT; split <;> rfl
theorem parE_le (t : Tst) (aa : Option Addr) (ca : Nat) (ab : Option Addr) (cb : Nat) : (parE t aa ca ab cb).length ≤ 2 := by
  unfold parE; split <;> simp
theorem parE_ex {h : View} {t : Tst} {aa : Option Addr} {ca : Nat} {ab : Option Addr} {cb : Nat} (ha : EX h aa ca t.a) (hb : EX h ab cb t.b) (hg : GT t) : ∀ p ∈ parE t aa ca ab cb, GX h p.2.1 p.2.2 p.1 := by
  intro p hp
  unfold parE at hp
  split at hp
  · simp only [List.mem_cons, List.mem_nil_iff, or_false] at hp
    rcases hp with rfl | rfl
    · exact ha.gx hg.1
    · exact hb.gx hg.2.1
  · simp only [List.mem_cons, List.mem_nil_iff, or_false] at hp
    subst hp
    exact ha.gx hg.1
abbrev xe0 : Ex × Option Addr × Nat := (ex0, none, 0)
theorem c_parts (t : Tst) (aa : Option Addr) (ca : Nat) (ab : Option Addr) (cb' : Nat) (w0 : World) (h0 : View) (hv : VLe h0 (Full w0)) : Calls Tryz.prog 62 #[.agg (tstC t aa ca ab cb').toArray] w0
    (Ret w0 h0 fun u hh => ∃ x : Option Addr × Nat, u = .slice x.1 (parE t aa ca ab cb').length x.2 ∧ SlC 50 6 (flatR (rowC (parE t aa ca ab cb'))) hh (.slice x.1 (parE t aa ca ab cb').length x.2) (List.range (parE t aa ca ab cb').length)) := by
  refine entA (args := [.agg (tstC t aa ca ab cb').toArray]) TT_ok [2] [] Tryz.func62 rfl Tryz.ntmps62 rfl rfl hv (fun _ => Mono.slF) ?_
  intro b1
  refine And.intro rfl (goW TT_ok ?_)
  refine cnd (fun h => ?_) (fun h => ?_)
  · have e : parE t aa ca ab cb' = [(t.a, aa, ca), (t.b, ab, cb')] := if_pos h
    rw [e]
    intro b10
    refine shutG TT_ok 10 rfl (row_sl (g := rowC [(t.a, aa, ca), (t.b, ab, cb')]) (l := List.range 2) (sz := 6) (n := 2) (cp := 2) rfl ?_) ?_ Mono.slF
    · exact rowC_len _ _
    exact ⟨(some ⟨b10, 0, none⟩, 2), rfl, fun v _ hF => hF.2⟩
  · have e : parE t aa ca ab cb' = [(t.a, aa, ca)] := if_neg h
    rw [e]
    intro b13
    refine shutG TT_ok 13 rfl (row_sl (g := rowC [(t.a, aa, ca)]) (l := List.range 1) (sz := 6) (n := 1) (cp := 1) rfl ?_) ?_ Mono.slF
    · exact rowC_len _ _
    exact ⟨(some ⟨b13, 0, none⟩, 1), rfl, fun v _ hF => hF.2⟩
theorem c_IndexV (ad : Option Addr) (cap : Nat) (l : List Val) (v : Val) (w0 : World) (h0 : View) (hv : VLe h0 (Full w0)) (hb : SlC 35 3 (flatR valC) h0 (.slice ad l.length cap) l) : Calls Tryz.prog 156 #[.slice ad l.length cap, .agg (valC v).toArray] w0 (Ret w0 h0 fun u _ => u = .int .i64 (idxS (fun x => decide (v = x)) l)) := by
  have hlm := slc_lm hb
  refine ent (args := [.slice ad l.length cap, .agg (valC v).toArray]) TT_ok [] [] Tryz.func156 rfl Tryz.ntmps156 rfl rfl hv ?_
  intro b3
  refine w_loop TT_ok (fun k : Nat => [(8, .v (.int .i64 k))]) 0 (fun k => k ≤ l.length ∧ ∀ j, j < k → (fun x => decide (v = x)) (l.getD j v0) = false) (fun k => l.length - k) ?_
  refine And.intro ⟨⟨Nat.zero_le _, fun j hj => absurd hj (Nat.not_lt_zero j)⟩, gs⟩ ?_
  intro k ⟨hk, hn⟩
  refine cnd (fun h => ?_) (fun h => ?_)
  · refine And.intro (by kernel_rfl) ?_
    refine ixs hb k v0 ?_
    refine aq eqV v (l.getD k v0) ?_
    refine cnd (fun h4 => ?_) (fun h4 => ?_)
    · exact congrArg (Value.int .i64) (idx_hit (p := fun x => decide (v = x)) v0 (by omega) hn (decide_eq_true h4)).symm
    · refine wi ?_
      exact ⟨k + 1, ⟨⟨by omega, upto_snoc hn (decide_eq_false h4)⟩, by omega⟩, gs⟩
  · exact congrArg (Value.int .i64) (idx_none (p := fun x => decide (v = x)) v0 (fun j hj => hn j (by omega))).symm
theorem c_ContainsV (ad : Option Addr) (cap : Nat) (l : List Val) (v : Val) (w0 : World) (h0 : View) (hv : VLe h0 (Full w0)) (hb : SlC 35 3 (flatR valC) h0 (.slice ad l.length cap) l) : Calls Tryz.prog 116 #[.slice ad l.length cap, .agg (valC v).toArray] w0 (Ret w0 h0 fun u _ => u = .bool (l.any fun x => decide (v = x))) := by
  refine ent (args := [.slice ad l.length cap, .agg (valC v).toArray]) TT_ok [] [] Tryz.func116 rfl Tryz.ntmps116 rfl rfl hv ?_
  intro b3
  refine cb (fun w hw => c_IndexV ad cap l v w h0 hw hb) ?_
  exact congrArg Value.bool (idx_any (p := fun x => decide (v = x)) (l := l))
def cmpT (t : Tst) (n m : Int) : Bool :=
  if t.k = 2 then decide (n < 0) else if t.k = 3 then decide (n ≤ 0) else if t.k = 4 then decide (0 < n) else if t.k = 5 then decide (0 ≤ n)
  else (decide (0 < n) || (decide (n = 0) && !t.lo)) && (decide (m < 0) || (decide (m = 0) && !t.hi))
def passT (t : Tst) (v : Val) (told : List Val) : Bool :=
  if t.k = 1 then decide (v = told.getD 0 v0) else if v.k = 0 ∨ told.any (fun w => decide (w.k = 0)) = true then false else cmpT t (cmpV v (told.getD 0 v0)) (cmpV v (told.getD 1 v0))
theorem null_v0 {w : Val} (h : valOk w = true) : decide (v0 = w) = decide (w.k = 0) := by
  refine decide_eq_decide.2 ⟨fun e => by rw [← e]; rfl, fun e => ?_⟩
  rcases valOk_cases h with ⟨h1, h2, h3⟩ | ⟨h1, _⟩ | ⟨h1, _⟩ | ⟨h1, _⟩
  · cases w; cases h1; cases h2; cases h3; rfl
  · rw [h1] at e; cases e
  · rw [h1] at e; cases e
  · rw [h1] at e; cases e
theorem any_null {l : List Val} (h : ∀ w ∈ l, valOk w = true) : (l.any fun w => decide (v0 = w)) = l.any fun w => decide (w.k = 0) := by
  induction l with
  | nil => rfl
  | cons w l ih => rw [List.any_cons, List.any_cons, null_v0 (h w (by simp)), ih fun w hw => h w (by simp [hw])]
theorem c_passes (t : Tst) (aa : Option Addr) (ca : Nat) (ab : Option Addr) (cb' : Nat) (v : Val) (ad : Option Addr) (cap n : Nat) (told : List Val) (hn : n = told.length) (hk : 1 ≤ t.k ∧ t.k ≤ 6) (hl : told.length = if t.k = 6 then 2 else 1) (ht : ∀ w ∈ told, valOk w = true) (w0 : World) (h0 : View) (hv : VLe h0 (Full w0)) (hb : SlC 35 3 (flatR valC) h0 (.slice ad n cap) told) :
    Calls Tryz.prog 78 #[.agg (tstC t aa ca ab cb').toArray, .agg (valC v).toArray, .slice ad n cap] w0 (Ret w0 h0 fun u _ => u = .bool (passT t v told)) := by
  subst hn
  have hl1 : 1 ≤ told.length := by rw [hl]; split <;> decide
  refine ent (args := [.agg (tstC t aa ca ab cb').toArray, .agg (valC v).toArray, .slice ad told.length cap]) TT_ok [] [] Tryz.func78 rfl Tryz.ntmps78 rfl rfl hv ?_
  intro b3 b4
  unfold passT
  refine cnd (fun h => ?_) (fun h => ?_)
  · rw [if_pos h]
    refine And.intro (by kernel_rfl) ?_
    refine ixs hb 0 v0 ?_
    refine aq eqV v (told.getD 0 v0) ?_
    exact rfl
  rw [if_neg h]
  refine cbg (fun _ w hw => c_ContainsV ad cap told v0 w h0 hw hb) ?_
  rw [any_null ht]
  refine cnd (fun h1 => ?_) (fun h1 => ?_)
  · rw [if_pos h1]; exact rfl
  rw [if_neg (fun hh => by
    rcases hh with hh | hh
    · exact h1.1 hh
    · rw [h1.2] at hh; cases hh)]
  refine And.intro (by kernel_rfl) ?_
  refine ixs hb 0 v0 ?_
  refine cl (c_VCompare v (told.getD 0 v0)) ?_
  unfold cmpT
  refine cnd (fun h2 => ?_) (fun h2 => ?_)
  · rw [if_pos h2]; exact rfl
  rw [if_neg h2]
  refine cnd (fun h3 => ?_) (fun h3 => ?_)
  · rw [if_pos h3]; exact rfl
  rw [if_neg h3]
  refine cnd (fun h4 => ?_) (fun h4 => ?_)
  · rw [if_pos h4]; exact rfl
  rw [if_neg h4]
  refine cnd (fun h5 => ?_) (fun h5 => ?_)
  · rw [if_pos h5]; exact rfl
  rw [if_neg h5]
  have hl2 : told.length = 2 := by rw [hl, if_pos (by omega)]
  refine And.intro (by kernel_rfl) ?_
  refine ixs hb 1 v0 ?_
  refine cl (c_VCompare v (told.getD 1 v0)) ?_
  exact rfl
end Go.Proofs.YtkjhlfleojcgjaaGreatDoor
set_option maxRecDepth 100000
namespace Go.Proofs.YtkjhlfleojcgjaaGreatDoor
open Go Go.Dx Go.RowKit
noncomputable def toldL (col : List Col) (row : List Val) : List Ex → List Val × Int
  | [] => ([], 0)
  | x :: l => if (evalS col row x).2 ≠ 0 then ([], (evalS col row x).2) else ((evalS col row x).1 :: (toldL col row l).1, (toldL col row l).2)
noncomputable def askT (t : Tst) (v : Val) (col : List Col) (row : List Val) : Bool × Int :=
  if (toldL col row (parT t)).2 ≠ 0 then (false, (toldL col row (parT t)).2)
  else if ((toldL col row (parT t)).1.all fun w => fitT t v.k w.k) = true then (passT t v (toldL col row (parT t)).1, 0) else (false, 14)
noncomputable def holdL (any neg : Bool) (v : Val) (col : List Col) (row : List Val) : List Tst → Bool × Int
  | [] => (any || neg, 0)
  | t :: l => if (askT t v col row).2 ≠ 0 then (false, (askT t v col row).2) else if (askT t v col row).1 = true then (!neg, 0) else holdL any neg v col row l
def mayC (c : Cel) (v : Val) (col : List Col) (row : List Val) : Bool := rightC c && valOk v && decide (col.length = row.length) && row.all valOk
noncomputable def holdsC (c : Cel) (v : Val) (col : List Col) (row : List Val) : Bool × Int := if mayC c v col row = true then holdL c.any c.neg v col row c.ts else (false, 2)
theorem told_ok {col : List Col} {row : List Val} : ∀ {l : List Ex}, (∀ j, j < l.length → (evalS col row (l.getD j ex0)).2 = 0) → toldL col row l = (l.map fun x => (evalS col row x).1, 0)
  | [], _ => rfl
  | x :: l, h => by
    have h0 := h 0 (by simp)
    rw [toldL, if_neg (by simpa using h0), told_ok (l := l) fun j hj => by simpa using h (j + 1) (by simpa using hj)]
    rfl
theorem told_er {col : List Col} {row : List Val} : ∀ {l : List Ex} {k : Nat}, k < l.length → (∀ j, j < k → (evalS col row (l.getD j ex0)).2 = 0) → (evalS col row (l.getD k ex0)).2 ≠ 0 → (toldL col row l).2 = (evalS col row (l.getD k ex0)).2
  | [], _, h, _, _ => by simp at h
  | x :: l, 0, _, _, h => by
    have h : (evalS col row x).2 ≠ 0 := by simpa using h
    rw [toldL, if_pos h]; rfl
  | x :: l, k + 1, hk, hj, h => by
    have h0 := hj 0 (Nat.succ_pos _)
    rw [toldL, if_neg (by simpa using h0)]
    exact told_er (l := l) (k := k) (by simpa using hk) (fun j hjk => by simpa using hj (j + 1) (by omega)) (by simpa using h)
theorem eval_ok {col : List Col} {row : List Val} {h : View} {ad : Option Addr} {cap : Nat} {x : Ex} (hx : GX h ad cap x) (hvb : ∀ v ∈ row, valB v) : okV (evalS col row x).1 := by
  unfold evalS
  split
  · rename_i hh
    split
    · rename_i v he
      exact evX_good (fun w hw => ⟨List.all_eq_true.1 hh.2.2 w hw, hvb w hw⟩) _ x _ v (hx.xl.rx ⟨hx.op, hx.v⟩) hh.1 he
    · exact ok_v0
  · exact ok_v0
theorem all_noV {p : Val → Bool} {l : List Val} {k : Nat} (hk : k < l.length) (h : p (l.getD k v0) = false) : l.all p = false := by
  rw [List.all_eq_false]
  exact ⟨_, getD_mem l k v0 hk, by rw [h]; decide⟩
theorem all_upV {p : Val → Bool} {l : List Val} (h : ∀ j, j < l.length → p (l.getD j v0) = true) : l.all p = true := by
  rw [List.all_eq_true]
  intro t ht
  obtain ⟨j, hj, rfl⟩ := List.mem_iff_getElem.1 ht
  rw [← getD_lt l j v0 hj]; exact h j hj
theorem flatV (l : List Val) : (l.map valC).flatten.length = l.length * 3 := by
  induction l with
  | nil => rfl
  | cons v l ih => rw [List.map_cons, List.flatten_cons, List.length_append, ih, List.length_cons]; show 3 + _ = _; omega
def kbR2 (r : Bool × Int) : Value := .tuple #[.bool r.1, .int .i64 r.2]
set_option maxRecDepth 100000 in
set_option maxHeartbeats 2000000 in
theorem c_ask (t : Tst) (aa : Option Addr) (ca : Nat) (ab : Option Addr) (cb' : Nat) (v : Val) (ad : Option Addr) (cap : Nat) (col : List Col) (ad2 : Option Addr) (cap2 : Nat) (row : List Val) (hk' : 1 ≤ t.k ∧ t.k ≤ 6) (hg : GT t) (hl : col.length ≤ 1000000) (hvb : ∀ v ∈ row, valB v) (w0 : World) (h0 : View) (hv : VLe h0 (Full w0))
    (ha : EX h0 aa ca t.a) (hb : EX h0 ab cb' t.b) (hc : SlC 70 3 (flatR colC) h0 (.slice ad col.length cap) col) (hr : SlC 35 3 (flatR valC) h0 (.slice ad2 row.length cap2) row) :
    Calls Tryz.prog 42 #[.agg (tstC t aa ca ab cb').toArray, .agg (valC v).toArray, .slice ad col.length cap, .slice ad2 row.length cap2] w0 (Ret w0 h0 fun u _ => u = kbR2 (askT t v col row)) := by
  refine ent (args := [.agg (tstC t aa ca ab cb').toArray, .agg (valC v).toArray, .slice ad col.length cap, .slice ad2 row.length cap2]) TT_ok [39] [] Tryz.func42 rfl Tryz.ntmps42 rfl rfl hv ?_
  intro b4 b5
  refine cA TT_ok (fun w v h1 h2 h3 => c_parts t aa ca ab cb' w v h3) (fun _ => Mono.slF) (fun x => ?_)
  have hes := parE_ex ha hb hg
  have hel := parE_le t aa ca ab cb'
  have hmap := parE_map t aa ca ab cb'
  have hlen : (parE t aa ca ab cb').length = if t.k = 6 then 2 else 1 := by unfold parE; split <;> rfl
  unfold askT
  rw [← hmap]
  generalize parE t aa ca ab cb' = es at hes hel hlen ⊢
  refine nilC 900 35 3 ?_
  refine w_loopB TT_ok (fun z : Option Addr × Nat × Nat => [(10, .v (.slice z.1 z.2.1 z.2.2)), (20, .v (.int .i64 z.2.1))]) (fun z => [(900, .e (bufE 35 3 (.slice z.1 z.2.1 z.2.2) ((((es.map (·.1)).take z.2.1).map fun y => (evalS col row y).1).map valC).flatten)), (5, .c b5 35 (valC v)), (4, .c b4 52 (tstC t aa ca ab cb'))]) (none, 0, 0)
    (fun z => z.2.1 ≤ es.length ∧ ∀ j, j < z.2.1 → (evalS col row ((es.map (·.1)).getD j ex0)).2 = 0) (fun z => es.length - z.2.1) ?_
  refine And.intro ⟨⟨Nat.zero_le _, fun j h => absurd h (Nat.not_lt_zero _)⟩, gs⟩ ?_
  rintro ⟨a0, k, cp⟩ ⟨hkl, hz⟩
  dsimp only at hkl hz ⊢
  refine cnd (fun h3 => ?_) (fun h3 => ?_)
  · have hk' : k < es.length := by omega
    have hgr : (List.range es.length).getD k 0 = k := by simp [List.getD, hk']
    have hgm : (es.map (·.1)).getD k ex0 = (es.getD k xe0).1 := by simp [List.getD, hk']
    have hgx := hes _ (getD_mem es k xe0 hk')
    obtain ⟨p, hp⟩ : ∃ p, evalS col row (es.getD k xe0).1 = p := ⟨_, rfl⟩
    rw [← hgm] at hp
    refine ixf (fun v hF => hF.2) k 0 ?_ (by simpa using hk') (by simp)
    rw [hgr]
    intro b12
    refine cb (fun w hw => c_EvalK (p := p) (es.getD k xe0).1 (es.getD k xe0).2.1 (es.getD k xe0).2.2 ad cap col ad2 cap2 row (by rw [← hgm]; exact hp) hl hvb w h0 hw hgx hc hr) ?_
    intro b13
    refine cnd (fun h4 => ?_) (fun h4 => ?_)
    · have he := told_er (col := col) (row := row) (l := es.map (·.1)) (k := k) (by simpa using hk') hz (by rw [hp]; exact h4)
      rw [hp] at he
      rw [if_pos (by rw [he]; exact h4), he]
      exact rfl
    · intro b36
      refine ap TT_ok 900 (AppT.of (bytes := 32) (sz := 2) (by kernel_rfl) (by kernel_rfl) (by kernel_rfl)) rfl rfl rfl rfl rfl rfl rfl (by rw [flatV, List.length_map, List.length_take, List.length_map]; show (_ + 3) * 33 ≤ _; omega) (fun a1 n1 c1 e1 => ?_)
      refine wi ?_
      have hn1 : n1 = k + 1 := by
        rw [flatV, List.length_map, List.length_take, List.length_map] at e1
        have e1 : n1 * 3 = min k es.length * 3 + 3 := e1
        omega
      subst hn1
      refine ⟨(a1, k + 1, c1), ⟨⟨hk', upto_snoc hz (by rw [hp]; simpa using h4)⟩, ?_⟩, ?_⟩
      · show es.length - (k + 1) < es.length - k; omega
      · refine gs rfl ?_
        show [(900, OB.e (bufE 35 3 (.slice a1 (k + 1) c1) _)), _, _] = [(900, OB.e (bufE 35 3 (.slice a1 (k + 1) c1) _)), _, _]
        rw [take_snocD (es.map (·.1)) k ex0 (by simpa using hk'), List.map_append, List.map_append, List.flatten_append, List.map_cons, hp]; rfl
  · have hkk : k = es.length := by omega
    subst hkk
    have hto := told_ok (col := col) (row := row) (l := es.map (·.1)) (fun j hj => hz j (by simpa using hj))
    rw [hto]
    have hml : ((es.map (·.1)).map fun x => (evalS col row x).1).length = es.length := by simp
    have htk : ((es.map (·.1)).take es.length).map (fun y => (evalS col row y).1) = (es.map (·.1)).map fun x => (evalS col row x).1 := by rw [List.take_of_length_le (by simp)]
    have hval : ∀ w ∈ (es.map (·.1)).map fun x => (evalS col row x).1, valOk w = true := by
      intro w hw
      simp only [List.mem_map] at hw
      obtain ⟨x, ⟨q, hq, rfl⟩, rfl⟩ := hw
      exact (eval_ok (hes q hq) hvb).1
    rw [htk]
    generalize ((es.map (·.1)).map fun x => (evalS col row x).1) = told at hml hval
    rw [if_neg (fun h => h rfl)]
    refine And.intro rfl ?_
    refine sealW (g := valC) (l := told) 900 rfl hml.symm ?_
    refine goW TT_ok ?_
    refine w_loop TT_ok (fun k : Nat => [(41, .v (.int .i64 k))]) 0 (fun k => k ≤ told.length ∧ ∀ j, j < k → fitT t v.k (told.getD j v0).k = true) (fun k => told.length - k) ?_
    refine And.intro ⟨⟨Nat.zero_le _, fun j hj => absurd hj (Nat.not_lt_zero j)⟩, gs⟩ ?_
    intro k ⟨hk, hn⟩
    refine cnd (fun h => ?_) (fun h => ?_)
    · refine ixf (fun v hF => hF.2) k v0 ?_ (by omega) hml.symm
      intro b16
      refine cl (c_fits t aa ca ab cb' v.k (told.getD k v0).k) ?_
      refine cnd (fun h4 => ?_) (fun h4 => ?_)
      · rw [if_neg (by rw [all_noV (p := fun w => fitT t v.k w.k) (k := k) (by omega) h4]; decide)]
        exact rfl
      · refine wi ?_
        exact ⟨k + 1, ⟨⟨by omega, upto_snoc hn h4⟩, by omega⟩, gs⟩
    · rw [if_pos (all_upV (p := fun w => fitT t v.k w.k) (fun j hj => hn j (by omega)))]
      refine cf (fun w v' h1 h2 h3 => c_passes t aa ca ab cb' v _ _ es.length told hml.symm hk' (by rw [hml, hlen]) hval w v' h3 h2.2) ?_
      exact rfl
theorem sound_k {t : Tst} (h : soundT t = true) : 1 ≤ t.k ∧ t.k ≤ 6 := by
  unfold soundT at h
  split at h
  · omega
  · split at h
    · cases h
    · omega
theorem right_sound {c : Cel} (h : rightC c = true) : ∀ t ∈ c.ts, soundT t = true := by
  unfold rightC at h
  split at h
  · simp only [Bool.and_eq_true, decide_eq_true_eq] at h
    intro t ht
    rw [List.eq_nil_of_length_eq_zero h.2] at ht
    cases ht
  · simp only [Bool.and_eq_true] at h
    exact List.all_eq_true.1 h.2
section hold
variable {any neg : Bool} {v : Val} {col : List Col} {row : List Val}
theorem hold_er : ∀ {l : List Tst} {k : Nat}, k < l.length → (∀ j, j < k → askT (l.getD j tst0) v col row = (false, 0)) → (askT (l.getD k tst0) v col row).2 ≠ 0 → holdL any neg v col row l = (false, (askT (l.getD k tst0) v col row).2)
  | [], _, h, _, _ => by simp at h
  | t :: l, 0, _, _, h => by
    have h : (askT t v col row).2 ≠ 0 := by simpa using h
    rw [holdL, if_pos h]; rfl
  | t :: l, k + 1, hk, hj, h => by
    have h0 : askT t v col row = (false, 0) := by simpa using hj 0 (Nat.succ_pos _)
    rw [holdL, h0, if_neg (by decide), if_neg (by decide), hold_er (l := l) (k := k) (by simpa using hk) (fun j hjk => by simpa using hj (j + 1) (by omega)) (by simpa using h)]
    rfl
theorem hold_hit : ∀ {l : List Tst} {k : Nat}, k < l.length → (∀ j, j < k → askT (l.getD j tst0) v col row = (false, 0)) → (askT (l.getD k tst0) v col row).2 = 0 → (askT (l.getD k tst0) v col row).1 = true → holdL any neg v col row l = (!neg, 0)
  | [], _, h, _, _, _ => by simp at h
  | t :: l, 0, _, _, h, h' => by
    have h : (askT t v col row).2 = 0 := by simpa using h
    have h' : (askT t v col row).1 = true := by simpa using h'
    rw [holdL, if_neg (fun hh => hh h), if_pos h']
  | t :: l, k + 1, hk, hj, h, h' => by
    have h0 : askT t v col row = (false, 0) := by simpa using hj 0 (Nat.succ_pos _)
    rw [holdL, h0, if_neg (by decide), if_neg (by decide), hold_hit (l := l) (k := k) (by simpa using hk) (fun j hjk => by simpa using hj (j + 1) (by omega)) (by simpa using h) (by simpa using h')]
theorem hold_none : ∀ {l : List Tst}, (∀ j, j < l.length → askT (l.getD j tst0) v col row = (false, 0)) → holdL any neg v col row l = (any || neg, 0)
  | [], _ => rfl
  | t :: l, hj => by
    have h0 : askT t v col row = (false, 0) := by simpa using hj 0 (by simp)
    rw [holdL, h0, if_neg (by decide), if_neg (by decide), hold_none (l := l) (fun j hjk => by simpa using hj (j + 1) (by simpa using hjk))]
theorem ask_two {t : Tst} {p q : Val × Int} (h : t.k = 6) (hp : evalS col row t.a = p) (hq : evalS col row t.b = q) :
    askT t v col row = if p.2 ≠ 0 then (false, p.2) else if q.2 ≠ 0 then (false, q.2) else if (fitT t v.k p.1.k && fitT t v.k q.1.k) = true then (passT t v [p.1, q.1], 0) else (false, 14) := by
  subst hp hq
  unfold askT parT
  rw [if_pos h]
  by_cases h1 : (evalS col row t.a).2 ≠ 0
  · rw [if_pos h1, toldL, if_pos h1, if_pos h1]
  · rw [if_neg h1, toldL, if_neg h1, toldL]
    by_cases h2 : (evalS col row t.b).2 ≠ 0
    · rw [if_pos h2, if_pos h2, if_pos h2]
    · rw [if_neg h2, if_neg h2, toldL, if_neg (fun hh => hh rfl)]
      simp [List.all_cons]
theorem ask_one {t : Tst} {p : Val × Int} (h : t.k ≠ 6) (hp : evalS col row t.a = p) :
    askT t v col row = if p.2 ≠ 0 then (false, p.2) else if fitT t v.k p.1.k = true then (passT t v [p.1], 0) else (false, 14) := by
  subst hp
  unfold askT parT
  rw [if_neg h]
  by_cases h1 : (evalS col row t.a).2 ≠ 0
  · rw [if_pos h1, toldL, if_pos h1, if_pos h1]
  · rw [if_neg h1, toldL, if_neg h1, toldL, if_neg (fun hh => hh rfl)]
    simp [List.all_cons]
end hold
theorem mayR {c : Cel} {v : Val} {col : List Col} {row : List Val} (h : mayC c v col row = true) : rightC c = true ∧ valOk v = true ∧ col.length = row.length ∧ row.all valOk = true := by
  unfold mayC at h
  simp only [Bool.and_eq_true, decide_eq_true_eq] at h
  exact ⟨h.1.1.1, h.1.1.2, h.1.2, h.2⟩
theorem c_may (c : Cel) (adt : Option Addr) (capt : Nat) (v : Val) (ad : Option Addr) (cap : Nat) (col : List Col) (ad2 : Option Addr) (cap2 : Nat) (row : List Val) (hg : ∀ t ∈ c.ts, GT t) (hvv : valB v) (hvb : ∀ v ∈ row, valB v) (w0 : World) (h0 : View) (hv : VLe h0 (Full w0))
    (hx : TL h0 adt capt c.ts) (hc : SlC 70 3 (flatR colC) h0 (.slice ad col.length cap) col) (hr : SlC 35 3 (flatR valC) h0 (.slice ad2 row.length cap2) row) :
    Calls Tryz.prog 41 #[.agg (celC c adt capt).toArray, .agg (valC v).toArray, .slice ad col.length cap, .slice ad2 row.length cap2] w0 (Ret w0 h0 fun u _ => u = .int .i64 (if mayC c v col row = true then 0 else 2)) := by
  have hlm := slc_lm hr
  refine ent (args := [.agg (celC c adt capt).toArray, .agg (valC v).toArray, .slice ad col.length cap, .slice ad2 row.length cap2]) TT_ok [] [] Tryz.func41 rfl Tryz.ntmps41 rfl rfl hv ?_
  intro b4 b5
  refine cb (fun w hw => c_CCheck c adt capt hg w h0 hw hx) ?_
  refine cbg (fun _ w hw => c_VCheck v hvv w h0 hw) ?_
  refine cnd (fun h => ?_) (fun h => ?_)
  · have e : (if mayC c v col row = true then (0 : Int) else 2) = 2 := if_neg (fun hm => by
      obtain ⟨m1, m2, m3, _⟩ := mayR hm
      rcases h with (h | h) | h
      · rw [if_pos m1] at h; exact h rfl
      · rw [if_pos m2] at h; exact h rfl
      · omega)
    rw [e]; exact rfl
  have r1 : rightC c = true := by
    have := h.1.1
    split at this
    · assumption
    · exact absurd this (by decide)
  have r2 : valOk v = true := by
    have := h.1.2
    split at this
    · assumption
    · exact absurd this (by decide)
  have hmay : mayC c v col row = row.all valOk := by
    unfold mayC
    rw [r1, r2, decide_eq_true (by omega)]; rfl
  rw [hmay]
  refine w_loop TT_ok (fun k : Nat => [(28, .v (.int .i64 k))]) 0 (fun k => k ≤ row.length ∧ ∀ j, j < k → valOk (row.getD j v0) = true) (fun k => row.length - k) ?_
  refine And.intro ⟨⟨Nat.zero_le _, fun j hj => absurd hj (Nat.not_lt_zero j)⟩, gs⟩ ?_
  intro k ⟨hk, hn⟩
  refine cnd (fun h => ?_) (fun h => ?_)
  · refine ixs hr k v0 ?_
    intro b10
    refine cb (fun w hw => c_VCheck (row.getD k v0) (hvb _ (getD_mem row k v0 (by omega))) w h0 hw) ?_
    refine cnd (fun h4 => ?_) (fun h4 => ?_)
    · have h5 : valOk (row.getD k v0) = false := by
        rcases Bool.eq_false_or_eq_true (valOk (row.getD k v0)) with e | e
        · rw [if_pos e] at h4; exact absurd rfl h4
        · exact e
      have e : (if row.all valOk = true then (0 : Int) else 2) = 2 := if_neg (by rw [all_noV (k := k) (by omega) h5]; decide)
      rw [e]; exact rfl
    · have h5 : valOk (row.getD k v0) = true := by
        split at h4
        · assumption
        · exact absurd h4 (by decide)
      refine wi ?_
      exact ⟨k + 1, ⟨⟨by omega, upto_snoc hn h5⟩, by omega⟩, gs⟩
  · have e : (if row.all valOk = true then (0 : Int) else 2) = 0 := if_pos (all_upV (fun j hj => hn j (by omega)))
    rw [e]; exact rfl
set_option maxHeartbeats 1000000 in
theorem c_CHolds (c : Cel) (adt : Option Addr) (capt : Nat) (v : Val) (ad : Option Addr) (cap : Nat) (col : List Col) (ad2 : Option Addr) (cap2 : Nat) (row : List Val) (hg : ∀ t ∈ c.ts, GT t) (hvv : valB v) (hl : col.length ≤ 1000000) (hvb : ∀ v ∈ row, valB v) (w0 : World) (h0 : View) (hv : VLe h0 (Full w0))
    (hx : TL h0 adt capt c.ts) (hc : SlC 70 3 (flatR colC) h0 (.slice ad col.length cap) col) (hr : SlC 35 3 (flatR valC) h0 (.slice ad2 row.length cap2) row) :
    Calls Tryz.prog 17 #[.agg (celC c adt capt).toArray, .agg (valC v).toArray, .slice ad col.length cap, .slice ad2 row.length cap2] w0 (Ret w0 h0 fun u _ => u = kbR2 (holdsC c v col row)) := by
  have hlm := hx.lm
  refine ent (args := [.agg (celC c adt capt).toArray, .agg (valC v).toArray, .slice ad col.length cap, .slice ad2 row.length cap2]) TT_ok [] [] Tryz.func17 rfl Tryz.ntmps17 rfl rfl hv ?_
  intro b4 b5
  refine cb (fun w hw => c_may c adt capt v ad cap col ad2 cap2 row hg hvv hvb w h0 hw hx hc hr) ?_
  refine cnd (fun h => ?_) (fun h => ?_)
  · by_cases hm : mayC c v col row = true
    · rw [if_pos hm] at h; exact absurd rfl h
    · have e : holdsC c v col row = (false, 2) := if_neg hm
      have e2 : (if mayC c v col row = true then (0 : Int) else 2) = 2 := if_neg hm
      rw [e, e2]
      exact rfl
  have hm : mayC c v col row = true := by
    split at h
    · assumption
    · exact absurd h (by decide)
  have e : holdsC c v col row = holdL c.any c.neg v col row c.ts := if_pos hm
  rw [e]
  have hso := right_sound (mayR hm).1
  refine w_loop TT_ok (fun k : Nat => [(26, .v (.int .i64 k))]) 0 (fun k => k ≤ c.ts.length ∧ ∀ j, j < k → askT (c.ts.getD j tst0) v col row = (false, 0)) (fun k => c.ts.length - k) ?_
  refine And.intro ⟨⟨Nat.zero_le _, fun j hj => absurd hj (Nat.not_lt_zero j)⟩, gs⟩ ?_
  intro k ⟨hk, hn⟩
  refine cnd (fun h => ?_) (fun h => ?_)
  · have hmem := getT_mem c.ts k (by omega)
    refine ixT hx k (fun aa ca ab cb' h1 h2 h3 => ?_)
    intro b12
    refine cb (fun w hw => c_ask _ aa ca ab cb' v ad cap col ad2 cap2 row (sound_k (hso _ hmem)) (hg _ hmem) hl hvb w h0 hw h1 h2 hc hr) ?_
    have e1 := hold_er (any := c.any) (neg := c.neg) (v := v) (col := col) (row := row) (l := c.ts) (k := k) (by omega) hn
    have e2 := hold_hit (any := c.any) (neg := c.neg) (v := v) (col := col) (row := row) (l := c.ts) (k := k) (by omega) hn
    have hn' : askT (c.ts.getD k tst0) v col row = (false, 0) → ∀ j, j < k + 1 → askT (c.ts.getD j tst0) v col row = (false, 0) := fun hh => upto_snoc hn hh
    generalize askT (c.ts.getD k tst0) v col row = p at e1 e2 hn' ⊢
    refine cnd (fun h4 => ?_) (fun h4 => ?_)
    · rw [e1 h4]; exact rfl
    refine cnd (fun h5 => ?_) (fun h5 => ?_)
    · rw [e2 (by simpa using h4) h5]; exact rfl
    · refine wi ?_
      exact ⟨k + 1, ⟨⟨by omega, hn' (Prod.ext h5 (by simpa using h4))⟩, by omega⟩, gs⟩
  · rw [hold_none (fun j hj => hn j (by omega))]
    exact rfl
end Go.Proofs.YtkjhlfleojcgjaaGreatDoor
set_option maxRecDepth 100000
namespace Go.Proofs.YtkjhlfleojcgjaaGreatDoor
open Go Go.Dx Go.RowKit
section typed
variable {t : Tst} {kind : Int} {col : List Col}
end typed
end Go.Proofs.YtkjhlfleojcgjaaGreatDoor
set_option maxRecDepth 100000
namespace Go.Proofs.YtkjhlfleojcgjaaGreatDoor
open Go Go.Dx Go.RowKit
def smallC (ts : List Tst) : Bool := decide (ts.length ≤ 14) && ts.all fun t => XSm t.a && XSm t.b
theorem ixTg {c : Cx} {F : FV} {g : Bool} {p q : Prop} [hb : BP g p q] {n : Nat} {ad : Option Addr} {cap : Nat} {l : List Tst} {i : Int} {X : Nat → List Value → Prop} (H : TL c.h0 ad cap l) (j : Nat) (hj : j < l.length)
    (k : ∀ aa ca ab cb, EX c.h0 aa ca (l.getD j tst0).a → EX c.h0 ab cb (l.getD j tst0).b → i64 (l.getD j tst0).k → X j (tstC (l.getD j tst0) aa ca ab cb))
    (h : p → i = (j : Int) := by intros; omega) (hn : n = l.length := by rfl) : ∃ (j : Nat) (cs : List Value), (g = true → i = (j : Int) ∧ j < n ∧ ElC c.h0 F ad (j * 15) cs) ∧ X j cs := by
  obtain ⟨g', off, aa, ca, ab, cb, ha, h1, h2, h3, hc⟩ := H.at hj
  subst hn
  exact ⟨j, _, fun e => ⟨h (hb.t e), hj, fun v hv _ => ⟨by rw [ha]; rfl, fun w hw => by rw [ha]; exact hc w (hv.trans hw)⟩⟩, k aa ca ab cb h1 h2 h3⟩
def markS (l : List Tok) (i : Nat) : List UInt8 := if (l.getD i t0).k = 4 then (l.getD i t0).s else []
theorem on_mark (l : List Tok) (i : Nat) (s : List UInt8) (h : s ≠ []) : onS l i false 4 s = decide (markS l i = s) := by
  unfold onS nowS markS
  rw [if_neg (by decide)]
  by_cases h1 : (l.getD i t0).k = 4
  · rw [if_pos h1, decide_eq_true h1, Bool.true_and]
  · rw [if_neg h1, decide_eq_false h1, Bool.false_and, decide_eq_false (Ne.symm h)]
theorem on_bad (l : List Tok) (i : Nat) (s : List UInt8) : onS l i true 4 s = false := by
  cases ho : onS l i true 4 s with
  | false => rfl
  | true => exact absurd (on_lt ho (by decide)).2 (by decide)
section cr
variable (b : Nat) (ad : Option Addr) (cap : Nat) (l : List Tok)
theorem c_cmark (i : Nat) (bad : Bool) (w0 : World) (h0 : View) (hv : VLe h0 (Full w0)) (hno : h0 b = none) (hl : SlC 84 4 (flatR tokC) h0 (.slice ad l.length cap) l)
    (hbl : w0.heap[b]? = some (.cells (rdC ad l.length cap i bad).toArray 79 (0, 0))) :
    Calls Tryz.prog 33 #[.pointer (some ⟨b, 0, none⟩)] w0 (RetM [b] w0 fun u w' => u = vs (markS l i) ∧ w'.heap[b]? = some (.cells (rdC ad l.length cap i bad).toArray 79 (0, 0))) := by
  refine entM (args := [.pointer (some ⟨b, 0, none⟩)]) TT_ok [] [] [.o 900 0] Tryz.func33 rfl Tryz.ntmps33 rfl rfl hv hbl hno rfl ?_
  refine And.intro (by kernel_rfl) ?_
  refine ixsg hl i t0 ?_ (by intros; omega)
  refine kg1 ?_
  refine cnd (fun h => ?_) (fun h => ?_)
  · refine And.intro (by kernel_rfl) ?_
    refine ixs hl i t0 ?_ (by omega)
    have e : markS l i = (l.getD i t0).s := if_pos h.2
    rw [e]
    exact ⟨rfl, rfl⟩
  · have e : markS l i = [] := by
      unfold markS
      rcases h with h | h
      · have hge : l.length ≤ i := by omega
        have e0 : l.getD i t0 = t0 := by simp [List.getD, List.getElem?_eq_none hge]
        rw [e0]; rfl
      · rw [if_neg h]
    rw [e]
    exact ⟨rfl, rfl⟩
theorem c_Con (i : Nat) (bad : Bool) (s : List UInt8) (hs : s ≠ []) (hi : i ≤ 1000000) (w0 : World) (h0 : View) (hv : VLe h0 (Full w0)) (hno : h0 b = none) (hl : SlC 84 4 (flatR tokC) h0 (.slice ad l.length cap) l)
    (hbl : w0.heap[b]? = some (.cells (rdC ad l.length cap i bad).toArray 79 (0, 0))) :
    Calls Tryz.prog 70 #[.pointer (some ⟨b, 0, none⟩), vs s] w0 (RetM [b] w0 fun u w' => u = .bool (onS l i bad 4 s) ∧ w'.heap[b]? = some (.cells (rdC ad l.length cap ((if onS l i bad 4 s = true then i + 1 else i : Nat) : Int) bad).toArray 79 (0, 0))) := by
  refine entM (args := [.pointer (some ⟨b, 0, none⟩), vs s]) TT_ok [4000013] [] [.o 900 0, .v (vs s)] Tryz.func70 rfl Tryz.ntmps70 rfl rfl hv hbl hno rfl ?_
  refine cnd (fun h => ?_) (fun h => ?_)
  · have h : bad = false := h
    subst h
    refine cMI TT_ok 900 (fun w v h1 h2 h3 h4 h5 => c_cmark b ad cap l i false w v h3 h4 (Mono.slF _ _ h1 hl) h5) ?_
    have eo := on_mark l i s hs
    refine cnd (fun h1 => ?_) (fun h1 => ?_)
    · have e : onS l i false 4 s = false := by rw [eo, decide_eq_false]; simpa using h1
      rw [e]
      exact ⟨rfl, rfl⟩
    · have e : onS l i false 4 s = true := by rw [eo, decide_eq_true]; simpa using h1
      rw [e]
      refine wi ?_
      exact ⟨rfl, rfl⟩
  · have h : bad = true := by simpa using h
    subst h
    rw [on_bad]
    refine ⟨vs [], ?_⟩
    refine cndT (by simp) ?_
    exact ⟨rfl, rfl⟩
theorem c_Cmust (p : CSt) (s : List UInt8) (hs : s ≠ []) (hi : p.1 ≤ 1000000) (w0 : World) (h0 : View) (hv : VLe h0 (Full w0)) (hno : h0 b = none) (hl : SlC 84 4 (flatR tokC) h0 (.slice ad l.length cap) l)
    (hbl : w0.heap[b]? = some (.cells (rdC ad l.length cap (p.1 : Nat) p.2).toArray 79 (0, 0))) :
    Calls Tryz.prog 71 #[.pointer (some ⟨b, 0, none⟩), vs s] w0 (RetM [b] w0 fun u w' => u = .tuple #[] ∧ w'.heap[b]? = some (.cells (rdC ad l.length cap ((mustC l p s).1 : Nat) (mustC l p s).2).toArray 79 (0, 0))) := by
  obtain ⟨i, bad⟩ := p
  dsimp only at hbl hi
  refine entM (args := [.pointer (some ⟨b, 0, none⟩), vs s]) TT_ok [] [] [.o 900 0, .v (vs s)] Tryz.func71 rfl Tryz.ntmps71 rfl rfl hv hbl hno rfl ?_
  refine cM TT_ok 900 (fun w v h1 h2 h3 h4 h5 => c_Con b ad cap l i bad s hs hi w v h3 h4 (Mono.slF _ _ h1 hl) h5) ?_
  refine cnd (fun h => ?_) (fun h => ?_)
  · have e : mustC l (i, bad) s = (i, true) := if_neg (by rw [h]; decide)
    rw [e, h]; exact ⟨rfl, rfl⟩
  · have e : mustC l (i, bad) s = (i + 1, bad) := if_pos h
    rw [e, h]; exact ⟨rfl, rfl⟩
theorem c_Csign (k : Int) (w0 : World) (h0 : View) (hv : VLe h0 (Full w0)) : Calls Tryz.prog 87 #[.int .i64 k] w0 (Ret w0 h0 fun u _ => u = vs (sgC k)) := by
  refine ent (args := [.int .i64 k]) TT_ok [] [] Tryz.func87 rfl Tryz.ntmps87 rfl rfl hv ?_
  unfold sgC
  refine cnd (fun h => ?_) (fun h => ?_)
  · rw [if_pos h]; exact rfl
  rw [if_neg h]
  refine cnd (fun h => ?_) (fun h => ?_)
  · rw [if_pos h]; exact rfl
  rw [if_neg h]
  refine cnd (fun h => ?_) (fun h => ?_)
  · rw [if_pos h]; exact rfl
  rw [if_neg h]
  refine cnd (fun h => ?_) (fun h => ?_)
  · rw [if_pos h]; exact rfl
  rw [if_neg h]
  exact rfl
variable {b ad cap l}
theorem c_Cexpr (hT : TokN l) (hTs : ∀ t ∈ l, t.s.length ≤ 1000000) (hn : l.length ≤ 999999) (p : CSt) (hi : p.1 ≤ l.length) (w0 : World) (h0 : View) (hv : VLe h0 (Full w0)) (hno : h0 b = none) (hl : SlC 84 4 (flatR tokC) h0 (.slice ad l.length cap) l)
    (hbl : w0.heap[b]? = some (.cells (rdC ad l.length cap (p.1 : Nat) p.2).toArray 79 (0, 0))) :
    Calls Tryz.prog 106 #[.pointer (some ⟨b, 0, none⟩)] w0 (RetV [b] w0 h0 fun u w' hh => ∃ x : Option Addr × Nat, u = exV (exprC l p).1 x ∧ w'.heap[b]? = some (.cells (rdC ad l.length cap ((exprC l p).2.1 : Nat) (exprC l p).2.2).toArray 79 (0, 0)) ∧ XL hh x.1 x.2 (exprC l p).1.l) := by
  obtain ⟨i, bad⟩ := p
  dsimp only at hbl hi
  have hR : exprC l (i, bad) = if bad = true then (ex0, (i, bad)) else ((readT l i 4).1, (readT l i 4).2.1, decide ((readT l i 4).2.2 ≠ 0)) := rfl
  generalize exprC l (i, bad) = R at hR ⊢
  refine entW (args := [.pointer (some ⟨b, 0, none⟩)]) TT_ok [1000003] [] [.o 900 0] Tryz.func106 rfl Tryz.ntmps106 rfl rfl hv hbl hno rfl (fun x => xl_m x _) ?_
  intro b2
  refine cnd (fun h => ?_) (fun h => ?_)
  · have h : bad = true := h
    rw [if_pos h] at hR
    rw [hR]
    exact ⟨(none, 0), rfl, rfl, fun v _ _ => xl_nil v⟩
  have h : bad = false := by simpa using h
  subst h
  rw [if_neg (by decide), show decide ((readT l i 4).2.2 ≠ 0) = !decide ((readT l i 4).2.2 = 0) from decide_not] at hR
  have hg := rt_ge l (lev := 4) hi
  refine regPt TT_ok (.m [0,5,1,6,2,7,3,8,4,9] (.n 10 (.m [11,12,13,14] (.n 15 (.n 16 (.m [17,18] .e) .z) .z)) (.n 15 (.n 10 (.m [11,12,13,14] (.n 16 (.m [17,18] .e) .z)) .z) .z))) [3] ?_
  refine kq ⟨?_, ?_⟩
  · refine cA TT_ok (fun w v h1 h2 h3 => c_Read ad cap l hT hTs hn i 4 hi (by omega) w v h3 (Mono.slF _ _ h1 hl)) (fun x => xl_m x _) (fun x1 => ?_)
    generalize readT l i 4 = r at hR hg ⊢
    rw [hR]
    refine kq ?_
    refine kq ?_
    intro b3
    refine kq ?_
    refine kq ?_
    refine kq ?_
    exact ⟨x1, rfl, rfl, fun v _ hF => hF.2⟩
  · intro b3
    refine kq ?_
    refine cA TT_ok (fun w v h1 h2 h3 => c_Read ad cap l hT hTs hn i 4 hi (by omega) w v h3 (Mono.slF _ _ h1 hl)) (fun x => xl_m x _) (fun x1 => ?_)
    generalize readT l i 4 = r at hR hg ⊢
    rw [hR]
    refine kq ?_
    refine kq ?_
    refine kq ?_
    refine kq ?_
    exact ⟨x1, rfl, rfl, fun v _ hF => hF.2⟩
def tstV (t : Tst) (x : (Option Addr × Nat) × (Option Addr × Nat)) : Value := .agg (tstC t x.1.1 x.1.2 x.2.1 x.2.2).toArray
def TX (h : View) (t : Tst) (x : (Option Addr × Nat) × (Option Addr × Nat)) : Prop := XL h x.1.1 x.1.2 t.a.l ∧ XL h x.2.1 x.2.2 t.b.l
theorem tx_m (x : (Option Addr × Nat) × (Option Addr × Nat)) (t : Tst) : Mono fun h => TX h t x := fun _ _ hle hx => ⟨XL.mono hle hx.1, XL.mono hle hx.2⟩
theorem sg_nn {j : Nat} (h : j < 4) : sgC ((j + 2 : Nat) : Int) ≠ [] := by
  have : j = 0 ∨ j = 1 ∨ j = 2 ∨ j = 3 := by omega
  rcases this with rfl | rfl | rfl | rfl <;> decide
theorem test_hit {p : CSt} {k : Nat} (hk : k < 4) (hn : ∀ j, j < k → onS l p.1 p.2 4 (sgC ((j + 2 : Nat) : Int)) = false) (hy : onS l p.1 p.2 4 (sgC ((k + 2 : Nat) : Int)) = true) : testC l p = oneC l (p.1 + 1, p.2) ((k + 2 : Nat) : Int) := by
  have : k = 0 ∨ k = 1 ∨ k = 2 ∨ k = 3 := by omega
  unfold testC
  rcases this with rfl | rfl | rfl | rfl
  · have hy : onS l p.1 p.2 4 (sgC 2) = true := hy
    rw [if_pos hy]; rfl
  · have h0 : onS l p.1 p.2 4 (sgC 2) = false := hn 0 (by omega)
    have hy : onS l p.1 p.2 4 (sgC 3) = true := hy
    rw [if_neg (by rw [h0]; decide), if_pos hy]; rfl
  · have h0 : onS l p.1 p.2 4 (sgC 2) = false := hn 0 (by omega)
    have h1 : onS l p.1 p.2 4 (sgC 3) = false := hn 1 (by omega)
    have hy : onS l p.1 p.2 4 (sgC 4) = true := hy
    rw [if_neg (by rw [h0]; decide), if_neg (by rw [h1]; decide), if_pos hy]; rfl
  · have h0 : onS l p.1 p.2 4 (sgC 2) = false := hn 0 (by omega)
    have h1 : onS l p.1 p.2 4 (sgC 3) = false := hn 1 (by omega)
    have h2 : onS l p.1 p.2 4 (sgC 4) = false := hn 2 (by omega)
    have hy : onS l p.1 p.2 4 (sgC 5) = true := hy
    rw [if_neg (by rw [h0]; decide), if_neg (by rw [h1]; decide), if_neg (by rw [h2]; decide), if_pos hy]; rfl
theorem test_no {p : CSt} (hn : ∀ j, j < 4 → onS l p.1 p.2 4 (sgC ((j + 2 : Nat) : Int)) = false) : testC l p = if onS l p.1 p.2 4 [91] = true then inC l (p.1 + 1, p.2) false else if onS l p.1 p.2 4 [93] = true then inC l (p.1 + 1, p.2) true else oneC l p 1 := by
  have h0 : onS l p.1 p.2 4 (sgC 2) = false := hn 0 (by omega)
  have h1 : onS l p.1 p.2 4 (sgC 3) = false := hn 1 (by omega)
  have h2 : onS l p.1 p.2 4 (sgC 4) = false := hn 2 (by omega)
  have h3 : onS l p.1 p.2 4 (sgC 5) = false := hn 3 (by omega)
  rw [testC, if_neg (by rw [h0]; decide), if_neg (by rw [h1]; decide), if_neg (by rw [h2]; decide), if_neg (by rw [h3]; decide)]
set_option maxHeartbeats 2000000 in
theorem c_Ctest (hT : TokN l) (hTs : ∀ t ∈ l, t.s.length ≤ 1000000) (hn : l.length ≤ 999999) (p : CSt) (hi : p.1 ≤ l.length) (w0 : World) (h0 : View) (hv : VLe h0 (Full w0)) (hno : h0 b = none) (hl : SlC 84 4 (flatR tokC) h0 (.slice ad l.length cap) l)
    (hbl : w0.heap[b]? = some (.cells (rdC ad l.length cap (p.1 : Nat) p.2).toArray 79 (0, 0))) :
    Calls Tryz.prog 69 #[.pointer (some ⟨b, 0, none⟩)] w0 (RetV [b] w0 h0 fun u w' hh => ∃ x, u = tstV (testC l p).1 x ∧ w'.heap[b]? = some (.cells (rdC ad l.length cap ((testC l p).2.1 : Nat) (testC l p).2.2).toArray 79 (0, 0)) ∧ TX hh (testC l p).1 x) := by
  obtain ⟨i, bad⟩ := p
  dsimp only at hbl hi
  have hhit := fun k => test_hit (l := l) (p := (i, bad)) (k := k)
  have hnone := test_no (l := l) (p := (i, bad))
  dsimp only at hhit hnone
  generalize testC l (i, bad) = R at hhit hnone ⊢
  refine entW (args := [.pointer (some ⟨b, 0, none⟩)]) TT_ok [4000028] [9] [.o 900 0] Tryz.func69 rfl Tryz.ntmps69 rfl rfl hv hbl hno rfl (fun x => tx_m x _) ?_
  intro b2
  refine w_loop TT_ok (fun k : Nat => [(3, .v (.int .i64 ((k + 2 : Nat) : Int)))]) 0 (fun k => k ≤ 4 ∧ ∀ j, j < k → onS l i bad 4 (sgC ((j + 2 : Nat) : Int)) = false) (fun k => 4 - k) ?_
  refine And.intro ⟨⟨Nat.zero_le _, fun j hj => absurd hj (Nat.not_lt_zero j)⟩, gs⟩ ?_
  intro k ⟨hk, hnk⟩
  refine cnd (fun h => ?_) (fun h => ?_)
  · have hk4 : k < 4 := by omega
    refine cl (c_Csign ((k + 2 : Nat) : Int)) ?_
    refine cM TT_ok 900 (fun w v h1 h2 h3 h4 h5 => c_Con b ad cap l i bad (sgC ((k + 2 : Nat) : Int)) (sg_nn hk4) (by omega) w v h3 h4 (Mono.slF _ _ h1 hl) h5) ?_
    refine cnd (fun h1 => ?_) (fun h1 => ?_)
    · have hlt := (on_lt h1 (by decide)).1
      have e := hhit k hk4 hnk h1
      rw [if_pos h1, e]
      refine cV TT_ok 900 (fun w v h1 h2 h3 h4 h5 => c_Cexpr hT hTs hn (i + 1, bad) hlt w v h3 h4 (Mono.slF _ _ h1 hl) h5) (fun x => xl_m x _) (fun x1 => ?_)
      exact ⟨(x1, (none, 0)), rfl, rfl, fun v _ hF => ⟨hF.2, xl_nil v⟩⟩
    · rw [if_neg (by rw [h1]; decide)]
      refine wi ?_
      exact ⟨k + 1, ⟨⟨by omega, upto_snoc hnk h1⟩, by omega⟩, gs⟩
  have e := hnone (fun j hj => hnk j (by omega))
  clear hhit hnone
  refine cM TT_ok 900 (fun w v h1 h2 h3 h4 h5 => c_cmark b ad cap l i bad w v h3 h4 (Mono.slF _ _ h1 hl) h5) ?_
  intro b4
  have hm := fun s hs => on_mark l i s hs
  have hlt := fun s => (fun h => (on_lt (l := l) (i := i) (bad := bad) (k := 4) (s := s) h (by decide)).1)
  refine w_cutB TT_ok (fun _ : Bool => []) (fun lo => [(4, .c b4 52 (tstC ⟨6, ex0, ex0, lo, false⟩ none 0 none 0)), (2, .c b2 52 (tstC tst0 none 0 none 0)), (900, .c b 79 (rdC ad l.length cap ((i + 1 : Nat) : Int) bad))]) (fun lo => R = inC l (i + 1, bad) lo ∧ i < l.length) ?_
  refine And.intro ?_ ?_
  · refine cM TT_ok 900 (fun w v h1 h2 h3 h4 h5 => c_Con b ad cap l i bad [91] (by decide) (by omega) w v h3 h4 (Mono.slF _ _ h1 hl) h5) ?_
    refine cnd (fun h1 => ?_) (fun h1 => ?_)
    · have h1 : onS l i bad 4 [91] = false := by simpa using h1
      rw [if_neg (by rw [h1]; decide)] at e
      rw [h1, if_neg (by decide)]
      refine cMI TT_ok 900 (fun w v h1 h2 h3 h4 h5 => c_Con b ad cap l i bad [93] (by decide) (by omega) w v h3 h4 (Mono.slF _ _ h1 hl) h5) ?_
      refine cnd (fun h2 => ?_) (fun h2 => ?_)
      · have h2 : onS l i bad 4 [93] = false := by simpa using h2
        rw [if_neg (by rw [h2]; decide)] at e
        rw [h2, if_neg (by decide), e]
        refine cV TT_ok 900 (fun w v h1 h2 h3 h4 h5 => c_Cexpr hT hTs hn (i, bad) hi w v h3 h4 (Mono.slF _ _ h1 hl) h5) (fun x => xl_m x _) (fun x1 => ?_)
        exact ⟨(x1, (none, 0)), rfl, rfl, fun v _ hF => ⟨hF.2, xl_nil v⟩⟩
      · have h2 : onS l i bad 4 [93] = true := by simpa using h2
        rw [if_pos h2] at e
        rw [if_pos h2]
        have hb := (on_lt h2 (by decide)).2
        have hmk : markS l i = [93] := by
          rw [hb, hm [93] (by decide)] at h2
          simpa using h2
        exact ⟨decide (markS l i = [93]), ⟨by rw [hmk]; exact e, hlt _ h2⟩, gs⟩
    · have h1 : onS l i bad 4 [91] = true := by simpa using h1
      rw [if_pos h1] at e
      rw [h1, if_pos rfl]
      refine ⟨.bool false, ?_⟩
      refine cndF rfl ?_
      have hb := (on_lt h1 (by decide)).2
      have hmk : markS l i = [91] := by
        rw [hb, hm [91] (by decide)] at h1
        simpa using h1
      exact ⟨decide (markS l i = [93]), ⟨by rw [hmk]; exact e, hlt _ h1⟩, gs⟩
  · intro lo ⟨e, hlt⟩
    unfold inC at e
    have n1 := ex_ge (l := l) (p := (i + 1, bad)) hlt
    refine cV TT_ok 900 (fun w v h1 h2 h3 h4 h5 => c_Cexpr hT hTs hn (i + 1, bad) hlt w v h3 h4 (Mono.slF _ _ h1 hl) h5) (fun x => xl_m x _) (fun x1 => ?_)
    generalize exprC l (i + 1, bad) = r1 at e n1 ⊢
    have n2 := mC_ge (l := l) (p := r1.2) [46, 46] n1.2
    refine cM TT_ok 900 (fun w v h1 h2 h3 h4 h5 => c_Cmust b ad cap l r1.2 [46, 46] (by decide) (by have := n1.2; omega) w v h3 h4 (Mono.slF _ _ h1 hl) h5) ?_
    generalize mustC l r1.2 [46, 46] = p2 at e n2 ⊢
    have n3 := ex_ge (l := l) (p := p2) n2.2
    refine cV TT_ok 900 (fun w v h1 h2 h3 h4 h5 => c_Cexpr hT hTs hn p2 n2.2 w v h3 h4 (Mono.slF _ _ h1 hl) h5) (fun x => xl_m x _) (fun x2 => ?_)
    generalize exprC l p2 = r3 at e n3 ⊢
    refine cM TT_ok 900 (fun w v h1 h2 h3 h4 h5 => c_Con b ad cap l r3.2.1 r3.2.2 [91] (by decide) (by have := n3.2; omega) w v h3 h4 (Mono.slF _ _ h1 hl) h5) ?_
    refine cnd (fun h3 => ?_) (fun h3 => ?_)
    · have h3 : onS l r3.2.1 r3.2.2 4 [91] = false := by simpa using h3
      rw [if_neg (by rw [h3]; decide)] at e
      rw [h3, if_neg (by decide), e]
      refine cM TT_ok 900 (fun w v h1 h2 h3 h4 h5 => c_Cmust b ad cap l r3.2 [93] (by decide) (by have := n3.2; omega) w v h3 h4 (Mono.slF _ _ h1 hl) h5) ?_
      exact ⟨(x1, x2), rfl, rfl, fun v _ hF => ⟨hF.1.2, hF.2⟩⟩
    · have h3 : onS l r3.2.1 r3.2.2 4 [91] = true := by simpa using h3
      rw [if_pos h3] at e
      rw [h3, if_pos rfl, e]
      exact ⟨(x1, x2), rfl, rfl, fun v _ hF => ⟨hF.1.2, hF.2⟩⟩
theorem c_Cnot (w0 : World) (h0 : View) (hv : VLe h0 (Full w0)) (hl : SlC 84 4 (flatR tokC) h0 (.slice ad l.length cap) l) :
    Calls Tryz.prog 68 #[.slice ad l.length cap] w0 (Ret w0 h0 fun u _ => u = .bool (negC l)) := by
  have hlm := slc_lm hl
  refine ent (args := [.slice ad l.length cap]) TT_ok [] [] Tryz.func68 rfl Tryz.ntmps68 rfl rfl hv ?_
  refine ixsg hl 0 t0 ?_ (by intros; omega)
  refine kg1 ?_
  refine ixsg hl 0 t0 ?_ (fun h => by simp at h; omega)
  refine kg1 ?_
  refine ixsg hl 1 t0 ?_ (fun h => by simp at h; omega)
  refine kg1 ?_
  refine ixsg hl 1 t0 ?_ (fun h => by simp at h; omega)
  refine kg1 ?_
  refine congrArg Value.bool ?_
  have e : decide ((1 : Int) < (l.length : Int)) = decide (1 < l.length) := decide_eq_decide.2 (by omega)
  unfold negC
  simp [e]
end cr
theorem c_CSmall (c : Cel) (ad : Option Addr) (cap : Nat) (w0 : World) (h0 : View) (hv : VLe h0 (Full w0)) (hx : TL h0 ad cap c.ts) : Calls Tryz.prog 14 #[.agg (celC c ad cap).toArray] w0 (Ret w0 h0 fun u _ => u = .bool (smallC c.ts)) := by
  have hlm := hx.lm
  refine ent (args := [.agg (celC c ad cap).toArray]) TT_ok [] [] Tryz.func14 rfl Tryz.ntmps14 rfl rfl hv ?_
  intro b1
  refine cnd (fun h => ?_) (fun h => ?_)
  · exact congrArg Value.bool (by rw [smallC, decide_eq_false (by omega), Bool.false_and])
  refine w_loop TT_ok (fun k : Nat => [(3, .v (.int .i64 k))]) 0 (fun k => k ≤ c.ts.length ∧ ∀ j, j < k → (fun t : Tst => XSm t.a && XSm t.b) (c.ts.getD j tst0) = true) (fun k => c.ts.length - k) ?_
  refine And.intro ⟨⟨Nat.zero_le _, fun j hj => absurd hj (Nat.not_lt_zero j)⟩, gs⟩ ?_
  intro k ⟨hk, hn⟩
  refine cnd (fun h1 => ?_) (fun h1 => ?_)
  · refine ixT hx k (fun aa ca ab cb' h2 h3 _ => ?_)
    refine cb (fun w hw => c_XSmall _ aa ca w h0 hw h2.1) ?_
    refine ixTg hx k (by omega) (fun ac cc ae ce h4 h5 _ => ?_)
    refine kg1 ?_
    refine cbg (fun _ w hw => c_XSmall _ ae ce w h0 hw h5.1) ?_
    refine cnd (fun h6 => ?_) (fun h6 => ?_)
    · refine congrArg Value.bool ?_
      rw [smallC, all_noT (p := fun t : Tst => XSm t.a && XSm t.b) (k := k) (by omega) (by
        rcases h6 with h6 | h6
        · have h6 : XSm (c.ts.getD k tst0).a = false := by simpa using h6
          show (XSm _ && XSm _) = false
          rw [h6]; rfl
        · have h6 : XSm (c.ts.getD k tst0).b = false := by simpa using h6
          show (XSm _ && XSm _) = false
          rw [h6, Bool.and_false]), Bool.and_false]
    · refine wi ?_
      exact ⟨k + 1, ⟨⟨by omega, upto_snoc hn (by simpa using h6)⟩, by omega⟩, gs⟩
  · exact congrArg Value.bool (by rw [smallC, all_upT (p := fun t : Tst => XSm t.a && XSm t.b) (fun j hj => hn j (by omega)), Bool.and_true, decide_eq_true (by omega)])
end Go.Proofs.YtkjhlfleojcgjaaGreatDoor
set_option maxRecDepth 100000
namespace Go.Proofs.YtkjhlfleojcgjaaGreatDoor
open Go Go.Dx Go.RowKit
abbrev AA := (Option Addr × Nat) × (Option Addr × Nat)
def tsC (q : Tst × AA) : List Value := tstC q.1 q.2.1.1 q.2.1.2 q.2.2.1 q.2.2.2
def rowT (es : List (Tst × AA)) (i : Nat) : List Value := tsC (es.getD i (tst0, (none, 0), (none, 0)))
theorem rowT_map (es : List (Tst × AA)) : (List.range es.length).map (rowT es) = es.map tsC := by
  refine List.ext_getElem (by simp) fun i h1 h2 => ?_
  have h3 : i < es.length := by simpa using h1
  simp [rowT, List.getD, h3]
theorem flatTs (es : List (Tst × AA)) : (es.map tsC).flatten.length = es.length * 15 := by
  induction es with
  | nil => rfl
  | cons v l ih => rw [List.map_cons, List.flatten_cons, List.length_append, ih, List.length_cons]; show 15 + _ = _; omega
def TXL (h : View) (es : List (Tst × AA)) : Prop := ∀ q ∈ es, TX h q.1 q.2
theorem txl_m (es : List (Tst × AA)) : Mono fun h => TXL h es := fun _ _ hle hx q hq => tx_m q.2 q.1 _ _ hle (hx q hq)
theorem txl_snoc {h : View} {es : List (Tst × AA)} {t : Tst} {x : AA} (h1 : TXL h es) (h2 : TX h t x) : TXL h (es ++ [(t, x)]) := by
  intro q hq
  rcases List.mem_append.1 hq with hq | hq
  · exact h1 q hq
  · have : q = (t, x) := by simpa using hq
    subst this; exact h2
theorem rowT_tl {h : View} {ad : Option Addr} {cap : Nat} {es : List (Tst × AA)} {n : Nat} (hn : n = es.length) (hs : SlC 52 15 (flatR (rowT es)) h (.slice ad n cap) (List.range es.length)) (hx : TXL h es) (hd : ∀ q ∈ es, ndTs q.1) : TL h ad cap (es.map (·.1)) := by
  subst hn
  refine ⟨rowT es, by simpa using hs, fun i t hi => ?_⟩
  rw [List.getElem?_map] at hi
  cases he : es[i]? with
  | none => rw [he] at hi; cases hi
  | some p =>
    rw [he] at hi
    cases hi
    have hm : p ∈ es := List.mem_of_getElem? he
    have e : es.getD i (tst0, (none, 0), (none, 0)) = p := by simp [List.getD, he]
    obtain ⟨g1, g2⟩ := hx p hm
    obtain ⟨d1, d2, d3⟩ := hd p hm
    exact ⟨p.2.1.1, p.2.1.2, p.2.2.1, p.2.2.2, by rw [rowT, e]; rfl, ⟨g1, d1⟩, ⟨g2, d2⟩, d3⟩
structure LpC where
  a : Option Addr
  n : Nat
  c : Nat
  es : List (Tst × AA)
  p : CSt
  f : Nat
theorem tests_snoc {A : List Tst} {l : List Tok} {n : Nat} {p : CSt} {R : List Tst × CSt} (h : (A ++ (testsC l (n + 1) p).1, (testsC l (n + 1) p).2) = R) :
    (onS l (testC l p).2.1 (testC l p).2.2 4 [44] = true → ((A ++ [(testC l p).1]) ++ (testsC l n ((testC l p).2.1 + 1, (testC l p).2.2)).1, (testsC l n ((testC l p).2.1 + 1, (testC l p).2.2)).2) = R) ∧
    (onS l (testC l p).2.1 (testC l p).2.2 4 [44] = false → (A ++ [(testC l p).1], (testC l p).2) = R) := by
  rw [testsC] at h
  constructor
  · intro ho
    rw [if_pos ho] at h
    rw [← h]; simp
  · intro ho
    rw [if_neg (by rw [ho]; decide)] at h
    rw [← h]
section cr
variable {b : Nat} {ad : Option Addr} {cap : Nat} {l : List Tok}
set_option maxHeartbeats 2000000 in
theorem c_Ccell (hT : TokN l) (hTs : ∀ t ∈ l, t.s.length ≤ 1000000) (hn : l.length ≤ 999999) (w0 : World) (h0 : View) (hv : VLe h0 (Full w0)) (hno : h0 b = none) (hl : SlC 84 4 (flatR tokC) h0 (.slice ad l.length cap) l)
    (hbl : w0.heap[b]? = some (.cells (rdC ad l.length cap ((0 : Nat) : Int) false).toArray 79 (0, 0))) :
    Calls Tryz.prog 34 #[.pointer (some ⟨b, 0, none⟩)] w0 (RetV [b] w0 h0 fun u w' hh => ∃ x : Option Addr × Nat, u = .agg (celC ⟨false, negC l, (cellC l).1⟩ x.1 x.2).toArray ∧ w'.heap[b]? = some (.cells (rdC ad l.length cap ((endC l).1 : Nat) (endC l).2).toArray 79 (0, 0)) ∧ TL hh x.1 x.2 (cellC l).1) := by
  have hneg : negC l = true → 2 ≤ l.length := fun h => by
    simp only [negC, Bool.and_eq_true, decide_eq_true_eq] at h; omega
  have hnd := tests_nd hT (l := l) (l.length + 1) (if negC l = true then 2 else 0, false)
  have hce : (([] : List Tst) ++ (testsC l (l.length + 1) (if negC l = true then 2 else 0, false)).1, (testsC l (l.length + 1) (if negC l = true then 2 else 0, false)).2) = cellC l := rfl
  have hcl : ∀ t ∈ (cellC l).1, ndTs t := hnd
  have hee : endC l = if negC l = true then mustC l (cellC l).2 [41] else (cellC l).2 := rfl
  have hcg := cell_ge (l := l)
  generalize endC l = E at hee ⊢
  generalize cellC l = R at hce hcl hee hcg ⊢
  refine entW (args := [.pointer (some ⟨b, 0, none⟩)]) TT_ok [1000005, 27] [5] [.o 900 0] Tryz.func34 rfl Tryz.ntmps34 rfl rfl hv hbl hno rfl (fun x => tl_m x _) ?_
  intro b2 b3
  refine w_cutB TT_ok (fun _ : Nat => []) (fun i0 => [(3, .c b3 25 (celC ⟨false, negC l, []⟩ none 0)), (2, .c b2 25 (celC cel0 none 0)), (900, .c b 79 (rdC ad l.length cap (i0 : Int) false))]) (fun i0 => i0 = if negC l = true then 2 else 0) ?_
  refine And.intro ?_ ?_
  · refine cb (fun w hw => c_Cnot w h0 hw hl) ?_
    refine cnd (fun h => ?_) (fun h => ?_)
    · have h : negC l = true := h
      exact ⟨2, by rw [if_pos h], gs⟩
    · have h : negC l = false := by simpa using h
      exact ⟨0, by rw [if_neg (by rw [h]; decide)], gs⟩
  intro i0 hi0
  have h2l : (if negC l = true then 2 else 0) ≤ l.length := by
    split
    · rename_i h; exact hneg h
    · exact Nat.zero_le _
  rw [← hi0] at h2l hce
  refine nilC 901 52 15 ?_
  refine w_loopF TT_ok (fun _ => []) (fun z : LpC => [(901, .e (bufE 52 15 (.slice z.a z.n z.c) (z.es.map tsC).flatten)), (3, .c b3 25 [.bool false, .bool (negC l), .slice z.a z.n z.c]), (2, .c b2 25 (celC cel0 none 0)), (900, .c b 79 (rdC ad l.length cap ((z.p.1 : Nat) : Int) z.p.2))])
    (fun z h => TXL h z.es) ⟨none, 0, 0, [], (i0, false), l.length + 1⟩ (fun z => z.n = z.es.length ∧ z.es.length ≤ z.p.1 ∧ z.p.1 ≤ l.length ∧ l.length - z.p.1 < z.f ∧ (z.es.map (·.1) ++ (testsC l z.f z.p).1, (testsC l z.f z.p).2) = R) (fun z => l.length - z.p.1) (fun z => txl_m _) ?_
  refine And.intro ⟨⟨rfl, Nat.zero_le _, h2l, by show l.length - i0 < l.length + 1; omega, hce⟩, gs (fv := fun v _ q hq => absurd hq List.not_mem_nil)⟩ ?_
  rintro ⟨a1, n1, c1, es, p, f⟩ ⟨hn1, hle, hpl, hf, hR⟩
  dsimp only at hn1 hle hpl hf hR ⊢
  obtain ⟨f, rfl⟩ : ∃ g, f = g + 1 := ⟨f - 1, by omega⟩
  obtain ⟨hgo, hend⟩ := tests_snoc hR
  have tg := test_ge (l := l) hpl
  refine regQ TT_ok [0, 1, 2] [3, 4, 5, 6, 7] [900, 901] true ?_
  refine cV TT_ok 900 (fun w v h1 h2 h3 h4 h5 => c_Ctest hT hTs hn p hpl w v h3 h4 (Mono.slF _ _ h1 hl) h5) (fun x => tx_m x _) (fun x1 => ?_)
  generalize testC l p = r at hgo hend tg ⊢
  refine kq ?_
  intro b21
  refine kq ?_
  refine ap TT_ok 901 (AppT.of (bytes := 176) (sz := 14) (by kernel_rfl) (by kernel_rfl) (by kernel_rfl)) rfl rfl rfl rfl rfl rfl rfl (by rw [flatTs]; show (_ + 15) * 177 ≤ _; omega) (fun a2 n2 c2 e2 => ?_)
  have hn2 : n2 = (es ++ [(r.1, x1)]).length := by
    rw [flatTs] at e2
    have e2 : n2 * 15 = es.length * 15 + 15 := e2
    rw [List.length_append]; show n2 = es.length + 1; omega
  refine kq ?_
  refine kq ?_
  refine cM TT_ok 900 (fun w v h1 h2 h3 h4 h5 => c_Con b ad cap l r.2.1 r.2.2 [44] (by decide) (by have := tg.2; omega) w v h3 h4 (Mono.slF _ _ h1 hl) h5) ?_
  have ecs : (es ++ [(r.1, x1)]).map tsC = es.map tsC ++ [tsC (r.1, x1)] := by simp
  have efl : ((es ++ [(r.1, x1)]).map tsC).flatten = (es.map tsC).flatten ++ (tstC r.1 x1.1.1 x1.1.2 x1.2.1 x1.2.2 ++ []) := by rw [ecs, List.flatten_append]; rfl
  have emp : (es ++ [(r.1, x1)]).map (·.1) = es.map (·.1) ++ [r.1] := by simp
  refine cnd (fun h => ?_) (fun h => ?_)
  · have h : onS l r.2.1 r.2.2 4 [44] = false := by simpa using h
    have hr := hend h
    rw [h, if_neg (by decide)]
    rw [← efl, ← rowT_map]
    have hx' : ∀ v, TXL v es ∧ TX v r.1 x1 → TXL v (es ++ [(r.1, x1)]) := fun v hF => txl_snoc hF.1 hF.2
    rw [← emp] at hr
    clear hgo hend efl ecs emp hR
    generalize es ++ [(r.1, x1)] = es' at hn2 hr hx'
    have hR1 : R.1.length = n2 := by rw [← hr, hn2]; simp
    have hd : ∀ q ∈ es', ndTs q.1 := fun q hq => hcl q.1 (by rw [← hr]; exact List.mem_map.2 ⟨q, hq, rfl⟩)
    have htl : ∀ v, (TXL v es ∧ TX v r.1 x1) ∧ SlC 52 15 (flatR (rowT es')) v (.slice a2 n2 c2) (List.range es'.length) → TL v a2 c2 R.1 := fun v hF => by
      have := rowT_tl hn2 hF.2 (hx' v hF.1) hd
      rw [← hr]; exact this
    have ec : celC ⟨false, negC l, R.1⟩ a2 c2 = [.bool false, .bool (negC l), .slice a2 n2 c2] := by unfold celC; rw [hR1]
    have hr2 : r.2 = R.2 := by rw [← hr]
    refine And.intro rfl ?_
    refine sealWM (g := rowT es') (l := List.range es'.length) 901 900 rfl (by simp [hn2]) ?_
    refine goW TT_ok ?_
    refine cnd (fun h3 => ?_) (fun h3 => ?_)
    · have h3 : negC l = true := h3
      rw [if_pos h3, ← hr2] at hee
      refine cM TT_ok 900 (fun w v h1 h2 h3 h4 h5 => c_Cmust b ad cap l r.2 [41] (by decide) (by have := tg.2; omega) w v h3 h4 (Mono.slF _ _ h1 hl) h5) ?_
      rw [← hee]
      refine ⟨(a2, c2), ?_, rfl, fun v _ hF => htl v hF⟩
      show _ = Value.agg (celC ⟨false, negC l, R.1⟩ a2 c2).toArray
      rw [ec]; rfl
    · have h3 : negC l = false := by simpa using h3
      rw [if_neg (by rw [h3]; decide), ← hr2] at hee
      rw [hee]
      refine ⟨(a2, c2), ?_, rfl, fun v _ hF => htl v hF⟩
      show _ = Value.agg (celC ⟨false, negC l, R.1⟩ a2 c2).toArray
      rw [ec]; rfl
  · have h : onS l r.2.1 r.2.2 4 [44] = true := by simpa using h
    have hlt := (on_lt h (by decide)).1
    rw [h, if_pos rfl]
    have hr := hgo h
    refine ⟨⟨a2, n2, c2, es ++ [(r.1, x1)], (r.2.1 + 1, r.2.2), f⟩, ⟨⟨hn2, ?_, hlt, ?_, by show ((es ++ [(r.1, x1)]).map (·.1) ++ _, _) = R; rw [emp]; exact hr⟩, ?_⟩, gs rfl (by rw [efl]; rfl) (fun v hF => txl_snoc hF.1 hF.2)⟩
    · rw [List.length_append]; show es.length + 1 ≤ r.2.1 + 1; omega
    · show l.length - (r.2.1 + 1) < f; omega
    · show l.length - (r.2.1 + 1) < l.length - p.1; omega
end cr
theorem tl_nil (h : View) : TL h none 0 [] := ⟨fun _ => [], SlC.nil (by simp [maxLen]), fun i t hi => by simp at hi⟩
def cpV (r : Cel × Int × Int) (x : Option Addr × Nat) : Value := .tuple #[.agg (celC r.1 x.1 x.2).toArray, .int .i64 r.2.1, .int .i64 r.2.2]
theorem sm0 : SmX ex0 := ⟨1, by decide⟩
theorem ok_gt {t : Tst} (h : okTs t) (hd : dpTs t) : GT t := ⟨smx_right h.1, by
  rcases h.2 with h | h
  · exact smx_right h
  · rw [h]; exact sm0, hd⟩
set_option maxHeartbeats 2000000 in
theorem c_CParse (s : List UInt8) (w0 : World) (h0 : View) (hv : VLe h0 (Full w0)) :
    Calls Tryz.prog 11 #[vs s] w0 (Ret w0 h0 fun u hh => ∃ x : Option Addr × Nat, u = cpV (parseC s) x ∧ TL hh x.1 x.2 (parseC s).1.ts) := by
  obtain ⟨hT, hTs, hn, _⟩ := lex_facts s
  obtain ⟨hR, hn2, hP⟩ := lex_facts2 s
  have hpc : parseC s = if (lexS s).2.2 ≠ 0 then (cel0, (lexS s).2.1, (lexS s).2.2)
      else if (lexS s).1.length = 1 ∧ onS (lexS s).1 0 false 4 [45] = true then (⟨true, false, []⟩, 0, 0)
      else if (endC (lexS s).1).1 < (lexS s).1.length then (cel0, ((lexS s).1.getD (endC (lexS s).1).1 t0).p, 11)
      else if (endC (lexS s).1).2 = true then (cel0, s.length, 11)
      else if 12 < (cellC (lexS s).1).1.length then (cel0, 0, 24)
      else if rightC ⟨false, negC (lexS s).1, (cellC (lexS s).1).1⟩ = true then (⟨false, negC (lexS s).1, (cellC (lexS s).1).1⟩, 0, 0) else (cel0, 0, 12) := rfl
  generalize parseC s = P at hpc ⊢
  refine entA (args := [vs s]) TT_ok [1000009, 4000032] [7] Tryz.func11 rfl Tryz.ntmps11 rfl rfl hv (fun x => tl_m x _) ?_
  intro b2
  refine cA TT_ok (fun w v h1 h2 h3 => c_Lex s w v h3) (fun _ => Mono.slF) (fun x => ?_)
  generalize lexS s = L at hT hTs hn hR hn2 hP hpc ⊢
  obtain ⟨l, at_, e⟩ := L
  dsimp only at hT hTs hn hR hn2 hP hpc ⊢
  refine cnd (fun h => ?_) (fun h => ?_)
  · rw [if_pos h] at hpc
    rw [hpc]
    exact ⟨(none, 0), rfl, fun v _ _ => tl_nil v⟩
  rw [if_neg (fun hh => hh (by simpa using h))] at hpc
  intro b24
  refine w_cutB TT_ok (fun _ : Unit => []) (fun _ => [(24, .c b24 79 (rdC x.1 l.length x.2 ((0 : Nat) : Int) false)), (2, .c b2 25 (celC cel0 none 0))]) (fun _ => ¬ (l.length = 1 ∧ onS l 0 false 4 [45] = true)) ?_
  refine And.intro ?_ ?_
  · refine cnd (fun h1 => ?_) (fun h1 => ?_)
    · refine cMI TT_ok 24 (fun w v h1 h2 h3 h4 h5 => c_cmark b24 x.1 x.2 l 0 false w v h3 h4 h2.2 h5) ?_
      have hm := on_mark l 0 [45] (by decide)
      refine cnd (fun h2 => ?_) (fun h2 => ?_)
      · have h2 : markS l 0 = [45] := by
          have h2 := (show ((l.length : Int) = 1 ∧ markS l 0 = [45]) by simpa using h2)
          exact h2.2
        rw [if_pos ⟨by omega, by rw [hm, decide_eq_true h2]⟩] at hpc
        rw [hpc]
        exact ⟨(none, 0), rfl, fun v _ _ => tl_nil v⟩
      · have h2 : markS l 0 ≠ [45] := by
          have h2 := (show (¬(l.length : Int) = 1 ∨ ¬ markS l 0 = [45]) by simpa using h2)
          exact h2.resolve_left (fun hh => hh h1)
        exact ⟨(), fun hh => by rw [hm, decide_eq_false h2] at hh; exact absurd hh.2 (by decide), gs⟩
    · refine ⟨vs [], ?_⟩
      refine cndF (by simp) ?_
      exact ⟨(), fun hh => h1 (by omega), gs⟩
  intro _ hno
  rw [if_neg hno] at hpc
  refine cV TT_ok 24 (fun w v h1 h2 h3 h4 h5 => c_Ccell hT hTs hn w v h3 h4 h2.2 h5) (fun x => tl_m x _) (fun x1 => ?_)
  intro b9
  have hcg := end_ge (l := l)
  have hok := end_ok (l := l) hR
  have hdp := tests_dp hn2 (l.length + 1) (if negC l = true then 2 else 0, false)
  have hdp : ∀ t ∈ (cellC l).1, dpTs t := hdp
  generalize endC l = E at hpc hcg hok ⊢
  generalize cellC l = R at hpc hok hdp ⊢
  generalize negC l = ng at hpc ⊢
  refine cnd (fun h2 => ?_) (fun h2 => ?_)
  · rw [if_pos (by omega)] at hpc
    rw [hpc]
    refine regPh TT_ok [([0,1,2,3,4,5,6,7,8,9],[10]),([11,12],[])] [2] ?_
    refine ixf (fun v hF => hF.1.2) E.1 t0 ?_ (by omega)
    refine kq ?_
    refine kq ?_
    refine kq ?_
    exact ⟨(none, 0), rfl, fun v _ _ => tl_nil v⟩
  rw [if_neg (by omega)] at hpc
  refine cnd (fun h3 => ?_) (fun h3 => ?_)
  · have h3 : E.2 = true := h3
    rw [if_pos h3] at hpc
    rw [hpc]
    exact ⟨(none, 0), rfl, fun v _ _ => tl_nil v⟩
  have h3 : E.2 = false := by simpa using h3
  rw [if_neg (by rw [h3]; decide)] at hpc
  refine cnd (fun h4 => ?_) (fun h4 => ?_)
  · rw [if_pos (by have h4 : (12 : Int) < (R.1.length : Int) := h4; omega)] at hpc
    rw [hpc]
    exact ⟨(none, 0), rfl, fun v _ _ => tl_nil v⟩
  rw [if_neg (by have h4 : ¬ (12 : Int) < (R.1.length : Int) := h4; omega)] at hpc
  have hg : ∀ t ∈ R.1, GT t := fun t ht => ok_gt (hok h3 t ht) (hdp t ht)
  refine cf (fun w v h1 h2 h3 => c_CCheck ⟨false, ng, R.1⟩ x1.1 x1.2 hg w v h3 h2.2) ?_
  refine cnd (fun h5 => ?_) (fun h5 => ?_)
  · rw [if_neg (fun hh => by rw [if_pos hh] at h5; exact h5 rfl)] at hpc
    rw [hpc]
    exact ⟨(none, 0), rfl, fun v _ _ => tl_nil v⟩
  · rw [if_pos (by
      by_cases hh : rightC ⟨false, ng, R.1⟩ = true
      · exact hh
      · rw [if_neg hh] at h5; exact absurd h5 (by decide))] at hpc
    rw [hpc]
    exact ⟨x1, rfl, fun v _ hF => hF.2⟩
end Go.Proofs.YtkjhlfleojcgjaaGreatDoor
set_option maxRecDepth 100000
namespace Go.Proofs.YtkjhlfleojcgjaaGreatDoor
open Go Go.Dx Go.RowKit
theorem text_len {x : Ex} : (textT x).1.length ≤ 200 := by
  unfold textT
  split
  · exact Nat.zero_le _
  split
  · exact Nat.zero_le _
  split
  · exact Nat.zero_le _
  · rename_i h; show (putS x 0).length ≤ 200; omega
theorem wr_len {x : Ex} : (wrX x).1.length ≤ 202 := by
  have := text_len (x := x)
  unfold wrX
  split
  · simp; omega
  · omega
theorem sg_len (k : Int) : (sgC k).length ≤ 2 := by
  unfold sgC
  split
  · decide
  split
  · decide
  split
  · decide
  split
  · decide
  · decide
theorem txt_len (t : Tst) : (txtT t).1.length ≤ 1000 := by
  have h1 := wr_len (x := t.a)
  have h2 := wr_len (x := t.b)
  have h3 := sg_len t.k
  unfold txtT
  split
  · exact Nat.zero_le _
  split
  · show (wrX t.a).1.length ≤ _; omega
  split
  · show (sgC t.k ++ [32] ++ (wrX t.a).1).length ≤ _
    simp; omega
  split
  · exact Nat.zero_le _
  · show (_ ++ (wrX t.a).1 ++ [46, 46] ++ (wrX t.b).1 ++ _).length ≤ _
    simp only [List.length_append, List.length_cons, List.length_nil]
    split <;> split <;> simp <;> omega
theorem c_Cwrite (x : Ex) (ad : Option Addr) (cap : Nat) (hd : deepS x ≤ 1000000000) (w0 : World) (h0 : View) (hv : VLe h0 (Full w0)) (hx : GX h0 ad cap x) (hp : PowV h0) :
    Calls Tryz.prog 86 #[.agg (exC x.op x.v x.s (.slice ad x.l.length cap)).toArray] w0 (Ret w0 h0 fun u _ => u = tsV (wrX x)) := by
  refine ent (args := [.agg (exC x.op x.v x.s (.slice ad x.l.length cap)).toArray]) TT_ok [] [] Tryz.func86 rfl Tryz.ntmps86 rfl rfl hv ?_
  intro b1
  refine cb (fun w hw => c_Text x ad cap hd w h0 hw hx hp) ?_
  have hl := text_len (x := x)
  unfold wrX
  refine cnd (fun h => ?_) (fun h => ?_)
  · rw [if_pos ⟨h.1, h.2.1, h.2.2⟩]
    refine ct ?_
    refine ct ?_
    exact (congrArg (fun n : Int => Value.tuple #[vs ([40] ++ (textT x).1 ++ [41]), .int .i64 n]) h.1)
  · rw [if_neg (fun hh => by
      rcases h with h | h | h
      · exact h hh.1
      · exact h hh.2.1
      · exact h hh.2.2)]
    exact rfl
theorem c_Ctext (t : Tst) (aa : Option Addr) (ca : Nat) (ab : Option Addr) (cb' : Nat) (hk : 1 ≤ t.k ∧ t.k ≤ 6) (hg : GT t) (w0 : World) (h0 : View) (hv : VLe h0 (Full w0)) (ha : EX h0 aa ca t.a) (hb : EX h0 ab cb' t.b) (hp : PowV h0) :
    Calls Tryz.prog 51 #[.agg (tstC t aa ca ab cb').toArray] w0 (Ret w0 h0 fun u _ => u = tsV (txtT t)) := by
  have la := wr_len (x := t.a)
  have lb := wr_len (x := t.b)
  have ls := sg_len t.k
  refine ent (args := [.agg (tstC t aa ca ab cb').toArray]) TT_ok [] [12] Tryz.func51 rfl Tryz.ntmps51 rfl rfl hv ?_
  intro b1
  refine cb (fun w hw => c_Cwrite t.a aa ca hg.2.2.1 w h0 hw (ha.gx hg.1) hp) ?_
  unfold txtT
  generalize wrX t.a = ra at la ⊢
  obtain ⟨sa, ea⟩ := ra
  dsimp only at la ⊢
  refine cnd (fun h => ?_) (fun h => ?_)
  · have h : ea ≠ 0 := by simpa using h
    rw [if_pos h]; exact rfl
  have h : ea = 0 := by simpa using h
  subst h
  rw [if_neg (fun hh => hh rfl)]
  refine w_cut TT_ok (fun _ : Unit => []) (fun _ => t.k = 6) ?_
  refine And.intro ?_ ?_
  · refine cnd (fun h1 => ?_) (fun h1 => ?_)
    · rw [if_pos h1]; exact rfl
    rw [if_neg h1]
    refine cnd (fun h2 => ?_) (fun h2 => ?_)
    · rw [if_pos (by omega)]
      refine cndT (decide_eq_true h2) ?_
      refine cl (c_Csign t.k) ?_
      refine ct ?_
      refine ct ?_
      exact rfl
    refine cnd (fun h3 => ?_) (fun h3 => ?_)
    · rw [if_pos (by omega)]
      refine cndT (decide_eq_true h3) ?_
      refine cl (c_Csign t.k) ?_
      refine ct ?_
      refine ct ?_
      exact rfl
    refine cnd (fun h4 => ?_) (fun h4 => ?_)
    · rw [if_pos (by omega)]
      refine cndT (decide_eq_true h4) ?_
      refine cl (c_Csign t.k) ?_
      refine ct ?_
      refine ct ?_
      exact rfl
    refine cnd (fun h5 => ?_) (fun h5 => ?_)
    · rw [if_pos (by omega)]
      refine cl (c_Csign t.k) ?_
      refine ct ?_
      refine ct ?_
      exact rfl
    exact ⟨(), by omega, gs⟩
  intro _ h6
  rw [if_neg (by omega), if_neg (by omega)]
  refine cb (fun w hw => c_Cwrite t.b ab cb' hg.2.2.2 w h0 hw (hb.gx hg.2.1) hp) ?_
  generalize wrX t.b = rb at lb ⊢
  obtain ⟨sb, eb⟩ := rb
  dsimp only at lb ⊢
  refine cnd (fun h => ?_) (fun h => ?_)
  · have h : eb ≠ 0 := by simpa using h
    rw [if_pos h]; exact rfl
  have h : eb = 0 := by simpa using h
  subst h
  rw [if_neg (fun hh => hh rfl)]
  refine cnd (fun h1 => ?_) (fun h1 => ?_)
  · have h1 : t.lo = true := h1
    rw [if_pos h1]
    refine cnd (fun h2 => ?_) (fun h2 => ?_)
    · have h2 : t.hi = true := h2
      rw [if_pos h2]
      refine ct ?_
      refine ct ?_
      refine ct ?_
      refine ct ?_
      exact rfl
    · have h2 : t.hi = false := h2
      rw [if_neg (by rw [h2]; decide)]
      refine ct ?_
      refine ct ?_
      refine ct ?_
      refine ct ?_
      exact rfl
  · have h1 : t.lo = false := h1
    rw [if_neg (by rw [h1]; decide)]
    refine cnd (fun h2 => ?_) (fun h2 => ?_)
    · have h2 : t.hi = true := h2
      rw [if_pos h2]
      refine ct ?_
      refine ct ?_
      refine ct ?_
      refine ct ?_
      exact rfl
    · have h2 : t.hi = false := h2
      rw [if_neg (by rw [h2]; decide)]
      refine ct ?_
      refine ct ?_
      refine ct ?_
      refine ct ?_
      exact rfl
theorem c_strJoin (ad : Option Addr) (cap : Nat) (l : List (List UInt8)) (sep : List UInt8) (hl : l.length ≤ 1000000) (hlen : (Lib.join l sep).length ≤ 140737488355328) (w0 : World) (h0 : View) (hv : VLe h0 (Full w0)) (hb : SlC 9 1 (flatR fun s => [vs s]) h0 (.slice ad l.length cap) l) :
    Calls Tryz.prog 52 #[.slice ad l.length cap, vs sep] w0 (Ret w0 h0 fun u _ => u = vs (Lib.join l sep)) := by
  by_cases he : l = []
  · subst he
    exact calls_same (h := h0) (Tryz.strings_Join_none ad cap ⟨sep.toArray⟩ w0)
  · have hpos : 0 < l.length := List.length_pos_iff.2 he
    have el : ∀ j, j < l.length → ad = some ⟨adB ad, adO ad, none⟩ ∧ w0.cell? ⟨adB ad, adO ad + j, none⟩ = some (vs (l.getD j [])) := fun j hj => by
      have := SlC.el (h0 := h0) (F := fun _ => True) (fun v h1 _ => hb.monoF h1) [] hj h0 (VLe.refl _) trivial
      refine ⟨this.1, ?_⟩
      have h2 := this.2 w0 hv 0 (vs (l.getD j [])) rfl
      simpa using h2
    have h0' := el 0 hpos
    obtain ⟨_, _, _, hcap, _⟩ := hb.parts
    have hcap' : l.length ≤ cap := by
      obtain ⟨a, c, hv, h1, h2⟩ := hb.parts
      cases hv; exact h1
    have hx := Tryz.strings_Join (adB ad) (adO ad) cap (l.map fun s => (⟨s.toArray⟩ : ByteArray)) ⟨sep.toArray⟩ w0 (fun j x hj => by
      rw [List.getElem?_map] at hj
      cases hg : l[j]? with
      | none => rw [hg] at hj; cases hj
      | some s =>
        rw [hg] at hj
        cases hj
        have hlt := (List.getElem?_eq_some_iff.1 hg)
        obtain ⟨hlt, hs⟩ := hlt
        have := (el j hlt).2
        rw [getD_lt l j [] hlt, hs] at this
        exact this) (cell_lt h0'.2) (by simp; omega) (by simpa using hcap') (by simpa [List.map_map, Function.comp_def] using hlen)
    rw [List.length_map, ← h0'.1] at hx
    have e : (Lib.join ((l.map fun s => (⟨s.toArray⟩ : ByteArray)).map (·.data.toList)) (⟨sep.toArray⟩ : ByteArray).data.toList) = Lib.join l sep := by simp [List.map_map, Function.comp_def]
    rw [e] at hx
    exact calls_below hx
theorem com_join : ∀ l : List (List UInt8), Lib.join l [44, 32] = comS l
  | [] => rfl
  | [s] => Lib.join_one _ _
  | s :: u :: l => by
    have ih := com_join (u :: l)
    rw [comS, ← ih, Lib.join_cons, Lib.join_cons]
    simp [Lib.joinTail]
theorem com_len : ∀ {l : List (List UInt8)}, (∀ s ∈ l, s.length ≤ 1000) → (comS l).length ≤ 1002 * l.length
  | [], _ => by simp [comS]
  | [s], h => by have := h s (by simp); show s.length ≤ _; simp; omega
  | s :: u :: l, h => by
    have h1 := h s (by simp)
    have ih := com_len (l := u :: l) (fun x hx => h x (List.mem_cons_of_mem _ hx))
    rw [comS]
    simp only [List.length_append, List.length_cons, List.length_nil] at ih ⊢
    omega
theorem txtL_er : ∀ {l : List Tst} {k : Nat}, k < l.length → (∀ j, j < k → (txtT (l.getD j tst0)).2 = 0) → (txtT (l.getD k tst0)).2 ≠ 0 → (txtL l).2 = (txtT (l.getD k tst0)).2
  | [], _, h, _, _ => by simp at h
  | x :: l, 0, _, _, h => by
    have h : (txtT x).2 ≠ 0 := by simpa using h
    rw [txtL, if_pos h]; rfl
  | x :: l, k + 1, hk, hj, h => by
    have h0 : (txtT x).2 = 0 := by simpa using hj 0 (Nat.succ_pos _)
    have ih := txtL_er (l := l) (k := k) (by simpa using hk) (fun j hjk => by simpa using hj (j + 1) (by omega)) (by simpa using h)
    have h : (txtT (l.getD k tst0)).2 ≠ 0 := by simpa using h
    rw [txtL, if_neg (fun hh => hh h0), if_pos (by rw [ih]; exact h), ih]
    simp
theorem txtL_ok : ∀ {l : List Tst}, (∀ j, j < l.length → (txtT (l.getD j tst0)).2 = 0) → txtL l = (l.map fun t => (txtT t).1, 0)
  | [], _ => rfl
  | x :: l, h => by
    have h0 : (txtT x).2 = 0 := by simpa using h 0 (by simp)
    rw [txtL, if_neg (fun hh => hh h0), txtL_ok (l := l) (fun j hj => by simpa using h (j + 1) (by simpa using hj)), if_neg (fun hh => hh rfl)]
    rfl
theorem fl1c (l : List (List UInt8)) : (l.map fun s => [vs s]).flatten.length = l.length := by
  induction l with
  | nil => rfl
  | cons s l ih => rw [List.map_cons, List.flatten_cons, List.length_append, ih]; show 1 + l.length = l.length + 1; omega
set_option maxHeartbeats 2000000 in
theorem c_CText (c : Cel) (ad : Option Addr) (cap : Nat) (hg : ∀ t ∈ c.ts, GT t) (w0 : World) (h0 : View) (hv : VLe h0 (Full w0)) (hx : TL h0 ad cap c.ts) (hp : PowV h0) :
    Calls Tryz.prog 20 #[.agg (celC c ad cap).toArray] w0 (Ret w0 h0 fun u _ => u = tsV (textC c)) := by
  have hlm := hx.lm
  refine ent (args := [.agg (celC c ad cap).toArray]) TT_ok [38] [] Tryz.func20 rfl Tryz.ntmps20 rfl rfl hv ?_
  intro b1
  refine cb (fun w hw => c_CCheck c ad cap hg w h0 hw hx) ?_
  have hte : textC c = if rightC c = false then ([], 2) else if c.any = true then ([45], 0) else if (txtL c.ts).2 ≠ 0 then ([], (txtL c.ts).2) else if 200 < (bodyC c).length then ([], 5) else (bodyC c, 0) := rfl
  generalize textC c = R at hte ⊢
  refine cnd (fun h => ?_) (fun h => ?_)
  · by_cases hm : rightC c = true
    · rw [if_pos hm] at h; exact absurd rfl h
    · have e2 : (if rightC c = true then (0 : Int) else 2) = 2 := if_neg hm
      rw [if_pos (by simpa using hm)] at hte
      rw [hte, e2]; exact rfl
  have hr : rightC c = true := by
    split at h
    · assumption
    · exact absurd h (by decide)
  rw [if_neg (by rw [hr]; decide)] at hte
  refine cnd (fun h1 => ?_) (fun h1 => ?_)
  · have h1 : c.any = true := h1
    rw [if_pos h1] at hte
    rw [hte]; exact rfl
  have h1 : c.any = false := h1
  rw [if_neg (by rw [h1]; decide)] at hte
  have h12 : c.ts.length ≤ 12 := by
    rw [rightC, if_neg (by rw [h1]; decide)] at hr
    simp only [Bool.and_eq_true, decide_eq_true_eq] at hr
    exact hr.1.2
  have hso := right_sound hr
  have hbo : bodyC c = if c.neg = true then [110, 111, 116, 40] ++ comS (txtL c.ts).1 ++ [41] else comS (txtL c.ts).1 := rfl
  generalize bodyC c = BC at hte hbo
  refine nilC 900 9 1 ?_
  refine w_loopB TT_ok (fun x : Option Addr × Nat × Nat × Nat => [(5, .v (.slice x.1 x.2.1 x.2.2.1)), (21, .v (.int .i64 x.2.2.2))]) (fun x => [(900, .e (bufE 9 1 (.slice x.1 x.2.1 x.2.2.1) (((c.ts.take x.2.2.2).map fun t => (txtT t).1).map fun s => [vs s]).flatten)), (1, .c b1 25 (celC c ad cap))]) (none, 0, 0, 0)
    (fun x => x.2.2.2 ≤ c.ts.length ∧ x.2.1 = x.2.2.2 ∧ ∀ j, j < x.2.2.2 → (txtT (c.ts.getD j tst0)).2 = 0) (fun x => c.ts.length - x.2.2.2) ?_
  refine And.intro ⟨⟨Nat.zero_le _, rfl, fun j h => absurd h (Nat.not_lt_zero _)⟩, gs⟩ ?_
  rintro ⟨a0, nn, cp, k⟩ ⟨hk, hnk, hz⟩
  dsimp only at hk hnk hz ⊢
  subst hnk
  refine cnd (fun h3 => ?_) (fun h3 => ?_)
  · have hk' : nn < c.ts.length := by omega
    have hmem := getT_mem c.ts nn hk'
    have her := txtL_er (l := c.ts) (k := nn) hk' hz
    have hz' : (txtT (c.ts.getD nn tst0)).2 = 0 → ∀ j, j < nn + 1 → (txtT (c.ts.getD j tst0)).2 = 0 := fun hh => upto_snoc hz hh
    have htk := take_snocD c.ts nn tst0 hk'
    refine ixT hx nn (fun aa ca ab cb' g1 g2 g3 => ?_)
    have hgt := hg _ hmem
    have hsk := sound_k (hso _ hmem)
    generalize c.ts.getD nn tst0 = t at *
    intro b7
    refine cb (fun w hw => c_Ctext t aa ca ab cb' hsk hgt w h0 hw g1 g2 hp) ?_
    refine cnd (fun h4 => ?_) (fun h4 => ?_)
    · have h4 : (txtT t).2 ≠ 0 := by simpa using h4
      rw [her h4, if_pos h4] at hte
      rw [hte]; exact rfl
    · have h4 : (txtT t).2 = 0 := by simpa using h4
      intro b35
      refine ap TT_ok 900 (AppT.of (bytes := 16) (sz := 0) (by kernel_rfl) (by kernel_rfl) (by kernel_rfl)) rfl rfl rfl rfl rfl rfl rfl (by rw [fl1c, List.length_map, List.length_take]; show (_ + 1) * 17 ≤ _; omega) (fun a1 n1 c1 e1 => ?_)
      refine wi ?_
      have hn1 : n1 = nn + 1 := by
        rw [fl1c, List.length_map, List.length_take] at e1
        have e1 : n1 * 1 = min nn c.ts.length + 1 := e1
        omega
      refine ⟨(a1, n1, c1, nn + 1), ⟨⟨hk', hn1, hz' h4⟩, ?_⟩, ?_⟩
      · show c.ts.length - (nn + 1) < c.ts.length - nn; omega
      · refine gs rfl ?_
        show [(900, OB.e (bufE 9 1 (.slice a1 n1 c1) _)), _] = [(900, OB.e (bufE 9 1 (.slice a1 n1 c1) _)), _]
        rw [htk, List.map_append, List.map_append, List.flatten_append]; rfl
  · have e2 : nn = c.ts.length := by omega
    have hok := txtL_ok (l := c.ts) (fun j hj => hz j (by omega))
    rw [hok] at hte hbo
    rw [List.take_of_length_le (show c.ts.length ≤ nn by omega)]
    have hml : (c.ts.map fun t => (txtT t).1).length = nn := by rw [List.length_map]; exact e2.symm
    have hcl := com_len (l := c.ts.map fun t => (txtT t).1) (fun s hs => by
      obtain ⟨t, _, rfl⟩ := List.mem_map.1 hs
      exact txt_len t)
    generalize c.ts.map (fun t => (txtT t).1) = L at *
    rw [if_neg (fun hh => hh rfl)] at hte
    dsimp only at hbo
    refine And.intro rfl ?_
    refine sealW (g := fun s => [vs s]) (l := L) 900 rfl hml.symm ?_
    refine goW TT_ok ?_
    subst hml
    refine cf (x := vs (comS L)) (fun w v h1 h2 h3 => ?_) ?_
    · have := c_strJoin a0 cp L [44, 32] (by omega) (by rw [com_join]; omega) w v h3 h2.2
      rw [com_join] at this
      exact this
    generalize comS L = s at hbo hcl ⊢
    refine cnd (fun h5 => ?_) (fun h5 => ?_)
    · have h5 : c.neg = true := h5
      rw [if_pos h5] at hbo
      refine ct ?_
      refine ct ?_
      rw [← hbo]
      refine cnd (fun h6 => ?_) (fun h6 => ?_)
      · rw [if_pos (by omega)] at hte
        rw [hte]; exact rfl
      · rw [if_neg (by omega)] at hte
        rw [hte]; exact rfl
    · have h5 : c.neg = false := h5
      rw [if_neg (by rw [h5]; decide)] at hbo
      rw [← hbo]
      refine cnd (fun h6 => ?_) (fun h6 => ?_)
      · rw [if_pos (by omega)] at hte
        rw [hte]; exact rfl
      · rw [if_neg (by omega)] at hte
        rw [hte]; exact rfl
end Go.Proofs.YtkjhlfleojcgjaaGreatDoor
set_option maxRecDepth 100000
namespace Go.Proofs.YtkjhlfleojcgjaaGreatDoor
open Go Go.Dx Go.RowKit
def exS : List UInt8 := [110, 111, 116, 40, 60, 53, 44, 93, 97, 46, 46, 57, 93, 41]
def exS2 : List UInt8 := [110, 111, 116, 40, 60, 32, 53, 44, 32, 93, 97, 46, 46, 57, 93, 41]
def exC1 : Tst := ⟨2, numX 5, ex0, false, false⟩
def exC2 : Tst := ⟨6, KX 2 v0 [97], numX 9, true, false⟩
def exCel : Cel := ⟨false, true, [exC1, exC2]⟩
theorem lex_c : lexS exS = ([⟨1, [110, 111, 116], 0, 0⟩, ⟨4, [40], 0, 3⟩, ⟨4, [60], 0, 4⟩, ⟨2, [], 5, 5⟩, ⟨4, [44], 0, 6⟩, ⟨4, [93], 0, 7⟩, ⟨1, [97], 0, 8⟩, ⟨4, [46, 46], 0, 9⟩, ⟨2, [], 9, 11⟩, ⟨4, [93], 0, 12⟩, ⟨4, [41], 0, 13⟩], 0, 0) := by
  rw [lex_run exS (by decide)]; decide +kernel
theorem parse_c : parseC exS = (exCel, 0, 0) := by
  unfold parseC; rw [lex_c]; kernel_rfl
theorem text_c : textC exCel = (exS2, 0) := by kernel_rfl
theorem ev_num (col : List Col) (row : List Val) (n : Int) : evX col row (SizeOf.sizeOf (numX n) + 1) (numX n) = .ok ⟨1, n, []⟩ := by
  rw [evX, if_pos (show (numX n).op = 1 from rfl)]; rfl
theorem ev_nam (v : Val) : evX [colA] [v] (SizeOf.sizeOf (KX 2 v0 [97]) + 1) (KX 2 v0 [97]) = .ok v := by
  rw [evX, if_neg (by decide), if_pos (show (KX 2 v0 [97]).op = 2 from rfl)]; rfl
theorem right_nam : rightS (KX 2 v0 [97]) = true := by kernel_rfl
theorem es_num (m n : Int) (h : 0 ≤ n) : evalS [colA] [⟨1, m, []⟩] (numX n) = (⟨1, n, []⟩, 0) := by rw [evalS, if_pos ⟨right_num h, rfl, by rfl⟩, ev_num]
theorem es_nam (m : Int) : evalS [colA] [⟨1, m, []⟩] (KX 2 v0 [97]) = (⟨1, m, []⟩, 0) := by rw [evalS, if_pos ⟨right_nam, rfl, by rfl⟩, ev_nam]
theorem ask_c1 (n : Int) : askT exC1 ⟨1, n, []⟩ [colA] [⟨1, 5, []⟩] = (passT exC1 ⟨1, n, []⟩ [⟨1, 5, []⟩], 0) := by
  rw [ask_one (p := (⟨1, 5, []⟩, 0)) (by decide) (es_num 5 5 (by decide)), if_neg (by decide), if_pos (by rfl)]
theorem ask_c2 (n : Int) : askT exC2 ⟨1, n, []⟩ [colA] [⟨1, 5, []⟩] = (passT exC2 ⟨1, n, []⟩ [⟨1, 5, []⟩, ⟨1, 9, []⟩], 0) := by
  rw [ask_two (p := (⟨1, 5, []⟩, 0)) (q := (⟨1, 9, []⟩, 0)) rfl (es_nam 5) (es_num 5 9 (by decide)), if_neg (by decide), if_neg (by decide), if_pos (by rfl)]
theorem holds_c5 : holdsC exCel ⟨1, 5, []⟩ [colA] [⟨1, 5, []⟩] = (true, 0) := by
  rw [holdsC, if_pos (by kernel_rfl)]
  show holdL false true ⟨1, 5, []⟩ [colA] [⟨1, 5, []⟩] [exC1, exC2] = _
  have e1 : passT exC1 ⟨1, 5, []⟩ [⟨1, 5, []⟩] = false := by kernel_rfl
  have e2 : passT exC2 ⟨1, 5, []⟩ [⟨1, 5, []⟩, ⟨1, 9, []⟩] = false := by kernel_rfl
  rw [holdL, ask_c1, e1, if_neg (by decide), if_neg (by decide), holdL, ask_c2, e2, if_neg (by decide), if_neg (by decide), holdL]; rfl
theorem holds_c6 : holdsC exCel ⟨1, 6, []⟩ [colA] [⟨1, 5, []⟩] = (false, 0) := by
  rw [holdsC, if_pos (by kernel_rfl)]
  show holdL false true ⟨1, 6, []⟩ [colA] [⟨1, 5, []⟩] [exC1, exC2] = _
  have e1 : passT exC1 ⟨1, 6, []⟩ [⟨1, 5, []⟩] = false := by kernel_rfl
  have e2 : passT exC2 ⟨1, 6, []⟩ [⟨1, 5, []⟩, ⟨1, 9, []⟩] = true := by kernel_rfl
  rw [holdL, ask_c1, e1, if_neg (by decide), if_neg (by decide), holdL, ask_c2, e2, if_neg (by decide), if_pos (by rfl)]; rfl
theorem c_CParseE {s : List UInt8} {c : Cel} {at' e : Int} (he : parseC s = (c, at', e)) (w0 : World) (h0 : View) (hv : VLe h0 (Full w0)) :
    Calls Tryz.prog 11 #[vs s] w0 (Ret w0 h0 fun u hh => ∃ x : Option Addr × Nat, u = cpV (c, at', e) x ∧ TL hh x.1 x.2 c.ts) := by
  have := c_CParse s w0 h0 hv
  rw [he] at this; exact this
theorem gt_num (n : Int) (h : 0 ≤ n) : SmX (numX n) := smx_right (right_num h)
theorem gt_ex : ∀ t ∈ exCel.ts, GT t := by
  intro t ht
  have : t = exC1 ∨ t = exC2 := by simpa [exCel] using ht
  rcases this with rfl | rfl
  · exact ⟨gt_num 5 (by decide), sm0, by decide +kernel, by decide +kernel⟩
  · exact ⟨smx_right right_nam, gt_num 9 (by decide), by decide +kernel, by decide +kernel⟩
theorem c_CHoldsK {c : Cel} {v : Val} {col : List Col} {row : List Val} {p : Bool × Int} (he : holdsC c v col row = p) (adt : Option Addr) (capt : Nat) (ad : Option Addr) (cap : Nat) (ad2 : Option Addr) (cap2 : Nat) (hg : ∀ t ∈ c.ts, GT t) (hvv : valB v) (hl : col.length ≤ 1000000) (hvb : ∀ v ∈ row, valB v) (w0 : World) (h0 : View) (hv : VLe h0 (Full w0))
    (hx : TL h0 adt capt c.ts) (hc : SlC 70 3 (flatR colC) h0 (.slice ad col.length cap) col) (hr : SlC 35 3 (flatR valC) h0 (.slice ad2 row.length cap2) row) :
    Calls Tryz.prog 17 #[.agg (celC c adt capt).toArray, .agg (valC v).toArray, .slice ad col.length cap, .slice ad2 row.length cap2] w0 (Ret w0 h0 fun u _ => u = kbR2 p) := by
  subst he
  exact c_CHolds c adt capt v ad cap col ad2 cap2 row hg hvv hl hvb w0 h0 hv hx hc hr
set_option maxRecDepth 100000 in
theorem c_lives17 (w0 : World) (h0 : View) (hv : VLe h0 (Full w0)) (hp : PowV h0) : Calls Tryz.prog 10 #[] w0 (Ret w0 h0 fun u _ => u = .bool true) := by
  refine ent (args := []) TT_ok [27] [] Tryz.func10 rfl Tryz.ntmps10 rfl rfl hv ?_
  refine cA TT_ok (fun w v h1 h2 h3 => c_CParseE parse_c w v h3) (fun a => tl_m a _) (fun a => ?_)
  intro b1
  refine cf (fun w v h1 h2 h3 => c_CText exCel a.1 a.2 gt_ex w v h3 h2.2 (pow_m h1 hp)) ?_
  rw [text_c]
  intro b23 b25
  refine ⟨rfl, shutW 23 (row_sl (g := colC) (l := [colA]) (sz := 3) (n := 1) (cp := 1) rfl) ?_ Mono.slF⟩
  refine shutW 25 (row_sl (g := valC) (l := [(⟨1, 5, []⟩ : Val)]) (sz := 3) (n := 1) (cp := 1) rfl) ?_ Mono.slF
  refine goW TT_ok ?_
  refine cf (fun w v h1 h2 h3 => c_CHoldsK holds_c5 a.1 a.2 (some ⟨b23, 0, none⟩) 1 (some ⟨b25, 0, none⟩) 1 gt_ex ⟨i64n (by decide), i64n (by decide)⟩ (by decide) (by simp [valB, i64]) w v h3 h2.1.1.2 h2.1.2 h2.2) ?_
  refine cf (fun w v h1 h2 h3 => c_CHoldsK holds_c6 a.1 a.2 (some ⟨b23, 0, none⟩) 1 (some ⟨b25, 0, none⟩) 1 gt_ex ⟨i64n (by decide), i64n (by decide)⟩ (by decide) (by simp [valB, i64]) w v h3 h2.1.1.2 h2.1.2 h2.2) ?_
  exact rfl
end Go.Proofs.YtkjhlfleojcgjaaGreatDoor
set_option maxRecDepth 100000
namespace Go.Proofs.YtkjhlfleojcgjaaGreatDoor
open Go Go.Dx Go.RowKit
theorem small_gt {ts : List Tst} (h : smallC ts = true) : ts.length ≤ 14 ∧ ∀ t ∈ ts, GT t := by
  unfold smallC at h
  simp only [Bool.and_eq_true, decide_eq_true_eq, List.all_eq_true] at h
  refine ⟨h.1, fun t ht => ?_⟩
  obtain ⟨h1, h2⟩ := h.2 t ht
  exact ⟨sm_of h1, sm_of h2, by have := deep_of h1; omega, by have := deep_of h2; omega⟩
end Go.Proofs.YtkjhlfleojcgjaaGreatDoor
set_option maxRecDepth 100000
namespace Go.Proofs.YtkjhlfleojcgjaaGreatDoor
open Go Go.Dx Go.RowKit
theorem com_snoc (l : List (List UInt8)) (s : List UInt8) (h : l ≠ []) : comS (l ++ [s]) = comS l ++ [44, 32] ++ s := by
  rw [← com_join, ← com_join]
  match l, h with
  | x :: r, _ =>
    rw [List.cons_append, Lib.join_cons, Lib.join_cons]
    simp [Lib.joinTail]
theorem wr_text {x : Ex} : (wrX x).2 = (textT x).2 := by
  unfold wrX
  split
  · rename_i h; exact h.1.symm
  · rfl
theorem txt_bad {t : Tst} (h : (textT t.a).2 ≠ 0) : (txtT t).2 ≠ 0 := by
  unfold txtT
  rw [if_pos (by rw [wr_text]; exact h)]
  show (wrX t.a).2 ≠ 0
  rw [wr_text]; exact h
theorem txt_bad6 {t : Tst} (h6 : t.k = 6) (ha : (textT t.a).2 = 0) (h : (textT t.b).2 ≠ 0) : (txtT t).2 ≠ 0 := by
  unfold txtT
  rw [if_neg (by rw [wr_text]; exact fun hh => hh ha), if_neg (by omega), if_neg (by omega), if_pos (by rw [wr_text]; exact h)]
  show (wrX t.b).2 ≠ 0
  rw [wr_text]; exact h
theorem txt_v1 {t : Tst} (h1 : t.k = 1) (ha : (textT t.a).2 = 0) : txtT t = (putS t.a 4, 0) := by
  have w := wr_put (x := t.a) (by rw [wr_text]; exact ha)
  unfold txtT
  rw [w.2.2, if_neg (fun hh => hh rfl), if_pos h1]
theorem txt_vc {t : Tst} (h1 : 2 ≤ t.k ∧ t.k ≤ 5) (ha : (textT t.a).2 = 0) : txtT t = (sgC t.k ++ [32] ++ putS t.a 4, 0) := by
  have w := wr_put (x := t.a) (by rw [wr_text]; exact ha)
  unfold txtT
  rw [w.2.2, if_neg (fun hh => hh rfl), if_neg (by omega), if_pos h1]
theorem txt_v6 {t : Tst} (h6 : t.k = 6) (ha : (textT t.a).2 = 0) (hb : (textT t.b).2 = 0) : txtT t = ((if t.lo = true then [93] else [91]) ++ putS t.a 4 ++ [46, 46] ++ putS t.b 4 ++ (if t.hi = true then [91] else [93]), 0) := by
  have w := wr_put (x := t.a) (by rw [wr_text]; exact ha)
  have w2 := wr_put (x := t.b) (by rw [wr_text]; exact hb)
  unfold txtT
  rw [w.2.2, w2.2.2, if_neg (fun hh => hh rfl), if_neg (by omega), if_neg (by omega), if_neg (fun hh => hh rfl)]
def accC (ts : List Tst) (k : Nat) : List UInt8 := comS ((ts.take k).map fun t => (txtT t).1)
def preC (ts : List Tst) (k : Nat) : List UInt8 := if k = 0 then [] else accC ts k ++ [44, 32]
theorem acc_step {ts : List Tst} {k : Nat} (hk : k < ts.length) : accC ts (k + 1) = preC ts k ++ (txtT (ts.getD k tst0)).1 := by
  unfold accC preC
  rw [take_snocD ts k tst0 hk, List.map_append, List.map_cons, List.map_nil]
  by_cases h : k = 0
  · subst h
    rw [if_pos rfl]; rfl
  · rw [if_neg h, com_snoc _ _ (by
      intro hh
      have := congrArg List.length hh
      rw [List.length_map, List.length_take, List.length_nil] at this
      omega)]
    unfold accC; rfl
theorem acc_len (ts : List Tst) (k : Nat) : (accC ts k).length ≤ 1002 * k := by
  unfold accC
  have := com_len (l := (ts.take k).map fun t => (txtT t).1) (fun s hs => by
    obtain ⟨t, _, rfl⟩ := List.mem_map.1 hs
    exact txt_len t)
  rw [List.length_map, List.length_take] at this
  have h2 : min k ts.length ≤ k := Nat.min_le_left _ _
  have := Nat.mul_le_mul_left 1002 h2
  omega
theorem acc_all {ts : List Tst} : accC ts ts.length = comS (ts.map fun t => (txtT t).1) := by unfold accC; rw [List.take_length]
theorem wr_err17 {x : Ex} (h : partX x = true) : (wrX x).2 = 0 ∨ (wrX x).2 = 5 := by
  obtain ⟨hr, hd⟩ := part_r h
  have ht : (textT x).2 = 0 ∨ (textT x).2 = 5 := by
    unfold textT
    rw [if_neg (by rw [hr]; decide), if_neg (by omega)]
    split
    · exact .inr rfl
    · exact .inl rfl
  unfold wrX
  split
  · exact .inl rfl
  · exact ht
theorem txt_err17 {t : Tst} (h : soundT t = true) : (txtT t).2 = 0 ∨ (txtT t).2 = 5 := by
  obtain ⟨k1, k6, pa, pb, po⟩ := sound_parts h
  have ea := wr_err17 pa
  unfold txtT
  by_cases h1 : (wrX t.a).2 ≠ 0
  · rw [if_pos h1]; exact ea
  rw [if_neg h1]
  by_cases h2 : t.k = 1
  · rw [if_pos h2]; exact .inl rfl
  rw [if_neg h2]
  by_cases h3 : 2 ≤ t.k ∧ t.k ≤ 5
  · rw [if_pos h3]; exact .inl rfl
  rw [if_neg h3]
  have eb := wr_err17 (pb (by omega))
  by_cases h4 : (wrX t.b).2 ≠ 0
  · rw [if_pos h4]; exact eb
  · rw [if_neg h4]; exact .inl rfl
theorem txtL_err17 : ∀ {l : List Tst}, (∀ t ∈ l, soundT t = true) → (txtL l).2 = 0 ∨ (txtL l).2 = 5
  | [], _ => .inl rfl
  | t :: l, h => by
    rw [txtL]
    split
    · exact txt_err17 (h t (by simp))
    split
    · exact txtL_err17 fun u hu => h u (List.mem_cons_of_mem _ hu)
    · exact .inl rfl
theorem c_Rsign8 (k : Int) (w0 : World) (h0 : View) (hv : VLe h0 (Full w0)) : Calls Tryz.prog 73 #[.int .i64 k] w0 (Ret w0 h0 fun u _ => u = vs (sgC k)) := by
  refine ent (args := [.int .i64 k]) TT_ok [] [] Tryz.func73 rfl Tryz.ntmps73 rfl rfl hv ?_
  unfold sgC
  refine cnd (fun h => ?_) (fun h => ?_)
  · rw [if_pos h]; exact rfl
  rw [if_neg h]
  refine cnd (fun h => ?_) (fun h => ?_)
  · rw [if_pos h]; exact rfl
  rw [if_neg h]
  refine cnd (fun h => ?_) (fun h => ?_)
  · rw [if_pos h]; exact rfl
  rw [if_neg h]
  refine cnd (fun h => ?_) (fun h => ?_)
  · rw [if_pos h]; exact rfl
  rw [if_neg h]
  exact rfl
def writC (c : Cel) : List UInt8 × Bool := if c.any = true then ([45], true) else if (txtL c.ts).2 ≠ 0 then ([], false) else (bodyC c, true)
theorem part_put {x : Ex} {h : View} {ad : Option Addr} {cap : Nat} (hx : EX h ad cap x) (hp : partX x = true) : (putS x 4).length ≤ 1000000000000 := by
  obtain ⟨hr, hd⟩ := part_r hp
  have hln := put_len (XL.rx hx.1 hx.2) hr 4
  have h12 : 4 ^ deepS x ≤ 4 ^ 12 := Nat.pow_le_pow_right (by decide) (by omega)
  have h12 : 4 ^ deepS x ≤ 16777216 := h12
  omega
theorem c_RWrittenX (x : Ex) (ad : Option Addr) (cap : Nat) (hp : partX x = true) (w0 : World) (h0 : View) (hv : VLe h0 (Full w0)) (hx : EX h0 ad cap x) (hs : SmX x) :
    Calls Tryz.prog 92 #[.agg (exC x.op x.v x.s (.slice ad x.l.length cap)).toArray, .int .i64 4] w0 (Ret w0 h0 fun u _ => u = vs (putS x 4)) := by
  have hl := part_put hx hp
  refine ent (args := [.agg (exC x.op x.v x.s (.slice ad x.l.length cap)).toArray, .int .i64 4]) TT_ok [] [] Tryz.func92 rfl Tryz.ntmps92 rfl rfl hv ?_
  intro b2
  refine cb (fun w hw => c_write _ x ad cap 4 (Nat.lt_succ_self _) (by decide) (part_r hp).1 hl w h0 hw (hx.gx hs)) ?_
  exact rfl
set_option maxHeartbeats 4000000 in
theorem c_RWritten17 (c : Cel) (ad : Option Addr) (cap : Nat) (hr : rightC c = true) (hg : ∀ t ∈ c.ts, GT t) (w0 : World) (h0 : View) (hv : VLe h0 (Full w0)) (hx : TL h0 ad cap c.ts) :
    Calls Tryz.prog 57 #[.agg (celC c ad cap).toArray] w0 (Ret w0 h0 fun u _ => u = .tuple #[vs (writC c).1, .bool (writC c).2]) := by
  have hlm := hx.lm
  have hte : writC c = if c.any = true then ([45], true) else if (txtL c.ts).2 ≠ 0 then ([], false) else (bodyC c, true) := rfl
  generalize writC c = R at hte ⊢
  refine ent (args := [.agg (celC c ad cap).toArray]) TT_ok [] [11] Tryz.func57 rfl Tryz.ntmps57 rfl rfl hv ?_
  intro b1
  refine cnd (fun h1 => ?_) (fun h1 => ?_)
  · have h1 : c.any = true := h1
    rw [if_pos h1] at hte
    rw [hte]; exact rfl
  have h1 : c.any = false := h1
  rw [if_neg (by rw [h1]; decide)] at hte
  have h12 : c.ts.length ≤ 12 := by
    rw [rightC, if_neg (by rw [h1]; decide)] at hr
    simp only [Bool.and_eq_true, decide_eq_true_eq] at hr
    exact hr.1.2
  have hso := right_sound hr
  have hbo : bodyC c = if c.neg = true then [110, 111, 116, 40] ++ comS (txtL c.ts).1 ++ [41] else comS (txtL c.ts).1 := rfl
  generalize bodyC c = BC at hte hbo
  refine w_loop TT_ok (fun k : Nat => [(5, .v (.int .i64 k)), (4, .v (vs (accC c.ts k)))]) 0 (fun k => k ≤ c.ts.length ∧ ∀ j, j < k → (txtT (c.ts.getD j tst0)).2 = 0) (fun k => c.ts.length - k) ?_
  refine And.intro ⟨⟨Nat.zero_le _, fun j h => absurd h (Nat.not_lt_zero _)⟩, gs⟩ ?_
  rintro k ⟨hk, hz⟩
  have hacc := acc_len c.ts k
  refine cnd (fun h3 => ?_) (fun h3 => ?_)
  · have hk' : k < c.ts.length := by omega
    have hmem := getT_mem c.ts k hk'
    have her := txtL_er (l := c.ts) (k := k) hk' hz
    have hz' : (txtT (c.ts.getD k tst0)).2 = 0 → ∀ j, j < k + 1 → (txtT (c.ts.getD j tst0)).2 = 0 := fun hh => upto_snoc hz hh
    have hst := acc_step hk'
    refine ixT hx k (fun aa ca ab cb' g1 g2 g3 => ?_)
    have hgt := hg _ hmem
    have hsd := hso _ hmem
    generalize c.ts.getD k tst0 = t at *
    obtain ⟨k1, k6, pa, pb, po⟩ := sound_parts hsd
    intro b6
    refine cb (fun w hw => c_RWrittenX t.a aa ca pa w h0 hw g1 hgt.1) ?_
    refine w_cut TT_ok (fun pre : List UInt8 => [(4, .v (vs pre))]) (fun pre => pre = preC c.ts k) ?_
    refine And.intro ?_ ?_
    · refine cnd (fun h4 => ?_) (fun h4 => ?_)
      · refine ct ?_
        exact ⟨accC c.ts k ++ [44, 32], by rw [preC, if_neg (by omega)], gs⟩
      · have hk0 : k = 0 := by omega
        subst hk0
        exact ⟨[], by rw [preC, if_pos rfl], gs⟩
    intro pre hpre
    have hpl : pre.length ≤ 20000 := by
      rw [hpre, preC]
      split
      · exact Nat.zero_le _
      · rw [List.length_append]; show _ + 2 ≤ _; omega
    refine cb (fun w hw => c_RText t.a aa ca hgt.2.2.1 w h0 hw (g1.gx hgt.1)) ?_
    refine cnd (fun h4 => ?_) (fun h4 => ?_)
    · have h4 : (textT t.a).2 ≠ 0 := by simpa using h4
      have hb := txt_bad h4
      have he := her hb
      rw [if_pos (by rw [he]; exact hb)] at hte
      rw [hte]; exact rfl
    have za : (textT t.a).2 = 0 := by simpa using h4
    have la : (putS t.a 4).length ≤ 202 := by
      have w := wr_put (x := t.a) (by rw [wr_text]; exact za)
      have := wr_len (x := t.a)
      rw [w.2.2] at this; exact this
    have ls := sg_len t.k
    refine cnd (fun h5 => ?_) (fun h5 => ?_)
    · have h6 : t.k = 6 := h5
      have pb := pb h6
      refine cb (fun w hw => c_RText t.b ab cb' hgt.2.2.2 w h0 hw (g2.gx hgt.2.1)) ?_
      refine cnd (fun h7 => ?_) (fun h7 => ?_)
      · have h7 : (textT t.b).2 ≠ 0 := by simpa using h7
        have hb := txt_bad6 h6 za h7
        have he := her hb
        rw [if_pos (by rw [he]; exact hb)] at hte
        rw [hte]; exact rfl
      have zb : (textT t.b).2 = 0 := by simpa using h7
      have lb : (putS t.b 4).length ≤ 202 := by
        have w := wr_put (x := t.b) (by rw [wr_text]; exact zb)
        have := wr_len (x := t.b)
        rw [w.2.2] at this; exact this
      have e := txt_v6 h6 za zb
      refine cb (fun w hw => c_RWrittenX t.b ab cb' pb w h0 hw g2 hgt.2.1) ?_
      refine cndF (by simp; omega) ?_
      refine cndF (by simp; omega) ?_
      refine cnd (fun q1 => ?_) (fun q1 => ?_)
      · have q1 : t.lo = true := q1
        rw [if_pos q1] at e
        refine cnd (fun q2 => ?_) (fun q2 => ?_)
        · have q2 : t.hi = true := q2
          rw [if_pos q2] at e
          refine ct ?_
          refine ct ?_
          refine ct ?_
          refine ct ?_
          refine ct ?_
          refine wi ?_
          exact ⟨k + 1, ⟨⟨hk', hz' (by rw [e])⟩, by omega⟩, gs (by rw [hst, e, ← hpre]; simp only [List.append_assoc]; rfl)⟩
        · have q2 : t.hi = false := q2
          rw [if_neg (show ¬ t.hi = true by rw [q2]; decide)] at e
          refine ct ?_
          refine ct ?_
          refine ct ?_
          refine ct ?_
          refine ct ?_
          refine wi ?_
          exact ⟨k + 1, ⟨⟨hk', hz' (by rw [e])⟩, by omega⟩, gs (by rw [hst, e, ← hpre]; simp only [List.append_assoc]; rfl)⟩
      · have q1 : t.lo = false := q1
        rw [if_neg (show ¬ t.lo = true by rw [q1]; decide)] at e
        refine cnd (fun q2 => ?_) (fun q2 => ?_)
        · have q2 : t.hi = true := q2
          rw [if_pos q2] at e
          refine ct ?_
          refine ct ?_
          refine ct ?_
          refine ct ?_
          refine ct ?_
          refine wi ?_
          exact ⟨k + 1, ⟨⟨hk', hz' (by rw [e])⟩, by omega⟩, gs (by rw [hst, e, ← hpre]; simp only [List.append_assoc]; rfl)⟩
        · have q2 : t.hi = false := q2
          rw [if_neg (show ¬ t.hi = true by rw [q2]; decide)] at e
          refine ct ?_
          refine ct ?_
          refine ct ?_
          refine ct ?_
          refine ct ?_
          refine wi ?_
          exact ⟨k + 1, ⟨⟨hk', hz' (by rw [e])⟩, by omega⟩, gs (by rw [hst, e, ← hpre]; simp only [List.append_assoc]; rfl)⟩
    · have h6 : t.k ≠ 6 := h5
      refine cnd (fun h7 => ?_) (fun h7 => ?_)
      · have e := txt_v1 h7 za
        refine ct ?_
        refine wi ?_
        exact ⟨k + 1, ⟨⟨hk', hz' (by rw [e])⟩, by omega⟩, gs (by rw [hst, e, ← hpre]; simp only [List.append_assoc]; rfl)⟩
      · have e := txt_vc ⟨by omega, by omega⟩ za
        refine cndT (by simp; omega) ?_
        refine cl (c_Rsign8 t.k) ?_
        refine ct ?_
        refine ct ?_
        refine ct ?_
        refine wi ?_
        exact ⟨k + 1, ⟨⟨hk', hz' (by rw [e])⟩, by omega⟩, gs (by rw [hst, e, ← hpre]; simp only [List.append_assoc]; rfl)⟩
  · have e2 : k = c.ts.length := by omega
    have hok := txtL_ok (l := c.ts) (fun j hj => hz j (by omega))
    rw [hok] at hte hbo
    rw [if_neg (fun hh => hh rfl)] at hte
    dsimp only at hbo
    have eacc : accC c.ts k = comS (c.ts.map fun t => (txtT t).1) := by rw [e2]; exact acc_all
    rw [← eacc] at hbo
    rw [hte]
    generalize accC c.ts k = s at hbo hacc ⊢
    refine cnd (fun h5 => ?_) (fun h5 => ?_)
    · have h5 : c.neg = true := h5
      rw [if_pos h5] at hbo
      refine ct ?_
      refine ct ?_
      rw [hbo]; exact rfl
    · have h5 : c.neg = false := h5
      rw [if_neg (by rw [h5]; decide)] at hbo
      rw [hbo]; exact rfl
theorem c_RText17 (c : Cel) (ad : Option Addr) (cap : Nat) (hg : ∀ t ∈ c.ts, GT t) (w0 : World) (h0 : View) (hv : VLe h0 (Full w0)) (hx : TL h0 ad cap c.ts) :
    Calls Tryz.prog 22 #[.agg (celC c ad cap).toArray] w0 (Ret w0 h0 fun u _ => u = tsV (textC c)) := by
  refine ent (args := [.agg (celC c ad cap).toArray]) TT_ok [] [] Tryz.func22 rfl Tryz.ntmps22 rfl rfl hv ?_
  intro b1
  refine cb (fun w hw => c_RRightC c ad cap hg w h0 hw hx) ?_
  have hte : textC c = if rightC c = false then ([], 2) else if c.any = true then ([45], 0) else if (txtL c.ts).2 ≠ 0 then ([], (txtL c.ts).2) else if 200 < (bodyC c).length then ([], 5) else (bodyC c, 0) := rfl
  have hwr : writC c = if c.any = true then ([45], true) else if (txtL c.ts).2 ≠ 0 then ([], false) else (bodyC c, true) := rfl
  refine cnd (fun h => ?_) (fun h => ?_)
  · have h : rightC c = false := by simpa using h
    rw [if_pos h] at hte
    rw [hte]; exact rfl
  have hr : rightC c = true := by simpa using h
  rw [if_neg (by rw [hr]; decide)] at hte
  refine cb (fun w hw => c_RWritten17 c ad cap hr hg w h0 hw hx) ?_
  have h5 := txtL_err17 (right_sound hr)
  generalize textC c = R at hte ⊢
  generalize writC c = W at hwr ⊢
  refine cnd (fun h2 => ?_) (fun h2 => ?_)
  · by_cases ha : c.any = true
    · rw [if_pos ha] at hwr
      rw [hwr] at h2
      rcases h2 with h2 | h2
      · exact absurd (show true = false from h2) (by decide)
      · exact absurd (show (200 : Int) < 1 from h2) (by decide)
    · rw [if_neg ha] at hwr hte
      by_cases hz : (txtL c.ts).2 ≠ 0
      · rw [if_pos hz, h5.resolve_left hz] at hte
        rw [hte]; exact rfl
      · rw [if_neg hz] at hwr hte
        rw [hwr] at h2
        rw [if_pos (by
          rcases h2 with h2 | h2
          · exact absurd (show true = false from h2) (by decide)
          · have h2 : (200 : Int) < ((bodyC c).length : Int) := h2
            omega)] at hte
        rw [hte]; exact rfl
  · by_cases ha : c.any = true
    · rw [if_pos ha] at hwr hte
      rw [hwr, hte]; exact rfl
    · rw [if_neg ha] at hwr hte
      by_cases hz : (txtL c.ts).2 ≠ 0
      · rw [if_pos hz] at hwr
        rw [hwr] at h2
        exact absurd h2.1 (by decide)
      · rw [if_neg hz] at hwr hte
        rw [hwr] at h2
        rw [if_neg (by
          have h2 : ¬ (200 : Int) < ((bodyC c).length : Int) := h2.2
          omega)] at hte
        rw [hwr, hte]; exact rfl
end Go.Proofs.YtkjhlfleojcgjaaGreatDoor
set_option maxRecDepth 100000
namespace Go.Proofs.YtkjhlfleojcgjaaGreatDoor
open Go Go.Dx Go.RowKit
theorem exsT_app (a b : List Tst) : exsT (a ++ b) = exsT a ++ exsT b := by
  induction a with
  | nil => rfl
  | cons t l ih => rw [List.cons_append, exsT, exsT, ih]; rfl
theorem exsT_take (l : List Tst) (k : Nat) (h : k < l.length) : exsT (l.take (k + 1)) = exsT (l.take k) ++ [(l.getD k tst0).a, (l.getD k tst0).b] := by
  rw [take_snocD l k tst0 h, exsT_app]; rfl
theorem exs_le (l : List Tst) (k : Nat) : (nmL (exsT (l.take k))).length ≤ (nmL (exsT l)).length := by
  have e : exsT l = exsT (l.take k) ++ exsT (l.drop k) := by rw [← exsT_app, List.take_append_drop]
  rw [e, nmL_app, List.length_append]; omega
theorem exs_mem {l : List Tst} {k : Nat} (h : k < l.length) : (nmS (l.getD k tst0).a).length + (nmS (l.getD k tst0).b).length ≤ (nmL (exsT l)).length := by
  have h1 := exs_le l (k + 1)
  rw [exsT_take l k h, nmL_app, List.length_append] at h1
  have : nmL [(l.getD k tst0).a, (l.getD k tst0).b] = nmS (l.getD k tst0).a ++ (nmS (l.getD k tst0).b ++ []) := rfl
  rw [this, List.length_append, List.append_nil] at h1
  omega
def HsF (hs : List (Option Addr × Nat × List (List UInt8))) (h : View) : Prop := ∀ q ∈ hs, SlC 9 1 (flatR fun t => [vs t]) h (.slice q.1 q.2.2.length q.2.1) q.2.2
theorem hs_m (hs : List (Option Addr × Nat × List (List UInt8))) : Mono fun h => HsF hs h := fun _ _ hle hx q hq => Mono.slF _ _ hle (hx q hq)
set_option maxHeartbeats 4000000 in
theorem c_CNames (c : Cel) (ad : Option Addr) (cap : Nat) (hlen : (nmL (exsT c.ts)).length ≤ 2000000) (w0 : World) (h0 : View) (hv : VLe h0 (Full w0)) (hx : TL h0 ad cap c.ts) :
    Calls Tryz.prog 25 #[.agg (celC c ad cap).toArray] w0 (Ret w0 h0 fun u hh => ∃ a : Option Addr × Nat, u = .slice a.1 (namesC c).length a.2 ∧ SlC 9 1 (flatR fun t => [vs t]) hh (.slice a.1 (namesC c).length a.2) (namesC c)) := by
  have hlm := hx.lm
  refine entA (args := [.agg (celC c ad cap).toArray]) TT_ok [21, 24, 43] [] Tryz.func25 rfl Tryz.ntmps25 rfl rfl hv (fun _ => Mono.slF) ?_
  intro b1
  refine nilC 900 9 1 ?_
  refine w_loopB TT_ok (fun z : NmG × Nat => [(13, .v (.int .i64 z.2)), (3, .v (.slice z.1.a z.1.n z.1.cp))]) (fun z => [(900, .e (bufE 9 1 (.slice z.1.a z.1.n z.1.cp) (z.1.l.map fun t => [vs t]).flatten)), (1, .c b1 25 (celC c ad cap))]) (⟨none, 0, 0, []⟩, 0) (fun z => z.2 ≤ c.ts.length ∧ z.1.n = z.1.l.length ∧ z.1.l = (nmL (exsT (c.ts.take z.2))).foldl addS []) (fun z => c.ts.length - z.2) ?_
  refine And.intro ⟨⟨Nat.zero_le _, rfl, rfl⟩, gs⟩ ?_
  rintro ⟨⟨a2, n2, c2, l2⟩, i⟩ ⟨hi, hn2, e2⟩
  dsimp only at hi hn2 e2 ⊢
  have hl2 : l2.length ≤ 2000000 := by
    have h1 := adds_len (nmL (exsT (c.ts.take i))) []
    have h2 := exs_le c.ts i
    rw [e2]; simp only [List.length_nil] at h1; omega
  refine cnd (fun h => ?_) (fun h => ?_)
  · have hil : i < c.ts.length := by omega
    have hab := exs_mem hil
    have htk := exsT_take c.ts i hil
    refine ixT hx i (fun aa ca ab cb' g1 g2 g3 => ?_)
    generalize c.ts.getD i tst0 = t at *
    intro b5
    have hes : ∀ p ∈ [(t.a, aa, ca), (t.b, ab, cb')], XL h0 p.2.1 p.2.2 p.1.l := fun p hp => by
      have : p = (t.a, aa, ca) ∨ p = (t.b, ab, cb') := by simpa using hp
      rcases this with rfl | rfl
      · exact g1.1
      · exact g2.1
    have hnm : ∀ p ∈ [(t.a, aa, ca), (t.b, ab, cb')], (nmS p.1).length ≤ 2000000 := fun p hp => by
      have : p = (t.a, aa, ca) ∨ p = (t.b, ab, cb') := by simpa using hp
      rcases this with rfl | rfl
      · show (nmS t.a).length ≤ _; omega
      · show (nmS t.b).length ≤ _; omega
    have hrow : exC t.a.op t.a.v t.a.s (.slice aa t.a.l.length ca) ++ exC t.b.op t.b.v t.b.s (.slice ab t.b.l.length cb') = ((List.range 2).map (rowC [(t.a, aa, ca), (t.b, ab, cb')])).flatten := rfl
    refine goPu TT_ok (.agg (exC t.a.op t.a.v t.a.s (.slice aa t.a.l.length ca) ++ exC t.b.op t.b.v t.b.s (.slice ab t.b.l.length cb')).toArray) (fun w hS => pu_build_ar (places := [(0, 6), (6, 6)]) (zero := exC 0 v0 [] (.slice none 0 0) ++ exC 0 v0 [] (.slice none 0 0)) (ArrB.of (m := 2) (e := 50) (sz := 6) (by kernel_rfl) (by kernel_rfl) (by kernel_rfl) (fun i hi => by
      have : i = 0 ∨ i = 1 := by simp at hi; omega
      rcases this with rfl | rfl <;> rfl)) (by rfl) (by rfl)) ?_
    refine w_loopF TT_ok (fun z : (NmG × Nat) × List (Option Addr × Nat × List (List UInt8)) => [(22, .v (.int .i64 z.1.2)), (3, .v (.slice z.1.1.a z.1.1.n z.1.1.cp))]) (fun z => [(5, .c b5 52 (tstC t aa ca ab cb')), (15, .k none (adB ad) (adO ad + i * 15) (tstC t aa ca ab cb')), (900, .e (bufE 9 1 (.slice z.1.1.a z.1.1.n z.1.1.cp) (z.1.1.l.map fun t => [vs t]).flatten)), (1, .c b1 25 (celC c ad cap))]) (fun z h => HsF z.2 h) ((⟨a2, n2, c2, l2⟩, 0), []) (fun z => z.1.2 ≤ 2 ∧ z.1.1.n = z.1.1.l.length ∧ z.1.1.l = (nmL ([t.a, t.b].take z.1.2)).foldl addS l2) (fun z => 2 - z.1.2) (fun z => hs_m _) ?_
    refine And.intro ⟨⟨Nat.zero_le _, hn2, rfl⟩, gs rfl rfl (fun _ _ q hq => absurd hq List.not_mem_nil) (.inl fun _ _ => trivial)⟩ ?_
    rintro ⟨⟨⟨a4, n4, c4, l4⟩, j⟩, hs⟩ ⟨hj, hn4, e4⟩
    dsimp only at hj hn4 e4 ⊢
    have hl4 : l4.length ≤ 6000000 := by
      have h1 := adds_len (nmL ([t.a, t.b].take j)) l2
      have h2 := nmL_drop [t.a, t.b] j
      have h3 : nmL [t.a, t.b] = nmS t.a ++ (nmS t.b ++ []) := rfl
      rw [h3, List.length_append, List.append_nil] at h2
      rw [e4]; omega
    refine cnd (fun h2 => ?_) (fun h2 => ?_)
    · have hj2 : j < 2 := by omega
      refine goPu TT_ok (.agg (rowC [(t.a, aa, ca), (t.b, ab, cb')] j).toArray) (fun w hS => pu_index_arA (e := 50) (nn := 2) (sz := 6) (i := (j : Int)) ⟨by kernel_rfl, SzIs.of (by kernel_rfl)⟩ (by kernel_rfl) (ev_sl rfl rfl) (ev_sl rfl rfl) (by omega) (by omega) (by
        have : j = 0 ∨ j = 1 := by omega
        rcases this with rfl | rfl <;> rfl) (by
        have : j = 0 ∨ j = 1 := by omega
        rcases this with rfl | rfl <;> exact Nat.le_of_ble_eq_true rfl)) ?_
      have hm := getD_mem [(t.a, aa, ca), (t.b, ab, cb')] j xe0 hj2
      have hx4 := hes _ hm
      have hn4' := hnm _ hm
      have hnt : nmL ([t.a, t.b].take (j + 1)) = nmL ([t.a, t.b].take j) ++ nmS ([(t.a, aa, ca), (t.b, ab, cb')].getD j xe0).1 := by
        have := nmL_take [t.a, t.b] j hj2
        rw [this]
        have : j = 0 ∨ j = 1 := by omega
        rcases this with rfl | rfl <;> rfl
      unfold rowC
      generalize [(t.a, aa, ca), (t.b, ab, cb')].getD j (ex0, none, 0) = q at hx4 hn4' hnt ⊢
      intro b7
      refine cA TT_ok (fun w v h1 h2 h3 => c_Names q.1 q.2.1 q.2.2 hn4' w v h3 (hx4.mono h1)) (fun _ => Mono.slF) (fun nm => ?_)
      have hMl := names_len q.1
      have hacc := names_kids l4 q.1
      generalize namesS q.1 = M at hMl hacc ⊢
      refine w_loopB TT_ok (fun z : NmG × Nat => [(28, .v (.int .i64 z.2)), (3, .v (.slice z.1.a z.1.n z.1.cp))]) (fun z => [(7, .c b7 50 (exC q.1.op q.1.v q.1.s (.slice q.2.1 q.1.l.length q.2.2))), (5, .c b5 52 (tstC t aa ca ab cb')), (15, .k none (adB ad) (adO ad + i * 15) (tstC t aa ca ab cb')), (900, .e (bufE 9 1 (.slice z.1.a z.1.n z.1.cp) (z.1.l.map fun t => [vs t]).flatten)), (1, .c b1 25 (celC c ad cap))]) (⟨a4, n4, c4, l4⟩, 0) (fun z => z.2 ≤ M.length ∧ z.1.n = z.1.l.length ∧ z.1.l = (M.take z.2).foldl addS l4) (fun z => M.length - z.2) ?_
      refine And.intro ⟨⟨Nat.zero_le _, hn4, rfl⟩, gs⟩ ?_
      rintro ⟨⟨a6, n6, c6, l6⟩, r⟩ ⟨hrl, hn6, e6⟩
      dsimp only at hrl hn6 e6 ⊢
      have hl6 : l6.length ≤ 10000000 := by
        have h1 := adds_len (M.take r) l4
        rw [List.length_take] at h1
        rw [e6]; omega
      refine cnd (fun h5 => ?_) (fun h5 => ?_)
      · have hrl2 : r < M.length := by omega
        refine ixf (fun v hF => hF.2) r [] ?_
        have hst : (M.take (r + 1)).foldl addS l4 = addS l6 (M.getD r []) := by
          rw [take_snocD M r [] hrl2, List.foldl_append, ← e6]; rfl
        refine co (x := .bool (l6.contains (M.getD r []))) ?_ ?_
        · intro w hS
          have h1 := own_sl (T := 9) (sz := 1) (g := fun t => [vs t]) (k := 900) (a0 := a6) (nn := n6) (cp := c6) (l := l6) rfl hn6 (by intros; rfl) hS
          rw [hn6] at h1 ⊢
          exact c_ContainsT a6 c6 l6 (M.getD r []) w (Full w) (VLe.refl _) h1
        refine cnd (fun h6 => ?_) (fun h6 => ?_)
        · have h6 : l6.contains (M.getD r []) = false := by simpa using h6
          intro b38
          refine ap TT_ok 900 (AppT.of (bytes := 16) (sz := 0) (by kernel_rfl) (by kernel_rfl) (by kernel_rfl)) rfl rfl rfl rfl rfl rfl rfl (by rw [fl1]; show (l6.length + 1) * 17 ≤ 140737488355328; omega) (fun a0 nn cp' hnn => ?_)
          rw [fl1] at hnn
          have hnn : nn * 1 = l6.length + 1 := hnn
          refine wi ?_
          refine ⟨(⟨a0, nn, cp', l6 ++ [M.getD r []]⟩, r + 1), ⟨⟨hrl2, by show nn = (l6 ++ [_]).length; rw [List.length_append]; show nn = l6.length + 1; omega, by rw [hst, addS, if_neg (by rw [h6]; decide)]⟩, by show M.length - (r + 1) < M.length - r; omega⟩, gs rfl ?_⟩
          show [_, _, _, (900, OB.e (bufE 9 1 (.slice a0 nn cp') _)), _] = [_, _, _, (900, OB.e (bufE 9 1 (.slice a0 nn cp') _)), _]
          rw [List.map_append, List.flatten_append]; rfl
        · have h6 : l6.contains (M.getD r []) = true := by simpa using h6
          refine wi ?_
          exact ⟨(⟨a6, n6, c6, l6⟩, r + 1), ⟨⟨hrl2, hn6, by rw [hst, addS, if_pos h6]⟩, by show M.length - (r + 1) < M.length - r; omega⟩, gs⟩
      · have hre : r = M.length := by omega
        rw [hre, List.take_length, hacc] at e6
        refine wi ?_
        refine ⟨((⟨a6, n6, c6, l6⟩, j + 1), hs ++ [(nm.1, nm.2, M)]), ⟨⟨by show j + 1 ≤ 2; omega, hn6, by rw [hnt, List.foldl_append, ← e4]; exact e6⟩, by show 2 - (j + 1) < 2 - j; omega⟩, gs rfl rfl (fun v hF p hp => ?_) (.inl fun v hF => ⟨fun p hp => hF p (List.mem_append_left _ hp), hF (nm.1, nm.2, M) (List.mem_append_right _ (List.mem_singleton.2 rfl))⟩)⟩
        rcases List.mem_append.1 hp with hp | hp
        · exact hF.1 p hp
        · have : p = (nm.1, nm.2, M) := by simpa using hp
          subst this; exact hF.2
    · have hje : j = 2 := by omega
      subst hje
      refine wi ?_
      exact ⟨(⟨a4, n4, c4, l4⟩, i + 1), ⟨⟨hil, hn4, by rw [htk, nmL_app, List.foldl_append, ← e2]; exact e4⟩, by show c.ts.length - (i + 1) < c.ts.length - i; omega⟩, gs (fv := fun _ _ => trivial)⟩
  · have hie : i = c.ts.length := by omega
    rw [hie, List.take_length] at e2
    have e2 : l2 = namesC c := e2
    subst e2
    subst hn2
    refine And.intro rfl ?_
    refine sealW (g := fun t => [vs t]) (l := namesC c) 900 rfl rfl ?_
    refine goW TT_ok ?_
    exact ⟨(a2, c2), rfl, fun v _ hF => hF.2⟩
theorem exs_len (l : List Tst) : (exsT l).length = 2 * l.length := by
  induction l with
  | nil => rfl
  | cons t r ih => rw [exsT, List.length_cons, List.length_cons, ih, List.length_cons]; omega
theorem rowC_map (es : List (Ex × Option Addr × Nat)) : (List.range es.length).map (rowC es) = es.map fun p => exC p.1.op p.1.v p.1.s (.slice p.2.1 p.1.l.length p.2.2) := by
  refine List.ext_getElem (by simp) fun i h1 h2 => ?_
  have h3 : i < es.length := by simpa using h1
  simp [rowC, List.getD, h3]
theorem flatEs (es : List (Ex × Option Addr × Nat)) : (es.map fun p => exC p.1.op p.1.v p.1.s (.slice p.2.1 p.1.l.length p.2.2)).flatten.length = es.length * 6 := by
  induction es with
  | nil => rfl
  | cons v l ih => rw [List.map_cons, List.flatten_cons, List.length_append, ih, List.length_cons]; show 6 + _ = _; omega
structure LpE where
  a : Option Addr
  n : Nat
  c : Nat
  es : List (Ex × Option Addr × Nat)
  i : Nat
set_option maxHeartbeats 4000000 in
theorem c_RNames17 (c : Cel) (ad : Option Addr) (cap : Nat) (hlen : (nmL (exsT c.ts)).length ≤ 2000000) (hts : c.ts.length ≤ 1000000) (w0 : World) (h0 : View) (hv : VLe h0 (Full w0)) (hx : TL h0 ad cap c.ts) :
    Calls Tryz.prog 26 #[.agg (celC c ad cap).toArray] w0 (Ret w0 h0 fun u hh => ∃ a : Option Addr × Nat, u = .slice a.1 (namesC c).length a.2 ∧ SlC 9 1 (flatR fun t => [vs t]) hh (.slice a.1 (namesC c).length a.2) (namesC c)) := by
  have hlm := hx.lm
  refine entA (args := [.agg (celC c ad cap).toArray]) TT_ok [1000005, 30] [] Tryz.func26 rfl Tryz.ntmps26 rfl rfl hv (fun _ => Mono.slF) ?_
  intro b1 b3
  refine nilC 901 50 6 ?_
  refine w_loopB TT_ok (fun z : LpE => [(4, .v (.int .i64 z.i))]) (fun z => [(901, .e (bufE 50 6 (.slice z.a z.n z.c) (z.es.map fun p => exC p.1.op p.1.v p.1.s (.slice p.2.1 p.1.l.length p.2.2)).flatten)), (3, .c b3 50 (exC 0 v0 [] (.slice z.a z.n z.c))), (1, .c b1 25 (celC c ad cap))]) ⟨none, 0, 0, [], 0⟩ (fun z => z.i ≤ c.ts.length ∧ z.n = z.es.length ∧ z.es.map (·.1) = exsT (c.ts.take z.i) ∧ ∀ p ∈ z.es, EX h0 p.2.1 p.2.2 p.1) (fun z => c.ts.length - z.i) ?_
  refine And.intro ⟨⟨Nat.zero_le _, rfl, rfl, fun p hp => absurd hp List.not_mem_nil⟩, gs⟩ ?_
  rintro ⟨a2, n2, c2, es, i⟩ ⟨hi, hn2, hes, hex⟩
  dsimp only at hi hn2 hes hex ⊢
  have hel : es.length = 2 * i := by
    have := congrArg List.length hes
    rw [List.length_map, exs_len, List.length_take] at this
    omega
  refine cnd (fun h => ?_) (fun h => ?_)
  · have hil : i < c.ts.length := by omega
    have htk := exsT_take c.ts i hil
    refine regQ TT_ok [0,2,4,8,10,1,3,9,5,11,6,12,7,13] [14, 15, 16, 17] [901] true ?_
    refine ixT hx i (fun aa ca ab cb' g1 g2 g3 => ?_)
    refine ixT hx i (fun ac cc ae ce g4 g5 g6 => ?_)
    generalize c.ts.getD i tst0 = t at *
    intro b27
    refine kq ?_
    refine ap TT_ok 901 (AppT.of (bytes := 80) (sz := 5) (by kernel_rfl) (by kernel_rfl) (by kernel_rfl)) rfl rfl rfl rfl rfl rfl rfl (by rw [flatEs]; show (_ + 12) * 81 ≤ _; omega) (fun a3 n3 c3 e3 => ?_)
    have hn3 : n3 = (es ++ [(t.a, aa, ca), (t.b, ae, ce)]).length := by
      rw [flatEs] at e3
      have e3 : n3 * 6 = es.length * 6 + 12 := e3
      rw [List.length_append]; show n3 = es.length + 2; omega
    refine kq ?_
    refine kq ?_
    refine wi ?_
    refine ⟨⟨a3, n3, c3, es ++ [(t.a, aa, ca), (t.b, ae, ce)], i + 1⟩, ⟨⟨hil, hn3, ?_, ?_⟩, by show c.ts.length - (i + 1) < c.ts.length - i; omega⟩, gs rfl ?_⟩
    · show (es ++ _).map (·.1) = _
      rw [List.map_append, hes, htk]; rfl
    · intro p hp
      rcases List.mem_append.1 hp with hp | hp
      · exact hex p hp
      · have : p = (t.a, aa, ca) ∨ p = (t.b, ae, ce) := by simpa using hp
        rcases this with rfl | rfl
        · exact g1
        · exact g5
    · show [(901, OB.e (bufE 50 6 (.slice a3 n3 c3) _)), _, _] = [(901, OB.e (bufE 50 6 (.slice a3 n3 c3) _)), _, _]
      rw [List.map_append, List.flatten_append]; rfl
  · have hie : i = c.ts.length := by omega
    rw [hie, List.take_length] at hes
    have hnl : n2 = (exsT c.ts).length := by rw [hn2, ← hes, List.length_map]
    rw [← rowC_map]
    refine And.intro rfl ?_
    refine sealW (g := rowC es) (l := List.range es.length) 901 rfl (by simp [hn2]) ?_
    refine goW TT_ok ?_
    have hxl : ∀ v, VLe h0 v → SlC 50 6 (flatR (rowC es)) v (.slice a2 n2 c2) (List.range es.length) → XL v a2 c2 (exsT c.ts) := fun v hv hs => by
      rw [← hes]
      rw [hn2] at hs
      refine rowC_xl es hs fun j p hp => ?_
      have := hex p (List.mem_of_getElem? hp)
      exact (this.1.mono hv).rx this.2
    have hnm : namesS (.mk 0 v0 [] (exsT c.ts)) = namesC c := names_eq _
    have hsz : (nmS (.mk 0 v0 [] (exsT c.ts))).length ≤ 2000000 := by
      rw [nm_eq]; exact hlen
    subst hnl
    refine cA TT_ok (fun w v h1 h2 h3 => c_RNames _ (.mk 0 v0 [] (exsT c.ts)) a2 c2 (Nat.lt_succ_self _) hsz w v h3 (hxl v h1 h2.2)) (fun _ => Mono.slF) (fun nm => ?_)
    rw [hnm]
    exact ⟨nm, rfl, fun v _ hF => hF.2⟩
end Go.Proofs.YtkjhlfleojcgjaaGreatDoor
set_option maxRecDepth 100000
namespace Go.Proofs.YtkjhlfleojcgjaaGreatDoor
open Go Go.Dx Go.RowKit
mutual
theorem same_refl : ∀ x : Ex, sameX x x = true
  | .mk o v s l => by
    rw [sameX, show (Ex.mk o v s l).l = l from rfl, sameL_refl l]
    simp [Ex.op, Ex.v, Ex.s]
theorem sameL_refl : ∀ l : List Ex, sameXL l l = true
  | [] => by rw [sameXL]
  | x :: l => by rw [sameXL, same_refl x, sameL_refl l]; rfl
end
theorem sameT_refl (t : Tst) : sameT t t = true := by
  have e : ∀ x : Ex, sameX x x = true := same_refl
  rw [sameT, e, e]; simp
theorem sameTL_refl : ∀ l : List Tst, sameTL l l = true
  | [] => rfl
  | t :: l => by rw [sameTL, sameT_refl, sameTL_refl l]; rfl
theorem sameC_refl (c : Cel) : sameC c c = true := by rw [sameC, sameTL_refl]; simp
end Go.Proofs.YtkjhlfleojcgjaaGreatDoor
set_option maxRecDepth 100000
namespace Go.Proofs.YtkjhlfleojcgjaaGreatDoor
open Go Go.Dx Go.RowKit
set_option maxHeartbeats 4000000 in
theorem c_CellTexts (c d : Cel) (ad ad2 : Option Addr) (cap cap2 : Nat) (w0 : World) (h0 : View) (hv : VLe h0 (Full w0)) (hx : TL h0 ad cap c.ts) (hy : TL h0 ad2 cap2 d.ts) (hlen : (nmL (exsT c.ts)).length ≤ 2000000) (hp : PowV h0) :
    Calls Tryz.prog 7 #[.agg (celC c ad cap).toArray, .agg (celC d ad2 cap2).toArray] w0 (Ret w0 h0 fun u _ => u = .bool true) := by
  refine ent (args := [.agg (celC c ad cap).toArray, .agg (celC d ad2 cap2).toArray]) TT_ok [1000005, 2000038, 2000041, 2000046, 2000048, 2000049, 2000054, 2000057, 2000063, 2000066] [] Tryz.func7 rfl Tryz.ntmps7 rfl rfl hv ?_
  intro b2 b3
  refine cb (fun w hw => c_CSmall c ad cap w h0 hw hx) ?_
  refine cbg (fun _ w hw => c_CSmall d ad2 cap2 w h0 hw hy) ?_
  refine cnd (fun h => ?_) (fun h => ?_)
  · refine cb (fun w hw => c_lives17 w h0 hw hp) ?_
    exact rfl
  have hsm : smallC c.ts = true := by simpa using h.1
  have hsd : smallC d.ts = true := by simpa using h.2
  have hg := (small_gt hsm).2
  have hll := (small_gt hsm).1
  refine cb (fun w hw => c_CText c ad cap hg w h0 hw hx hp) ?_
  refine cb (fun w hw => c_RText17 c ad cap hg w h0 hw hx) ?_
  refine regPh TT_ok [([0, 1, 2, 3, 4, 5, 6], [7]), ([8, 9, 12], [10]), ([11], [13]), ([14], [15]), ([16, 17, 19], [18, 20, 21, 22]), ([23, 24, 25, 27, 28], [26, 29]), ([30], [31]), ([32, 33, 34], [35, 36]), ([37], [38, 39]), ([40], [])] [] ?_
  repeat refine cndT (by simp [bq]) ?_
  refine kq ?_
  refine kq ?_
  repeat refine cndT (by simp [bq]) ?_
  refine kq ?_
  refine ⟨by simp [bq], ?_⟩
  refine cb (fun w hw => c_CCheck c ad cap hg w h0 hw hx) ?_
  refine kq ?_
  repeat refine cndT (by simp [bq]) ?_
  refine kq ?_
  refine ⟨by simp [bq], ?_⟩
  refine cb (fun w hw => c_RRightC c ad cap hg w h0 hw hx) ?_
  refine kq ?_
  repeat refine cndT (by simp [bq]) ?_
  refine kq ?_
  refine kq ?_
  repeat refine cndT (by simp [bq]) ?_
  refine kq ?_
  refine ⟨by simp [bq], ?_⟩
  refine cA TT_ok (fun w v h1 h2 h3 => c_CNames c ad cap hlen w v h3 (hx.mono h1)) (fun _ => Mono.slF) (fun nm => ?_)
  refine kq ?_
  refine ⟨by simp [bq], ?_⟩
  refine cA TT_ok (fun w v h1 h2 h3 => c_RNames17 c ad cap hlen (by omega) w v h3 (hx.mono h1)) (fun _ => Mono.slF) (fun nm2 => ?_)
  refine kq ?_
  refine ⟨by simp [bq], ?_⟩
  refine cf (fun w v h1 h2 h3 => c_SameTexts nm.1 nm2.1 nm.2 nm2.2 (namesC c) w v h3 h2.1.2 h2.2) ?_
  refine kq ?_
  refine kq ?_
  repeat refine cndT (by simp [bq]) ?_
  refine kq ?_
  refine ⟨by simp [bq], ?_⟩
  refine cb (fun w hw => c_CSame c d ad ad2 cap cap2 w h0 hw hx hy) ?_
  refine kq ?_
  refine ⟨by simp [bq], ?_⟩
  refine cb (fun w hw => c_RSameC c d ad ad2 cap cap2 w h0 hw hx hy) ?_
  refine kq ?_
  repeat refine cndT (by simp [bq]) ?_
  refine kq ?_
  refine kq ?_
  repeat refine cndT (by simp [bq]) ?_
  refine kq ?_
  refine ⟨by simp [bq], ?_⟩
  refine cb (fun w hw => c_CSame c c ad ad cap cap w h0 hw hx hx) ?_
  rw [sameC_refl]
  refine kq ?_
  refine kq ?_
  repeat refine cndT (by simp [bq]) ?_
  refine kq ?_
  refine ⟨by simp [bq], ?_⟩
  refine cb (fun w hw => c_lives17 w h0 hw hp) ?_
  refine kq ?_
  refine kq ?_
  repeat refine cndT (by simp [bq]) ?_
  refine kq ?_
  refine finB ?_
  simp
end Go.Proofs.YtkjhlfleojcgjaaGreatDoor
namespace Go.Proofs.YtkjhlfleojcgjaaGreatDoor
open Go Go.Dx Go.RowKit
theorem pow_of_laid {W : World} (h : laidMetH Tryz.prog laidL W) : PowV (Full W) := by
  have h1 := laidMetH.filter (fun x => x.1 == "internal/strconv.uint64pow10") h
  have e : laidL.filter (fun x => x.1 == "internal/strconv.uint64pow10") = [("internal/strconv.uint64pow10", Lib.tabData .u64 Lib.pow10Tab)] := by kernel_rfl
  rw [e] at h1
  have h2 := (laidMetH_iff.1 h1).1
  have e2 : ([("internal/strconv.uint64pow10", (Lib.tabData .u64 Lib.pow10Tab : DataW Unit))].filter fun x => x.2.handleName?.isNone) = [("internal/strconv.uint64pow10", Lib.tabData .u64 Lib.pow10Tab)] := by kernel_rfl
  rw [e2] at h2
  have hn : Tryz.prog.globalNamed "internal/strconv.uint64pow10" = some powG := by kernel_rfl
  have ht := Lib.tabIs_of_head (P := Tryz.prog) (t := 266) (e := 254) (n := 20) hn (by kernel_rfl) (by kernel_rfl) (by kernel_rfl) (by kernel_rfl) (by kernel_rfl) h2
  unfold Lib.TabIs World.var? at ht
  rw [hn, Option.bind_some] at ht
  split at ht
  · rename_i cs T fz hg
    have : cs = (Lib.pow10Tab.map fun z => Value.int .u64 z).toArray := Option.some.inj ht
    subst this
    exact ⟨T, fz, hg⟩
  · cases ht
end Go.Proofs.YtkjhlfleojcgjaaGreatDoor
