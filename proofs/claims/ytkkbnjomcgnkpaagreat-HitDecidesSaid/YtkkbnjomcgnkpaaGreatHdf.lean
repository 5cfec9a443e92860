/- Laws of walks, and what functions of the program compute: part 6. Each with the conditions that it names. -/
import Derived.Test.YtkkbnjomcgnkpaaGreatHde
set_option linter.unusedSimpArgs false
set_option linter.unusedVariables false
set_option maxRecDepth 100000
namespace Go.Proofs.YtkkbnjomcgnkpaaGreat
open Go Go.Dx Go.RowKit
theorem row_bd {h : View} {r : Rdy} {a : TA} {x : AC} {row : List Val} (hr : RdyH h r a x) (hin : inputE r row = 0) (hvb : ∀ v ∈ row, valB v) {rules : List Nat} (hlt : ∀ i ∈ rules, i < r.ls.length) : ∀ q ∈ rules.map (tellV r row), ∀ v ∈ q, valB v := fun q hq v hv => by
 obtain ⟨i, hi, rfl⟩ := List.mem_map.1 hq
 exact (tell_okV hr hin hvb (hlt i hi) v hv).2
theorem row_lenF {r : Rdy} (hp : RdyP r) {row : List Val} {rules : List Nat} (hlt : ∀ i ∈ rules, i < r.ls.length) : ∀ q ∈ rules.map (tellV r row), q.length = r.t.outs.length := fun q hq => by
 obtain ⟨i, hi, rfl⟩ := List.mem_map.1 hq
 rw [tellV, List.length_map]; exact hp.o _ (getD_mem r.ls i lin0 (hlt i hi))
theorem srt_map {l : List RwQ} (h : Srt ltQ l) : Srt ltR (l.map (·.1)) := List.pairwise_map.2 h
set_option maxHeartbeats 8000000 in
theorem c_HDecide0 (r : Rdy) (a : TA) (x b : AC) (row : List Val) (h5 : r.t.pol = 5) (hag : r.t.agg = 0) (hb : RdyB r) (hn24 : r.ls.length ≤ 24) (hvb : ∀ v ∈ row, valB v) (w0 : World) (h0 : View) (hv : VLe h0 (Full w0)) (hr : RdyH h0 r a x) (hrow : SlC 57 3 (flatR valC) h0 (.slice b.1 row.length b.2) row) :
  Calls Tryz.prog 12 #[.agg (rdyC r a x).toArray, .slice b.1 row.length b.2] w0 (Ret w0 h0 fun u hh => ∃ z : AC × AC, u = .tuple #[ouV (decS (chooseF r.t) r row).1 z, .int .i64 (decS (chooseF r.t) r row).2] ∧ OutH hh (decS (chooseF r.t) r row).1 z.1 z.2) := by
 have hbl := hb.ls
 have hci := @ru_in r row
 obtain ⟨hlt1, hlt2⟩ := @ru_lt r row
 have eC : ∀ rules rows, chooseF r.t rules rows = ⟨0, ints rules, sortR rows⟩ := fun rules rows => by rw [chooseF, if_pos h5, collF, if_pos hag]
 have e1 : (rulesR r row).2.2 = 21 → decS (chooseF r.t) r row = (out0, 21) := fun h => if_pos h
 have e2 : (rulesR r row).2.2 ≠ 21 → (rulesR r row).2.2 ≠ 0 → decS (chooseF r.t) r row = (⟨(rulesR r row).2.2, [((rulesR r row).2.1 : Int)], []⟩, 0) := fun h h2 => by rw [decS, if_neg h, if_pos h2]
 have e4 : (rulesR r row).2.2 = 0 → decS (chooseF r.t) r row = (tolds r row (rulesR r row).1 (chooseF r.t), 0) := fun h => by rw [decS, h, if_neg (by decide), if_neg (fun hh => hh rfl), if_neg (by omega)]
 generalize decS (chooseF r.t) r row = d at e1 e2 e4 ⊢
 refine entA (args := [.agg (rdyC r a x).toArray, .slice b.1 row.length b.2]) TT_ok [28, 54, 5] [] Tryz.func12 rfl Tryz.ntmps12 rfl rfl hv (fun z => out_m _ _ _) ?_
 intro b2 b4
 refine ⟨rfl, goW TT_ok ?_⟩
 refine cA TT_ok (fun w v h1 h2 h3 => c_HRules r a x b row hb hvb w v h3 (rdy_m _ _ _ _ _ h1 hr) (hrow.monoF h1)) (fun _ => Mono.slF) (fun zr => ?_)
 generalize rulesR r row = q at hci hlt1 hlt2 e1 e2 e4 ⊢
 obtain ⟨q, qa, qe⟩ := q
 dsimp only at hci hlt1 hlt2 e1 e2 e4
 refine cnd (fun h => ?_) (fun h => ?_)
 ·have h : qe = 21 := h
  rw [e1 h, h]
  refine ⟨rfl, goW TT_ok ?_⟩
  exact ⟨((none, 0), (none, 0)), rfl, fun v _ _ => ⟨SlC.nil (by simp [maxLen]), LR.nil v⟩⟩
 have h : qe ≠ 21 := h
 refine cnd (fun h2 => ?_) (fun h2 => ?_)
 ·have h2 : qe ≠ 0 := h2
  rw [e2 h h2]
  intro b27
  refine And.intro rfl ?_
  refine shutW 27 (row_sl (g := iC) (l := [(qa : Int)]) (sz := 1) (n := 1) (cp := 1) rfl) ?_ Mono.slF
  refine goW TT_ok ?_
  refine ⟨rfl, goW TT_ok ?_⟩
  exact ⟨((some ⟨b27, 0, none⟩, 1), (none, 0)), rfl, fun v _ hF => ⟨hF.2, LR.nil v⟩⟩
 have h2 : qe = 0 := by simpa using h2
 subst h2
 have hin := hci rfl
 refine cnd (fun h3 => ?_) (fun h3 => ?_)
 ·exfalso; omega
 rw [e4 rfl]
 rcases told_cases (chooseF r.t) r row q with ⟨i, f1, f2, f3, f4⟩ | ⟨f1, f2, f4⟩
 ·refine cA TT_ok (fun w v h1 h2 h3 => c_told r a x b zr row q hb (by omega) hlt2 hvb w v h3 (rdy_m _ _ _ _ _ h1 hr) (hrow.monoF h1) h2.2) (fun z => LR.m (R := RwR) rwR_m z _) (fun zt => ?_)
  rw [f2, f4]
  refine cnd (fun h4 => ?_) (fun h4 => absurd h4 (by simpa using f3))
  intro b53
  refine And.intro rfl ?_
  refine shutW 53 (row_sl (g := iC) (l := [(i : Int)]) (sz := 1) (n := 1) (cp := 1) rfl) ?_ Mono.slF
  refine goW TT_ok ?_
  refine ⟨rfl, goW TT_ok ?_⟩
  exact ⟨((some ⟨b53, 0, none⟩, 1), (none, 0)), rfl, fun v _ hF => ⟨hF.2, LR.nil v⟩⟩
 ·have hall : ∀ i ∈ q, badT r row i = false := fun i hi => by
   have := List.find?_eq_none.1 f1 i hi
   simpa using this
  refine cOw TT_ok 900 (fun w v h1 h2 h3 => c_toldO r a x b zr row q hb (by omega) hlt2 hvb w v h3 (rdy_m _ _ _ _ _ h1 hr) (hrow.monoF h1) h2.2 hall) (fun z => fun _ _ hle hx => ⟨rwf_m _ _ _ hle hx.1, hx.2⟩) (fun z => ?_)
  rw [f4, eC]
  refine cnd (fun h4 => absurd rfl h4) (fun _ => ?_)
  have hzl : ∀ v : View, (RwF z.es v ∧ z.es.map (·.1) = q.map (tellV r row)) → z.es.length = q.length := fun v hx => by
   have := congrArg List.length hx.2
   simpa using this
  refine cJ TT_ok (rwJ z.c z.a z.es.length) z.es (g := fun _ => .agg #[.int .i64 0, .slice zr.1 q.length zr.2, .slice z.a z.es.length z.c]) (fun w v h1 h2 h3' h4' h5' => c_choose0 r.t a h5 hag q zr z.c z.a z.es.length z.es rfl (by have := hzl v h2.2; omega) w v h3' (fun p hp => h2.2.1 p hp) h4' h5') ?_ (hl := ⟨rfl, trivial⟩)
  rintro l ⟨p1, p2⟩
  refine And.intro rfl ?_
  have hll : z.es.length = l.length := p1.length_eq.symm
  refine sealW (g := rwC) (l := l) 900 rfl hll ?_
  refine pureW (X := z.es.map (·.1) = q.map (tellV r row)) (fun v _ hF => hF.1.2.2) (fun hX => ?_)
  have hfin : l.map (·.1) = sortR (q.map (tellV r row)) := sortR_eq (srt_map p2) (by rw [← hX]; exact p1.map _)
  have hln : (sortR (q.map (tellV r row))).length = z.es.length := by rw [← hfin, List.length_map, ← hll]
  refine goW TT_ok ?_
  refine ⟨(zr, (z.a, z.c)), by rw [ouV, ouC_ints, hln]; rfl, fun v hle hF => ⟨nslL hF.1.1.2, ?_⟩⟩
  have := LR.of_rows (R := RwR) (g := fun q : RwQ => q.1) (d := rw0) hF.2 hll (fun p hp => ⟨p.2, rfl, hF.1.2.1 p (p1.mem_iff.1 hp)⟩)
  show LR _ _ _ _ _ _ (sortR (q.map (tellV r row)))
  rw [← hfin]; exact this
theorem c_HDecideF (r : Rdy) (a : TA) (x b : AC) (row : List Val) (hb : RdyB r) (hp : RdyP r) (hvb : ∀ v ∈ row, valB v) {d : Outc × Int} (hd : decS (chooseF r.t) r row = d) (w0 : World) (h0 : View) (hv : VLe h0 (Full w0)) (hr : RdyH h0 r a x) (hrow : SlC 57 3 (flatR valC) h0 (.slice b.1 row.length b.2) row) :
  Calls Tryz.prog 12 #[.agg (rdyC r a x).toArray, .slice b.1 row.length b.2] w0 (Ret w0 h0 fun u hh => ∃ z : AC × AC, u = .tuple #[ouV d.1 z, .int .i64 d.2] ∧ OutH hh d.1 z.1 z.2) := by
 subst hd
 by_cases h : r.t.pol = 5 ∧ r.t.agg = 0
 ·exact c_HDecide0 r a x b row h.1 h.2 hb hp.n hvb w0 h0 hv hr hrow
 refine c_HDecide (chooseF r.t) r a x b row hb hvb w0 h0 hv hr hrow fun hin rules ar aw n hru hn w hh hw hle hs hl => ?_
 subst hn
 have hlt : ∀ i ∈ rules, i < r.ls.length := by rw [hru]; exact (@ru_lt r row).2
 have hln : rules.length ≤ r.ls.length + 1 := by rw [hru]; exact ru_len
 have hbl := hb.ls
 exact c_choose r.t a ar aw rules (rules.map (tellV r row)) h (by rw [List.length_map]) (by rw [List.length_map]; omega) (row_lenF hp hlt) hp.o0 (row_bd hr hin hvb hlt) w hh hw (col_m _ _ _ _ hle hr.t.o) hs hl
theorem make_rdyP {t : Tab} (h : makeE t = 0) : RdyP (makeV t) := by
 obtain ⟨hf, hr⟩ := make_inv h
 obtain ⟨_, f2, f3, f4, f5⟩ := frame_inv hf
 obtain ⟨_, o0, o6⟩ := col_ok f3
 refine ⟨by show (t.rules.map lineV).length ≤ _; rw [List.length_map]; exact f5, f4, fun l hl => ?_, o6, by show 1 ≤ t.outs.length; omega⟩
 obtain ⟨r, hrm, rfl⟩ := List.mem_map.1 hl
 obtain ⟨k1, k2, _, _⟩ := line_inv (hr r hrm)
 show (r.2.map _).length = _
 rw [List.length_map]; exact k2
end Go.Proofs.YtkkbnjomcgnkpaaGreat
set_option maxRecDepth 100000
namespace Go.Proofs.YtkkbnjomcgnkpaaGreat
open Go Go.Dx Go.RowKit
set_option maxHeartbeats 1000000 in
theorem c_RInput (r : Rdy) (a : TA) (x b : AC) (row : List Val) (hvs : ∀ v ∈ row, v.s.length ≤ 9223372036854775807) (w0 : World) (h0 : View) (hv : VLe h0 (Full w0)) (hr : RdyH h0 r a x) (hrow : SlC 57 3 (flatR valC) h0 (.slice b.1 row.length b.2) row) :
  Calls Tryz.prog 19 #[.agg (rdyC r a x).toArray, .slice b.1 row.length b.2] w0 (Ret w0 h0 fun u _ => u = .int .i64 (inputE r row)) := by
 have hlm := slc_lm hrow
 have hci := cols_len r.t.ins
 have e21 : ¬ (row.length = r.t.ins.length ∧ ∀ i, i < row.length → inG r row i) → inputE r row = 21 := fun h => if_neg h
 have e00 : (row.length = r.t.ins.length ∧ ∀ i, i < row.length → inG r row i) → inputE r row = 0 := fun h => if_pos h
 generalize inputE r row = E at e21 e00 ⊢
 refine ent (args := [.agg (rdyC r a x).toArray, .slice b.1 row.length b.2]) TT_ok [] [] Tryz.func19 rfl Tryz.ntmps19 rfl rfl hv ?_
 intro b2
 refine cnd (fun h => ?_) (fun h => ?_)
 ·rw [e21 (fun hh => by omega)]; exact rfl
 have hlen : row.length = r.t.ins.length := by omega
 refine w_loop TT_ok (fun k : Nat => [(5, .v (.int .i64 k))]) 0 (fun k => k ≤ row.length ∧ ∀ i, i < k → inG r row i) (fun k => row.length - k) ?_
 refine And.intro ⟨⟨Nat.zero_le _, fun j hj => absurd hj (Nat.not_lt_zero j)⟩, gs⟩ ?_
 intro k ⟨hk, hn⟩
 refine cnd (fun h1 => ?_) (fun h1 => ?_)
 ·have hkl : k < row.length := by omega
  refine And.intro (by kernel_rfl) ?_
  refine ixs hrow k v0 ?_
  refine cb (fun w hw => c_RRight _ (hvs _ (getD_mem row k v0 hkl)) w h0 hw) ?_
  refine ixsg hrow k v0 ?_ (by intros; omega)
  refine kg1 ?_
  refine ixsg hr.t.i.1 k c0 ?_ (by intros; omega)
  refine kg1 ?_
  refine cbg (fun _ w hw => c_RFits _ _ w h0 hw) ?_
  refine cnd (fun h2 => ?_) (fun h2 => ?_)
  ·rw [e21 (fun hh => by
    have hg := hh.2 k hkl
    rcases h2 with h2 | h2
    ·rw [hg.1] at h2; cases h2
    ·rw [hg.2] at h2; cases h2)]
   exact rfl
  ·refine wi ?_
   refine ⟨k + 1, ⟨⟨hkl, upto_snoc hn ⟨by simpa using h2.1, by simpa using h2.2⟩⟩, by omega⟩, gs⟩
 ·rw [e00 ⟨hlen, fun i hi => hn i (by omega)⟩]; exact rfl
set_option maxHeartbeats 2000000 in
theorem c_Rrule20 (r : Rdy) (a : TA) (la lb b : AC) (row : List Val) (i : Nat) (ln : Lin) (hln : r.ls.getD i lin0 = ln) (hg1 : ln.cs.length = r.t.ins.length) (hg2 : ∀ c ∈ ln.cs, ∀ t ∈ c.ts, GT t) (hl : row.length = r.t.ins.length) (hvb : ∀ v ∈ row, valB v) (hvs : ∀ v ∈ row, v.s.length ≤ 9223372036854775807) (w0 : World) (h0 : View) (hv : VLe h0 (Full w0)) (hc : CoL h0 a.i r.t.ins) (hlin : LinH h0 ln la lb) (hrow : SlC 57 3 (flatR valC) h0 (.slice b.1 row.length b.2) row) :
  Calls Tryz.prog 39 #[.agg (liC ln la lb).toArray, .slice a.i.1 (colsO r.t.ins).length a.i.2, .slice b.1 row.length b.2] w0 (Ret w0 h0 fun u _ => u = kbR2 (ruleS r row i)) := by
 have hlm := slc_lm hrow
 have hci := cols_len r.t.ins
 have e0 : ruleS r row i = allS (cellH r row i) (r.ls.getD i lin0).cs.length := rfl
 rw [e0]; clear e0
 have eC : ∀ k, cellH r row i k = holdsC ((r.ls.getD i lin0).cs.getD k cel0) (row.getD k v0) (colsO r.t.ins) row := fun _ => rfl
 rw [hln] at eC ⊢
 refine ent (args := [.agg (liC ln la lb).toArray, .slice a.i.1 (colsO r.t.ins).length a.i.2, .slice b.1 row.length b.2]) TT_ok [] [] Tryz.func39 rfl Tryz.ntmps39 rfl rfl hv ?_
 intro b3
 refine w_loop TT_ok (fun k : Nat => [(8, .v (.int .i64 k))]) 0 (fun k => k ≤ ln.cs.length ∧ ∀ j, j < k → cellH r row i j = (true, 0)) (fun k => ln.cs.length - k) ?_
 refine And.intro ⟨⟨Nat.zero_le _, fun j hj => absurd hj (Nat.not_lt_zero j)⟩, gs⟩ ?_
 intro k ⟨hk, hn⟩
 have hclm := hlin.1.lm
 refine cnd (fun h1 => ?_) (fun h1 => ?_)
 ·have hkl : k < ln.cs.length := by omega
  have hgt := hg2 _ (getD_mem ln.cs k cel0 hkl)
  have hec := eC k
  refine And.intro (by kernel_rfl) ?_
  refine ixL (R := CelR) hlin.1 k cel0 (fun cs hcs => ?_)
  generalize ln.cs.getD k cel0 = c at hgt hec hcs ⊢
  obtain ⟨y, rfl, ht⟩ := hcs
  refine ixs hrow k v0 ?_ (by omega)
  refine cb (fun w hw => c_RHolds c y.1 y.2 (row.getD k v0) a.i.1 a.i.2 (colsO r.t.ins) b.1 b.2 row hgt (hvs _ (getD_mem row k v0 (by omega))) hvb hvs w h0 hw ht hc.1 hrow) ?_
  rw [← hec]
  generalize hp : cellH r row i k = p at *
  refine cnd (fun h2 => ?_) (fun h2 => ?_)
  ·have hne : cellH r row i k ≠ (true, 0) := fun hh => by
    rw [hp] at hh; subst hh
    rcases h2 with h2 | h2
    ·exact h2 rfl
    ·cases h2
   rw [alls_er hn hne hkl, hp]; exact rfl
  ·refine wi ?_
   refine ⟨k + 1, ⟨⟨hkl, upto_snoc hn ?_⟩, by omega⟩, gs⟩
   rw [hp]
   obtain ⟨p1, p2⟩ := p
   have h3 : p2 = 0 := by simpa using h2.1
   have h4 : p1 = true := by simpa using h2.2
   rw [h3, h4]
 ·rw [alls_ok fun j hj => hn j (by omega)]; exact rfl
set_option maxHeartbeats 4000000 in
theorem c_RRules (r : Rdy) (a : TA) (x b : AC) (row : List Val) (hb : RdyB r) (hvb : ∀ v ∈ row, valB v) (hvs : ∀ v ∈ row, v.s.length ≤ 9223372036854775807) (w0 : World) (h0 : View) (hv : VLe h0 (Full w0)) (hr : RdyH h0 r a x) (hrow : SlC 57 3 (flatR valC) h0 (.slice b.1 row.length b.2) row) :
  Calls Tryz.prog 15 #[.agg (rdyC r a x).toArray, .slice b.1 row.length b.2] w0 (Ret w0 h0 fun u hh => ∃ z : AC, u = ruV (rulesR r row) z ∧ SlC 3 1 (flatR nC) hh (.slice z.1 (rulesR r row).1.length z.2) (rulesR r row).1) := by
 have hbl := hb.ls
 have eI : inputE r row ≠ 0 → rulesR r row = ([], 0, inputE r row) := fun h => if_pos h
 have eR : inputE r row = 0 → rulesR r row = rulesS r.t.pol (ruleS r row) r.ls.length := fun h => if_neg (fun hh => hh h)
 have hin : inputE r row = 0 → row.length = r.t.ins.length := fun h => (inp_ok h).1
 generalize rulesR r row = q at eI eR ⊢
 refine entA (args := [.agg (rdyC r a x).toArray, .slice b.1 row.length b.2]) TT_ok [4] [] Tryz.func15 rfl Tryz.ntmps15 rfl rfl hv (fun _ => Mono.slF) ?_
 intro b2
 refine And.intro rfl ?_
 refine goW TT_ok ?_
 refine cb (fun w hw => c_RInput r a x b row hvs w h0 hw hr hrow) ?_
 refine cnd (fun h => ?_) (fun h => ?_)
 ·have h : inputE r row ≠ 0 := h
  refine And.intro rfl ?_
  refine goW TT_ok ?_
  rw [eI h]
  exact ⟨(none, 0), rfl, fun v _ _ => SlC.nil (by simp [maxLen])⟩
 have h : inputE r row = 0 := by simpa using h
 rw [eR h]
 have hl := hin h
 clear eI eR hin
 have hS : ∀ j, stopR r.t.pol (ruleS r row) j = (decide ((ruleS r row j).2 ≠ 0) || ((ruleS r row j).1 && decide (r.t.pol = 2))) := fun j => rfl
 refine nilC 900 3 1 ?_
 refine w_loopF TT_ok (fun z : (Option Addr × Nat × Nat) × Nat => [(9, .v (.int .i64 z.2)), (8, .v (.slice z.1.1 z.1.2.1 z.1.2.2))]) (fun z => [(900, .e (bufE 3 1 (.slice z.1.1 z.1.2.1 z.1.2.2) ((heldR (ruleS r row) z.2).map nC).flatten)), (2, .c b2 34 (rdyC r a x))])
  (fun z v => True) ((none, 0, 0), 0) (fun z => z.2 ≤ r.ls.length ∧ z.1.2.1 = (heldR (ruleS r row) z.2).length ∧ ∀ j, j < z.2 → stopR r.t.pol (ruleS r row) j = false) (fun z => r.ls.length - z.2) (fun z _ _ _ _ => trivial) ?_
 refine And.intro ⟨⟨Nat.zero_le _, rfl, fun j hj => absurd hj (Nat.not_lt_zero j)⟩, gs (fv := fun v _ => trivial)⟩ ?_
 rintro ⟨⟨a1, n1, c1⟩, k⟩ ⟨hk, hn1, hz⟩
 dsimp only at hk hn1 hz ⊢
 have hle : (heldR (ruleS r row) k).length ≤ k := by
  have := List.length_filter_le (fun i => (ruleS r row i).1) (List.range k)
  rw [List.length_range] at this; exact this
 refine cnd (fun h1 => ?_) (fun h1 => ?_)
 ·have hkl : k < r.ls.length := by omega
  have hg := getD_line hb hkl
  refine And.intro (by kernel_rfl) ?_
  refine ixL (R := LinR) hr.l k lin0 (fun cs hcs => ?_)
  obtain ⟨ln, hln⟩ : ∃ ln, r.ls.getD k lin0 = ln := ⟨_, rfl⟩
  rw [hln] at hg hcs
  obtain ⟨la, lb, rfl, hlin⟩ := hcs
  refine cb (fun w hw => c_Rrule20 r a la lb b row k ln hln hg.1 hg.2.2.1 hl hvb hvs w h0 hw hr.t.i hlin hrow) ?_
  have hsn := held_snoc (ruleS r row) k
  have hsk := hS k
  have hrs := rules_some (pol := r.t.pol) (f := ruleS r row) (n := r.ls.length) (k := k) hz
  have hhn : r.t.pol = 2 → heldR (ruleS r row) k = [] := fun hp => held_none hp hz
  generalize hp : ruleS r row k = p at hsn hsk hrs ⊢
  obtain ⟨p1, p2⟩ := p
  dsimp only at hsn hsk hrs
  refine cnd (fun h2 => ?_) (fun h2 => ?_)
  ·have h2 : p2 ≠ 0 := h2
   refine And.intro rfl ?_
   refine goW TT_ok ?_
   rw [hrs (by rw [hsk, decide_eq_true h2, Bool.true_or]) hkl, if_pos h2]
   exact ⟨(none, 0), rfl, fun v _ _ => SlC.nil (by simp [maxLen])⟩
  have h2 : p2 = 0 := by simpa using h2
  subst h2
  have hd : decide ((0 : Int) ≠ 0) = false := by decide
  rw [hd, Bool.false_or] at hsk
  refine cnd (fun h3 => ?_) (fun h3 => ?_)
  ·have h3 : p1 = true := h3
   subst h3
   rw [if_pos rfl] at hsn
   intro b45
   refine ap TT_ok 900 (AppT.of (bytes := 8) (sz := 0) (by kernel_rfl) (by kernel_rfl) (by kernel_rfl)) rfl rfl rfl rfl rfl rfl rfl (by rw [row_flat (sz := 1) (fun _ => rfl)]; show (_ + 1) * 9 ≤ _; omega) (fun a3 n3 c3 e3 => ?_)
   have hn3 : n3 = (heldR (ruleS r row) (k + 1)).length := by
    rw [row_flat (sz := 1) (fun _ => rfl)] at e3
    have e3 : n3 * 1 = (heldR (ruleS r row) k).length * 1 + 1 := e3
    rw [hsn, List.length_append]; show n3 = _ + 1; omega
   have efl : ((heldR (ruleS r row) (k + 1)).map nC).flatten = ((heldR (ruleS r row) k).map nC).flatten ++ [.int .i64 (k : Int)] := by rw [hsn, List.map_append, List.flatten_append]; rfl
   refine cnd (fun h4 => ?_) (fun h4 => ?_)
   ·have h4 : r.t.pol = 2 := h4
    rw [hrs (by rw [hsk, h4]; rfl) hkl, if_neg (by decide)]
    have hh1 : heldR (ruleS r row) (k + 1) = [k] := by rw [hsn, hhn h4]; rfl
    refine And.intro rfl ?_
    refine sealW (g := nC) (l := heldR (ruleS r row) (k + 1)) 900 (by rw [efl]; rfl) hn3 ?_
    refine goW TT_ok ?_
    rw [hh1] at hn3 ⊢
    subst hn3
    exact ⟨(a3, c3), rfl, fun v _ hF => hF.2⟩
   ·refine wi ?_
    have h5 : stopR r.t.pol (ruleS r row) k = false := by rw [hsk, decide_eq_false h4]; rfl
    exact ⟨((a3, n3, c3), k + 1), ⟨⟨hkl, hn3, upto_snoc hz h5⟩, by show r.ls.length - (k + 1) < r.ls.length - k; omega⟩, gs rfl (by rw [efl]; rfl) (fun v _ => trivial)⟩
  ·have h3 : p1 = false := by simpa using h3
   subst h3
   rw [if_neg (by decide)] at hsn
   have h5 : stopR r.t.pol (ruleS r row) k = false := by rw [hsk]; rfl
   refine wi ?_
   refine ⟨((a1, n1, c1), k + 1), ⟨⟨hkl, by rw [hsn]; exact hn1, upto_snoc hz h5⟩, by show r.ls.length - (k + 1) < r.ls.length - k; omega⟩, gs rfl (by rw [hsn]; rfl) (fun v _ => trivial)⟩
 ·obtain rfl : k = r.ls.length := by omega
  rw [rules_none hz]
  refine And.intro rfl ?_
  refine sealW (g := nC) (l := heldR (ruleS r row) r.ls.length) 900 rfl (by simp [hn1]) ?_
  refine goW TT_ok ?_
  subst hn1
  exact ⟨(a1, c1), rfl, fun v _ hF => hF.2⟩
end Go.Proofs.YtkkbnjomcgnkpaaGreat
set_option maxRecDepth 100000
namespace Go.Proofs.YtkkbnjomcgnkpaaGreat
open Go Go.Dx Go.RowKit
noncomputable def tlS (r : Rdy) (row : List Val) (i : Nat) : List Val × Int := if tellE r row i ≠ 0 then ([], tellE r row i) else (tellV r row i, 0)
def tl2V (q : List Val × Int) (z : AC) : Value := .tuple #[.slice z.1 q.1.length z.2, .int .i64 q.2]
set_option maxHeartbeats 4000000 in
theorem c_Rtells (r : Rdy) (a : TA) (la lb b : AC) (row : List Val) (i : Nat) (ln : Lin) (hln : r.ls.getD i lin0 = ln) (hos : ln.os.length ≤ 1000000) (hgx : ∀ x ∈ ln.os, Nd x ∧ SmX x) (hvb : ∀ v ∈ row, valB v) (hvs : ∀ v ∈ row, v.s.length ≤ 9223372036854775807) (w0 : World) (h0 : View) (hv : VLe h0 (Full w0)) (hc : CoL h0 a.i r.t.ins) (hlin : LinH h0 ln la lb) (hrow : SlC 57 3 (flatR valC) h0 (.slice b.1 row.length b.2) row) :
  Calls Tryz.prog 34 #[.agg (liC ln la lb).toArray, .slice a.i.1 (colsO r.t.ins).length a.i.2, .slice b.1 row.length b.2] w0 (Ret w0 h0 fun u hh => ∃ z : AC, u = tl2V (tlS r row i) z ∧ SlC 57 3 (flatR valC) hh (.slice z.1 (tlS r row i).1.length z.2) (tlS r row i).1) := by
 have hE : tellE r row i = firstE (fun k => (evalS (colsO r.t.ins) row ((r.ls.getD i lin0).os.getD k ex0)).2) (r.ls.getD i lin0).os.length := rfl
 have hV : tellV r row i = (r.ls.getD i lin0).os.map fun x => (evalS (colsO r.t.ins) row x).1 := rfl
 have e1 : tellE r row i ≠ 0 → tlS r row i = ([], tellE r row i) := fun h => if_pos h
 have e0 : tellE r row i = 0 → tlS r row i = (tellV r row i, 0) := fun h => if_neg (fun hh => hh h)
 rw [hln] at hE hV
 generalize tlS r row i = q at e1 e0 ⊢
 refine entA (args := [.agg (liC ln la lb).toArray, .slice a.i.1 (colsO r.t.ins).length a.i.2, .slice b.1 row.length b.2]) TT_ok [6] [] Tryz.func34 rfl Tryz.ntmps34 rfl rfl hv (fun _ => Mono.slF) ?_
 intro b3
 refine And.intro rfl ?_
 refine goW TT_ok ?_
 refine nilC 900 57 3 ?_
 refine w_loopB TT_ok (fun z : (Option Addr × Nat × Nat) × Nat => [(9, .v (.int .i64 z.2)), (8, .v (.slice z.1.1 z.1.2.1 z.1.2.2))]) (fun z => [(900, .e (bufE 57 3 (.slice z.1.1 z.1.2.1 z.1.2.2) (((ln.os.take z.2).map fun x => (evalS (colsO r.t.ins) row x).1).map valC).flatten)), (3, .c b3 76 (liC ln la lb))])
  ((none, 0, 0), 0) (fun z => z.2 ≤ ln.os.length ∧ z.1.2.1 = z.2 ∧ ∀ j, j < z.2 → (evalS (colsO r.t.ins) row (ln.os.getD j ex0)).2 = 0) (fun z => ln.os.length - z.2) ?_
 refine And.intro ⟨⟨Nat.zero_le _, rfl, fun j hj => absurd hj (Nat.not_lt_zero j)⟩, gs⟩ ?_
 rintro ⟨⟨a2, n2, c2⟩, m⟩ ⟨hm, hn2, hy⟩
 dsimp only at hm hn2 hy ⊢
 refine cnd (fun h2 => ?_) (fun h2 => ?_)
 ·have hml : m < ln.os.length := by omega
  have hgx := hgx _ (getD_mem ln.os m ex0 hml)
  have her := fir_er (f := fun k => (evalS (colsO r.t.ins) row (ln.os.getD k ex0)).2) hy
  have htk := take_snocD ln.os m ex0 hml
  have hyy : (evalS (colsO r.t.ins) row (ln.os.getD m ex0)).2 = 0 → ∀ j, j < m + 1 → (evalS (colsO r.t.ins) row (ln.os.getD j ex0)).2 = 0 := fun h => upto_snoc hy h
  refine ixE hlin.2 m (fun a4 c4 g1 g2 g3 => ?_)
  generalize ln.os.getD m ex0 = xe at hgx her htk hyy g1 g2 g3 ⊢
  obtain ⟨p, hp⟩ : ∃ p, evalS (colsO r.t.ins) row xe = p := ⟨_, rfl⟩
  refine cb (fun w hw => c_REvalP (p := p) xe a4 c4 a.i.1 a.i.2 (colsO r.t.ins) b.1 b.2 row hp hvb hvs w h0 hw ⟨g1, g2, g3, hgx.2⟩ hc.1 hrow) ?_
  rw [hp] at her hyy
  intro b10
  refine cnd (fun h3 => ?_) (fun h3 => ?_)
  ·have h3 : p.2 ≠ 0 := h3
   have he := her h3 hml
   rw [← hE] at he
   rw [e1 (by rw [he]; exact h3), he]
   refine And.intro rfl ?_
   refine goW TT_ok ?_
   exact ⟨(none, 0), rfl, fun v _ _ => SlC.nil (by simp [maxLen])⟩
  have h3 : p.2 = 0 := by simpa using h3
  have hfl : ((ln.os.take (m + 1)).map fun x => (evalS (colsO r.t.ins) row x).1) = ((ln.os.take m).map fun x => (evalS (colsO r.t.ins) row x).1) ++ [p.1] := by rw [htk, List.map_append]; show _ ++ [(evalS (colsO r.t.ins) row xe).1] = _; rw [hp]
  have hml2 : ((ln.os.take m).map fun x => (evalS (colsO r.t.ins) row x).1).length = m := by rw [List.length_map, List.length_take]; omega
  intro b35
  refine ap TT_ok 900 (AppT.of (bytes := 32) (sz := 2) (by kernel_rfl) (by kernel_rfl) (by kernel_rfl)) rfl rfl rfl rfl rfl rfl rfl (by rw [row_flat (sz := 3) (fun _ => rfl), hml2]; show (_ + 3) * 33 ≤ _; omega) (fun a3 n3 c3 e3 => ?_)
  have hn3 : n3 = m + 1 := by
   rw [row_flat (sz := 3) (fun _ => rfl), hml2] at e3
   have e3 : n3 * 3 = m * 3 + 3 := e3
   omega
  refine wi ?_
  exact ⟨((a3, n3, c3), m + 1), ⟨⟨hml, hn3, hyy h3⟩, by show ln.os.length - (m + 1) < ln.os.length - m; omega⟩, gs rfl (by rw [hfl, List.map_append, List.flatten_append]; rfl)⟩
 ·obtain rfl : m = ln.os.length := by omega
  rw [e0 (by rw [hE]; exact fir_ok hy), List.take_length, ← hV]
  obtain rfl : n2 = (tellV r row i).length := by rw [hn2, hV, List.length_map]
  refine And.intro rfl ?_
  refine sealW (g := valC) (l := tellV r row i) 900 rfl rfl ?_
  refine goW TT_ok ?_
  exact ⟨(a2, c2), rfl, fun v _ hF => hF.2⟩
set_option maxHeartbeats 1000000 in
theorem c_Rplace (p : CoO) (v : Val) (w0 : World) (h0 : View) (hv : VLe h0 (Full w0)) (hp : OrH h0 p) :
  Calls Tryz.prog 96 #[.agg (colC p.1).toArray, .agg (valC v).toArray] w0 (Ret w0 h0 fun u _ => u = .int .i64 (plc p.2 v : Nat)) := by
 obtain ⟨⟨nm, kd, oa, on, oc⟩, o⟩ := p
 obtain ⟨hon, hsl, hvs⟩ := hp
 dsimp only at hon hsl hvs
 subst hon
 have hlm := slc_lm hsl
 refine ent (args := [.agg (colC ⟨nm, kd, oa, o.length, oc⟩).toArray, .agg (valC v).toArray]) TT_ok [] [] Tryz.func96 rfl Tryz.ntmps96 rfl rfl hv ?_
 intro b2 b3
 refine w_loop TT_ok (fun k : Nat => [(5, .v (.int .i64 k))]) 0 (fun k => k ≤ o.length ∧ ∀ j, j < k → o.getD j v0 ≠ v) (fun k => o.length - k) ?_
 refine And.intro ⟨⟨Nat.zero_le _, fun j hj => absurd hj (Nat.not_lt_zero j)⟩, gs⟩ ?_
 intro k ⟨hk, hn⟩
 refine cnd (fun h1 => ?_) (fun h1 => ?_)
 ·dsimp only at h1
  have hkl : k < o.length := by omega
  refine And.intro (by kernel_rfl) ?_
  refine ixs hsl k v0 ?_
  refine aq eqV (o.getD k v0) v ?_
  refine cnd (fun h2 => ?_) (fun h2 => ?_)
  ·rw [plc_at hn hkl h2]; exact rfl
  ·refine wi ?_
   exact ⟨k + 1, ⟨⟨by omega, upto_snoc hn h2⟩, by omega⟩, gs⟩
 ·dsimp only at h1
  rw [plc_no (v := v) (o := o) (fun j hj => hn j (by omega))]; exact rfl
set_option maxHeartbeats 1000000 in
theorem c_Rahead (outs : List CoO) (ao : AC) (l m : List Val) (a b : AC) (hl1 : l.length = outs.length) (hm1 : m.length = outs.length) (w0 : World) (h0 : View) (hv : VLe h0 (Full w0)) (ho : CoL h0 ao outs) (hl : SlC 57 3 (flatR valC) h0 (.slice a.1 l.length a.2) l) (hm : SlC 57 3 (flatR valC) h0 (.slice b.1 m.length b.2) m) :
  Calls Tryz.prog 64 #[.slice ao.1 (colsO outs).length ao.2, .slice a.1 l.length a.2, .slice b.1 m.length b.2] w0 (Ret w0 h0 fun u _ => u = .bool (decide (ahF outs l m < 0))) := by
 have hlm := slc_lm hl
 have hcl := cols_len outs
 have eF : ahF outs l m = firstE (ahC outs l m) outs.length := rfl
 have eC : ∀ k, ahC outs l m k = cmpI (plc (outs.getD k co0).2 (l.getD k v0)) (plc (outs.getD k co0).2 (m.getD k v0)) := fun k => rfl
 generalize ahF outs l m = E at eF ⊢
 refine ent (args := [.slice ao.1 (colsO outs).length ao.2, .slice a.1 l.length a.2, .slice b.1 m.length b.2]) TT_ok [] [] Tryz.func64 rfl Tryz.ntmps64 rfl rfl hv ?_
 refine w_loop TT_ok (fun k : Nat => [(7, .v (.int .i64 k))]) 0 (fun k => k ≤ l.length ∧ ∀ j, j < k → ahC outs l m j = 0) (fun k => l.length - k) ?_
 refine And.intro ⟨⟨Nat.zero_le _, fun j hj => absurd hj (Nat.not_lt_zero j)⟩, gs⟩ ?_
 intro k ⟨hk, hn⟩
 refine cnd (fun h1 => ?_) (fun h1 => ?_)
 ·have hkl : k < l.length := by omega
  refine And.intro (by kernel_rfl) ?_
  refine ixs ho.1 k c0 ?_ (by omega)
  have ec := cols_get outs k (by omega)
  have hor := ho.2 _ (getD_mem outs k co0 (by omega))
  have eC := eC k
  generalize outs.getD k co0 = p at hor eC ec
  rw [ec]
  refine ixs hl k v0 ?_
  refine cb (fun w hw => c_Rplace p _ w h0 hw hor) ?_
  refine ixs ho.1 k c0 ?_ (by omega)
  rw [ec]
  refine ixs hm k v0 ?_ (by omega)
  refine cb (fun w hw => c_Rplace p _ w h0 hw hor) ?_
  have c3 : ahC outs l m k = 0 ∨ (ahC outs l m k < 0 ∧ plc p.2 (l.getD k v0) < plc p.2 (m.getD k v0)) ∨ (0 < ahC outs l m k ∧ plc p.2 (m.getD k v0) < plc p.2 (l.getD k v0)) := by
   rw [eC]; unfold cmpI; split
   ·right; left; constructor <;> omega
   ·split
    ·right; right; constructor <;> omega
    ·exact .inl rfl
  have c4 : ahC outs l m k = 0 → plc p.2 (l.getD k v0) = plc p.2 (m.getD k v0) := by
   rw [eC]; unfold cmpI; split
   ·intro h; exact absurd h (by decide)
   ·split
    ·intro h; exact absurd h (by decide)
    ·intro _; omega
  have her := fun h => fir_er (f := ahC outs l m) hn h (n := outs.length) (by omega)
  have hun := fun h => upto_snoc (P := fun j => ahC outs l m j = 0) hn h
  generalize ahC outs l m k = x at c3 c4 her hun
  generalize plc p.2 (l.getD k v0) = y at c3 c4 ⊢
  generalize plc p.2 (m.getD k v0) = z at c3 c4 ⊢
  refine cnd (fun h2 => ?_) (fun h2 => ?_)
  ·have hx : x ≠ 0 := fun hh => h2 (by rw [c4 hh])
   rw [eF, her hx]
   rcases c3 with c3 | ⟨c3, c5⟩ | ⟨c3, c5⟩
   ·exact absurd c3 hx
   ·rw [decide_eq_true (p := x < 0) c3]; exact congrArg Value.bool (decide_eq_true (by omega))
   ·rw [decide_eq_false (p := x < 0) (by omega)]; exact congrArg Value.bool (decide_eq_false (by omega))
  ·refine wi ?_
   exact ⟨k + 1, ⟨⟨by omega, hun (by rcases c3 with c3 | ⟨c3, c5⟩ | ⟨c3, c5⟩ <;> omega)⟩, by omega⟩, gs⟩
 ·rw [eF, fir_ok fun j hj => hn j (by omega)]; exact rfl
set_option maxHeartbeats 1000000 in
theorem c_Rless (l m : List Val) (a b : AC) (hlm2 : l.length = m.length) (w0 : World) (h0 : View) (hv : VLe h0 (Full w0)) (hl : SlC 57 3 (flatR valC) h0 (.slice a.1 l.length a.2) l) (hm : SlC 57 3 (flatR valC) h0 (.slice b.1 m.length b.2) m) :
  Calls Tryz.prog 63 #[.slice a.1 l.length a.2, .slice b.1 m.length b.2] w0 (Ret w0 h0 fun u _ => u = .bool (ltR l m)) := by
 have hlm := slc_lm hl
 refine ent (args := [.slice a.1 l.length a.2, .slice b.1 m.length b.2]) TT_ok [] [] Tryz.func63 rfl Tryz.ntmps63 rfl rfl hv ?_
 refine w_loop TT_ok (fun k : Nat => [(5, .v (.int .i64 k))]) 0 (fun k => k ≤ l.length ∧ cmpR l m = cmpR (l.drop k) (m.drop k)) (fun k => l.length - k) ?_
 refine And.intro ⟨⟨Nat.zero_le _, rfl⟩, gs⟩ ?_
 intro k ⟨hk, hc⟩
 refine cnd (fun h1 => ?_) (fun h1 => ?_)
 ·have hkl : k < l.length := by omega
  refine And.intro (by kernel_rfl) ?_
  refine ixs hl k v0 ?_
  refine ixs hm k v0 ?_ (by omega)
  rw [cmpR_drop hkl (by omega)] at hc
  generalize l.getD k v0 = x at hc ⊢
  generalize m.getD k v0 = y at hc ⊢
  refine cl (c_RCompare x y) ?_
  refine cnd (fun h3 => ?_) (fun h3 => ?_)
  ·have h3 : cmpV x y ≠ 0 := h3
   rw [ltR, hc, if_pos h3]; exact rfl
  ·refine wi ?_
   exact ⟨k + 1, ⟨⟨by omega, by rw [hc, if_neg (by simpa using h3)]⟩, by omega⟩, gs⟩
 ·rw [ltR, hc, show l.drop k = [] from List.drop_eq_nil_of_le (by omega), show m.drop k = [] from List.drop_eq_nil_of_le (by omega)]; exact rfl
end Go.Proofs.YtkkbnjomcgnkpaaGreat
set_option maxRecDepth 100000
namespace Go.Proofs.YtkkbnjomcgnkpaaGreat
open Go Go.Dx Go.RowKit
def oneF (t : Tab) (rules : List Nat) (rows : List (List Val)) : Outc := if t.pol = 4 then anyF rules rows else if t.pol = 3 then oneO rules rows (bestS t.outs rows rows.length) else oneO rules rows 0
theorem unl_yes {rows : List (List Val)} {k : Nat} (h : k < rows.length) (hne : rows.getD k [] ≠ rows.getD 0 []) : unlikeS rows = true := List.any_eq_true.2 ⟨_, getD_mem rows k [] h, by rw [decide_eq_false hne]; rfl⟩
theorem unl_no {rows : List (List Val)} (h : ∀ j, j < rows.length → rows.getD j [] = rows.getD 0 []) : unlikeS rows = false := List.any_eq_false.2 fun x hx => by
 obtain ⟨j, hj, rfl⟩ := mem_getD (d := ([] : List Val)) hx
 rw [h j hj, decide_eq_true rfl]; decide
set_option maxHeartbeats 8000000 in
theorem c_RoneR (t : Tab) (a : TA) (ar aw : AC) (rules : List Nat) (rows : List (List Val)) (hne : 0 < rows.length) (hlen : rules.length = rows.length) (hro : ∀ r ∈ rows, r.length = t.outs.length) (w0 : World) (h0 : View) (hv : VLe h0 (Full w0))
  (hc : CoL h0 a.o t.outs) (hru : SlC 3 1 (flatR nC) h0 (.slice ar.1 rules.length ar.2) rules) (hrw : LR 28 1 RwR h0 aw.1 aw.2 rows) :
  Calls Tryz.prog 37 #[.agg (tabC t a).toArray, .slice ar.1 rules.length ar.2, .slice aw.1 rows.length aw.2] w0 (Ret w0 h0 fun u hh => ∃ z : AC × AC, u = ouV (oneF t rules rows) z ∧ OutH hh (oneF t rules rows) z.1 z.2) := by
 have hlm := hrw.lm
 have e4 : t.pol = 4 → oneF t rules rows = anyF rules rows := fun h => if_pos h
 have e3 : t.pol ≠ 4 → t.pol = 3 → oneF t rules rows = oneO rules rows (bestS t.outs rows rows.length) := fun h h2 => by rw [oneF, if_neg h, if_pos h2]
 have e1 : t.pol ≠ 4 → t.pol ≠ 3 → oneF t rules rows = oneO rules rows 0 := fun h h2 => by rw [oneF, if_neg h, if_neg h2]
 have hcr := lenc hru
 have hcw := lr_cap hrw
 have hmw : ∀ v, VLe h0 v → LR 28 1 RwR v aw.1 aw.2 rows := fun v hle => LR.mono (R := RwR) rwR_m hle hrw
 generalize oneF t rules rows = o at e4 e3 e1 ⊢
 refine entA (args := [.agg (tabC t a).toArray, .slice ar.1 rules.length ar.2, .slice aw.1 rows.length aw.2]) TT_ok [1000011] [] Tryz.func37 rfl Tryz.ntmps37 rfl rfl hv (fun z => out_m _ _ _) ?_
 intro b3 b6
 refine w_loop TT_ok (fun z : Nat × Nat => [(8, .v (.int .i64 z.2)), (7, .v (.int .i64 z.1))]) (0, 1) (fun z => 1 ≤ z.2 ∧ z.2 ≤ rows.length ∧ z.1 < z.2 ∧ (t.pol = 3 → z.1 = bestS t.outs rows z.2) ∧ (t.pol ≠ 3 → z.1 = 0) ∧ (t.pol = 4 → ∀ j, j < z.2 → rows.getD j [] = rows.getD 0 [])) (fun z => rows.length - z.2) ?_
 have h00 : ∀ j, j < 1 → rows.getD j [] = rows.getD 0 [] := fun j hj => by
  obtain rfl : j = 0 := by omega
  rfl
 refine And.intro ⟨⟨Nat.le_refl _, hne, by decide, fun _ => (best_1 _ _).symm, fun _ => rfl, fun _ => h00⟩, gs⟩ ?_
 rintro ⟨p, k⟩ ⟨hk1, hk, hpk, hp3, hpn, hp4⟩
 dsimp only at hk1 hk hpk hp3 hpn hp4 ⊢
 refine cnd (fun h1 => ?_) (fun h1 => ?_)
 ·have hkl : k < rows.length := by omega
  have hpl : p < rows.length := by omega
  have hrk := hro _ (getD_mem rows k [] hkl)
  have hrp := hro _ (getD_mem rows p [] hpl)
  have hbs : bestS t.outs rows (k + 1) = if ahF t.outs (rows.getD k []) (rows.getD (bestS t.outs rows k) []) < 0 then k else bestS t.outs rows k := rfl
  have hun := fun hq h => upto_snoc (P := fun j => rows.getD j [] = rows.getD 0 []) (hp4 hq) h
  have hux := fun h => unl_yes (rows := rows) hkl h
  refine And.intro (by kernel_rfl) ?_
  refine ixLg (R := RwR) hrw k [] hkl (fun cs hcs => ?_)
  obtain ⟨y1, rfl, g1⟩ := hcs
  refine kg1 ?_
  refine ixLg (R := RwR) hrw 0 [] hne (fun cs hcs => ?_)
  obtain ⟨y2, rfl, g2⟩ := hcs
  refine kg1 ?_
  refine cbg (fun _ w hw => c_RSameRow12 (rows.getD k []) (rows.getD 0 []) y1 y2 w h0 hw g1 g2) ?_
  have hS4 : (rows.getD k [] = rows.getD 0 []) ∨ (rows.getD k [] ≠ rows.getD 0 []) := Classical.em _
  refine cnd (fun h2 => ?_) (fun h2 => ?_)
  ·have h4 : t.pol = 4 := h2.1
   have h5 : rows.getD k [] ≠ rows.getD 0 [] := by simpa using h2.2
   rw [e4 h4, anyF, if_pos (hux h5)]
   exact ⟨(ar, (none, 0)), by rw [ouV, ouC_ints]; rfl, fun v hle _ => ⟨nslL (hru.monoF hle), LR.nil v⟩⟩
  have hp4' : t.pol = 4 → ∀ j, j < k + 1 → rows.getD j [] = rows.getD 0 [] := fun hq => hun hq (by
   rcases h2 with h2 | h2
   ·exact absurd hq h2
   ·simpa using h2)
  refine And.intro (by kernel_rfl) ?_
  refine ixLg (R := RwR) hrw k [] hkl (fun cs hcs => ?_)
  obtain ⟨y3, rfl, g3⟩ := hcs
  refine kg1 ?_
  refine ixLg (R := RwR) hrw p [] hpl (fun cs hcs => ?_)
  obtain ⟨y4, rfl, g4⟩ := hcs
  refine kg1 ?_
  refine cbg (fun _ w hw => c_Rahead t.outs a.o (rows.getD k []) (rows.getD p []) y3 y4 hrk hrp w h0 hw hc g3 g4) ?_
  refine cnd (fun h3 => ?_) (fun h3 => ?_)
  ·have h3p : t.pol = 3 := h3.1
   have h3a : ahF t.outs (rows.getD k []) (rows.getD p []) < 0 := by simpa using h3.2
   rw [← hp3 h3p, if_pos h3a] at hbs
   refine wi ?_
   exact ⟨(k, k + 1), ⟨⟨by omega, hkl, Nat.lt_succ_self k, fun _ => hbs.symm, fun hh => absurd h3p hh, hp4'⟩, by show rows.length - (k + 1) < rows.length - k; omega⟩, gs⟩
  ·refine wi ?_
   refine ⟨(p, k + 1), ⟨⟨by omega, hkl, by show p < k + 1; omega, fun hq => ?_, hpn, hp4'⟩, by show rows.length - (k + 1) < rows.length - k; omega⟩, gs⟩
   show p = bestS t.outs rows (k + 1)
   rcases h3 with h3 | h3
   ·exact absurd hq h3
   ·rw [← hp3 hq, if_neg (by simpa using h3)] at hbs
    exact hbs.symm
 ·obtain rfl : k = rows.length := by omega
  refine cnd (fun h => ?_) (fun h => ?_)
  ·have h : t.pol = 4 := h
   rw [e4 h, anyF, if_neg (by rw [unl_no (hp4 h)]; decide)]
   refine ⟨1, ⟨rfl, by omega⟩, ?_⟩
   have hl2 : (rows.take 1).length = 1 := by rw [List.length_take]; omega
   exact ⟨(ar, aw), by rw [ouV, ouC_ints, hl2]; rfl, fun v hle _ => ⟨nslL (hru.monoF hle), LR.take (n := 0) (k := 1) (hmw v hle) (by omega)⟩⟩
  have h4 : t.pol ≠ 4 := h
  have eo : o = oneO rules rows p := by
   by_cases h3 : t.pol = 3
   ·rw [e3 h4 h3, ← hp3 h3]
   ·rw [e1 h4 h3, hpn h3]
  rw [eo]
  have hrne : 0 < rules.length := by omega
  have hone : oneO rules rows p = ⟨0, ints ((rules.drop p).take 1), (rows.drop p).take 1⟩ := if_neg (fun hh => by rw [hh] at hrne; exact absurd hrne (by decide))
  have hl1 : ((rules.drop p).take 1).length = 1 := by rw [List.length_take, List.length_drop]; omega
  have hl2 : ((rows.drop p).take 1).length = 1 := by rw [List.length_take, List.length_drop]; omega
  rw [hone]
  refine regPh TT_ok [([0, 1, 2, 5, 6, 7, 3, 8, 4, 9, 10], [11])] [6] ?_
  refine wi ?_
  refine wi ?_
  refine sl2 p (p + 1) ?_
  refine sl2 p (p + 1) ?_
  rw [show p + 1 - p = 1 by omega]
  refine kq ?_
  refine kq ?_
  have h1 : ∀ v, VLe h0 v → SlC 3 1 (flatR nC) v (.slice (if ar.2 = p then ar.1 else ar.1.map (·.add (p * 1))) ((rules.drop p).take 1).length (ar.2 - p)) ((rules.drop p).take 1) := fun v hle => by
   rw [hl1]; exact ((hru.monoF hle).drop (k := p) (by omega)).take (k := 1) (by rw [List.length_drop]; omega)
  refine ⟨((if ar.2 = p then ar.1 else ar.1.map (·.add (p * 1)), ar.2 - p), (if aw.2 = p then aw.1 else aw.1.map (·.add (p * 1)), aw.2 - p)), ?_, fun v hle _ => ⟨nslL (h1 v hle), LR.take (n := 0) (k := 1) ((hmw v hle).drop (k := p) (by omega)) (by rw [List.length_drop]; omega)⟩⟩
  rw [ouV, ouC_ints, hl1, hl2]; rfl
end Go.Proofs.YtkkbnjomcgnkpaaGreat
namespace Go.Proofs.YtkkbnjomcgnkpaaGreat
open Go Go.Dx Go.RowKit
theorem colsG_in {l : List Col} : ∀ (n i : Nat), l.length - i ≤ n → colsG l i = 0 → ∀ j, i ≤ j → j < l.length → ¬ badN l j ∧ ¬ badK (l.getD j c0).kind
 | n, i, hn, h, j, hij, hj => by
  have hi : i < l.length := by omega
  by_cases h1 : badN l i
  ·rw [cg_name hi h1] at h; cases h
  by_cases h2 : badK (l.getD i c0).kind
  ·rw [cg_kind hi h1 h2] at h; cases h
  rw [cg_next hi h1 h2] at h
  by_cases hj2 : j = i
  ·subst hj2; exact ⟨h1, h2⟩
  ·cases n with
   | zero => omega
   | succ n => exact colsG_in n (i + 1) (by omega) h j (by omega) hj
theorem cols_kind {l : List Col} (h : colsS l = 0) {j : Nat} (hj : j < l.length) : (l.getD j c0).kind = 1 ∨ (l.getD j c0).kind = 2 ∨ (l.getD j c0).kind = 3 := by
 unfold colsS at h
 split at h
 ·cases h
 have := (colsG_in l.length 0 (by omega) h j (Nat.zero_le _) hj).2
 unfold badK at this
 omega
structure RdyK (r : Rdy) : Prop where
 ci : colsS (colsO r.t.ins) = 0
 co : colsS (colsO r.t.outs) = 0
 x : ∀ l ∈ r.ls, l.os.length = r.t.outs.length ∧ ∀ k, k < l.os.length → (kindT (colsO r.t.ins) (l.os.getD k ex0)).2 = 0 ∧ fitS (kindT (colsO r.t.ins) (l.os.getD k ex0)).1 (r.t.outs.getD k co0).1.kind = true
theorem out_inv {t : Tab} {k : Nat} {s : List UInt8} (h : outE t k s = 0) : (parseT s).2.2 = 0 ∧ (kindT (colsO t.ins) (parseT s).1).2 = 0 ∧ fitS (kindT (colsO t.ins) (parseT s).1).1 (t.outs.getD k co0).1.kind = true := by
 unfold outE at h
 split at h
 ·rename_i h1; exact absurd h h1
 rename_i h1
 split at h
 ·rename_i h2; exact absurd h h2
 rename_i h2
 split at h
 ·cases h
 rename_i h3
 exact ⟨by simpa using h1, by simpa using h2, by simpa using h3⟩
theorem line_outs {t : Tab} {r : List (List UInt8) × List (List UInt8)} (h : lineE t r = 0) : ∀ k, k < r.2.length → outE t k (r.2.getD k []) = 0 := by
 unfold lineE at h
 split at h
 ·cases h
 split at h
 ·rename_i h2; exact absurd h h2
 exact fir_inv h
theorem make_rdyK {t : Tab} (h : makeE t = 0) : RdyK (makeV t) := by
 obtain ⟨hf, hr⟩ := make_inv h
 obtain ⟨_, f2, f3, _, _⟩ := frame_inv hf
 refine ⟨(col_ok f2).1, (col_ok f3).1, fun l hl => ?_⟩
 obtain ⟨r, hrm, rfl⟩ := List.mem_map.1 hl
 obtain ⟨_, k2, _, _⟩ := line_inv (hr r hrm)
 have hlen : (lineV r).os.length = r.2.length := List.length_map _
 refine ⟨by rw [hlen]; exact k2, fun k hk => ?_⟩
 rw [hlen] at hk
 have ho := out_inv (line_outs (hr r hrm) k hk)
 have he : (lineV r).os.getD k ex0 = (parseT (r.2.getD k [])).1 := by
  show (r.2.map fun s => (parseT s).1).getD k ex0 = _
  simp [List.getD, hk]
 rw [he]
 exact ho.2
theorem in_typed {r : Rdy} {row : List Val} (hc : colsS (colsO r.t.ins) = 0) (hin : inputE r row = 0) : (colsO r.t.ins).length = row.length ∧ ∀ i, i < (colsO r.t.ins).length → tOk ((colsO r.t.ins).getD i c0) (row.getD i v0) = true := by
 unfold inputE at hin
 split at hin
 ·rename_i h
  have hl : (colsO r.t.ins).length = r.t.ins.length := List.length_map _
  refine ⟨by omega, fun i hi => ?_⟩
  have hg := h.2 i (by omega)
  have hk := cols_kind hc hi
  unfold tOk
  rw [hg.1, hg.2, decide_eq_false (by omega)]; rfl
 ·cases hin
theorem tell_kind {r : Rdy} {row : List Val} (hk : RdyK r) (hin : inputE r row = 0) {i : Nat} (hi : i < r.ls.length) (h0 : tellE r row i = 0) {k : Nat} (hkl : k < r.t.outs.length) : RK ((tellV r row i).getD k v0) (r.t.outs.getD k co0).1.kind := by
 have hm : r.ls.getD i lin0 ∈ r.ls := by simp [List.getD, hi]
 obtain ⟨hl, hx⟩ := hk.x _ hm
 have hx := hx k (by omega)
 have hE := fir_inv h0 k (by omega)
 have hV : (tellV r row i).getD k v0 = (evalS (colsO r.t.ins) row ((r.ls.getD i lin0).os.getD k ex0)).1 := by
  have hk2 : k < (r.ls.getD i lin0).os.length := by omega
  show ((r.ls.getD i lin0).os.map _).getD k v0 = _
  generalize (r.ls.getD i lin0).os = os at hk2 ⊢
  simp [List.getD, hk2]
 have hok : (r.t.outs.getD k co0).1.kind = 1 ∨ (r.t.outs.getD k co0).1.kind = 2 ∨ (r.t.outs.getD k co0).1.kind = 3 := by
  have := cols_kind hk.co (j := k) (by rw [colsO, List.length_map]; exact hkl)
  rwa [show (colsO r.t.outs).getD k c0 = (r.t.outs.getD k co0).1 by simp [colsO, List.getD, hkl]] at this
 rw [hV]
 generalize (r.ls.getD i lin0).os.getD k ex0 = x at hx hE
 obtain ⟨hx1, hx2⟩ := hx
 have hr : rightS x = true := by
  rcases Bool.eq_false_or_eq_true (rightS x) with e | e
  ·exact e
  ·rw [kindT, if_neg (by rw [e]; decide)] at hx1; cases hx1
 have hkt : kindT (colsO r.t.ins) x = kindS (colsO r.t.ins) x := if_pos hr
 rw [hkt] at hx1 hx2
 obtain ⟨ht1, ht2⟩ := in_typed hk.ci hin
 have hT := evX_typed ht1 ht2 (SizeOf.sizeOf x + 1) x (Nat.lt_succ_self _) hr hx1
 have hall : row.all valOk = true := List.all_eq_true.2 fun v hv => by
  obtain ⟨j, hj, rfl⟩ := List.mem_iff_getElem.1 hv
  have := ht2 j (by omega)
  simp only [tOk, Bool.and_eq_true] at this
  rw [show row.getD j v0 = row[j] by simp [List.getD, hj]] at this
  exact this.1.1
 have hes : evalS (colsO r.t.ins) row x = match evX (colsO r.t.ins) row (SizeOf.sizeOf x + 1) x with
  | .ok v => (v, 0)
  | .error e => (v0, e) := if_pos ⟨hr, ht1, hall⟩
 cases hev : evX (colsO r.t.ins) row (SizeOf.sizeOf x + 1) x with
 | error e =>
  rw [hev] at hes hT
  rw [hes] at hE
  have hT : e = 15 ∨ e = 16 ∨ e = 5 := hT
  have hE : e = 0 := hE
  omega
 | ok v =>
  rw [hev] at hes hT
  rw [hes]
  have hT : v.k = (kindS (colsO r.t.ins) x).1 ∨ v.k = 0 := hT
  have hf := fit_iff.1 hx2
  show v.k = _ ∨ v.k = 0
  omega
theorem sumS_bad : ∀ (l m : List Int) (n : Int), (sumS n l).2 ≠ 0 → sumS n (l ++ m) = sumS n l
 | [], m, n, h => absurd rfl h
 | x :: l, m, n, h => by
  show sumS n (x :: (l ++ m)) = sumS n (x :: l)
  rw [sumS] at h ⊢
  rw [sumS]
  by_cases hx : (ovr (n + x)).2 ≠ 0
  ·rw [if_pos hx, if_pos hx]
  ·rw [if_neg hx] at h ⊢
   rw [if_neg hx]
   exact sumS_bad l m _ h
theorem sumS_snoc : ∀ (l : List Int) (n x : Int), (sumS n l).2 = 0 → sumS n (l ++ [x]) = if (ovr ((sumS n l).1 + x)).2 ≠ 0 then (0, (ovr ((sumS n l).1 + x)).2) else ((sumS n l).1 + x, 0)
 | [], n, x, _ => rfl
 | y :: l, n, x, h => by
  show sumS n (y :: (l ++ [x])) = _
  rw [sumS] at h ⊢
  rw [sumS]
  by_cases hx : (ovr (n + y)).2 ≠ 0
  ·rw [if_pos hx] at h; exact absurd h hx
  ·rw [if_neg hx] at h ⊢
   rw [if_neg hx]
   exact sumS_snoc l _ x h
def accM (a : Int) (l : List Val) : Val := if l = [] then v0 else if a = 1 then ⟨1, (sumS 0 (l.map (·.n))).1, []⟩ else pkL (agP a) l
theorem ovr_in0 {n : Int} (h : i64 n) : ovr n = (n, 0) := if_pos h
theorem acc_one {a : Int} {x : Val} (hx : i64 x.n) (h1 : a = 1 → x = ⟨1, x.n, []⟩) : accM a [x] = x := by
 unfold accM
 rw [if_neg (by simp)]
 by_cases ha : a = 1
 ·rw [if_pos ha]
  have : sumS 0 ([x].map (·.n)) = (x.n, 0) := by
   show (if (ovr (0 + x.n)).2 ≠ 0 then _ else sumS (0 + x.n) []) = _
   rw [Int.zero_add, ovr_in0 hx]; rfl
  rw [this]
  exact (h1 ha).symm
 ·rw [if_neg ha]; rfl
theorem acc_ne {a : Int} {l : List Val} (hl : l ≠ []) (hk : ∀ v ∈ l, v.k ≠ 0) : accM a l ≠ v0 := by
 intro h
 unfold accM at h
 rw [if_neg hl] at h
 by_cases ha : a = 1
 ·rw [if_pos ha] at h
  have := congrArg Val.k h
  cases this
 ·rw [if_neg ha] at h
  cases l with
  | nil => exact hl rfl
  | cons x r =>
   have := hk _ (pkL_mem (agP a) r x)
   rw [h] at this
   exact this rfl
theorem acc_sum {l : List Val} {x : Val} (hl : l ≠ []) (h0 : (sumS 0 (l.map (·.n))).2 = 0) : (accM 1 l).n = (sumS 0 (l.map (·.n))).1 ∧ sumS 0 ((l ++ [x]).map (·.n)) = if (ovr ((accM 1 l).n + x.n)).2 ≠ 0 then (0, (ovr ((accM 1 l).n + x.n)).2) else ((accM 1 l).n + x.n, 0) := by
 have e : (accM 1 l).n = (sumS 0 (l.map (·.n))).1 := by unfold accM; rw [if_neg hl, if_pos rfl]
 refine ⟨e, ?_⟩
 rw [e, List.map_append]
 exact sumS_snoc _ 0 x.n h0
theorem sum_in : ∀ (l : List Int) (n : Int), i64 n → (sumS n l).2 = 0 → i64 (sumS n l).1
 | [], n, h, _ => h
 | y :: l, n, h, h0 => by
  rw [sumS] at h0 ⊢
  by_cases hx : (ovr (n + y)).2 ≠ 0
  ·rw [if_pos hx] at h0; exact absurd h0 hx
  ·rw [if_neg hx] at h0 ⊢
   refine sum_in l _ ?_ h0
   by_cases hi : i64 (n + y)
   ·exact hi
   ·exact absurd (show (ovr (n + y)).2 ≠ 0 by rw [show ovr (n + y) = (0, 15) from if_neg (fun hh => hi hh)]; decide) hx
theorem acc_pk {a : Int} {l : List Val} {x : Val} (hl : l ≠ []) (ha : a ≠ 1) : accM a (l ++ [x]) = if agP a (cmpV x (accM a l)) = true then x else accM a l := by
 unfold accM
 rw [if_neg hl, if_neg ha, if_neg (by simp), if_neg ha]
 exact pkL_snoc _ l x hl
theorem kept_app (a b : List (List Val)) : keptV (a ++ b) = keptV a ++ keptV b := by
 unfold keptV; rw [List.map_append, List.filter_append]
theorem kept_k {rows : List (List Val)} : ∀ v ∈ keptV rows, v.k ≠ 0 := fun v hv => by
 unfold keptV at hv
 have := (List.mem_filter.1 hv).2
 simpa using this
theorem coll_sum {rules : List Nat} {rows : List (List Val)} : collF 1 rules rows = if (sumS 0 ((keptV rows).map (·.n))).2 ≠ 0 then ⟨(sumS 0 ((keptV rows).map (·.n))).2, ints rules, []⟩ else ⟨0, ints rules, [[accM 1 (keptV rows)]]⟩ := by
 unfold collF sumO sumV accM
 rw [if_neg (by decide), if_neg (by decide), if_pos rfl]
 by_cases h : keptV rows = []
 ·rw [h]; rfl
 ·rw [if_neg h]
  by_cases h2 : (sumS 0 ((keptV rows).map (·.n))).2 ≠ 0
  ·rw [if_pos h2, if_pos h2, if_pos h2]
  ·rw [if_neg h2, if_neg h2, if_neg (fun hh => hh rfl), if_neg h, if_pos rfl]
theorem coll_pk {a : Int} (h0 : a ≠ 0) (h1 : a ≠ 1) (h4 : a ≠ 4) {rules : List Nat} {rows : List (List Val)} : collF a rules rows = ⟨0, ints rules, [[accM a (keptV rows)]]⟩ := by
 unfold collF accM
 rw [if_neg h0, if_neg h4, if_neg h1]
 by_cases h : keptV rows = []
 ·rw [h]; rfl
 ·rw [if_neg h, if_neg h1]
end Go.Proofs.YtkkbnjomcgnkpaaGreat
set_option maxRecDepth 100000
namespace Go.Proofs.YtkkbnjomcgnkpaaGreat
open Go Go.Dx Go.RowKit
set_option maxHeartbeats 8000000 in
theorem c_Rmade (ag : Int) (hag : ag = 1 ∨ ag = 2 ∨ ag = 3 ∨ ag = 4) (rules : List Nat) (rows : List (List Val)) (ar aw : AC) (hrl : rows.length ≤ 1000001) (hr1 : ∀ r ∈ rows, 1 ≤ r.length) (hvb : ∀ r ∈ rows, ∀ v ∈ r, valB v) (hok0 : ∀ r ∈ rows, (r.getD 0 v0).k = 0 → r.getD 0 v0 = v0) (hty : ag = 1 → ∀ r ∈ rows, (r.getD 0 v0).k ≠ 0 → r.getD 0 v0 = ⟨1, (r.getD 0 v0).n, []⟩)
  (w0 : World) (h0 : View) (hv : VLe h0 (Full w0)) (hru : SlC 3 1 (flatR nC) h0 (.slice ar.1 rules.length ar.2) rules) (hrw : LR 28 1 RwR h0 aw.1 aw.2 rows) :
  Calls Tryz.prog 35 #[.int .i64 ag, .slice ar.1 rules.length ar.2, .slice aw.1 rows.length aw.2] w0 (Ret w0 h0 fun u hh => ∃ z : AC × AC, u = ouV (collF ag rules rows) z ∧ OutH hh (collF ag rules rows) z.1 z.2) := by
 have e4 : ag = 4 → collF ag rules rows = ⟨0, ints rules, [[⟨1, rows.length, []⟩]]⟩ := fun h => by subst h; rfl
 have e1 : ag = 1 → collF ag rules rows = if (sumS 0 ((keptV rows).map (·.n))).2 ≠ 0 then ⟨(sumS 0 ((keptV rows).map (·.n))).2, ints rules, []⟩ else ⟨0, ints rules, [[accM ag (keptV rows)]]⟩ := fun h => by subst h; exact coll_sum
 have e2 : ag ≠ 4 → ag ≠ 1 → collF ag rules rows = ⟨0, ints rules, [[accM ag (keptV rows)]]⟩ := fun h h2 => coll_pk (by omega) h2 h
 generalize collF ag rules rows = o at e4 e1 e2 ⊢
 refine entA (args := [.int .i64 ag, .slice ar.1 rules.length ar.2, .slice aw.1 rows.length aw.2]) TT_ok [84, 85] [] Tryz.func35 rfl Tryz.ntmps35 rfl rfl hv (fun z => out_m _ _ _) ?_
 intro b6 b7
 refine cnd (fun h => ?_) (fun h => ?_)
 ·refine w_loop TT_ok (fun _ : Unit => [(8, .v (.int .i64 0))]) () (fun _ => True) (fun _ => 0) ?_
  refine And.intro ⟨trivial, gs⟩ ?_
  intro _ _
  refine cnd (fun h1 => absurd h h1.2) (fun _ => ?_)
  rw [e4 h]
  intro b83
  refine And.intro rfl ?_
  refine shutW 83 (row_sl (g := valC) (l := [⟨1, rows.length, []⟩]) (sz := 3) (n := 1) (cp := 1) rfl) ?_ Mono.slF
  refine goW TT_ok ?_
  intro b84
  refine And.intro rfl ?_
  refine shutW 84 (row_sl (g := rwC) (l := [(([⟨1, rows.length, []⟩], some ⟨b83, 0, none⟩, 1) : RwQ)]) (sz := 1) (n := 1) (cp := 1) rfl) ?_ Mono.slF
  refine goW TT_ok ?_
  exact ⟨(ar, some ⟨b84, 0, none⟩, 1), by rw [ouV, ouC_ints]; rfl, fun v hle hF => ⟨nslL (hru.monoF hle), lr_one hF.2 ⟨(some ⟨b83, 0, none⟩, 1), rfl, hF.1.2⟩⟩⟩
 have h4 : ag ≠ 4 := h
 have kl := fun k => kept_le rows k
 refine w_loopB TT_ok (fun k : Nat => [(8, .v (.int .i64 k))]) (fun k => [(7, .c b7 57 (valC (accM ag (keptV (rows.take k))))), (6, .c b6 41 (ouC out0 (none, 0) (none, 0)))]) 0 (fun k => k ≤ rows.length ∧ (ag = 1 → (sumS 0 ((keptV (rows.take k)).map (·.n))).2 = 0)) (fun k => rows.length - k) ?_
 refine And.intro ⟨⟨Nat.zero_le _, fun _ => rfl⟩, gs⟩ ?_
 rintro k ⟨hk, hs0⟩
 refine cnd (fun h1 => ?_) (fun h1 => ?_)
 ·have hkl : k < rows.length := by omega
  have hks := kept_snoc rows k hkl
  have hr := hr1 _ (getD_mem rows k [] hkl)
  have hvr := hvb _ (getD_mem rows k [] hkl)
  have hok := hok0 _ (getD_mem rows k [] hkl)
  have hty := fun h => hty h _ (getD_mem rows k [] hkl)
  have hkk : ∀ v ∈ keptV (rows.take k), v.k ≠ 0 := kept_k
  have hall : keptV rows = keptV (rows.take (k + 1)) ++ keptV (rows.drop (k + 1)) := by rw [← kept_app, List.take_append_drop]
  refine ixL (R := RwR) hrw k [] (fun cs hcs => ?_)
  generalize rows.getD k [] = r at hks hr hvr hok hty hcs ⊢
  obtain ⟨y, rfl, hy⟩ := hcs
  refine ixs hy 0 v0 ?_ (by omega)
  have hxb := hvr _ (getD_mem r 0 v0 (by omega))
  generalize r.getD 0 v0 = x at hks hok hty hxb ⊢
  generalize keptV (rows.take k) = l at hks hs0 hkk ⊢
  intro b9
  refine cl (c_RCompare x (accM ag l)) ?_
  refine aq eqV x v0 ?_
  refine cnd (fun h2 => ?_) (fun h2 => ?_)
  ·have h2 : x = v0 := h2
   rw [if_neg (fun hh => hh (by rw [h2]; rfl))] at hks
   refine wi ?_
   exact ⟨k + 1, ⟨⟨hkl, fun hq => by rw [hks]; exact hs0 hq⟩, by omega⟩, gs rfl (by rw [hks]; rfl)⟩
  have hx0 : x.k ≠ 0 := fun hh => h2 (hok hh)
  rw [if_pos hx0] at hks
  refine aq eqV (accM ag l) v0 ?_
  refine cnd (fun h3 => ?_) (fun h3 => ?_)
  ·have h3 : accM ag l = v0 := h3
   have hl : l = [] := by
    cases l with
    | nil => rfl
    | cons z q => exact absurd h3 (acc_ne (by simp) hkk)
   subst hl
   have ha1 : accM ag (keptV (rows.take (k + 1))) = x := by rw [hks]; exact acc_one hxb.2 (fun hq => hty hq hx0)
   refine wi ?_
   refine ⟨k + 1, ⟨⟨hkl, fun hq => ?_⟩, by omega⟩, gs rfl (by rw [ha1]; rfl)⟩
   rw [hks]
   show (if (ovr (0 + x.n)).2 ≠ 0 then _ else sumS (0 + x.n) []).2 = 0
   rw [Int.zero_add, ovr_in0 hxb.2]; rfl
  have hl : l ≠ [] := fun hh => h3 (by rw [hh]; rfl)
  refine cnd (fun h5 => ?_) (fun h5 => ?_)
  ·have h5 : ag = 1 := h5
   subst h5
   have hs0 := hs0 rfl
   obtain ⟨s1, s2⟩ := acc_sum (x := x) hl hs0
   rw [← hks] at s2
   have hi : i64 (accM 1 l).n := by rw [s1]; exact sum_in _ 0 (by unfold i64; omega) hs0
   have hac : ∀ m : Int, sumS 0 ((keptV (rows.take (k + 1))).map (·.n)) = (m, 0) → accM 1 (keptV (rows.take (k + 1))) = ⟨1, m, []⟩ := fun m hm => by
    unfold accM
    rw [if_neg (by rw [hks]; simp), if_pos rfl, hm]
   have hbad : (sumS 0 ((keptV (rows.take (k + 1))).map (·.n))).2 ≠ 0 → o = ⟨(sumS 0 ((keptV (rows.take (k + 1))).map (·.n))).2, ints rules, []⟩ := fun hb => by
    rw [e1 rfl, hall, List.map_append, sumS_bad _ _ _ hb, if_pos hb]
   generalize accM 1 l = m at s1 s2 hi ⊢
   refine cb (fun w hw => c_RAdd m.n x.n hi hxb.2 w h0 hw) ?_
   refine cnd (fun h6 => ?_) (fun h6 => ?_)
   ·have h6 : (ovr (m.n + x.n)).2 ≠ 0 := h6
    rw [if_pos h6] at s2
    rw [hbad (by rw [s2]; exact h6), s2]
    exact ⟨(ar, (none, 0)), by rw [ouV, ouC_ints]; rfl, fun v hle _ => ⟨nslL (hru.monoF hle), LR.nil v⟩⟩
   ·have h6 : (ovr (m.n + x.n)).2 = 0 := by simpa using h6
    rw [if_neg (fun hh => hh h6)] at s2
    rw [(ovr_ok h6).1]
    refine wi ?_
    exact ⟨k + 1, ⟨⟨hkl, fun _ => by rw [s2]⟩, by omega⟩, gs rfl (by rw [hac _ s2]; rfl)⟩
  ·have h5 : ag ≠ 1 := h5
   have hpk := acc_pk (a := ag) (x := x) hl h5
   rw [← hks] at hpk
   have hag' : (agP ag (cmpV x (accM ag l)) = true) ↔ ((ag = 2 ∧ cmpV x (accM ag l) < 0) ∨ (ag = 3 ∧ 0 < cmpV x (accM ag l))) := by
    unfold agP
    by_cases h7 : ag = 2
    ·rw [if_pos h7, decide_eq_true_eq]; omega
    ·rw [if_neg h7, decide_eq_true_eq]; omega
   generalize accM ag l = m at hpk hag' ⊢
   refine cnd (fun h7 => ?_) (fun h7 => ?_)
   ·rw [if_pos (hag'.2 (by omega))] at hpk
    refine wi ?_
    exact ⟨k + 1, ⟨⟨hkl, fun hq => absurd hq h5⟩, by omega⟩, gs rfl (by rw [hpk]; rfl)⟩
   ·rw [if_neg (fun hh => by have := hag'.1 hh; omega)] at hpk
    refine wi ?_
    exact ⟨k + 1, ⟨⟨hkl, fun hq => absurd hq h5⟩, by omega⟩, gs rfl (by rw [hpk]; rfl)⟩
 ·obtain rfl : k = rows.length := by omega
  rw [List.take_length] at hs0 ⊢
  have eo : o = ⟨0, ints rules, [[accM ag (keptV rows)]]⟩ := by
   by_cases h5 : ag = 1
   ·rw [e1 h5, if_neg (fun hh => hh (hs0 h5))]
   ·exact e2 h4 h5
  rw [eo]
  generalize accM ag (keptV rows) = m
  intro b83
  refine And.intro rfl ?_
  refine shutW 83 (row_sl (g := valC) (l := [m]) (sz := 3) (n := 1) (cp := 1) rfl) ?_ Mono.slF
  refine goW TT_ok ?_
  intro b84
  refine And.intro rfl ?_
  refine shutW 84 (row_sl (g := rwC) (l := [(([m], some ⟨b83, 0, none⟩, 1) : RwQ)]) (sz := 1) (n := 1) (cp := 1) rfl) ?_ Mono.slF
  refine goW TT_ok ?_
  exact ⟨(ar, some ⟨b84, 0, none⟩, 1), by rw [ouV, ouC_ints]; rfl, fun v hle hF => ⟨nslL (hru.monoF hle), lr_one hF.2 ⟨(some ⟨b83, 0, none⟩, 1), rfl, hF.1.2⟩⟩⟩
end Go.Proofs.YtkkbnjomcgnkpaaGreat
set_option maxRecDepth 100000
namespace Go.Proofs.YtkkbnjomcgnkpaaGreat
open Go Go.Dx Go.RowKit
theorem insR_at {x : List Val} : ∀ {l : List (List Val)} {j : Nat}, j ≤ l.length → (∀ i, i < j → ltR x (l.getD i []) = false) → (j < l.length → ltR x (l.getD j []) = true) → insR x l = l.take j ++ x :: l.drop j
 | [], j, hj, _, _ => by
  obtain rfl : j = 0 := by simpa using hj
  rfl
 | y :: l, 0, _, _, h => by
  have : ltR x y = true := h (Nat.zero_lt_succ _)
  rw [insR, if_pos this]; rfl
 | y :: l, j + 1, hj, hn, h => by
  have h0 := hn 0 (Nat.zero_lt_succ _)
  rw [insR, if_neg (by rw [show ltR x y = false from h0]; decide), insR_at (l := l) (j := j) (by simpa using hj) (fun i hi => hn (i + 1) (by omega)) (fun hj => h (Nat.succ_lt_succ hj))]
  rfl
theorem sortR_snoc (l : List (List Val)) (x : List Val) : sortR (l ++ [x]) = insR x (sortR l) := by
 unfold sortR; rw [List.foldl_append]; rfl
theorem sortR_len (l : List (List Val)) : (sortR l).length = l.length := (sortR_perm l).length_eq
structure SrS where
 a : Option Addr
 c : Nat
 es : List RwQ
 k : Nat
theorem rwC_one (q : RwQ) : ∀ u ∈ rwC q, u.oneCell' = true := fun u hu => by
 rw [List.mem_singleton.1 hu]; rfl
set_option maxHeartbeats 8000000 in
theorem c_Rsorted (rows : List (List Val)) (aw : AC) (m : Nat) (hrl : rows.length ≤ 1000001) (hro : ∀ r ∈ rows, r.length = m) (w0 : World) (h0 : View) (hv : VLe h0 (Full w0)) (hrw : LR 28 1 RwR h0 aw.1 aw.2 rows) :
    Calls Tryz.prog 36 #[.slice aw.1 rows.length aw.2] w0 (Ret w0 h0 fun u hh => ∃ z : AC, u = .slice z.1 (sortR rows).length z.2 ∧ LR 28 1 RwR hh z.1 z.2 (sortR rows)) := by
  refine entA (g := fun z : AC => .slice z.1 (sortR rows).length z.2) (args := [.slice aw.1 rows.length aw.2]) TT_ok [3, 35, 47] [] Tryz.func36 rfl Tryz.ntmps36 rfl rfl hv (fun z => LR.m (R := RwR) rwR_m z _) ?_
  refine And.intro rfl ?_
  refine goW TT_ok ?_
  refine w_loopF TT_ok (fun z : SrS => [(4, .v (.int .i64 z.k)), (3, .v (.slice z.a z.es.length z.c))]) (fun z => []) (fun z v => SlC 28 1 (flatR rwC) v (.slice z.a z.es.length z.c) z.es) ⟨none, 0, [], 0⟩
    (fun z => z.k ≤ rows.length ∧ RowsF h0 z.es ∧ z.es.map (·.1) = sortR (rows.take z.k)) (fun z => rows.length - z.k) (fun z => Mono.slF) ?_
  refine And.intro ⟨⟨Nat.zero_le _, fun q hq => absurd hq List.not_mem_nil, rfl⟩, gs (fv := fun v _ => SlC.nil (by simp [maxLen]))⟩ ?_
  rintro ⟨a1, c1, es, k⟩ ⟨hk, hes, hso⟩
  dsimp only at hk hes hso ⊢
  have hel : es.length = k := by
    have := congrArg List.length hso
    rw [List.length_map, sortR_len, List.length_take] at this
    omega
  refine cnd (fun h1 => ?_) (fun h1 => ?_)
  · have hkl : k < rows.length := by omega
    have hsn := sortR_snoc (rows.take k) (rows.getD k [])
    rw [← take_snocD rows k [] hkl, ← hso] at hsn
    have hmem : ∀ q ∈ es, q.1 ∈ rows := fun q hq => by
      have h2 : q.1 ∈ es.map (·.1) := List.mem_map_of_mem hq
      rw [hso] at h2
      exact List.mem_of_mem_take ((sortR_perm _).mem_iff.1 h2)
    have hxm := hro _ (getD_mem rows k [] hkl)
    refine pureC (X := es.length ≤ c1) (fun v _ hF => by
      obtain ⟨_, _, e, hh, _⟩ := SlC.parts hF
      cases e; exact hh) (fun hcap => ?_)
    refine nilC 900 28 1 ?_
    refine w_loop TT_ok (fun j : Nat => [(5, .v (.int .i64 j))]) 0 (fun j => j ≤ es.length ∧ ∀ i, i < j → ltR (rows.getD k []) (es.getD i rw0).1 = false) (fun j => es.length - j) ?_
    refine And.intro ⟨⟨Nat.zero_le _, fun j hj => absurd hj (Nat.not_lt_zero j)⟩, gs⟩ ?_
    intro j ⟨hj, hn⟩
    have hun := fun h => upto_snoc (P := fun i => ltR (rows.getD k []) (es.getD i rw0).1 = false) hn h
    refine And.intro (by kernel_rfl) ?_
    refine ixLg (R := RwR) hrw k [] hkl (fun cs hcs => ?_)
    obtain ⟨y, rfl, g1⟩ := hcs
    refine kg1 ?_
    refine ixfg (f := rwC) (l := es) (fun v hF => hF) j rw0 ?_
    refine kg1 ?_
    refine cbg (fun hp w hw => c_Rless (rows.getD k []) (es.getD j rw0).1 y (es.getD j rw0).2 (by
      have hjl : j < es.length := by omega
      rw [hxm, hro _ (hmem _ (getD_mem es j rw0 hjl))]) w h0 hw g1 (rowsF_get hes (by omega))) ?_
    refine cnd (fun h2 => ?_) (fun h2 => ?_)
    · have hjl : j < es.length := by omega
      refine wi ?_
      exact ⟨j + 1, ⟨⟨hjl, hun (by simpa using h2.2)⟩, by omega⟩, gs⟩
    · have hins : insR (rows.getD k []) (es.map (·.1)) = (es.map (·.1)).take j ++ rows.getD k [] :: (es.map (·.1)).drop j := insR_at (by rw [List.length_map]; exact hj) (fun i hi => by
          have := hn i hi
          rwa [show (es.map (·.1)).getD i [] = (es.getD i rw0).1 by simp [List.getD, show i < es.length by omega]]) (fun hjl => by
          rw [List.length_map] at hjl
          rw [show (es.map (·.1)).getD j [] = (es.getD j rw0).1 by simp [List.getD, hjl]]
          rcases h2 with h2 | h2
          · omega
          · simpa using h2)
      rw [hins] at hsn
      refine ⟨j, ⟨rfl, by omega⟩, ?_⟩
      have hlt : (es.take j).length = j := by rw [List.length_take]; omega
      have hld : (es.drop j).length = es.length - j := List.length_drop
      refine ⟨rfl, apF TT_ok (g := rwC) (l := es.take j) 900 (AppT.of (bytes := 24) (sz := 0) (by kernel_rfl) (by kernel_rfl) (by kernel_rfl)) (fun v _ hF => SlC.take hF hj) (fun _ _ => rfl) (fun q _ => rwC_one q) rfl rfl rfl rfl (by rw [row_flat (sz := 1) (fun _ => rfl), hlt]; show (0 + j * 1) * 25 ≤ 140737488355328; omega) (fun a3 n3 c3 e3 => ?_)⟩
      refine ixL (R := RwR) hrw k [] (fun cs hcs => ?_)
      obtain ⟨y5, rfl, g5⟩ := hcs
      intro b41
      have hf1 : ([] ++ ((es.take j).map rwC).flatten).length = j := by rw [List.nil_append, row_flat (sz := 1) (fun _ => rfl), hlt]; omega
      refine ap TT_ok 900 (AppT.of (bytes := 24) (sz := 0) (by kernel_rfl) (by kernel_rfl) (by kernel_rfl)) rfl rfl rfl rfl rfl rfl rfl (by rw [hf1]; show (_ + 1) * 25 ≤ _; omega) (fun a4 n4 c4 e4 => ?_)
      rw [hf1] at e4
      have e4 : n4 * 1 = j + 1 := e4
      refine ⟨j, ⟨rfl, by omega⟩, ?_⟩
      refine ⟨rfl, apF TT_ok (g := rwC) (l := es.drop j) 900 (AppT.of (bytes := 24) (sz := 0) (by kernel_rfl) (by kernel_rfl) (by kernel_rfl)) (fun v _ hF => SlC.drop hF hj) (fun _ _ => rfl) (fun q _ => rwC_one q) rfl rfl rfl rfl (by rw [List.length_append, hf1, row_flat (sz := 1) (fun _ => rfl), hld]; show (j + 1 + (es.length - j) * 1) * 25 ≤ 140737488355328; omega) (fun a5 n5 c5 e5 => ?_)⟩
      rw [List.length_append, hf1, row_flat (sz := 1) (fun _ => rfl), hld] at e5
      have e5 : n5 * 1 = j + 1 + (es.length - j) * 1 := e5
      refine And.intro rfl ?_
      have hnn : n5 = (es.take j ++ (rows.getD k [], y5) :: es.drop j).length := by
        rw [List.length_append, List.length_cons, hlt, hld]; omega
      refine sealW (g := rwC) (l := es.take j ++ (rows.getD k [], y5) :: es.drop j) 900 (by rw [List.map_append, List.map_cons, List.flatten_append, List.flatten_cons, List.nil_append, List.append_assoc]; rfl) hnn ?_
      refine goW TT_ok ?_
      refine wi ?_
      subst hnn
      refine ⟨⟨a5, c5, es.take j ++ (rows.getD k [], y5) :: es.drop j, k + 1⟩, ⟨⟨hkl, ?_, ?_⟩, by show rows.length - (k + 1) < rows.length - k; omega⟩, gs (fv := fun v hF => hF.2)⟩
      · intro q hq
        rcases List.mem_append.1 hq with hq | hq
        · exact hes q (List.mem_of_mem_take hq)
        · rcases List.mem_cons.1 hq with rfl | hq
          · exact g5
          · exact hes q (List.mem_of_mem_drop hq)
      · rw [hsn, List.map_append, List.map_cons, List.map_take, List.map_drop]
  · obtain rfl : k = rows.length := by omega
    rw [List.take_length] at hso
    rw [← hso]
    refine ⟨(a1, c1), ?_, fun v hle hF => ?_⟩
    · rw [List.length_map]; rfl
    · exact LR.of_rows (R := RwR) (g := fun q : RwQ => q.1) (d := rw0) hF rfl (fun p hp => ⟨p.2, rfl, (hes p hp).monoF hle⟩)
end Go.Proofs.YtkkbnjomcgnkpaaGreat
set_option maxRecDepth 100000
namespace Go.Proofs.YtkkbnjomcgnkpaaGreat
open Go Go.Dx Go.RowKit
theorem okV_0 {x : Val} (h : okV x) (h0 : x.k = 0) : x = v0 := by
 have := h.1
 obtain ⟨k, n, s⟩ := x
 dsimp only at h0
 subst h0
 simp only [valOk, if_pos, Bool.and_eq_true, decide_eq_true_eq] at this
 rw [this.1, this.2]; rfl
theorem okV_1 {x : Val} (h : okV x) (h0 : x.k = 1) : x = ⟨1, x.n, []⟩ := by
 obtain ⟨k, n, s⟩ := x
 dsimp only at h0
 subst h0
 have : decide (s = []) = true := h.1
 rw [of_decide_eq_true this]
theorem pol_agg {t : Tab} (h : polOk t = true) (h0 : t.agg ≠ 0) : (t.agg = 1 ∨ t.agg = 2 ∨ t.agg = 3 ∨ t.agg = 4) ∧ (t.agg = 1 → (t.outs.getD 0 co0).1.kind = 1) := by
 unfold polOk at h
 split at h
 ·cases h
 split at h
 ·cases h
 refine ⟨by omega, fun h1 => ?_⟩
 rw [h1] at h
 simpa using h
theorem tl_ne {r : Rdy} {row : List Val} {i : Nat} (h : tellE r row i ≠ 0) : tlS r row i = ([], tellE r row i) := if_pos h
theorem tl_ok {r : Rdy} {row : List Val} {i : Nat} (h : tellE r row i = 0) : tlS r row i = (tellV r row i, 0) := if_neg (fun hh => hh h)
theorem chF_coll {t : Tab} {rules : List Nat} {rows : List (List Val)} (h : t.pol = 5) : chooseF t rules rows = collF t.agg rules rows := if_pos h
theorem chF_all {t : Tab} {rules : List Nat} {rows : List (List Val)} (h : t.pol = 6) : chooseF t rules rows = ⟨0, ints rules, rows⟩ := by
 unfold chooseF; rw [if_neg (by omega), if_neg (by omega), if_pos h]
theorem chF_one {t : Tab} {rules : List Nat} {rows : List (List Val)} (h5 : t.pol ≠ 5) (h6 : t.pol ≠ 6) : chooseF t rules rows = oneF t rules rows := by
 unfold chooseF oneF; rw [if_neg h5, if_neg h6]
set_option maxHeartbeats 8000000 in
theorem c_RDecide (r : Rdy) (a : TA) (x b : AC) (row : List Val) (hb : RdyB r) (hp : RdyP r) (hkk : RdyK r) (hvb : ∀ v ∈ row, valB v) (hvs : ∀ v ∈ row, v.s.length ≤ 9223372036854775807) (w0 : World) (h0 : View) (hv : VLe h0 (Full w0)) (hr : RdyH h0 r a x) (hrow : SlC 57 3 (flatR valC) h0 (.slice b.1 row.length b.2) row) :
  Calls Tryz.prog 13 #[.agg (rdyC r a x).toArray, .slice b.1 row.length b.2] w0 (Ret w0 h0 fun u hh => ∃ z : AC × AC, u = .tuple #[ouV (decS (chooseF r.t) r row).1 z, .int .i64 (decS (chooseF r.t) r row).2] ∧ OutH hh (decS (chooseF r.t) r row).1 z.1 z.2) := by
 have hbl := hb.ls
 have hci := @ru_in r row
 obtain ⟨hlt1, hlt2⟩ := @ru_lt r row
 have e1 : (rulesR r row).2.2 = 21 → decS (chooseF r.t) r row = (out0, 21) := fun h => if_pos h
 have e2 : (rulesR r row).2.2 ≠ 21 → (rulesR r row).2.2 ≠ 0 → decS (chooseF r.t) r row = (⟨(rulesR r row).2.2, [((rulesR r row).2.1 : Int)], []⟩, 0) := fun h h2 => by rw [decS, if_neg h, if_pos h2]
 have e3 : (rulesR r row).2.2 = 0 → (r.t.pol = 1 ∧ 1 < (rulesR r row).1.length) → decS (chooseF r.t) r row = (⟨19, ints (rulesR r row).1, []⟩, 0) := fun h h2 => by rw [decS, h, if_neg (by decide), if_neg (fun hh => hh rfl), if_pos h2]
 have e4 : (rulesR r row).2.2 = 0 → ¬ (r.t.pol = 1 ∧ 1 < (rulesR r row).1.length) → decS (chooseF r.t) r row = (tolds r row (rulesR r row).1 (chooseF r.t), 0) := fun h h2 => by rw [decS, h, if_neg (by decide), if_neg (fun hh => hh rfl), if_neg h2]
 generalize decS (chooseF r.t) r row = d at e1 e2 e3 e4 ⊢
 refine entA (args := [.agg (rdyC r a x).toArray, .slice b.1 row.length b.2]) TT_ok [31, 74, 80, 1000012] [] Tryz.func13 rfl Tryz.ntmps13 rfl rfl hv (fun z => out_m _ _ _) ?_
 intro b2 b4
 refine cA TT_ok (fun w v h1 h2 h3 => c_RRules r a x b row hb hvb hvs w v h3 (rdy_m _ _ _ _ _ h1 hr) (hrow.monoF h1)) (fun _ => Mono.slF) (fun zr => ?_)
 generalize rulesR r row = q at hci hlt1 hlt2 e1 e2 e3 e4 ⊢
 obtain ⟨q, qa, qe⟩ := q
 dsimp only at hci hlt1 hlt2 e1 e2 e3 e4
 refine cnd (fun h => ?_) (fun h => ?_)
 ·have h : qe = 21 := h
  rw [e1 h, h]
  exact ⟨((none, 0), (none, 0)), rfl, fun v _ _ => ⟨SlC.nil (by simp [maxLen]), LR.nil v⟩⟩
 have h : qe ≠ 21 := h
 refine cnd (fun h2 => ?_) (fun h2 => ?_)
 ·have h2 : qe ≠ 0 := h2
  rw [e2 h h2]
  intro b30
  refine And.intro rfl ?_
  refine shutW 30 (row_sl (g := iC) (l := [(qa : Int)]) (sz := 1) (n := 1) (cp := 1) rfl) ?_ Mono.slF
  refine goW TT_ok ?_
  exact ⟨((some ⟨b30, 0, none⟩, 1), (none, 0)), rfl, fun v _ hF => ⟨hF.2, LR.nil v⟩⟩
 have h2 : qe = 0 := by simpa using h2
 subst h2
 have hin := hci rfl
 refine cnd (fun h3 => ?_) (fun h3 => ?_)
 ·rw [e3 rfl ⟨h3.1, by have h5 : (1 : Int) < (q.length : Int) := h3.2; omega⟩]
  exact ⟨(zr, (none, 0)), by rw [ouV, ouC_ints]; rfl, fun v _ hF => ⟨nslL hF.2, LR.nil v⟩⟩
 rw [e4 rfl (fun hh => by
  rcases h3 with h3 | h3
  ·exact h3 hh.1
  ·exact h3 (by show (1 : Int) < (q.length : Int); have := hh.2; omega))]
 clear e1 e2 e3 e4 h3 hci
 refine nilC 900 28 1 ?_
 refine w_loopF TT_ok (fun z : LpG RwQ => [(10, .v (.int .i64 z.k)), (9, .v (.slice z.a z.n z.c))]) (fun z => [(900, .e (bufE 28 1 (.slice z.a z.n z.c) (z.es.map rwC).flatten)), (4, .c b4 41 (ouC out0 (none, 0) (none, 0))), (2, .c b2 34 (rdyC r a x))])
  (fun z v => SlC 3 1 (flatR nC) v (.slice zr.1 q.length zr.2) q ∧ RwF z.es v) ⟨none, 0, 0, [], 0⟩ (fun z => z.k ≤ q.length ∧ z.n = z.es.length ∧ z.es.map (·.1) = (q.take z.k).map (tellV r row) ∧ ∀ j, j < z.k → badT r row (q.getD j 0) = false) (fun z => q.length - z.k) (fun z => fun _ _ hle hx => ⟨hx.1.monoF hle, rwf_m z.es _ _ hle hx.2⟩) ?_
 refine And.intro ⟨⟨Nat.zero_le _, rfl, rfl, fun j hj => absurd hj (Nat.not_lt_zero j)⟩, gs (fv := fun v hF => ⟨hF.2, fun p hq => absurd hq List.not_mem_nil⟩)⟩ ?_
 rintro ⟨a1, n1, c1, es, k⟩ ⟨hk, hn1, hes, hz⟩
 dsimp only at hk hn1 hes hz ⊢
 refine cnd (fun h1 => ?_) (fun h1 => ?_)
 ·have hkl : k < q.length := by omega
  have hel := es_len hes hk
  have htm := fun g => take_map (f := tellV r row) (γ := AC) (g := g) 0 hes hkl
  have hil := hlt2 _ (getD_mem q k 0 hkl)
  have him := getD_mem q k 0 hkl
  have hkn : badT r row (q.getD k 0) = false → ∀ j, j < k + 1 → badT r row (q.getD j 0) = false := fun h => upto_snoc hz h
  have hts := told_some hz hkl
  have hB : badT r row (q.getD k 0) = decide (tellE r row (q.getD k 0) ≠ 0) := rfl
  refine regPh TT_ok [([0, 2, 3, 8, 11, 1, 4, 9, 5, 10, 6, 7], [12]), ([13, 14, 15, 16, 17], [])] [] ?_
  refine ixf (f := nC) (l := q) (fun v hF => hF.1) k 0 ?_
  obtain ⟨i, hi⟩ : ∃ i, q.getD k 0 = i := ⟨_, rfl⟩
  rw [hi] at htm hil him hkn hts hB ⊢
  have hg := getD_line hb hil
  refine ixL (R := LinR) hr.l i lin0 (fun cs hcs => ?_)
  obtain ⟨ln, hln⟩ : ∃ ln, r.ls.getD i lin0 = ln := ⟨_, rfl⟩
  rw [hln] at hg hcs
  obtain ⟨la, lb, rfl, hlin⟩ := hcs
  refine kq ?_
  refine cA TT_ok (fun w v h1 h2 h3 => c_Rtells r a la lb b row i ln hln hg.2.1 hg.2.2.2 hvb hvs w v h3 (col_m _ _ _ _ h1 hr.t.i) (lin_m _ _ _ _ _ h1 hlin) (hrow.monoF h1)) (fun _ => Mono.slF) (fun zt => ?_)
  refine kq ?_
  refine kq ?_
  have hT : (tlS r row i).2 = tellE r row i := by
   by_cases h9 : tellE r row i = 0
   ·rw [tl_ok h9, h9]
   ·rw [tl_ne h9]
  refine cnd (fun h4 => ?_) (fun h4 => ?_)
  ·have h4 : (tlS r row i).2 ≠ 0 := h4
   rw [hT] at h4
   have ht : tolds r row q (chooseF r.t) = ⟨tellE r row i, [(i : Int)], []⟩ := by
    unfold tolds; rw [hts (by rw [hB]; exact decide_eq_true h4)]
   rw [ht]
   refine ixf (f := nC) (l := q) (fun v hF => hF.1.1) k 0 ?_
   rw [hi, hT]
   intro b73
   refine And.intro rfl ?_
   refine shutW 73 (row_sl (g := iC) (l := [(i : Int)]) (sz := 1) (n := 1) (cp := 1) rfl) ?_ Mono.slF
   refine goW TT_ok ?_
   exact ⟨((some ⟨b73, 0, none⟩, 1), (none, 0)), rfl, fun v _ hF => ⟨hF.2, LR.nil v⟩⟩
  ·have h4 : (tlS r row i).2 = 0 := by simpa using h4
   rw [hT] at h4
   rw [tl_ok h4]
   intro b77
   refine ap TT_ok 900 (AppT.of (bytes := 24) (sz := 0) (by kernel_rfl) (by kernel_rfl) (by kernel_rfl)) rfl rfl rfl rfl rfl rfl rfl (by rw [row_flat (sz := 1) (fun _ => rfl)]; show (_ + 1) * 25 ≤ _; omega) (fun a3 n3 c3 e3 => ?_)
   have hn3 : n3 = (es ++ [(tellV r row i, zt.1, zt.2)]).length := by
    rw [row_flat (sz := 1) (fun _ => rfl)] at e3
    have e3 : n3 * 1 = es.length * 1 + 1 := e3
    rw [List.length_append]; show n3 = es.length + 1; omega
   have efl : ((es ++ [(tellV r row i, zt.1, zt.2)]).map rwC).flatten = (es.map rwC).flatten ++ [.slice zt.1 (tellV r row i).length zt.2] := by rw [List.map_append, List.flatten_append]; rfl
   refine wi ?_
   exact ⟨⟨a3, n3, c3, es ++ [(tellV r row i, zt.1, zt.2)], k + 1⟩, ⟨⟨hkl, hn3, htm (zt.1, zt.2), hkn (by rw [hB, h4]; rfl)⟩, by show q.length - (k + 1) < q.length - k; omega⟩, gs rfl (by rw [efl]; rfl) (fun v hF => ⟨hF.1.1, rwf_snoc hF.1.2 hF.2⟩)⟩
 ·obtain rfl : k = q.length := by omega
  rw [List.take_length] at hes
  have hfind : q.find? (badT r row) = none := told_none hz
  have hgood : ∀ i ∈ q, tellE r row i = 0 := fun i hi => by
   have := List.find?_eq_none.1 hfind i hi
   unfold badT at this
   simpa using this
  have ht : tolds r row q (chooseF r.t) = chooseF r.t q (q.map (tellV r row)) := by
   unfold tolds; rw [hfind]
  rw [ht]
  have hln : n1 = (q.map (tellV r row)).length := by rw [← hes, hn1, List.length_map]
  have hle2 : (q.map (tellV r row)).length = q.length := List.length_map _
  refine And.intro rfl ?_
  refine sealW (g := rwC) (l := es) 900 rfl hn1 ?_
  refine goW TT_ok ?_
  subst hln
  have hLR : ∀ v : View, (SlC 3 1 (flatR nC) v (.slice zr.1 q.length zr.2) q ∧ RwF es v) ∧ SlC 28 1 (flatR rwC) v (.slice a1 (q.map (tellV r row)).length c1) es → LR 28 1 RwR v a1 c1 (q.map (tellV r row)) := fun v hF => by
   rw [← hes]
   exact LR.of_rows (R := RwR) (g := fun q : RwQ => q.1) (d := rw0) hF.2 hn1 (fun p hp => ⟨p.2, rfl, hF.1.2 p hp⟩)
  have hro := row_lenF hp (row := row) hlt2
  have hbd := row_bd hr hin hvb hlt2
  have hok := fun i hi => tell_okV hr hin hvb (hlt2 i hi)
  have ho0 := hp.o0
  refine cnd (fun h4 => ?_) (fun h4 => ?_)
  ·have h5 : r.t.pol = 5 := h4.1
   have hag : r.t.agg ≠ 0 := h4.2
   obtain ⟨g1, g2⟩ := pol_agg hp.p hag
   rw [chF_coll h5]
   have hok1 : ∀ p ∈ q.map (tellV r row), okV (p.getD 0 v0) := fun p hpm => by
    have hl := hro p hpm
    obtain ⟨i, hi, rfl⟩ := List.mem_map.1 hpm
    exact hok i hi _ (getD_mem _ 0 v0 (by omega))
   have hty : r.t.agg = 1 → ∀ p ∈ q.map (tellV r row), (p.getD 0 v0).k ≠ 0 → p.getD 0 v0 = ⟨1, (p.getD 0 v0).n, []⟩ := fun hq p hpm hne => by
    have hok := hok1 p hpm
    obtain ⟨i, hi, rfl⟩ := List.mem_map.1 hpm
    have := tell_kind hkk hin (hlt2 i hi) (hgood i hi) (k := 0) (by omega)
    rw [g2 hq] at this
    exact okV_1 hok (by rcases this with e | e; exact e; exact absurd e hne)
   refine cA TT_ok (fun w v h1 h2 h3 => c_Rmade r.t.agg g1 q (q.map (tellV r row)) zr (a1, c1) (by omega) (fun p hpm => by rw [hro p hpm]; exact ho0) hbd (fun p hpm h0 => okV_0 (hok1 p hpm) h0) hty w v h3 h2.1.1 (hLR v h2)) (fun z => out_m _ _ _) (fun z => ?_)
   exact ⟨z, rfl, fun v _ hF => hF.2⟩
  refine cnd (fun h6 => ?_) (fun h6 => ?_)
  ·have hq : q = [] := List.eq_nil_of_length_eq_zero (by omega)
   subst hq
   rw [List.map_nil, chooseF_nil _ (fun hh => by
    rcases h4 with h4 | h4
    ·exact h4 hh.1
    ·exact hh.2 (by simpa using h4))]
   exact ⟨((none, 0), (none, 0)), rfl, fun v _ _ => ⟨SlC.nil (by simp [maxLen]), LR.nil v⟩⟩
  refine cnd (fun h5 => ?_) (fun h5 => ?_)
  ·have h5 : r.t.pol = 5 := h5
   have hag : r.t.agg = 0 := by
    rcases h4 with h4 | h4
    ·exact absurd h5 h4
    ·simpa using h4
   rw [chF_coll h5, hag, show collF 0 q (q.map (tellV r row)) = ⟨0, ints q, sortR (q.map (tellV r row))⟩ from rfl]
   refine cA TT_ok (fun w v h1 h2 h3 => c_Rsorted (q.map (tellV r row)) (a1, c1) r.t.outs.length (by omega) hro w v h3 (hLR v h2)) (fun z => LR.m (R := RwR) rwR_m z _) (fun z => ?_)
   exact ⟨(zr, z), by rw [ouV, ouC_ints]; rfl, fun v _ hF => ⟨nslL hF.1.1.1, hF.2⟩⟩
  have h5 : r.t.pol ≠ 5 := h5
  refine cnd (fun h7 => ?_) (fun h7 => ?_)
  ·rw [chF_all h7]
   exact ⟨(zr, (a1, c1)), by rw [ouV, ouC_ints]; rfl, fun v _ hF => ⟨nslL hF.1.1, hLR v hF⟩⟩
  have h7 : r.t.pol ≠ 6 := h7
  rw [chF_one h5 h7]
  refine cA TT_ok (fun w v h1 h2 h3 => c_RoneR r.t a zr (a1, c1) q (q.map (tellV r row)) (by omega) hle2.symm hro w v h3 (col_m _ _ _ _ h1 hr.t.o) h2.1.1 (hLR v h2)) (fun z => out_m _ _ _) (fun z => ?_)
  exact ⟨z, rfl, fun v _ hF => hF.2⟩
end Go.Proofs.YtkkbnjomcgnkpaaGreat
set_option maxRecDepth 100000
namespace Go.Proofs.YtkkbnjomcgnkpaaGreat
open Go Go.Dx Go.RowKit
theorem c_RSameNat (l : List Nat) (a b : AC) (w0 : World) (h0 : View) (hv : VLe h0 (Full w0)) (hl : SlC 3 1 (flatR nC) h0 (.slice a.1 l.length a.2) l) (hm : SlC 3 1 (flatR nC) h0 (.slice b.1 l.length b.2) l) :
  Calls Tryz.prog 17 #[.slice a.1 l.length a.2, .slice b.1 l.length b.2] w0 (Ret w0 h0 fun u _ => u = .bool true) := by
 have := c_RSameInts (ints l) (ints l) a b w0 h0 hv (nslL hl) (nslL hm)
 rw [ints_len, decide_eq_true rfl] at this
 exact this
set_option maxHeartbeats 8000000 in
theorem c_HitDecides (t : Tab) (a : TA) (ad : Option Addr) (cap : Nat) (row : List Val) (w0 : World) (h0 : View) (hv : VLe h0 (Full w0)) (hc : TabH h0 t a) (hrow : SlC 57 3 (flatR valC) h0 (.slice ad row.length cap) row) (hvv : ∀ v ∈ row, valB v ∧ v.s.length ≤ 9223372036854775807) :
  Calls Tryz.prog 3 #[.agg (tabC t a).toArray, .slice ad row.length cap] w0 (Ret w0 h0 fun u _ => u = .bool true) := by
 have hvb : ∀ v ∈ row, valB v := fun v hv => (hvv v hv).1
 have hvs : ∀ v ∈ row, v.s.length ≤ 9223372036854775807 := fun v hv => (hvv v hv).2
 refine ent (args := [.agg (tabC t a).toArray, .slice ad row.length cap]) TT_ok [] [] Tryz.func3 rfl Tryz.ntmps3 rfl rfl hv ?_
 intro b2
 refine cb (fun w hw => c_TSmall t a w h0 hw hc) ?_
 refine cbg (fun _ w hw => c_RowFew ad cap row w h0 hw hrow) ?_
 refine cnd (fun h => ?_) (fun h => ?_)
 ·refine cb (fun w hw => c_lives20 w h0 hw) ?_
  exact rfl
 have hsm : smallT t = true := by simpa using h.1
 have htb := small_tabB hsm
 clear h hsm
 by_cases he : makeE t = 0
 ·refine cA TT_ok (fun w v h1 h2 h3 => c_MakeK (r := makeV t) he rfl a htb w v h3 (tab_m _ _ _ _ h1 hc)) (fun z => rdy_m _ _ _) (fun z1 => ?_)
  intro b5
  refine cnd (fun h => absurd rfl h) (fun _ => ?_)
  have hb := make_rdyB he
  have hp := make_rdyP he
  have hkk := make_rdyK he
  generalize makeV t = r at hb hp hkk ⊢
  obtain ⟨d, hd⟩ : ∃ d, decS (chooseF r.t) r row = d := ⟨_, rfl⟩
  obtain ⟨q, hq⟩ : ∃ q, rulesR r row = q := ⟨_, rfl⟩
  obtain ⟨ie, hie⟩ : ∃ i, inputE r row = i := ⟨_, rfl⟩
  refine cA TT_ok (fun w v h1 h2 h3 => c_HDecideF r a z1 (ad, cap) row hb hp hvb hd w v h3 h2.2 (hrow.monoF h1)) (fun z => out_m _ _ _) (fun o1 => ?_)
  intro b9
  have hRD := c_RDecide r a z1 (ad, cap) row hb hp hkk hvb hvs
  rw [hd] at hRD
  refine cA TT_ok (fun w v h1 h2 h3 => hRD w v h3 h2.1.2 (hrow.monoF h1)) (fun z => out_m _ _ _) (fun o2 => ?_)
  intro b11
  have hHR := c_HRules r a z1 (ad, cap) row hb hvb
  rw [hq] at hHR
  refine cA TT_ok (fun w v h1 h2 h3 => hHR w v h3 h2.1.1.2 (hrow.monoF h1)) (fun _ => Mono.slF) (fun y1 => ?_)
  have hRR := c_RRules r a z1 (ad, cap) row hb hvb hvs
  rw [hq] at hRR
  refine cA TT_ok (fun w v h1 h2 h3 => hRR w v h3 h2.1.1.1.2 (hrow.monoF h1)) (fun _ => Mono.slF) (fun y2 => ?_)
  refine And.intro (by kernel_rfl) ?_
  refine cf (fun w v h1 h2 h3 => c_RSame20T d.1 d.1 rfl o1.1 o1.2 o2.1 o2.2 w v h3 h2.1.1.1.2 h2.1.1.2) ?_
  refine cfg (fun _ w v h1 h2 h3 => c_RSameNat q.1 y1 y2 w v h3 h2.1.2 h2.2) ?_
  refine cfg (fun _ w v h1 h2 h3 => c_Input r a z1 (ad, cap) row hvb w v h3 h2.1.1.1.1.2 (hrow.monoF h1)) ?_
  refine cfg (fun _ w v h1 h2 h3 => c_RInput r a z1 (ad, cap) row hvs w v h3 h2.1.1.1.1.2 (hrow.monoF h1)) ?_
  refine cbg (fun _ w hw => c_lives20 w h0 hw) ?_
  rw [hie]
  refine congrArg Value.bool ?_
  simp
 ·refine cA TT_ok (fun w v h1 h2 h3 => c_MakeN (t := t) rfl he a htb w v h3 (tab_m _ _ _ _ h1 hc)) (fun _ => Mono.tru) (fun z1 => ?_)
  intro b5
  refine cnd (fun _ => ?_) (fun h => ?_)
  ·refine cb (fun w hw => c_lives20 w h0 hw) ?_
   exact rfl
  ·exact absurd he (by simpa using h)
end Go.Proofs.YtkkbnjomcgnkpaaGreat
