/- Laws of walks, and what functions of the program compute: part 5. Each with the conditions that it names. -/
import Derived.LaidSub
import Derived.Test.YtkjhlfleojcgjaaGreatDoorCtPd
set_option linter.unusedSimpArgs false
set_option linter.unusedVariables false
set_option maxRecDepth 100000
namespace Go.Proofs.YtkjhlfleojcgjaaGreatDoor
open Go Go.Dx Go.RowKit
abbrev AA := (Option Addr × Nat) × (Option Addr × Nat)
def tsC (q : Tst × AA) : List Value := tstC q.1 q.2.1.1 q.2.1.2 q.2.2.1 q.2.2.2
def rowT (es : List (Tst × AA)) (i : Nat) : List Value := tsC (es.getD i (tst0, (none, 0), (none, 0)))
theorem rowT_map (es : List (Tst × AA)) : (List.range es.length).map (rowT es) = es.map tsC := by
  refine List.ext_getElem (by simp) fun i h1 h2 => ?_
  have h3 : i < es.length := by simpa using h1
  simp [rowT, List.getD, h3]
theorem flatTs (es : List (Tst × AA)) : (es.map tsC).flatten.length = es.length * 15 := by
  induction es with
  | nil => rfl
  | cons v l ih => rw [List.map_cons, List.flatten_cons, List.length_append, ih, List.length_cons]; show 15 + _ = _; omega
def TXL (h : View) (es : List (Tst × AA)) : Prop := ∀ q ∈ es, TX h q.1 q.2
theorem txl_m (es : List (Tst × AA)) : Mono fun h => TXL h es := fun _ _ hle hx q hq => tx_m q.2 q.1 _ _ hle (hx q hq)
theorem txl_snoc {h : View} {es : List (Tst × AA)} {t : Tst} {x : AA} (h1 : TXL h es) (h2 : TX h t x) : TXL h (es ++ [(t, x)]) := by
  intro q hq
  rcases List.mem_append.1 hq with hq | hq
  · exact h1 q hq
  · have : q = (t, x) := by simpa using hq
    subst this; exact h2
theorem rowT_tl {h : View} {ad : Option Addr} {cap : Nat} {es : List (Tst × AA)} {n : Nat} (hn : n = es.length) (hs : SlC 52 15 (flatR (rowT es)) h (.slice ad n cap) (List.range es.length)) (hx : TXL h es) (hd : ∀ q ∈ es, ndTs q.1) : TL h ad cap (es.map (·.1)) := by
  subst hn
  refine ⟨rowT es, by simpa using hs, fun i t hi => ?_⟩
  rw [List.getElem?_map] at hi
  cases he : es[i]? with
  | none => rw [he] at hi; cases hi
  | some p =>
    rw [he] at hi
    cases hi
    have hm : p ∈ es := List.mem_of_getElem? he
    have e : es.getD i (tst0, (none, 0), (none, 0)) = p := by simp [List.getD, he]
    obtain ⟨g1, g2⟩ := hx p hm
    obtain ⟨d1, d2, d3⟩ := hd p hm
    exact ⟨p.2.1.1, p.2.1.2, p.2.2.1, p.2.2.2, by rw [rowT, e]; rfl, ⟨g1, d1⟩, ⟨g2, d2⟩, d3⟩
structure LpC where
  a : Option Addr
  n : Nat
  c : Nat
  es : List (Tst × AA)
  p : CSt
  f : Nat
theorem tests_snoc {A : List Tst} {l : List Tok} {n : Nat} {p : CSt} {R : List Tst × CSt} (h : (A ++ (testsC l (n + 1) p).1, (testsC l (n + 1) p).2) = R) :
    (onS l (testC l p).2.1 (testC l p).2.2 4 [44] = true → ((A ++ [(testC l p).1]) ++ (testsC l n ((testC l p).2.1 + 1, (testC l p).2.2)).1, (testsC l n ((testC l p).2.1 + 1, (testC l p).2.2)).2) = R) ∧
    (onS l (testC l p).2.1 (testC l p).2.2 4 [44] = false → (A ++ [(testC l p).1], (testC l p).2) = R) := by
  rw [testsC] at h
  constructor
  · intro ho
    rw [if_pos ho] at h
    rw [← h]; simp
  · intro ho
    rw [if_neg (by rw [ho]; decide)] at h
    rw [← h]
section cr
variable {b : Nat} {ad : Option Addr} {cap : Nat} {l : List Tok}
set_option maxHeartbeats 2000000 in
theorem c_Ccell (hT : TokN l) (hTs : ∀ t ∈ l, t.s.length ≤ 1000000) (hn : l.length ≤ 999999) (w0 : World) (h0 : View) (hv : VLe h0 (Full w0)) (hno : h0 b = none) (hl : SlC 84 4 (flatR tokC) h0 (.slice ad l.length cap) l)
    (hbl : w0.heap[b]? = some (.cells (rdC ad l.length cap ((0 : Nat) : Int) false).toArray 79 (0, 0))) :
    Calls Tryz.prog 34 #[.pointer (some ⟨b, 0, none⟩)] w0 (RetV [b] w0 h0 fun u w' hh => ∃ x : Option Addr × Nat, u = .agg (celC ⟨false, negC l, (cellC l).1⟩ x.1 x.2).toArray ∧ w'.heap[b]? = some (.cells (rdC ad l.length cap ((endC l).1 : Nat) (endC l).2).toArray 79 (0, 0)) ∧ TL hh x.1 x.2 (cellC l).1) := by
  have hneg : negC l = true → 2 ≤ l.length := fun h => by
    simp only [negC, Bool.and_eq_true, decide_eq_true_eq] at h; omega
  have hnd := tests_nd hT (l := l) (l.length + 1) (if negC l = true then 2 else 0, false)
  have hce : (([] : List Tst) ++ (testsC l (l.length + 1) (if negC l = true then 2 else 0, false)).1, (testsC l (l.length + 1) (if negC l = true then 2 else 0, false)).2) = cellC l := rfl
  have hcl : ∀ t ∈ (cellC l).1, ndTs t := hnd
  have hee : endC l = if negC l = true then mustC l (cellC l).2 [41] else (cellC l).2 := rfl
  have hcg := cell_ge (l := l)
  generalize endC l = E at hee ⊢
  generalize cellC l = R at hce hcl hee hcg ⊢
  refine entW (args := [.pointer (some ⟨b, 0, none⟩)]) TT_ok [1000005, 27] [5] [.o 900 0] Tryz.func34 rfl Tryz.ntmps34 rfl rfl hv hbl hno rfl (fun x => tl_m x _) ?_
  intro b2 b3
  refine w_cutB TT_ok (fun _ : Nat => []) (fun i0 => [(3, .c b3 25 (celC ⟨false, negC l, []⟩ none 0)), (2, .c b2 25 (celC cel0 none 0)), (900, .c b 79 (rdC ad l.length cap (i0 : Int) false))]) (fun i0 => i0 = if negC l = true then 2 else 0) ?_
  refine And.intro ?_ ?_
  · refine cb (fun w hw => c_Cnot w h0 hw hl) ?_
    refine cnd (fun h => ?_) (fun h => ?_)
    · have h : negC l = true := h
      exact ⟨2, by rw [if_pos h], gs⟩
    · have h : negC l = false := by simpa using h
      exact ⟨0, by rw [if_neg (by rw [h]; decide)], gs⟩
  intro i0 hi0
  have h2l : (if negC l = true then 2 else 0) ≤ l.length := by
    split
    · rename_i h; exact hneg h
    · exact Nat.zero_le _
  rw [← hi0] at h2l hce
  refine nilC 901 52 15 ?_
  refine w_loopF TT_ok (fun _ => []) (fun z : LpC => [(901, .e (bufE 52 15 (.slice z.a z.n z.c) (z.es.map tsC).flatten)), (3, .c b3 25 [.bool false, .bool (negC l), .slice z.a z.n z.c]), (2, .c b2 25 (celC cel0 none 0)), (900, .c b 79 (rdC ad l.length cap ((z.p.1 : Nat) : Int) z.p.2))])
    (fun z h => TXL h z.es) ⟨none, 0, 0, [], (i0, false), l.length + 1⟩ (fun z => z.n = z.es.length ∧ z.es.length ≤ z.p.1 ∧ z.p.1 ≤ l.length ∧ l.length - z.p.1 < z.f ∧ (z.es.map (·.1) ++ (testsC l z.f z.p).1, (testsC l z.f z.p).2) = R) (fun z => l.length - z.p.1) (fun z => txl_m _) ?_
  refine And.intro ⟨⟨rfl, Nat.zero_le _, h2l, by show l.length - i0 < l.length + 1; omega, hce⟩, gs (fv := fun v _ q hq => absurd hq List.not_mem_nil)⟩ ?_
  rintro ⟨a1, n1, c1, es, p, f⟩ ⟨hn1, hle, hpl, hf, hR⟩
  dsimp only at hn1 hle hpl hf hR ⊢
  obtain ⟨f, rfl⟩ : ∃ g, f = g + 1 := ⟨f - 1, by omega⟩
  obtain ⟨hgo, hend⟩ := tests_snoc hR
  have tg := test_ge (l := l) hpl
  refine regQ TT_ok [0, 1, 2] [3, 4, 5, 6, 7] [900, 901] true ?_
  refine cV TT_ok 900 (fun w v h1 h2 h3 h4 h5 => c_Ctest hT hTs hn p hpl w v h3 h4 (Mono.slF _ _ h1 hl) h5) (fun x => tx_m x _) (fun x1 => ?_)
  generalize testC l p = r at hgo hend tg ⊢
  refine kq ?_
  intro b21
  refine kq ?_
  refine ap TT_ok 901 (AppT.of (bytes := 176) (sz := 14) (by kernel_rfl) (by kernel_rfl) (by kernel_rfl)) rfl rfl rfl rfl rfl rfl rfl (by rw [flatTs]; show (_ + 15) * 177 ≤ _; omega) (fun a2 n2 c2 e2 => ?_)
  have hn2 : n2 = (es ++ [(r.1, x1)]).length := by
    rw [flatTs] at e2
    have e2 : n2 * 15 = es.length * 15 + 15 := e2
    rw [List.length_append]; show n2 = es.length + 1; omega
  refine kq ?_
  refine kq ?_
  refine cM TT_ok 900 (fun w v h1 h2 h3 h4 h5 => c_Con b ad cap l r.2.1 r.2.2 [44] (by decide) (by have := tg.2; omega) w v h3 h4 (Mono.slF _ _ h1 hl) h5) ?_
  have ecs : (es ++ [(r.1, x1)]).map tsC = es.map tsC ++ [tsC (r.1, x1)] := by simp
  have efl : ((es ++ [(r.1, x1)]).map tsC).flatten = (es.map tsC).flatten ++ (tstC r.1 x1.1.1 x1.1.2 x1.2.1 x1.2.2 ++ []) := by rw [ecs, List.flatten_append]; rfl
  have emp : (es ++ [(r.1, x1)]).map (·.1) = es.map (·.1) ++ [r.1] := by simp
  refine cnd (fun h => ?_) (fun h => ?_)
  · have h : onS l r.2.1 r.2.2 4 [44] = false := by simpa using h
    have hr := hend h
    rw [h, if_neg (by decide)]
    rw [← efl, ← rowT_map]
    have hx' : ∀ v, TXL v es ∧ TX v r.1 x1 → TXL v (es ++ [(r.1, x1)]) := fun v hF => txl_snoc hF.1 hF.2
    rw [← emp] at hr
    clear hgo hend efl ecs emp hR
    generalize es ++ [(r.1, x1)] = es' at hn2 hr hx'
    have hR1 : R.1.length = n2 := by rw [← hr, hn2]; simp
    have hd : ∀ q ∈ es', ndTs q.1 := fun q hq => hcl q.1 (by rw [← hr]; exact List.mem_map.2 ⟨q, hq, rfl⟩)
    have htl : ∀ v, (TXL v es ∧ TX v r.1 x1) ∧ SlC 52 15 (flatR (rowT es')) v (.slice a2 n2 c2) (List.range es'.length) → TL v a2 c2 R.1 := fun v hF => by
      have := rowT_tl hn2 hF.2 (hx' v hF.1) hd
      rw [← hr]; exact this
    have ec : celC ⟨false, negC l, R.1⟩ a2 c2 = [.bool false, .bool (negC l), .slice a2 n2 c2] := by unfold celC; rw [hR1]
    have hr2 : r.2 = R.2 := by rw [← hr]
    refine And.intro rfl ?_
    refine sealWM (g := rowT es') (l := List.range es'.length) 901 900 rfl (by simp [hn2]) ?_
    refine goW TT_ok ?_
    refine cnd (fun h3 => ?_) (fun h3 => ?_)
    · have h3 : negC l = true := h3
      rw [if_pos h3, ← hr2] at hee
      refine cM TT_ok 900 (fun w v h1 h2 h3 h4 h5 => c_Cmust b ad cap l r.2 [41] (by decide) (by have := tg.2; omega) w v h3 h4 (Mono.slF _ _ h1 hl) h5) ?_
      rw [← hee]
      refine ⟨(a2, c2), ?_, rfl, fun v _ hF => htl v hF⟩
      show _ = Value.agg (celC ⟨false, negC l, R.1⟩ a2 c2).toArray
      rw [ec]; rfl
    · have h3 : negC l = false := by simpa using h3
      rw [if_neg (by rw [h3]; decide), ← hr2] at hee
      rw [hee]
      refine ⟨(a2, c2), ?_, rfl, fun v _ hF => htl v hF⟩
      show _ = Value.agg (celC ⟨false, negC l, R.1⟩ a2 c2).toArray
      rw [ec]; rfl
  · have h : onS l r.2.1 r.2.2 4 [44] = true := by simpa using h
    have hlt := (on_lt h (by decide)).1
    rw [h, if_pos rfl]
    have hr := hgo h
    refine ⟨⟨a2, n2, c2, es ++ [(r.1, x1)], (r.2.1 + 1, r.2.2), f⟩, ⟨⟨hn2, ?_, hlt, ?_, by show ((es ++ [(r.1, x1)]).map (·.1) ++ _, _) = R; rw [emp]; exact hr⟩, ?_⟩, gs rfl (by rw [efl]; rfl) (fun v hF => txl_snoc hF.1 hF.2)⟩
    · rw [List.length_append]; show es.length + 1 ≤ r.2.1 + 1; omega
    · show l.length - (r.2.1 + 1) < f; omega
    · show l.length - (r.2.1 + 1) < l.length - p.1; omega
end cr
theorem tl_nil (h : View) : TL h none 0 [] := ⟨fun _ => [], SlC.nil (by simp [maxLen]), fun i t hi => by simp at hi⟩
def cpV (r : Cel × Int × Int) (x : Option Addr × Nat) : Value := .tuple #[.agg (celC r.1 x.1 x.2).toArray, .int .i64 r.2.1, .int .i64 r.2.2]
theorem sm0 : SmX ex0 := ⟨1, by decide⟩
theorem ok_gt {t : Tst} (h : okTs t) (hd : dpTs t) : GT t := ⟨smx_right h.1, by
  rcases h.2 with h | h
  · exact smx_right h
  · rw [h]; exact sm0, hd⟩
set_option maxHeartbeats 2000000 in
theorem c_CParse (s : List UInt8) (w0 : World) (h0 : View) (hv : VLe h0 (Full w0)) :
    Calls Tryz.prog 11 #[vs s] w0 (Ret w0 h0 fun u hh => ∃ x : Option Addr × Nat, u = cpV (parseC s) x ∧ TL hh x.1 x.2 (parseC s).1.ts) := by
  obtain ⟨hT, hTs, hn, _⟩ := lex_facts s
  obtain ⟨hR, hn2, hP⟩ := lex_facts2 s
  have hpc : parseC s = if (lexS s).2.2 ≠ 0 then (cel0, (lexS s).2.1, (lexS s).2.2)
      else if (lexS s).1.length = 1 ∧ onS (lexS s).1 0 false 4 [45] = true then (⟨true, false, []⟩, 0, 0)
      else if (endC (lexS s).1).1 < (lexS s).1.length then (cel0, ((lexS s).1.getD (endC (lexS s).1).1 t0).p, 11)
      else if (endC (lexS s).1).2 = true then (cel0, s.length, 11)
      else if 12 < (cellC (lexS s).1).1.length then (cel0, 0, 24)
      else if rightC ⟨false, negC (lexS s).1, (cellC (lexS s).1).1⟩ = true then (⟨false, negC (lexS s).1, (cellC (lexS s).1).1⟩, 0, 0) else (cel0, 0, 12) := rfl
  generalize parseC s = P at hpc ⊢
  refine entA (args := [vs s]) TT_ok [1000009, 4000032] [7] Tryz.func11 rfl Tryz.ntmps11 rfl rfl hv (fun x => tl_m x _) ?_
  intro b2
  refine cA TT_ok (fun w v h1 h2 h3 => c_Lex s w v h3) (fun _ => Mono.slF) (fun x => ?_)
  generalize lexS s = L at hT hTs hn hR hn2 hP hpc ⊢
  obtain ⟨l, at_, e⟩ := L
  dsimp only at hT hTs hn hR hn2 hP hpc ⊢
  refine cnd (fun h => ?_) (fun h => ?_)
  · rw [if_pos h] at hpc
    rw [hpc]
    exact ⟨(none, 0), rfl, fun v _ _ => tl_nil v⟩
  rw [if_neg (fun hh => hh (by simpa using h))] at hpc
  intro b24
  refine w_cutB TT_ok (fun _ : Unit => []) (fun _ => [(24, .c b24 79 (rdC x.1 l.length x.2 ((0 : Nat) : Int) false)), (2, .c b2 25 (celC cel0 none 0))]) (fun _ => ¬ (l.length = 1 ∧ onS l 0 false 4 [45] = true)) ?_
  refine And.intro ?_ ?_
  · refine cnd (fun h1 => ?_) (fun h1 => ?_)
    · refine cMI TT_ok 24 (fun w v h1 h2 h3 h4 h5 => c_cmark b24 x.1 x.2 l 0 false w v h3 h4 h2.2 h5) ?_
      have hm := on_mark l 0 [45] (by decide)
      refine cnd (fun h2 => ?_) (fun h2 => ?_)
      · have h2 : markS l 0 = [45] := by
          have h2 := (show ((l.length : Int) = 1 ∧ markS l 0 = [45]) by simpa using h2)
          exact h2.2
        rw [if_pos ⟨by omega, by rw [hm, decide_eq_true h2]⟩] at hpc
        rw [hpc]
        exact ⟨(none, 0), rfl, fun v _ _ => tl_nil v⟩
      · have h2 : markS l 0 ≠ [45] := by
          have h2 := (show (¬(l.length : Int) = 1 ∨ ¬ markS l 0 = [45]) by simpa using h2)
          exact h2.resolve_left (fun hh => hh h1)
        exact ⟨(), fun hh => by rw [hm, decide_eq_false h2] at hh; exact absurd hh.2 (by decide), gs⟩
    · refine ⟨vs [], ?_⟩
      refine cndF (by simp) ?_
      exact ⟨(), fun hh => h1 (by omega), gs⟩
  intro _ hno
  rw [if_neg hno] at hpc
  refine cV TT_ok 24 (fun w v h1 h2 h3 h4 h5 => c_Ccell hT hTs hn w v h3 h4 h2.2 h5) (fun x => tl_m x _) (fun x1 => ?_)
  intro b9
  have hcg := end_ge (l := l)
  have hok := end_ok (l := l) hR
  have hdp := tests_dp hn2 (l.length + 1) (if negC l = true then 2 else 0, false)
  have hdp : ∀ t ∈ (cellC l).1, dpTs t := hdp
  generalize endC l = E at hpc hcg hok ⊢
  generalize cellC l = R at hpc hok hdp ⊢
  generalize negC l = ng at hpc ⊢
  refine cnd (fun h2 => ?_) (fun h2 => ?_)
  · rw [if_pos (by omega)] at hpc
    rw [hpc]
    refine regPh TT_ok [([0,1,2,3,4,5,6,7,8,9],[10]),([11,12],[])] [2] ?_
    refine ixf (fun v hF => hF.1.2) E.1 t0 ?_ (by omega)
    refine kq ?_
    refine kq ?_
    refine kq ?_
    exact ⟨(none, 0), rfl, fun v _ _ => tl_nil v⟩
  rw [if_neg (by omega)] at hpc
  refine cnd (fun h3 => ?_) (fun h3 => ?_)
  · have h3 : E.2 = true := h3
    rw [if_pos h3] at hpc
    rw [hpc]
    exact ⟨(none, 0), rfl, fun v _ _ => tl_nil v⟩
  have h3 : E.2 = false := by simpa using h3
  rw [if_neg (by rw [h3]; decide)] at hpc
  refine cnd (fun h4 => ?_) (fun h4 => ?_)
  · rw [if_pos (by have h4 : (12 : Int) < (R.1.length : Int) := h4; omega)] at hpc
    rw [hpc]
    exact ⟨(none, 0), rfl, fun v _ _ => tl_nil v⟩
  rw [if_neg (by have h4 : ¬ (12 : Int) < (R.1.length : Int) := h4; omega)] at hpc
  have hg : ∀ t ∈ R.1, GT t := fun t ht => ok_gt (hok h3 t ht) (hdp t ht)
  refine cf (fun w v h1 h2 h3 => c_CCheck ⟨false, ng, R.1⟩ x1.1 x1.2 hg w v h3 h2.2) ?_
  refine cnd (fun h5 => ?_) (fun h5 => ?_)
  · rw [if_neg (fun hh => by rw [if_pos hh] at h5; exact h5 rfl)] at hpc
    rw [hpc]
    exact ⟨(none, 0), rfl, fun v _ _ => tl_nil v⟩
  · rw [if_pos (by
      by_cases hh : rightC ⟨false, ng, R.1⟩ = true
      · exact hh
      · rw [if_neg hh] at h5; exact absurd h5 (by decide))] at hpc
    rw [hpc]
    exact ⟨x1, rfl, fun v _ hF => hF.2⟩
end Go.Proofs.YtkjhlfleojcgjaaGreatDoor
set_option maxRecDepth 100000
namespace Go.Proofs.YtkjhlfleojcgjaaGreatDoor
open Go Go.Dx Go.RowKit
theorem text_len {x : Ex} : (textT x).1.length ≤ 200 := by
  unfold textT
  split
  · exact Nat.zero_le _
  split
  · exact Nat.zero_le _
  split
  · exact Nat.zero_le _
  · rename_i h; show (putS x 0).length ≤ 200; omega
theorem wr_len {x : Ex} : (wrX x).1.length ≤ 202 := by
  have := text_len (x := x)
  unfold wrX
  split
  · simp; omega
  · omega
theorem sg_len (k : Int) : (sgC k).length ≤ 2 := by
  unfold sgC
  split
  · decide
  split
  · decide
  split
  · decide
  split
  · decide
  · decide
theorem txt_len (t : Tst) : (txtT t).1.length ≤ 1000 := by
  have h1 := wr_len (x := t.a)
  have h2 := wr_len (x := t.b)
  have h3 := sg_len t.k
  unfold txtT
  split
  · exact Nat.zero_le _
  split
  · show (wrX t.a).1.length ≤ _; omega
  split
  · show (sgC t.k ++ [32] ++ (wrX t.a).1).length ≤ _
    simp; omega
  split
  · exact Nat.zero_le _
  · show (_ ++ (wrX t.a).1 ++ [46, 46] ++ (wrX t.b).1 ++ _).length ≤ _
    simp only [List.length_append, List.length_cons, List.length_nil]
    split <;> split <;> simp <;> omega
theorem c_Cwrite (x : Ex) (ad : Option Addr) (cap : Nat) (hd : deepS x ≤ 1000000000) (w0 : World) (h0 : View) (hv : VLe h0 (Full w0)) (hx : GX h0 ad cap x) (hp : PowV h0) :
    Calls Tryz.prog 86 #[.agg (exC x.op x.v x.s (.slice ad x.l.length cap)).toArray] w0 (Ret w0 h0 fun u _ => u = tsV (wrX x)) := by
  refine ent (args := [.agg (exC x.op x.v x.s (.slice ad x.l.length cap)).toArray]) TT_ok [] [] Tryz.func86 rfl Tryz.ntmps86 rfl rfl hv ?_
  intro b1
  refine cb (fun w hw => c_Text x ad cap hd w h0 hw hx hp) ?_
  have hl := text_len (x := x)
  unfold wrX
  refine cnd (fun h => ?_) (fun h => ?_)
  · rw [if_pos ⟨h.1, h.2.1, h.2.2⟩]
    refine ct ?_
    refine ct ?_
    exact (congrArg (fun n : Int => Value.tuple #[vs ([40] ++ (textT x).1 ++ [41]), .int .i64 n]) h.1)
  · rw [if_neg (fun hh => by
      rcases h with h | h | h
      · exact h hh.1
      · exact h hh.2.1
      · exact h hh.2.2)]
    exact rfl
theorem c_Ctext (t : Tst) (aa : Option Addr) (ca : Nat) (ab : Option Addr) (cb' : Nat) (hk : 1 ≤ t.k ∧ t.k ≤ 6) (hg : GT t) (w0 : World) (h0 : View) (hv : VLe h0 (Full w0)) (ha : EX h0 aa ca t.a) (hb : EX h0 ab cb' t.b) (hp : PowV h0) :
    Calls Tryz.prog 51 #[.agg (tstC t aa ca ab cb').toArray] w0 (Ret w0 h0 fun u _ => u = tsV (txtT t)) := by
  have la := wr_len (x := t.a)
  have lb := wr_len (x := t.b)
  have ls := sg_len t.k
  refine ent (args := [.agg (tstC t aa ca ab cb').toArray]) TT_ok [] [12] Tryz.func51 rfl Tryz.ntmps51 rfl rfl hv ?_
  intro b1
  refine cb (fun w hw => c_Cwrite t.a aa ca hg.2.2.1 w h0 hw (ha.gx hg.1) hp) ?_
  unfold txtT
  generalize wrX t.a = ra at la ⊢
  obtain ⟨sa, ea⟩ := ra
  dsimp only at la ⊢
  refine cnd (fun h => ?_) (fun h => ?_)
  · have h : ea ≠ 0 := by simpa using h
    rw [if_pos h]; exact rfl
  have h : ea = 0 := by simpa using h
  subst h
  rw [if_neg (fun hh => hh rfl)]
  refine w_cut TT_ok (fun _ : Unit => []) (fun _ => t.k = 6) ?_
  refine And.intro ?_ ?_
  · refine cnd (fun h1 => ?_) (fun h1 => ?_)
    · rw [if_pos h1]; exact rfl
    rw [if_neg h1]
    refine cnd (fun h2 => ?_) (fun h2 => ?_)
    · rw [if_pos (by omega)]
      refine cndT (decide_eq_true h2) ?_
      refine cl (c_Csign t.k) ?_
      refine ct ?_
      refine ct ?_
      exact rfl
    refine cnd (fun h3 => ?_) (fun h3 => ?_)
    · rw [if_pos (by omega)]
      refine cndT (decide_eq_true h3) ?_
      refine cl (c_Csign t.k) ?_
      refine ct ?_
      refine ct ?_
      exact rfl
    refine cnd (fun h4 => ?_) (fun h4 => ?_)
    · rw [if_pos (by omega)]
      refine cndT (decide_eq_true h4) ?_
      refine cl (c_Csign t.k) ?_
      refine ct ?_
      refine ct ?_
      exact rfl
    refine cnd (fun h5 => ?_) (fun h5 => ?_)
    · rw [if_pos (by omega)]
      refine cl (c_Csign t.k) ?_
      refine ct ?_
      refine ct ?_
      exact rfl
    exact ⟨(), by omega, gs⟩
  intro _ h6
  rw [if_neg (by omega), if_neg (by omega)]
  refine cb (fun w hw => c_Cwrite t.b ab cb' hg.2.2.2 w h0 hw (hb.gx hg.2.1) hp) ?_
  generalize wrX t.b = rb at lb ⊢
  obtain ⟨sb, eb⟩ := rb
  dsimp only at lb ⊢
  refine cnd (fun h => ?_) (fun h => ?_)
  · have h : eb ≠ 0 := by simpa using h
    rw [if_pos h]; exact rfl
  have h : eb = 0 := by simpa using h
  subst h
  rw [if_neg (fun hh => hh rfl)]
  refine cnd (fun h1 => ?_) (fun h1 => ?_)
  · have h1 : t.lo = true := h1
    rw [if_pos h1]
    refine cnd (fun h2 => ?_) (fun h2 => ?_)
    · have h2 : t.hi = true := h2
      rw [if_pos h2]
      refine ct ?_
      refine ct ?_
      refine ct ?_
      refine ct ?_
      exact rfl
    · have h2 : t.hi = false := h2
      rw [if_neg (by rw [h2]; decide)]
      refine ct ?_
      refine ct ?_
      refine ct ?_
      refine ct ?_
      exact rfl
  · have h1 : t.lo = false := h1
    rw [if_neg (by rw [h1]; decide)]
    refine cnd (fun h2 => ?_) (fun h2 => ?_)
    · have h2 : t.hi = true := h2
      rw [if_pos h2]
      refine ct ?_
      refine ct ?_
      refine ct ?_
      refine ct ?_
      exact rfl
    · have h2 : t.hi = false := h2
      rw [if_neg (by rw [h2]; decide)]
      refine ct ?_
      refine ct ?_
      refine ct ?_
      refine ct ?_
      exact rfl
theorem c_strJoin (ad : Option Addr) (cap : Nat) (l : List (List UInt8)) (sep : List UInt8) (hl : l.length ≤ 1000000) (hlen : (Lib.join l sep).length ≤ 140737488355328) (w0 : World) (h0 : View) (hv : VLe h0 (Full w0)) (hb : SlC 9 1 (flatR fun s => [vs s]) h0 (.slice ad l.length cap) l) :
    Calls Tryz.prog 52 #[.slice ad l.length cap, vs sep] w0 (Ret w0 h0 fun u _ => u = vs (Lib.join l sep)) := by
  by_cases he : l = []
  · subst he
    exact calls_same (h := h0) (Tryz.strings_Join_none ad cap ⟨sep.toArray⟩ w0)
  · have hpos : 0 < l.length := List.length_pos_iff.2 he
    have el : ∀ j, j < l.length → ad = some ⟨adB ad, adO ad, none⟩ ∧ w0.cell? ⟨adB ad, adO ad + j, none⟩ = some (vs (l.getD j [])) := fun j hj => by
      have := SlC.el (h0 := h0) (F := fun _ => True) (fun v h1 _ => hb.monoF h1) [] hj h0 (VLe.refl _) trivial
      refine ⟨this.1, ?_⟩
      have h2 := this.2 w0 hv 0 (vs (l.getD j [])) rfl
      simpa using h2
    have h0' := el 0 hpos
    obtain ⟨_, _, _, hcap, _⟩ := hb.parts
    have hcap' : l.length ≤ cap := by
      obtain ⟨a, c, hv, h1, h2⟩ := hb.parts
      cases hv; exact h1
    have hx := Tryz.strings_Join (adB ad) (adO ad) cap (l.map fun s => (⟨s.toArray⟩ : ByteArray)) ⟨sep.toArray⟩ w0 (fun j x hj => by
      rw [List.getElem?_map] at hj
      cases hg : l[j]? with
      | none => rw [hg] at hj; cases hj
      | some s =>
        rw [hg] at hj
        cases hj
        have hlt := (List.getElem?_eq_some_iff.1 hg)
        obtain ⟨hlt, hs⟩ := hlt
        have := (el j hlt).2
        rw [getD_lt l j [] hlt, hs] at this
        exact this) (cell_lt h0'.2) (by simp; omega) (by simpa using hcap') (by simpa [List.map_map, Function.comp_def] using hlen)
    rw [List.length_map, ← h0'.1] at hx
    have e : (Lib.join ((l.map fun s => (⟨s.toArray⟩ : ByteArray)).map (·.data.toList)) (⟨sep.toArray⟩ : ByteArray).data.toList) = Lib.join l sep := by simp [List.map_map, Function.comp_def]
    rw [e] at hx
    exact calls_below hx
theorem com_join : ∀ l : List (List UInt8), Lib.join l [44, 32] = comS l
  | [] => rfl
  | [s] => Lib.join_one _ _
  | s :: u :: l => by
    have ih := com_join (u :: l)
    rw [comS, ← ih, Lib.join_cons, Lib.join_cons]
    simp [Lib.joinTail]
theorem com_len : ∀ {l : List (List UInt8)}, (∀ s ∈ l, s.length ≤ 1000) → (comS l).length ≤ 1002 * l.length
  | [], _ => by simp [comS]
  | [s], h => by have := h s (by simp); show s.length ≤ _; simp; omega
  | s :: u :: l, h => by
    have h1 := h s (by simp)
    have ih := com_len (l := u :: l) (fun x hx => h x (List.mem_cons_of_mem _ hx))
    rw [comS]
    simp only [List.length_append, List.length_cons, List.length_nil] at ih ⊢
    omega
theorem txtL_er : ∀ {l : List Tst} {k : Nat}, k < l.length → (∀ j, j < k → (txtT (l.getD j tst0)).2 = 0) → (txtT (l.getD k tst0)).2 ≠ 0 → (txtL l).2 = (txtT (l.getD k tst0)).2
  | [], _, h, _, _ => by simp at h
  | x :: l, 0, _, _, h => by
    have h : (txtT x).2 ≠ 0 := by simpa using h
    rw [txtL, if_pos h]; rfl
  | x :: l, k + 1, hk, hj, h => by
    have h0 : (txtT x).2 = 0 := by simpa using hj 0 (Nat.succ_pos _)
    have ih := txtL_er (l := l) (k := k) (by simpa using hk) (fun j hjk => by simpa using hj (j + 1) (by omega)) (by simpa using h)
    have h : (txtT (l.getD k tst0)).2 ≠ 0 := by simpa using h
    rw [txtL, if_neg (fun hh => hh h0), if_pos (by rw [ih]; exact h), ih]
    simp
theorem txtL_ok : ∀ {l : List Tst}, (∀ j, j < l.length → (txtT (l.getD j tst0)).2 = 0) → txtL l = (l.map fun t => (txtT t).1, 0)
  | [], _ => rfl
  | x :: l, h => by
    have h0 : (txtT x).2 = 0 := by simpa using h 0 (by simp)
    rw [txtL, if_neg (fun hh => hh h0), txtL_ok (l := l) (fun j hj => by simpa using h (j + 1) (by simpa using hj)), if_neg (fun hh => hh rfl)]
    rfl
theorem fl1c (l : List (List UInt8)) : (l.map fun s => [vs s]).flatten.length = l.length := by
  induction l with
  | nil => rfl
  | cons s l ih => rw [List.map_cons, List.flatten_cons, List.length_append, ih]; show 1 + l.length = l.length + 1; omega
set_option maxHeartbeats 2000000 in
theorem c_CText (c : Cel) (ad : Option Addr) (cap : Nat) (hg : ∀ t ∈ c.ts, GT t) (w0 : World) (h0 : View) (hv : VLe h0 (Full w0)) (hx : TL h0 ad cap c.ts) (hp : PowV h0) :
    Calls Tryz.prog 20 #[.agg (celC c ad cap).toArray] w0 (Ret w0 h0 fun u _ => u = tsV (textC c)) := by
  have hlm := hx.lm
  refine ent (args := [.agg (celC c ad cap).toArray]) TT_ok [38] [] Tryz.func20 rfl Tryz.ntmps20 rfl rfl hv ?_
  intro b1
  refine cb (fun w hw => c_CCheck c ad cap hg w h0 hw hx) ?_
  have hte : textC c = if rightC c = false then ([], 2) else if c.any = true then ([45], 0) else if (txtL c.ts).2 ≠ 0 then ([], (txtL c.ts).2) else if 200 < (bodyC c).length then ([], 5) else (bodyC c, 0) := rfl
  generalize textC c = R at hte ⊢
  refine cnd (fun h => ?_) (fun h => ?_)
  · by_cases hm : rightC c = true
    · rw [if_pos hm] at h; exact absurd rfl h
    · have e2 : (if rightC c = true then (0 : Int) else 2) = 2 := if_neg hm
      rw [if_pos (by simpa using hm)] at hte
      rw [hte, e2]; exact rfl
  have hr : rightC c = true := by
    split at h
    · assumption
    · exact absurd h (by decide)
  rw [if_neg (by rw [hr]; decide)] at hte
  refine cnd (fun h1 => ?_) (fun h1 => ?_)
  · have h1 : c.any = true := h1
    rw [if_pos h1] at hte
    rw [hte]; exact rfl
  have h1 : c.any = false := h1
  rw [if_neg (by rw [h1]; decide)] at hte
  have h12 : c.ts.length ≤ 12 := by
    rw [rightC, if_neg (by rw [h1]; decide)] at hr
    simp only [Bool.and_eq_true, decide_eq_true_eq] at hr
    exact hr.1.2
  have hso := right_sound hr
  have hbo : bodyC c = if c.neg = true then [110, 111, 116, 40] ++ comS (txtL c.ts).1 ++ [41] else comS (txtL c.ts).1 := rfl
  generalize bodyC c = BC at hte hbo
  refine nilC 900 9 1 ?_
  refine w_loopB TT_ok (fun x : Option Addr × Nat × Nat × Nat => [(5, .v (.slice x.1 x.2.1 x.2.2.1)), (21, .v (.int .i64 x.2.2.2))]) (fun x => [(900, .e (bufE 9 1 (.slice x.1 x.2.1 x.2.2.1) (((c.ts.take x.2.2.2).map fun t => (txtT t).1).map fun s => [vs s]).flatten)), (1, .c b1 25 (celC c ad cap))]) (none, 0, 0, 0)
    (fun x => x.2.2.2 ≤ c.ts.length ∧ x.2.1 = x.2.2.2 ∧ ∀ j, j < x.2.2.2 → (txtT (c.ts.getD j tst0)).2 = 0) (fun x => c.ts.length - x.2.2.2) ?_
  refine And.intro ⟨⟨Nat.zero_le _, rfl, fun j h => absurd h (Nat.not_lt_zero _)⟩, gs⟩ ?_
  rintro ⟨a0, nn, cp, k⟩ ⟨hk, hnk, hz⟩
  dsimp only at hk hnk hz ⊢
  subst hnk
  refine cnd (fun h3 => ?_) (fun h3 => ?_)
  · have hk' : nn < c.ts.length := by omega
    have hmem := getT_mem c.ts nn hk'
    have her := txtL_er (l := c.ts) (k := nn) hk' hz
    have hz' : (txtT (c.ts.getD nn tst0)).2 = 0 → ∀ j, j < nn + 1 → (txtT (c.ts.getD j tst0)).2 = 0 := fun hh => upto_snoc hz hh
    have htk := take_snocD c.ts nn tst0 hk'
    refine ixT hx nn (fun aa ca ab cb' g1 g2 g3 => ?_)
    have hgt := hg _ hmem
    have hsk := sound_k (hso _ hmem)
    generalize c.ts.getD nn tst0 = t at *
    intro b7
    refine cb (fun w hw => c_Ctext t aa ca ab cb' hsk hgt w h0 hw g1 g2 hp) ?_
    refine cnd (fun h4 => ?_) (fun h4 => ?_)
    · have h4 : (txtT t).2 ≠ 0 := by simpa using h4
      rw [her h4, if_pos h4] at hte
      rw [hte]; exact rfl
    · have h4 : (txtT t).2 = 0 := by simpa using h4
      intro b35
      refine ap TT_ok 900 (AppT.of (bytes := 16) (sz := 0) (by kernel_rfl) (by kernel_rfl) (by kernel_rfl)) rfl rfl rfl rfl rfl rfl rfl (by rw [fl1c, List.length_map, List.length_take]; show (_ + 1) * 17 ≤ _; omega) (fun a1 n1 c1 e1 => ?_)
      refine wi ?_
      have hn1 : n1 = nn + 1 := by
        rw [fl1c, List.length_map, List.length_take] at e1
        have e1 : n1 * 1 = min nn c.ts.length + 1 := e1
        omega
      refine ⟨(a1, n1, c1, nn + 1), ⟨⟨hk', hn1, hz' h4⟩, ?_⟩, ?_⟩
      · show c.ts.length - (nn + 1) < c.ts.length - nn; omega
      · refine gs rfl ?_
        show [(900, OB.e (bufE 9 1 (.slice a1 n1 c1) _)), _] = [(900, OB.e (bufE 9 1 (.slice a1 n1 c1) _)), _]
        rw [htk, List.map_append, List.map_append, List.flatten_append]; rfl
  · have e2 : nn = c.ts.length := by omega
    have hok := txtL_ok (l := c.ts) (fun j hj => hz j (by omega))
    rw [hok] at hte hbo
    rw [List.take_of_length_le (show c.ts.length ≤ nn by omega)]
    have hml : (c.ts.map fun t => (txtT t).1).length = nn := by rw [List.length_map]; exact e2.symm
    have hcl := com_len (l := c.ts.map fun t => (txtT t).1) (fun s hs => by
      obtain ⟨t, _, rfl⟩ := List.mem_map.1 hs
      exact txt_len t)
    generalize c.ts.map (fun t => (txtT t).1) = L at *
    rw [if_neg (fun hh => hh rfl)] at hte
    dsimp only at hbo
    refine And.intro rfl ?_
    refine sealW (g := fun s => [vs s]) (l := L) 900 rfl hml.symm ?_
    refine goW TT_ok ?_
    subst hml
    refine cf (x := vs (comS L)) (fun w v h1 h2 h3 => ?_) ?_
    · have := c_strJoin a0 cp L [44, 32] (by omega) (by rw [com_join]; omega) w v h3 h2.2
      rw [com_join] at this
      exact this
    generalize comS L = s at hbo hcl ⊢
    refine cnd (fun h5 => ?_) (fun h5 => ?_)
    · have h5 : c.neg = true := h5
      rw [if_pos h5] at hbo
      refine ct ?_
      refine ct ?_
      rw [← hbo]
      refine cnd (fun h6 => ?_) (fun h6 => ?_)
      · rw [if_pos (by omega)] at hte
        rw [hte]; exact rfl
      · rw [if_neg (by omega)] at hte
        rw [hte]; exact rfl
    · have h5 : c.neg = false := h5
      rw [if_neg (by rw [h5]; decide)] at hbo
      rw [← hbo]
      refine cnd (fun h6 => ?_) (fun h6 => ?_)
      · rw [if_pos (by omega)] at hte
        rw [hte]; exact rfl
      · rw [if_neg (by omega)] at hte
        rw [hte]; exact rfl
end Go.Proofs.YtkjhlfleojcgjaaGreatDoor
set_option maxRecDepth 100000
namespace Go.Proofs.YtkjhlfleojcgjaaGreatDoor
open Go Go.Dx Go.RowKit
def exS : List UInt8 := [110, 111, 116, 40, 60, 53, 44, 93, 97, 46, 46, 57, 93, 41]
def exS2 : List UInt8 := [110, 111, 116, 40, 60, 32, 53, 44, 32, 93, 97, 46, 46, 57, 93, 41]
def exC1 : Tst := ⟨2, numX 5, ex0, false, false⟩
def exC2 : Tst := ⟨6, KX 2 v0 [97], numX 9, true, false⟩
def exCel : Cel := ⟨false, true, [exC1, exC2]⟩
theorem lex_c : lexS exS = ([⟨1, [110, 111, 116], 0, 0⟩, ⟨4, [40], 0, 3⟩, ⟨4, [60], 0, 4⟩, ⟨2, [], 5, 5⟩, ⟨4, [44], 0, 6⟩, ⟨4, [93], 0, 7⟩, ⟨1, [97], 0, 8⟩, ⟨4, [46, 46], 0, 9⟩, ⟨2, [], 9, 11⟩, ⟨4, [93], 0, 12⟩, ⟨4, [41], 0, 13⟩], 0, 0) := by
  rw [lex_run exS (by decide)]; decide +kernel
theorem parse_c : parseC exS = (exCel, 0, 0) := by
  unfold parseC; rw [lex_c]; kernel_rfl
theorem text_c : textC exCel = (exS2, 0) := by kernel_rfl
theorem ev_num (col : List Col) (row : List Val) (n : Int) : evX col row (SizeOf.sizeOf (numX n) + 1) (numX n) = .ok ⟨1, n, []⟩ := by
  rw [evX, if_pos (show (numX n).op = 1 from rfl)]; rfl
theorem ev_nam (v : Val) : evX [colA] [v] (SizeOf.sizeOf (KX 2 v0 [97]) + 1) (KX 2 v0 [97]) = .ok v := by
  rw [evX, if_neg (by decide), if_pos (show (KX 2 v0 [97]).op = 2 from rfl)]; rfl
theorem right_nam : rightS (KX 2 v0 [97]) = true := by kernel_rfl
theorem es_num (m n : Int) (h : 0 ≤ n) : evalS [colA] [⟨1, m, []⟩] (numX n) = (⟨1, n, []⟩, 0) := by rw [evalS, if_pos ⟨right_num h, rfl, by rfl⟩, ev_num]
theorem es_nam (m : Int) : evalS [colA] [⟨1, m, []⟩] (KX 2 v0 [97]) = (⟨1, m, []⟩, 0) := by rw [evalS, if_pos ⟨right_nam, rfl, by rfl⟩, ev_nam]
theorem ask_c1 (n : Int) : askT exC1 ⟨1, n, []⟩ [colA] [⟨1, 5, []⟩] = (passT exC1 ⟨1, n, []⟩ [⟨1, 5, []⟩], 0) := by
  rw [ask_one (p := (⟨1, 5, []⟩, 0)) (by decide) (es_num 5 5 (by decide)), if_neg (by decide), if_pos (by rfl)]
theorem ask_c2 (n : Int) : askT exC2 ⟨1, n, []⟩ [colA] [⟨1, 5, []⟩] = (passT exC2 ⟨1, n, []⟩ [⟨1, 5, []⟩, ⟨1, 9, []⟩], 0) := by
  rw [ask_two (p := (⟨1, 5, []⟩, 0)) (q := (⟨1, 9, []⟩, 0)) rfl (es_nam 5) (es_num 5 9 (by decide)), if_neg (by decide), if_neg (by decide), if_pos (by rfl)]
theorem holds_c5 : holdsC exCel ⟨1, 5, []⟩ [colA] [⟨1, 5, []⟩] = (true, 0) := by
  rw [holdsC, if_pos (by kernel_rfl)]
  show holdL false true ⟨1, 5, []⟩ [colA] [⟨1, 5, []⟩] [exC1, exC2] = _
  have e1 : passT exC1 ⟨1, 5, []⟩ [⟨1, 5, []⟩] = false := by kernel_rfl
  have e2 : passT exC2 ⟨1, 5, []⟩ [⟨1, 5, []⟩, ⟨1, 9, []⟩] = false := by kernel_rfl
  rw [holdL, ask_c1, e1, if_neg (by decide), if_neg (by decide), holdL, ask_c2, e2, if_neg (by decide), if_neg (by decide), holdL]; rfl
theorem holds_c6 : holdsC exCel ⟨1, 6, []⟩ [colA] [⟨1, 5, []⟩] = (false, 0) := by
  rw [holdsC, if_pos (by kernel_rfl)]
  show holdL false true ⟨1, 6, []⟩ [colA] [⟨1, 5, []⟩] [exC1, exC2] = _
  have e1 : passT exC1 ⟨1, 6, []⟩ [⟨1, 5, []⟩] = false := by kernel_rfl
  have e2 : passT exC2 ⟨1, 6, []⟩ [⟨1, 5, []⟩, ⟨1, 9, []⟩] = true := by kernel_rfl
  rw [holdL, ask_c1, e1, if_neg (by decide), if_neg (by decide), holdL, ask_c2, e2, if_neg (by decide), if_pos (by rfl)]; rfl
theorem c_CParseE {s : List UInt8} {c : Cel} {at' e : Int} (he : parseC s = (c, at', e)) (w0 : World) (h0 : View) (hv : VLe h0 (Full w0)) :
    Calls Tryz.prog 11 #[vs s] w0 (Ret w0 h0 fun u hh => ∃ x : Option Addr × Nat, u = cpV (c, at', e) x ∧ TL hh x.1 x.2 c.ts) := by
  have := c_CParse s w0 h0 hv
  rw [he] at this; exact this
theorem gt_num (n : Int) (h : 0 ≤ n) : SmX (numX n) := smx_right (right_num h)
theorem gt_ex : ∀ t ∈ exCel.ts, GT t := by
  intro t ht
  have : t = exC1 ∨ t = exC2 := by simpa [exCel] using ht
  rcases this with rfl | rfl
  · exact ⟨gt_num 5 (by decide), sm0, by decide +kernel, by decide +kernel⟩
  · exact ⟨smx_right right_nam, gt_num 9 (by decide), by decide +kernel, by decide +kernel⟩
theorem c_CHoldsK {c : Cel} {v : Val} {col : List Col} {row : List Val} {p : Bool × Int} (he : holdsC c v col row = p) (adt : Option Addr) (capt : Nat) (ad : Option Addr) (cap : Nat) (ad2 : Option Addr) (cap2 : Nat) (hg : ∀ t ∈ c.ts, GT t) (hvv : valB v) (hl : col.length ≤ 1000000) (hvb : ∀ v ∈ row, valB v) (w0 : World) (h0 : View) (hv : VLe h0 (Full w0))
    (hx : TL h0 adt capt c.ts) (hc : SlC 70 3 (flatR colC) h0 (.slice ad col.length cap) col) (hr : SlC 35 3 (flatR valC) h0 (.slice ad2 row.length cap2) row) :
    Calls Tryz.prog 17 #[.agg (celC c adt capt).toArray, .agg (valC v).toArray, .slice ad col.length cap, .slice ad2 row.length cap2] w0 (Ret w0 h0 fun u _ => u = kbR2 p) := by
  subst he
  exact c_CHolds c adt capt v ad cap col ad2 cap2 row hg hvv hl hvb w0 h0 hv hx hc hr
set_option maxRecDepth 100000 in
theorem c_lives17 (w0 : World) (h0 : View) (hv : VLe h0 (Full w0)) (hp : PowV h0) : Calls Tryz.prog 10 #[] w0 (Ret w0 h0 fun u _ => u = .bool true) := by
  refine ent (args := []) TT_ok [27] [] Tryz.func10 rfl Tryz.ntmps10 rfl rfl hv ?_
  refine cA TT_ok (fun w v h1 h2 h3 => c_CParseE parse_c w v h3) (fun a => tl_m a _) (fun a => ?_)
  intro b1
  refine cf (fun w v h1 h2 h3 => c_CText exCel a.1 a.2 gt_ex w v h3 h2.2 (pow_m h1 hp)) ?_
  rw [text_c]
  intro b23 b25
  refine ⟨rfl, shutW 23 (row_sl (g := colC) (l := [colA]) (sz := 3) (n := 1) (cp := 1) rfl) ?_ Mono.slF⟩
  refine shutW 25 (row_sl (g := valC) (l := [(⟨1, 5, []⟩ : Val)]) (sz := 3) (n := 1) (cp := 1) rfl) ?_ Mono.slF
  refine goW TT_ok ?_
  refine cf (fun w v h1 h2 h3 => c_CHoldsK holds_c5 a.1 a.2 (some ⟨b23, 0, none⟩) 1 (some ⟨b25, 0, none⟩) 1 gt_ex ⟨i64n (by decide), i64n (by decide)⟩ (by decide) (by simp [valB, i64]) w v h3 h2.1.1.2 h2.1.2 h2.2) ?_
  refine cf (fun w v h1 h2 h3 => c_CHoldsK holds_c6 a.1 a.2 (some ⟨b23, 0, none⟩) 1 (some ⟨b25, 0, none⟩) 1 gt_ex ⟨i64n (by decide), i64n (by decide)⟩ (by decide) (by simp [valB, i64]) w v h3 h2.1.1.2 h2.1.2 h2.2) ?_
  exact rfl
end Go.Proofs.YtkjhlfleojcgjaaGreatDoor
set_option maxRecDepth 100000
namespace Go.Proofs.YtkjhlfleojcgjaaGreatDoor
open Go Go.Dx Go.RowKit
end Go.Proofs.YtkjhlfleojcgjaaGreatDoor
set_option maxRecDepth 100000
namespace Go.Proofs.YtkjhlfleojcgjaaGreatDoor
open Go Go.Dx Go.RowKit
theorem c_Rlname (s : List UInt8) (hs : s.length ≤ 1000000) (w0 : World) (h0 : View) (hv : VLe h0 (Full w0)) : Calls Tryz.prog 108 #[vs s] w0 (Ret w0 h0 fun u _ => u = resB (nameS s)) := by
  refine ent (args := [vs s]) TT_ok [] [] Tryz.func108 rfl Tryz.ntmps108 rfl rfl hv ?_
  intro b2
  refine cl (c_Rword s hs) ?_
  refine cnd (fun h => ?_) (fun h => ?_)
  · rw [nameS, if_pos (by omega)]; exact rfl
  · have := wordN_le s
    refine ixl (wordN s) ?_
    rw [nameS, if_neg (by omega)]; exact rfl
theorem numF_lt' (s : List UInt8) : ∀ (k v : Nat), k ≤ s.length → numF (s.take k) = some v → v ≤ 9223372036854775807
  | 0, v, _, h => by simp [numF] at h; omega
  | k + 1, v, hk, h => by
    rw [numF_snoc s k (by omega), numStep] at h
    cases ho : numF (s.take k) with
    | none => rw [ho] at h; cases h
    | some u =>
      rw [ho, Option.bind_some] at h
      split at h
      · cases h
      · rename_i hn
        cases h
        have := (s.getD k 0).toNat_lt
        omega
set_option maxHeartbeats 1000000 in
theorem c_RlexNumber (s : List UInt8) (hs0 : 0 < s.length) (hs : s.length ≤ 1000000) (w0 : World) (h0 : View) (hv : VLe h0 (Full w0)) : Calls Tryz.prog 110 #[vs s] w0 (Ret w0 h0 fun u _ => u = resB (numS s)) := by
  refine ent (args := [vs s]) TT_ok [] [] Tryz.func110 rfl Tryz.ntmps110 rfl rfl hv ?_
  intro b2
  refine w_loop TT_ok (fun z : Nat × Nat × Bool => [(5, .v (.int .i64 z.1)), (6, .v (.int .i64 z.2.1)), (7, .v (.bool z.2.2))]) (0, 0, false) (fun z => z.1 ≤ s.length ∧ (s.take z.1).all isDig = true ∧ (z.2.2 = false → numF (s.take z.1) = some z.2.1) ∧ (z.2.2 = true → numF (s.take z.1) = none)) (fun z => s.length - z.1) ?_
  refine And.intro ⟨⟨Nat.zero_le _, by simp, fun _ => rfl, fun h => by cases h⟩, gs⟩ ?_
  rintro ⟨k, v, ov⟩ ⟨hk, ha, hn1, hn2⟩
  dsimp only at hk ha hn1 hn2 ⊢
  refine ixg k ?_
  refine clg (fun _ => c_Rdigit (s.getD k 0)) ?_
  refine cnd (fun h => ?_) (fun h => ?_)
  · have hkl : k < s.length := by omega
    have ha2 := all_snocW hkl ha h.2
    have hd := dig_b h.2
    refine ix k ?_
    generalize hdd : (s.getD k 0).toNat - 48 = d
    refine ew (d : Int) (show IntKind.u8.wrap (((s.getD k 0).toNat : Int) - 48) = _ by rw [wrap_u8 (by omega) (by omega)]; omega) ?_
    refine ew (d : Int) (wrap_i64 (by omega) (by omega)) ?_
    cases ov with
    | true =>
      have hnn := numS_none hkl (hn2 rfl)
      refine ew 0 (fun hh => absurd hh (by decide)) ?_
      refine ew 0 (fun hh => absurd hh (by decide)) ?_
      refine cndF rfl ?_
      refine wi ?_
      exact ⟨(k + 1, v, true), ⟨⟨by show k + 1 ≤ _; omega, ha2, (fun h => by cases h), fun _ => hnn⟩, by show s.length - (k + 1) < s.length - k; omega⟩, gs⟩
    | false =>
      have hnf := hn1 rfl
      have hv1 := numF_lt' s k v (by omega) hnf
      have hov := @numS_over s k v hkl hnf
      have hst := @numS_step s k v hkl hnf
      rw [hdd] at hov hst
      refine ew (9223372036854775807 - (d : Int)) (fun _ => wrap_i64 (by omega) (by omega)) ?_
      have hqw : IntKind.i64.wrap ((9223372036854775807 - (d : Int)).tdiv 10) = (((9223372036854775807 - d) / 10 : Nat) : Int) := by
        rw [Int.tdiv_eq_ediv_of_nonneg (by omega), wrap_i64 (by omega) (by omega)]; omega
      have hq10 : 10 * ((9223372036854775807 - d) / 10) + d ≤ 9223372036854775807 := by omega
      generalize (9223372036854775807 - d) / 10 = q at hov hst hqw hq10
      refine ew (q : Int) (fun _ => ⟨by decide, hqw⟩) ?_
      refine cnd (fun h3 => ?_) (fun h3 => ?_)
      · have h3 : ¬ q < v := by simp at h3; omega
        refine ew ((10 * v : Nat) : Int) (show IntKind.i64.wrap (10 * (v : Int)) = _ by rw [wrap_i64 (by omega) (by omega)]; omega) ?_
        refine ew ((10 * v + d : Nat) : Int) (show IntKind.i64.wrap (((10 * v : Nat) : Int) + d) = _ by rw [wrap_i64 (by omega) (by omega)]; omega) ?_
        refine wi ?_
        refine ⟨(k + 1, 10 * v + d, decide ((q : Int) < (v : Int))), ⟨⟨by show k + 1 ≤ _; omega, ha2, fun _ => hst h3, fun hh => ?_⟩, by show s.length - (k + 1) < s.length - k; omega⟩, gs⟩
        exfalso
        simp at hh; omega
      · have h3 : q < v := by simp at h3; omega
        refine wi ?_
        refine ⟨(k + 1, v, decide ((q : Int) < (v : Int))), ⟨⟨by show k + 1 ≤ _; omega, ha2, fun hh => ?_, fun _ => hov h3⟩, by show s.length - (k + 1) < s.length - k; omega⟩, gs⟩
        exfalso
        simp at hh; omega
  · have hkk : digN s = k := tw_len isDig s k ha hk (by
      rcases h with h | h
      · exact .inl (by omega)
      · exact .inr h)
    subst hkk
    refine ixg 0 ?_
    refine cnd (fun h1 => ?_) (fun h1 => ?_)
    · rw [numS, if_pos ⟨by omega, h1.2⟩]; exact rfl
    · rw [numS, if_neg (fun hh => by rcases h1 with h1 | h1; omega; exact h1 hh.2)]
      refine cnd (fun h2 => ?_) (fun h2 => ?_)
      · rw [hn2 h2]; exact rfl
      · rw [hn1 h2]; exact rfl
set_option maxHeartbeats 1000000 in
theorem c_Rtext (s : List UInt8) (hs : s.length ≤ 1000000) (w0 : World) (h0 : View) (hv : VLe h0 (Full w0)) : Calls Tryz.prog 111 #[vs s] w0 (Ret w0 h0 fun u _ => u = resB (textS s)) := by
  refine ent (args := [vs s]) TT_ok [] [14] Tryz.func111 rfl Tryz.ntmps111 rfl rfl hv ?_
  intro b2
  refine w_loop TT_ok (fun z : Nat × List UInt8 => [(6, .v (.int .i64 z.1)), (5, .v (vs z.2))]) (1, []) (fun z => z.2.length ≤ z.1 ∧ z.1 ≤ s.length + 1 ∧ textG s z.1 z.2 = textS s) (fun z => s.length + 1 - z.1) ?_
  refine And.intro ⟨⟨Nat.zero_le _, by show 1 ≤ _; omega, rfl⟩, gs⟩ ?_
  rintro ⟨i, b⟩ ⟨hb, hi, ht⟩
  dsimp only at hb hi ht ⊢
  refine cnd (fun h => ?_) (fun h => ?_)
  · have hil : i < s.length := by omega
    refine ix i ?_
    refine cnd (fun h1 => ?_) (fun h1 => ?_)
    · refine cnd (fun h2 => ?_) (fun h2 => ?_)
      · rw [← ht, tx_big hil h1 (by omega)]; exact rfl
      · refine wi ?_
        rw [← ht, tx_end hil h1 (by omega)]; exact rfl
    · refine w_cut TT_ok (fun j : Nat => [(6, .v (.int .i64 j))]) (fun j => j < s.length ∧ i ≤ j ∧ ((bt s j < 32 ∨ 126 < bt s j) → textG s i b = .err 11) ∧ (¬ (bt s j < 32 ∨ 126 < bt s j) → textG s (j + 1) (b ++ [s.getD j 0]) = textS s)) ?_
      refine And.intro ?_ ?_
      · refine cnd (fun h3 => ?_) (fun h3 => ?_)
        · refine wi ?_
          refine ixg (i + 1) ?_
          refine ixg (i + 1) ?_
          refine cnd (fun h4 => ?_) (fun h4 => ?_)
          · rw [← ht, tx_bad hil h1 h3 (by simp only [bt]; omega)]; exact rfl
          · have h5 : ¬ (i + 1 = s.length ∨ (bt s (i + 1) ≠ 34 ∧ bt s (i + 1) ≠ 92)) := by simp only [bt]; omega
            refine ⟨i + 1, ⟨by omega, by omega, fun h6 => ?_, fun _ => ?_⟩, gs⟩
            · exfalso; omega
            · rw [← ht, tx_esc hil h1 h3 h5]
        · refine ⟨i, ⟨by omega, Nat.le_refl _, fun h6 => tx_ctl hil h1 h3 h6, fun h6 => by rw [← ht, tx_ch hil h1 h3 h6]⟩, gs⟩
      · intro j ⟨hj, hij, hj1, hj2⟩
        refine ix j ?_
        refine ixg j ?_
        refine cnd (fun h4 => ?_) (fun h4 => ?_)
        · rw [← ht, hj1 (by simp only [bt]; omega)]; exact rfl
        · refine wi ?_
          refine sl2 j (j + 1) ?_
          have e1 : (s.drop j).take (j + 1 - j) = [s.getD j 0] := by
            rw [show j + 1 - j = 1 by omega, List.drop_eq_getElem_cons hj, getD_lt s j 0 hj]; rfl
          refine ct ?_ (by rw [e1]; show b.length + 1 ≤ _; omega)
          rw [e1]
          refine wi ?_
          exact ⟨(j + 1, b ++ [s.getD j 0]), ⟨⟨by show (b ++ [s.getD j 0]).length ≤ j + 1; rw [List.length_append]; show b.length + 1 ≤ _; omega, by show j + 1 ≤ _; omega, hj2 (by simp only [bt]; omega)⟩, by show s.length + 1 - (j + 1) < s.length + 1 - i; omega⟩, gs⟩
  · rw [← ht, tx_over (by omega)]; exact rfl
theorem c_RMarks (w0 : World) (h0 : View) (hv : VLe h0 (Full w0)) : Calls Tryz.prog 112 #[] w0 (Ret w0 h0 fun u h => ∃ b : Nat, u = .slice (some ⟨b, 0, none⟩) 16 16 ∧ SlC 9 1 (flatR fun s => [vs s]) h (.slice (some ⟨b, 0, none⟩) 16 16) marksL) := by
  refine entA (args := []) TT_ok [0] [] Tryz.func112 rfl Tryz.ntmps112 rfl rfl hv (fun _ => Mono.slF) ?_
  refine ⟨rfl, goW TT_ok ?_⟩
  intro b1
  refine shutG TT_ok (Φ := fun h => SlC 9 1 (flatR fun s => [vs s]) h (.slice (some ⟨b1, 0, none⟩) 16 16) marksL) 1 rfl (row_sl (g := fun s => [vs s]) (l := marksL) (sz := 1) (n := 16) (cp := 16) rfl) ?_ Mono.slF
  exact ⟨b1, rfl, fun v _ hF => hF.2⟩
set_option maxHeartbeats 1000000 in
theorem c_Rone (s : List UInt8) (hs0 : 0 < s.length) (hs : s.length ≤ 1000000) (w0 : World) (h0 : View) (hv : VLe h0 (Full w0)) : Calls Tryz.prog 72 #[vs s] w0 (Ret w0 h0 fun u _ => u = resB (oneS s)) := by
  refine ent (args := [vs s]) TT_ok [1000012] [] Tryz.func72 rfl Tryz.ntmps72 rfl rfl hv ?_
  intro b2
  refine ix 0 ?_
  refine cl (c_Rletter (s.getD 0 0)) ?_
  refine cnd (fun h => ?_) (fun h => ?_)
  · refine cl (c_Rlname s hs) ?_
    rw [one_let h]; exact rfl
  refine ix 0 ?_
  refine cl (c_Rdigit (s.getD 0 0)) ?_
  refine cnd (fun h2 => ?_) (fun h2 => ?_)
  · refine cl (c_RlexNumber s hs0 hs) ?_
    rw [one_dig h h2]; exact rfl
  refine ix 0 ?_
  refine cnd (fun h3 => ?_) (fun h3 => ?_)
  · refine cl (c_Rtext s hs) ?_
    rw [one_txt h h2 h3]; exact rfl
  rw [one_mark h h2 h3]
  refine cA TT_ok (fun w v h1 h2 h3 => c_RMarks w v h3) (fun _ => Mono.slF) (fun b6 => ?_)
  have hml : marksL.length = 16 := rfl
  refine w_loop TT_ok (fun k : Nat => [(6, .v (.int .i64 k))]) 0 (fun k => k ≤ 16 ∧ markG s (marksL.drop k) = markG s marksL) (fun k => 16 - k) ?_
  refine And.intro ⟨⟨Nat.zero_le _, rfl⟩, gs⟩ ?_
  intro k ⟨hk, hm⟩
  refine cnd (fun h4 => ?_) (fun h4 => ?_)
  · have hk16 : k < 16 := by omega
    have hst := mark_step s k hk16
    rw [hm] at hst
    refine And.intro (by kernel_rfl) ?_
    refine ixf (l := marksL) (fun v hF => hF.2) k [] ?_ (by omega)
    refine ixfg (l := marksL) (fun v hF => hF.2) k [] ?_ (by intros; omega)
    refine kg1 ?_
    refine ⟨(marksL.getD k []).length, fun h => ⟨rfl, by simpa [bq] using h⟩, ?_⟩
    refine ixfg (l := marksL) (fun v hF => hF.2) k [] ?_ (by intros; omega)
    refine kg1 ?_
    refine cnd (fun h5 => ?_) (fun h5 => ?_)
    · have hp : pre s (marksL.getD k []) = true := by rw [pre, decide_eq_true (by omega), decide_eq_true h5.2]; rfl
      rw [hst, hp]
      refine regQ TT_ok [0, 1, 2, 3, 4, 5, 6, 7, 8, 9] [10, 11, 12] [2] false ?_
      refine ixf (l := marksL) (fun v hF => hF.2) k [] ?_ (by omega)
      refine ixf (l := marksL) (fun v hF => hF.2) k [] ?_ (by omega)
      refine kq ?_
      refine kq ?_
      refine kq ?_
      exact rfl
    · have hp : pre s (marksL.getD k []) = false := by
        rw [pre]
        rcases h5 with h5 | h5
        · rw [decide_eq_false (by omega)]; rfl
        · rw [decide_eq_false (p := s.take _ = _) h5, Bool.and_false]
      rw [hp] at hst
      refine wi ?_
      exact ⟨k + 1, ⟨⟨by omega, hst.symm⟩, by omega⟩, gs⟩
  · have e : k = 16 := by omega
    subst e
    rw [← hm]; exact rfl
theorem flatT' (l : List Tok) : (l.map tokC).flatten.length = 4 * l.length := flatC_len l
set_option maxHeartbeats 1000000 in
theorem c_RLex (s : List UInt8) (w0 : World) (h0 : View) (hv : VLe h0 (Full w0)) : Calls Tryz.prog 35 #[vs s] w0 (Ret w0 h0 fun u h => ∃ x : Option Addr × Nat, u = .tuple #[.slice x.1 (lexS s).1.length x.2, .int .i64 (lexS s).2.1, .int .i64 (lexS s).2.2] ∧ SlC 84 4 (flatR tokC) h (.slice x.1 (lexS s).1.length x.2) (lexS s).1) := by
  refine entA (args := [vs s]) TT_ok [44] [] Tryz.func35 rfl Tryz.ntmps35 rfl rfl hv (fun _ => Mono.slF) ?_
  refine cnd (fun h => ?_) (fun h => ?_)
  · rw [lexS, if_pos (by omega)]
    exact ⟨(none, 0), rfl, fun v _ _ => SlC.nil (by simp [maxLen])⟩
  have hlx : lexS s = lexG s 0 [] := by rw [lexS, if_neg (by omega)]
  refine nilC 900 84 4 ?_
  refine w_loopB TT_ok (fun z : Option Addr × Nat × Nat × Nat × List Tok => [(5, .v (.slice z.1 z.2.1 z.2.2.1)), (6, .v (.int .i64 z.2.2.2.1))]) (fun z => [(900, .e (bufE 84 4 (.slice z.1 z.2.1 z.2.2.1) (z.2.2.2.2.map tokC).flatten))]) (none, 0, 0, 0, [])
    (fun z => z.2.2.2.1 ≤ s.length ∧ z.2.1 = z.2.2.2.2.length ∧ z.2.2.2.2.length ≤ z.2.2.2.1 ∧ lexG s z.2.2.2.1 z.2.2.2.2 = lexS s) (fun z => s.length - z.2.2.2.1) ?_
  refine And.intro ⟨⟨Nat.zero_le _, rfl, Nat.zero_le _, hlx.symm⟩, gs⟩ ?_
  rintro ⟨a0, n, cp, j, out⟩ ⟨hj, hn, hb, hjt⟩
  dsimp only at hj hn hb hjt ⊢
  refine cnd (fun h2 => ?_) (fun h2 => ?_)
  · have hjl : j < s.length := by omega
    refine ix j ?_
    refine cnd (fun h1 => ?_) (fun h1 => ?_)
    · refine wi ?_
      refine ⟨(a0, n, cp, j + 1, out), ⟨⟨by show j + 1 ≤ _; omega, hn, by show out.length ≤ j + 1; omega, ?_⟩, by show s.length - (j + 1) < s.length - j; omega⟩, gs⟩
      rw [← hjt, lex_sp hjl h1]
    · have hne : ¬ bt s j = 32 := h1
      have hdl : (s.drop j).length = s.length - j := List.length_drop
      refine ixl j ?_
      rcases one_ok (s.drop j) (by omega) with ⟨e, he, h0e⟩ | ⟨t, m, he, hm, hml⟩
      · refine cl (x := resB (.err e)) (fun w h hv => by have := c_Rone (s.drop j) (by omega) (by omega) w h hv; rw [he] at this; exact this) ?_
        intro b7
        refine cndT (show (!decide (resE (.err e) = 0)) = true by rw [show resE (.err e) = e from rfl, decide_eq_false h0e]; rfl) ?_
        have e2 : lexS s = ([], (j : Int), e) := by rw [← hjt, lex_err hjl hne he]
        rw [e2]
        exact ⟨(none, 0), rfl, fun v _ _ => SlC.nil (by simp [maxLen])⟩
      · refine cl (x := resB (.ok t m)) (fun w h hv => by have := c_Rone (s.drop j) (by omega) (by omega) w h hv; rw [he] at this; exact this) ?_
        intro b7
        refine cndF rfl ?_
        intro b39
        refine ap TT_ok 900 (AppT.of (bytes := 40) (sz := 3) (by kernel_rfl) (by kernel_rfl) (by kernel_rfl)) rfl rfl rfl rfl rfl rfl rfl (by rw [flatT']; show (_ + 4) * 41 ≤ _; omega) (fun a1 n1 c1 e1 => ?_)
        refine ew ((j + m : Nat) : Int) (show IntKind.i64.wrap ((j : Int) + m) = _ by rw [wrap_i64 (by omega) (by omega)]; omega) ?_
        have hn1 : n1 = out.length + 1 := by
          rw [flatT'] at e1
          have e1 : n1 * 4 = 4 * out.length + 4 := e1
          omega
        refine ⟨(a1, n1, c1, j + m, out ++ [{ t with p := (j : Int) }]), ⟨⟨by show j + m ≤ s.length; omega, by show n1 = (out ++ [{ t with p := (j : Int) }]).length; rw [List.length_append]; exact hn1, by show (out ++ [{ t with p := (j : Int) }]).length ≤ j + m; rw [List.length_append]; show out.length + 1 ≤ j + m; omega, by rw [← hjt, lex_ok hjl hne he hm]⟩, by show s.length - (j + m) < s.length - j; omega⟩, gs rfl ?_⟩
        show [(900, OB.e (bufE 84 4 (.slice a1 n1 c1) _))] = [(900, OB.e (bufE 84 4 (.slice a1 n1 c1) _))]
        rw [List.map_append, List.flatten_append]; rfl
  · have e : lexS s = (out, 0, 0) := by rw [← hjt, lex_end (by omega)]
    subst hn
    refine And.intro rfl ?_
    refine sealW (g := tokC) (l := out) 900 rfl rfl ?_
    refine goW TT_ok ?_
    rw [e]
    exact ⟨(a0, cp), rfl, fun v _ hF => hF.2⟩
end Go.Proofs.YtkjhlfleojcgjaaGreatDoor
set_option maxRecDepth 100000
namespace Go.Proofs.YtkjhlfleojcgjaaGreatDoor
open Go Go.Dx Go.RowKit
theorem bin_k : ∀ k, k < 12 → (binL.getD k (0, [], 0)).1 = ((k + 4 : Nat) : Int) ∧ findS ((k + 4 : Nat) : Int) = binL.getD k (0, [], 0) ∧ levD ((k + 4 : Nat) : Int) = (binL.getD k (0, [], 0)).2.2 ∧ (if (k = 10 ∨ k = 11) then (1 : Int) else 4) = kindB (binL.getD k (0, [], 0))
  | 0, _ | 1, _ | 2, _ | 3, _ | 4, _ | 5, _ | 6, _ | 7, _ | 8, _ | 9, _ | 10, _ | 11, _ => by decide
  | n + 12, h => by omega
def rrC (ad : Option Addr) (n cap : Nat) (at_ : Int) (bad : Bool) : List Value := [.slice ad n cap, .int .i64 at_, .bool bad]
section rr
variable (b : Nat) (ad : Option Addr) (cap : Nat) (l : List Tok)
theorem c_Ris (i : Nat) (bad : Bool) (k : Int) (s : List UInt8) (hk : k ≠ 0) (hi : i ≤ 1000000) (w0 : World) (h0 : View) (hv : VLe h0 (Full w0)) (hno : h0 b = none) (hl : SlC 84 4 (flatR tokC) h0 (.slice ad l.length cap) l)
    (hbl : w0.heap[b]? = some (.cells (rrC ad l.length cap i bad).toArray 187 (0, 0))) :
    Calls Tryz.prog 187 #[.pointer (some ⟨b, 0, none⟩), .int .i64 k, vs s] w0 (RetM [b] w0 fun u w' => u = .bool (onS l i false k s) ∧ w'.heap[b]? = some (.cells (rrC ad l.length cap i bad).toArray 187 (0, 0))) := by
  refine entM (args := [.pointer (some ⟨b, 0, none⟩), .int .i64 k, vs s]) TT_ok [] [] [.o 900 0, .v (.int .i64 k), .v (vs s)] Tryz.func187 rfl Tryz.ntmps187 rfl rfl hv hbl hno rfl ?_
  refine And.intro (by kernel_rfl) ?_
  refine ixsg hl i t0 ?_ (by intros; omega)
  refine kg1 ?_
  refine ixsg hl i t0 ?_ (fun h => by simp at h; omega)
  refine kg1 ?_
  refine ⟨?_, rfl⟩
  refine congrArg Value.bool ?_
  by_cases h : i < l.length
  · rw [onS, nowS]
    simp [h]
  · have e : onS l i false k s = false := by
      cases ho : onS l i false k s with
      | false => rfl
      | true => exact absurd (on_lt ho hk).1 h
    rw [e]
    simp [h]
theorem c_Rtake (p : Nat × Bool) (k : Int) (s : List UInt8) (hk : k ≠ 0) (hi : p.1 ≤ 1000000) (w0 : World) (h0 : View) (hv : VLe h0 (Full w0)) (hno : h0 b = none) (hl : SlC 84 4 (flatR tokC) h0 (.slice ad l.length cap) l)
    (hbl : w0.heap[b]? = some (.cells (rrC ad l.length cap ((p.1 : Nat) : Int) p.2).toArray 187 (0, 0))) :
    Calls Tryz.prog 188 #[.pointer (some ⟨b, 0, none⟩), .int .i64 k, vs s] w0 (RetM [b] w0 fun u w' => u = .tuple #[] ∧ w'.heap[b]? = some (.cells (rrC ad l.length cap (((mustS l p k s).1 : Nat) : Int) (mustS l p k s).2).toArray 187 (0, 0))) := by
  obtain ⟨i, bad⟩ := p
  refine entM (args := [.pointer (some ⟨b, 0, none⟩), .int .i64 k, vs s]) TT_ok [] [] [.o 900 0, .v (.int .i64 k), .v (vs s)] Tryz.func188 rfl Tryz.ntmps188 rfl rfl hv hbl hno rfl ?_
  refine cnd (fun h => ?_) (fun h => ?_)
  · have h : bad = true := h
    subst h
    have e : onS l i true k s = false := by
      cases ho : onS l i true k s with
      | false => rfl
      | true => exact absurd (on_lt ho hk).2 (by decide)
    have e1 : mustS l (i, true) k s = (i, true) := by unfold mustS; rw [if_neg (by rw [e]; decide)]; rfl
    rw [e1]
    exact ⟨rfl, rfl⟩
  · have h : bad = false := h
    subst h
    refine cM TT_ok 900 (fun w v h1 h2 h3 h4 h5 => c_Ris b ad cap l i false k s hk hi w v h3 h4 (Mono.slF _ _ h1 hl) h5) ?_
    refine cnd (fun h => ?_) (fun h => ?_)
    · have e1 : mustS l (i, false) k s = (i + 1, false) := by unfold mustS; rw [if_pos h, h]; rfl
      rw [e1]
      refine wi ?_
      exact ⟨rfl, rfl⟩
    · have e1 : mustS l (i, false) k s = (i, true) := by unfold mustS; rw [if_neg (by rw [h]; decide), h]; rfl
      rw [e1]
      exact ⟨rfl, rfl⟩
theorem c_Rop (i lev : Nat) (hi : i ≤ 1000000) (w0 : World) (h0 : View) (hv : VLe h0 (Full w0)) (hno : h0 b = none) (hl : SlC 84 4 (flatR tokC) h0 (.slice ad l.length cap) l)
    (hbl : w0.heap[b]? = some (.cells (rrC ad l.length cap (i : Int) false).toArray 187 (0, 0))) :
    Calls Tryz.prog 189 #[.pointer (some ⟨b, 0, none⟩), .int .i64 (lev : Int)] w0 (RetM [b] w0 fun u w' => u = .int .i64 (opS l i false lev) ∧ w'.heap[b]? = some (.cells (rrC ad l.length cap (i : Int) false).toArray 187 (0, 0))) := by
  refine entM (args := [.pointer (some ⟨b, 0, none⟩), .int .i64 (lev : Int)]) TT_ok [4000026] [7] [.o 900 0, .v (.int .i64 (lev : Int))] Tryz.func189 rfl Tryz.ntmps189 rfl rfl hv hbl hno rfl ?_
  refine w_loop TT_ok (fun k : Nat => [(5, .v (.int .i64 ((k + 4 : Nat) : Int)))]) 0 (fun k => k ≤ 12 ∧ ∀ j, j < k → hitB l i false lev (binL.getD j (0, [], 0)) = false) (fun k => 12 - k) ?_
  refine And.intro ⟨⟨Nat.zero_le _, fun j hj => absurd hj (Nat.not_lt_zero j)⟩, gs⟩ ?_
  intro k ⟨hk, hn⟩
  have hlen : binL.length = 12 := rfl
  refine cnd (fun h => ?_) (fun h => ?_)
  · have hk12 : k < 12 := by omega
    obtain ⟨e1, e2, e3, e4⟩ := bin_k k hk12
    have hhit := op_hit l i false lev k hk12 hn
    have hmiss : hitB l i false lev (binL.getD k (0, [], 0)) = false → ∀ j, j < k + 1 → hitB l i false lev (binL.getD j (0, [], 0)) = false := fun hh j hj => by
      by_cases hjk : j = k
      · rw [hjk]; exact hh
      · exact hn j (by omega)
    refine w_cut TT_ok (fun kd : Int => [(6, .v (.int .i64 kd))]) (fun kd => kd = kindB (binL.getD k (0, [], 0)) ∧ kd ≠ 0) ?_
    refine And.intro ?_ ?_
    · refine cnd (fun h1 => ?_) (fun h1 => ?_)
      · exact ⟨1, ⟨by rw [← e4, if_pos (by omega)], by decide⟩, gs⟩
      · exact ⟨4, ⟨by rw [← e4, if_neg (by omega)], by decide⟩, gs⟩
    · intro kd ⟨hkd, hkd0⟩
      have hb : hitB l i false lev (binL.getD k (0, [], 0)) = (decide ((binL.getD k (0, [], 0)).2.2 = lev) && onS l i false kd (binL.getD k (0, [], 0)).2.1) := by rw [hkd]; rfl
      refine cl (c_Level _) ?_
      rw [e3]
      refine clg (fun _ => c_sign _) ?_
      rw [e2]
      generalize binL.getD k (0, [], 0) = bb at e1 hb hhit hmiss ⊢
      obtain ⟨op, sg, lv⟩ := bb
      refine cnd (fun h4 => ?_) (fun h4 => ?_)
      · refine cMI TT_ok 900 (fun w v h1 h2 h3 h4 h5 => c_Ris b ad cap l i false kd sg hkd0 hi w v h3 h4 (Mono.slF _ _ h1 hl) h5) ?_
        refine cnd (fun h5 => ?_) (fun h5 => ?_)
        · refine ⟨?_, rfl⟩
          rw [hhit (by rw [hb, h5.2, decide_eq_true h4]; rfl), e1]; rfl
        · have h6 : onS l i false kd sg = false := h5.resolve_left (fun hh => hh h4)
          refine wi ?_
          exact ⟨k + 1, ⟨⟨by omega, hmiss (by rw [hb, h6, Bool.and_false])⟩, by omega⟩, gs⟩
      · refine ⟨.bool false, ?_⟩
        refine cndF (by rw [Bool.and_false]) ?_
        refine wi ?_
        exact ⟨k + 1, ⟨⟨by omega, hmiss (by rw [hb, decide_eq_false h4, Bool.false_and])⟩, by omega⟩, gs⟩
  · have e : opS l i false lev = 0 := op_none l i false lev fun j hj => hn j (by omega)
    rw [e]
    exact ⟨rfl, rfl⟩
end rr
end Go.Proofs.YtkjhlfleojcgjaaGreatDoor
set_option maxRecDepth 100000
namespace Go.Proofs.YtkjhlfleojcgjaaGreatDoor
open Go Go.Dx Go.RowKit
theorem op_bad (l : List Tok) (i : Nat) (lev : Int) : opS l i true lev = 0 := by
  by_cases h : opS l i true lev = 0
  · exact h
  · exact absurd (op_lt h).2 (by decide)
theorem atom_end {rd : Nat → Bool → RdR} {l : List Tok} {i : Nat} {bad : Bool} (h : bad = true ∨ l.length ≤ i) : atomS rd l i bad = (ex0, i, true) := by
  have hn : nowS l i bad = t0 := by
    unfold nowS
    split
    · rfl
    · rcases h with h | h
      · exact absurd h (by assumption)
      · simp [List.getD, List.getElem?_eq_none h]
  unfold atomS onS
  rw [hn]
  rfl
theorem loop_bad (rd : Nat → Bool → RdR) (l : List Tok) (lev n : Nat) (x : Ex) (i : Nat) : loopS rd l lev (n + 1) x i true = (x, i, true) := by
  unfold loopS
  rw [if_pos (op_bad l i lev)]
def RrP (b : Nat) (ad : Option Addr) (n cap : Nat) (r : RdR) (u : Value) (w' : World) (hh : View) : Prop := ∃ x : Option Addr × Nat, u = exV r.1 x ∧ w'.heap[b]? = some (.cells (rrC ad n cap ((r.2.1 : Nat) : Int) r.2.2).toArray 187 (0, 0)) ∧ XL hh x.1 x.2 r.1.l
section rf
variable (b : Nat) (ad : Option Addr) (cap : Nat) (l : List Tok)
def RrC (f : Nat) : Prop := ∀ (lev i : Nat) (bad : Bool), lev ≤ 7 → i ≤ l.length → needS l lev i ≤ f → ∀ (w0 : World) (h0 : View), VLe h0 (Full w0) → h0 b = none → SlC 84 4 (flatR tokC) h0 (.slice ad l.length cap) l →
    w0.heap[b]? = some (.cells (rrC ad l.length cap (i : Int) bad).toArray 187 (0, 0)) → Calls Tryz.prog 147 #[.pointer (some ⟨b, 0, none⟩), .int .i64 (lev : Int)] w0 (RetV [b] w0 h0 fun u w' hh => RrP b ad l.length cap (rdN l lev i bad) u w' hh)
variable {b ad cap l}
theorem c_Rfirst {f : Nat} (ih : RrC b ad cap l f) (hTs : ∀ t ∈ l, t.s.length ≤ 1000000) (hn : l.length ≤ 999999) (i : Nat) (bad : Bool) (hi : i ≤ l.length) (hf : needS l 7 i ≤ f + 1) (w0 : World) (h0 : View) (hv : VLe h0 (Full w0)) (hno : h0 b = none) (hl : SlC 84 4 (flatR tokC) h0 (.slice ad l.length cap) l)
    (hbl : w0.heap[b]? = some (.cells (rrC ad l.length cap (i : Int) bad).toArray 187 (0, 0))) :
    Calls Tryz.prog 186 #[.pointer (some ⟨b, 0, none⟩)] w0 (RetV [b] w0 h0 fun u w' hh => RrP b ad l.length cap (atomS (rdN l 0) l i bad) u w' hh) := by
  refine entW (args := [.pointer (some ⟨b, 0, none⟩)]) TT_ok [1000004] [] [.o 900 0] Tryz.func186 rfl Tryz.ntmps186 rfl rfl hv hbl hno rfl (fun x => xl_m x _) ?_
  intro b2
  refine And.intro (by kernel_rfl) ?_
  refine cnd (fun h => ?_) (fun h => ?_)
  · rw [atom_end (h.imp id fun h => by omega)]
    exact ⟨(none, 0), rfl, rfl, fun v _ _ => xl_nil v⟩
  have hb : bad = false := h.1
  subst hb
  have hlt : i < l.length := by have := h.2; omega
  have hnow : nowS l i false = l.getD i t0 := rfl
  have hon : ∀ k s, onS l i false k s = (decide ((l.getD i t0).k = k) && decide ((l.getD i t0).s = s)) := fun k s => rfl
  have hts : (l.getD i t0).s.length ≤ 1000000 := hTs _ (getD_mem l i t0 hlt)
  have g1 := rdN_ge l 0 (i + 1) false hlt
  refine regQ TT_ok [0, 1, 2, 3, 4, 5, 6, 7, 8, 9] [10, 11] [] false ?_
  refine ixs hl i t0 ?_ (by omega)
  intro b3
  refine kq ?_
  refine kq ?_
  generalize l.getD i t0 = t at hnow hon hts ⊢
  intro b4
  refine cnd (fun h1 => ?_) (fun h1 => ?_)
  · have ea : atomS (rdN l 0) l i false = (.mk 1 ⟨1, t.n, []⟩ [] [], i + 1, false) := by
      unfold atomS
      rw [hon, hnow, if_neg (by rw [h1]; simp), if_pos h1]
    rw [ea]
    refine wi ?_
    exact ⟨(none, 0), rfl, rfl, fun v _ _ => xl_nil v⟩
  refine cnd (fun h2 => ?_) (fun h2 => ?_)
  · have ea : atomS (rdN l 0) l i false = (.mk 1 ⟨2, 0, t.s⟩ [] [], i + 1, false) := by
      unfold atomS
      rw [hon, hnow, if_neg (by rw [h2]; simp), if_neg h1, if_pos h2]
    rw [ea]
    refine wi ?_
    exact ⟨(none, 0), rfl, rfl, fun v _ _ => xl_nil v⟩
  have hwd : ∀ s v, wordV s = some v → onS l i false 1 s = true → atomS (rdN l 0) l i false = (.mk 1 v [] [], i + 1, false) := fun s v hv ho => by
    rw [hon] at ho
    simp only [Bool.and_eq_true, decide_eq_true_eq] at ho
    unfold atomS
    rw [hon, hnow, if_neg (by rw [ho.1]; simp), if_neg h1, if_neg h2, if_pos ho.1, ho.2, hv]
    rfl
  refine cM TT_ok 900 (fun w v h1 h2 h3 h4 h5 => c_Ris b ad cap l i false 1 [110, 117, 108, 108] (by decide) (by omega) w v h3 h4 (Mono.slF _ _ h1 hl) h5) ?_
  refine cnd (fun h3 => ?_) (fun h3 => ?_)
  · rw [hwd _ v0 rfl h3]
    refine wi ?_
    exact ⟨(none, 0), rfl, rfl, fun v _ _ => xl_nil v⟩
  refine cM TT_ok 900 (fun w v h1 h2 h3 h4 h5 => c_Ris b ad cap l i false 1 [116, 114, 117, 101] (by decide) (by omega) w v h3 h4 (Mono.slF _ _ h1 hl) h5) ?_
  refine cnd (fun h4 => ?_) (fun h4 => ?_)
  · rw [hwd _ ⟨3, 1, []⟩ (by decide) h4]
    refine wi ?_
    exact ⟨(none, 0), rfl, rfl, fun v _ _ => xl_nil v⟩
  refine cM TT_ok 900 (fun w v h1 h2 h3 h4 h5 => c_Ris b ad cap l i false 1 [102, 97, 108, 115, 101] (by decide) (by omega) w v h3 h4 (Mono.slF _ _ h1 hl) h5) ?_
  refine cnd (fun h5 => ?_) (fun h5 => ?_)
  · rw [hwd _ ⟨3, 0, []⟩ (by decide) h5]
    refine wi ?_
    exact ⟨(none, 0), rfl, rfl, fun v _ _ => xl_nil v⟩
  have hnw : t.k = 1 → ¬ (wordV t.s).isSome = true := fun hk => by
    have e : ∀ s, onS l i false 1 s = false → ¬ t.s = s := fun s ho => by
      rw [hon, decide_eq_true hk, Bool.true_and] at ho
      exact of_decide_eq_false ho
    unfold wordV
    rw [if_neg (e _ h3), if_neg (e _ h5), if_neg (e _ h4)]
    decide
  refine clg (fun _ => c_RName t.s hts) ?_
  refine cnd (fun h6 => ?_) (fun h6 => ?_)
  · have ea : atomS (rdN l 0) l i false = (.mk 2 v0 t.s [], i + 1, false) := by
      unfold atomS
      rw [hon, hnow, if_neg (by rw [h6.1]; simp), if_neg h1, if_neg h2, if_pos h6.1, if_neg (hnw h6.1), if_pos h6.2]
    rw [ea]
    refine wi ?_
    exact ⟨(none, 0), rfl, rfl, fun v _ _ => xl_nil v⟩
  refine cM TT_ok 900 (fun w v h1 h2 h3 h4 h5 => c_Ris b ad cap l i false 4 [40] (by decide) (by omega) w v h3 h4 (Mono.slF _ _ h1 hl) h5) ?_
  refine cnd (fun h7 => ?_) (fun h7 => ?_)
  · have ea : atomS (rdN l 0) l i false = ((rdN l 0 (i + 1) false).1, mustS l (rdN l 0 (i + 1) false).2 4 [41]) := if_pos h7
    rw [ea]
    refine wi ?_
    refine cV TT_ok 900 (fun w v h1 h2 h3 h4 h5 => ih 0 (i + 1) false (by omega) hlt (by unfold needS at hf ⊢; omega) w v h3 h4 (Mono.slF _ _ h1 hl) h5) (fun x => xl_m x _) (fun x1 => ?_)
    generalize rdN l 0 (i + 1) false = r1 at g1 ⊢
    refine cM TT_ok 900 (fun w v h1 h2 h3 h4 h5 => c_Rtake b ad cap l r1.2 4 [41] (by decide) (by have := g1.2; omega) w v h3 h4 (Mono.slF _ _ h1 hl) h5) ?_
    exact ⟨x1, rfl, rfl, fun v _ hF => hF.2⟩
  · have ea : atomS (rdN l 0) l i false = (ex0, i, true) := by
      unfold atomS
      rw [h7, hnow, if_neg (by decide), if_neg h1, if_neg h2]
      by_cases hk : t.k = 1
      · rw [if_pos hk, if_neg (hnw hk), if_neg (fun hh => by rcases h6 with h6 | h6; exact h6 hk; rw [hh] at h6; cases h6)]
      · rw [if_neg hk]
    rw [ea]
    exact ⟨(none, 0), rfl, rfl, fun v _ _ => xl_nil v⟩
theorem c_Rread (hT : TokN l) (hTs : ∀ t ∈ l, t.s.length ≤ 1000000) (hn : l.length ≤ 999999) : ∀ f, RrC b ad cap l f
  | 0 => fun lev i bad h7 _ hf => absurd hf (by have := need_pos l (i := i) h7; omega)
  | f + 1 => by
    intro lev i bad h7 hi hf w0 h0 hv hno hl hbl
    have ih := c_Rread hT hTs hn f
    have hge := fun lev i bad h => rdN_ge l lev i bad h
    have hnd := fun lev i bad => rdN_nd hT lev i bad
    have hR := rdN_eq l lev i bad h7 hi
    have hR7 : lev < 7 → rdN l 7 i bad = _ := fun _ => rdN_eq l 7 i bad (Nat.le_refl _) hi
    generalize hRR : rdN l lev i bad = R at hR ⊢
    refine entW (args := [.pointer (some ⟨b, 0, none⟩), .int .i64 (lev : Int)]) TT_ok [4000026, 4000055, 49, 67, 108, 1000022] [] [.o 900 0, .v (.int .i64 (lev : Int))] Tryz.func147 rfl Tryz.ntmps147 rfl rfl hv hbl hno rfl (fun x => xl_m x _) ?_
    intro b4
    refine cnd (fun hA => ?_) (fun hA => ?_)
    · have e : R = atomS (rdN l 0) l i bad := by
        rw [hR]
        by_cases hb : bad = true
        · rw [if_pos hb, atom_end (.inl hb), hb]
        · have h7' : lev = 7 := by rcases hA with hA | hA; exact absurd hA hb; omega
          rw [if_neg hb, if_neg (by omega), if_neg (by omega), if_pos (by omega)]
      rw [e]
      refine cV TT_ok 900 (fun w v h1 h2 h3 h4 h5 => c_Rfirst ih hTs hn i bad hi (by unfold needS at hf ⊢; omega) w v h3 h4 (Mono.slF _ _ h1 hl) h5) (fun x => xl_m x _) (fun x1 => ?_)
      exact ⟨x1, rfl, rfl, fun v _ hF => hF.2⟩
    have hb : bad = false := hA.1
    have hl7 : lev < 7 := by have := hA.2; omega
    subst hb
    rw [if_neg (by decide)] at hR
    refine cnd (fun hl0 => ?_) (fun hl0 => ?_)
    · have hl0' : lev = 0 := by omega
      subst hl0'
      rw [if_pos rfl] at hR
      refine cMI TT_ok 900 (fun w v h1 h2 h3 h4 h5 => c_Ris b ad cap l i false 1 ifT (by decide) (by omega) w v h3 h4 (Mono.slF _ _ h1 hl) h5) ?_
      refine cnd (fun h1 => ?_) (fun h1 => ?_)
      · rw [if_pos h1.2] at hR
        have hlt := (on_lt h1.2 (by decide)).1
        rw [hR]
        have g1 := hge 0 (i + 1) false hlt
        have d1 := hnd 0 (i + 1) false
        unfold branchS
        refine wi ?_
        refine cV TT_ok 900 (fun w v h1 h2 h3 h4 h5 => ih 0 (i + 1) false (by omega) hlt (by unfold needS at hf ⊢; omega) w v h3 h4 (Mono.slF _ _ h1 hl) h5) (fun x => xl_m x _) (fun x1 => ?_)
        have m1 := must_ge (l := l) (p := (rdN l 0 (i + 1) false).2) (k := 1) (s := thenT) (by decide) g1.2
        generalize rdN l 0 (i + 1) false = r1 at g1 d1 m1 ⊢
        intro b5
        refine cM TT_ok 900 (fun w v h1 h2 h3 h4 h5 => c_Rtake b ad cap l r1.2 1 thenT (by decide) (by have := g1.2; omega) w v h3 h4 (Mono.slF _ _ h1 hl) h5) ?_
        generalize mustS l r1.2 1 thenT = p1 at m1 ⊢
        have g2 := hge 0 p1.1 p1.2 m1.2
        have d2 := hnd 0 p1.1 p1.2
        have f2 : needS l 0 p1.1 ≤ f := by have := g1.1; have := m1.1; unfold needS at hf ⊢; omega
        refine cV TT_ok 900 (fun w v h1 h2 h3 h4 h5 => ih 0 p1.1 p1.2 (by omega) m1.2 f2 w v h3 h4 (Mono.slF _ _ h1 hl) h5) (fun x => xl_m x _) (fun x2 => ?_)
        have m2 := must_ge (l := l) (p := (rdN l 0 p1.1 p1.2).2) (k := 1) (s := elseT) (by decide) g2.2
        generalize rdN l 0 p1.1 p1.2 = r2 at g2 d2 m2 ⊢
        intro b6
        refine cM TT_ok 900 (fun w v h1 h2 h3 h4 h5 => c_Rtake b ad cap l r2.2 1 elseT (by decide) (by have := g2.2; omega) w v h3 h4 (Mono.slF _ _ h1 hl) h5) ?_
        generalize mustS l r2.2 1 elseT = p2 at m2 ⊢
        have g3 := hge 0 p2.1 p2.2 m2.2
        have d3 := hnd 0 p2.1 p2.2
        have f3 : needS l 0 p2.1 ≤ f := by have := g2.1; have := m2.1; unfold needS at f2 ⊢; omega
        refine cV TT_ok 900 (fun w v h1 h2 h3 h4 h5 => ih 0 p2.1 p2.2 (by omega) m2.2 f3 w v h3 h4 (Mono.slF _ _ h1 hl) h5) (fun x => xl_m x _) (fun x3 => ?_)
        generalize rdN l 0 p2.1 p2.2 = r3 at g3 d3 ⊢
        intro b7
        intro b48
        refine shutG TT_ok 48 rfl (row_sl (g := rowC [(r1.1, x1), (r2.1, x2), (r3.1, x3)]) (l := List.range 3) (sz := 6) (n := 3) (cp := 3) rfl ?_) ?_ Mono.slF rfl (.inr ⟨b, _, _, 900, rfl, by decide, rfl⟩)
        · exact rowC_len _ _
        exact ⟨(some ⟨b48, 0, none⟩, 3), rfl, rfl, fun v _ hF => rowC_xl [(r1.1, x1), (r2.1, x2), (r3.1, x3)] hF.2 (fun i p hp => by
          match i, hp with
          | 0, hp => cases hp; exact XL.rx hF.1.1.1.2 d1
          | 1, hp => cases hp; exact XL.rx hF.1.1.2 d2
          | 2, hp => cases hp; exact XL.rx hF.1.2 d3
          | n + 3, hp => simp at hp)⟩
      · have h2 : onS l i false 1 ifT = false := h1.resolve_left (fun hh => hh rfl)
        rw [if_neg (by rw [h2]; decide)] at hR
        rw [hR]
        refine cndF (by decide) ⟨.bool false, ?_⟩
        refine cndF rfl ?_
        refine cndT rfl ?_
        refine wi ?_
        refine cV TT_ok 900 (fun w v h1 h2 h3 h4 h5 => ih 1 i false (by omega) hi (by unfold needS at hf ⊢; omega) w v h3 h4 (Mono.slF _ _ h1 hl) h5) (fun x => xl_m x _) (fun x1 => ?_)
        exact ⟨x1, rfl, rfl, fun v _ hF => hF.2⟩
    · have hl0' : lev ≠ 0 := fun h => hl0 (by omega)
      rw [if_neg hl0'] at hR
      refine ⟨.bool false, ?_⟩
      refine cndF (by rw [Bool.and_false]) ?_
      refine cnd (fun h6 => ?_) (fun h6 => ?_)
      · have h6' : lev = 6 := by omega
        subst h6'
        refine cMI TT_ok 900 (fun w v h1 h2 h3 h4 h5 => c_Ris b ad cap l i false 4 [45] (by decide) (by omega) w v h3 h4 (Mono.slF _ _ h1 hl) h5) ?_
        refine cnd (fun h1 => ?_) (fun h1 => ?_)
        · rw [if_pos ⟨rfl, h1.2⟩] at hR
          have hlt := (on_lt h1.2 (by decide)).1
          have d1 := hnd 6 (i + 1) false
          refine wi ?_
          refine cV TT_ok 900 (fun w v h1 h2 h3 h4 h5 => ih 6 (i + 1) false (by omega) hlt (by unfold needS at hf ⊢; omega) w v h3 h4 (Mono.slF _ _ h1 hl) h5) (fun x => xl_m x _) (fun x1 => ?_)
          generalize rdN l 6 (i + 1) false = r1 at d1 hR ⊢
          rw [hR]
          intro b66
          refine shutG TT_ok 66 rfl (row_sl (g := rowC [(r1.1, x1)]) (l := List.range 1) (sz := 6) (n := 1) (cp := 1) rfl ?_) ?_ Mono.slF rfl (.inr ⟨b, _, _, 900, rfl, by decide, rfl⟩)
          · exact rowC_len _ _
          exact ⟨(some ⟨b66, 0, none⟩, 1), rfl, rfl, fun v _ hF => rowC_xl [(r1.1, x1)] hF.2 (fun i p hp => by
            match i, hp with
            | 0, hp => cases hp; exact XL.rx hF.1.2 d1
            | n + 1, hp => simp at hp)⟩
        · have h2 : onS l i false 4 [45] = false := h1.resolve_left (fun hh => hh rfl)
          rw [if_neg (fun hh => by rw [h2] at hh; cases hh.2), if_pos (by omega)] at hR
          have e7 : R = rdN l 7 i false := by
            rw [hR, hR7 (by omega), if_neg (by decide), if_neg (by omega), if_neg (by omega), if_pos (by omega)]
          rw [e7]
          refine cndT rfl ?_
          refine wi ?_
          refine cV TT_ok 900 (fun w v h1 h2 h3 h4 h5 => ih 7 i false (by omega) hi (by unfold needS at hf ⊢; omega) w v h3 h4 (Mono.slF _ _ h1 hl) h5) (fun x => xl_m x _) (fun x1 => ?_)
          exact ⟨x1, rfl, rfl, fun v _ hF => hF.2⟩
      · have h6' : lev ≠ 6 := fun h => h6 (by omega)
        rw [if_neg (fun hh => h6' hh.1), if_neg (by omega)] at hR
        refine ⟨.bool false, ?_⟩
        refine cndF (by rw [Bool.and_false]) ?_
        refine cndF (by simp; omega) ?_
        have g1 := hge (lev + 1) i false hi
        have d1 := hnd (lev + 1) i false
        refine wi ?_
        refine cV TT_ok 900 (fun w v h1 h2 h3 h4 h5 => ih (lev + 1) i false (by omega) hi (by unfold needS at hf ⊢; omega) w v h3 h4 (Mono.slF _ _ h1 hl) h5) (fun x => xl_m x _) (fun x1 => ?_)
        generalize rdN l (lev + 1) i false = r1 at g1 d1 hR ⊢
        intro b8
        refine w_loopF TT_ok (fun _ => []) (fun x : Ex × (Option Addr × Nat) × Nat × Bool => [(8, .c b8 50 (exC x.1.op x.1.v x.1.s (.slice x.2.1.1 x.1.l.length x.2.1.2))), (4, .c b4 50 (exC 0 v0 [] (.slice none 0 0))), (900, .c b 187 (rrC ad l.length cap ((x.2.2.1 : Nat) : Int) x.2.2.2))])
          (fun x h => XL h x.2.1.1 x.2.1.2 x.1.l) (r1.1, x1, r1.2.1, r1.2.2) (fun x => x.2.2.1 ≤ l.length ∧ i ≤ x.2.2.1 ∧ Nd x.1 ∧ ∃ n, l.length - x.2.2.1 < n ∧ loopS (rdN l (lev + 1)) l lev n x.1 x.2.2.1 x.2.2.2 = R) (fun x => l.length - x.2.2.1) (fun x => xl_m x.2.1 _) ?_
        refine And.intro ⟨⟨g1.2, g1.1, d1, l.length + 1, by show l.length - r1.2.1 < l.length + 1; omega, hR.symm⟩, gs (fv := fun v hF => hF.2)⟩ ?_
        rintro ⟨e, x, i', bad'⟩ ⟨hi', hii, hNd, n, hn1, hR'⟩
        simp only at hi' hii hNd hn1 hR'
        obtain ⟨n, rfl⟩ : ∃ m, n = m + 1 := ⟨n - 1, by omega⟩
        refine cnd (fun hb => ?_) (fun hb => ?_)
        · have hb : bad' = false := hb
          subst hb
          rw [loopS] at hR'
          refine cM TT_ok 900 (fun w v h1 h2 h3 h4 h5 => c_Rop b ad cap l i' lev (by omega) w v h3 h4 (Mono.slF _ _ h1 hl) h5) ?_
          refine cnd (fun h => ?_) (fun h => ?_)
          · rw [if_pos h] at hR'
            rw [← hR']
            exact ⟨x, rfl, rfl, fun v _ hF => hF⟩
          · rw [if_neg h] at hR'
            obtain ⟨hlt, _⟩ := op_lt h
            have g1 := hge (lev + 1) (i' + 1) false hlt
            have d1 := hnd (lev + 1) (i' + 1) false
            refine wi ?_
            refine regQ TT_ok [0, 1, 2, 3, 4] [5, 6, 7, 8] [900] true ?_
            refine wi ?_
            refine cV TT_ok 900 (fun w v h1 h2 h3 h4 h5 => ih (lev + 1) (i' + 1) false (by omega) hlt (by unfold needS at hf ⊢; omega) w v h3 h4 (Mono.slF _ _ h1 hl) h5) (fun x => xl_m x _) (fun x1 => ?_)
            have hlb := fun n => loop_bad (rdN l (lev + 1)) l lev n
            generalize rdN l (lev + 1) (i' + 1) false = r1 at g1 d1 hR' ⊢
            refine kq ?_
            intro b107
            refine kq ?_
            refine shutG TT_ok 107 rfl (row_sl (g := rowC [(e, x), (r1.1, x1)]) (l := List.range 2) (sz := 6) (n := 2) (cp := 2) rfl ?_) ?_ Mono.slF rfl (.inr ⟨b, _, _, 900, rfl, by decide, rfl⟩)
            · exact rowC_len _ _
            refine kq ?_
            have hx : ∀ v, (XL v x.1 x.2 e.l ∧ XL v x1.1 x1.2 r1.1.l) ∧ SlC 50 6 (flatR (rowC [(e, x), (r1.1, x1)])) v (.slice (some ⟨b107, 0, none⟩) 2 2) (List.range 2) → XL v (some ⟨b107, 0, none⟩) 2 [e, r1.1] := fun v hF => rowC_xl [(e, x), (r1.1, x1)] hF.2 (fun i p hp => by
              match i, hp with
              | 0, hp => cases hp; exact XL.rx hF.1.1 hNd
              | 1, hp => cases hp; exact XL.rx hF.1.2 d1
              | n + 2, hp => simp at hp)
            refine cnd (fun h2 => ?_) (fun h2 => ?_)
            · rw [if_neg (fun hh => hh.1 (by omega))] at hR'
              rw [← hR']
              exact ⟨(some ⟨b107, 0, none⟩, 2), rfl, rfl, fun v _ hF => hx v hF⟩
            · have hR2 : ∃ n', l.length - r1.2.1 < n' ∧ loopS (rdN l (lev + 1)) l lev n' (.mk (opS l i' false lev) v0 [] [e, r1.1]) r1.2.1 r1.2.2 = R := by
                cases hb : r1.2.2 with
                | false =>
                  rw [if_pos ⟨by omega, hb⟩, hb] at hR'
                  exact ⟨n, by have := g1.1; omega, hR'⟩
                | true =>
                  rw [if_neg (fun hh => by rw [hb] at hh; cases hh.2)] at hR'
                  refine ⟨l.length + 1, by omega, ?_⟩
                  rw [hlb, ← hR', ← hb]
              exact ⟨(.mk (opS l i' false lev) v0 [] [e, r1.1], (some ⟨b107, 0, none⟩, 2), r1.2.1, r1.2.2), ⟨⟨g1.2, by have := g1.1; show i ≤ r1.2.1; omega, nd_v0 (op_i64 _ _ _ _), hR2⟩, by have := g1.1; show l.length - r1.2.1 < l.length - i'; omega⟩, gs (fv := fun v hF => hx v hF)⟩
        · have hb : bad' = true := by simpa using hb
          subst hb
          rw [loop_bad] at hR'
          rw [← hR']
          exact ⟨x, rfl, rfl, fun v _ hF => hF⟩
end rf
theorem c_RRead (ad : Option Addr) (cap : Nat) (l : List Tok) (hT : TokN l) (hTs : ∀ t ∈ l, t.s.length ≤ 1000000) (hn : l.length ≤ 999999) (i lev : Nat) (hi : i ≤ l.length) (hlev : lev ≤ 7) (w0 : World) (h0 : View) (hv : VLe h0 (Full w0)) (hl : SlC 84 4 (flatR tokC) h0 (.slice ad l.length cap) l) :
    Calls Tryz.prog 113 #[.slice ad l.length cap, .int .i64 (i : Int), .int .i64 (lev : Int)] w0 (Ret w0 h0 fun u hh => ∃ x : Option Addr × Nat, u = .tuple #[exV (readT l i lev).1 x, .int .i64 (((readT l i lev).2.1 : Nat) : Int), .int .i64 (readT l i lev).2.2] ∧ XL hh x.1 x.2 (readT l i lev).1.l) := by
  have g1 := rdN_ge l lev i false hi
  unfold readT
  refine entA (args := [.slice ad l.length cap, .int .i64 (i : Int), .int .i64 (lev : Int)]) TT_ok [1000006, 1000007] [] Tryz.func113 rfl Tryz.ntmps113 rfl rfl hv (fun x => xl_m x _) ?_
  intro b6
  refine cndF (by simp; omega) ?_
  intro b31
  refine cV TT_ok 31 (fun w v h1 h2 h3 h4 h5 => c_Rread hT hTs hn (needS l lev i) lev i false hlev hi (Nat.le_refl _) w v h3 h4 (Mono.slF _ _ h1 hl) h5) (fun x => xl_m x _) (fun x1 => ?_)
  show _
  unfold rdN at g1 ⊢
  generalize rdF l (needS l lev i) lev i false = r at g1 ⊢
  intro b10
  refine cnd (fun h => ?_) (fun h => ?_)
  · rw [if_pos h]
    refine regQ TT_ok [0, 1, 2, 3, 4] [5, 6, 7] [6] false ?_
    refine kq ?_
    refine kq ?_
    refine kq ?_
    exact ⟨(none, 0), rfl, fun v _ _ => xl_nil v⟩
  · rw [if_neg (by rw [h]; decide)]
    refine regQ TT_ok [0, 1, 2, 3, 4] [5, 6, 7] [6] false ?_
    refine kq ?_
    refine kq ?_
    refine kq ?_
    exact ⟨x1, rfl, fun v _ hF => hF.2⟩
end Go.Proofs.YtkjhlfleojcgjaaGreatDoor
set_option maxRecDepth 100000
namespace Go.Proofs.YtkjhlfleojcgjaaGreatDoor
open Go Go.Dx Go.RowKit
theorem mC_bad (l : List Tok) (i : Nat) (s : List UInt8) : mustC l (i, true) s = (i, true) := if_neg (by rw [on_bad]; decide)
theorem on_two {l : List Tok} {i : Nat} {bad : Bool} {s u : List UInt8} (h : onS l i bad 4 s = true) (hne : s ≠ u) : onS l i bad 4 u = false := by
  unfold onS at h ⊢
  simp only [Bool.and_eq_true, decide_eq_true_eq] at h
  rw [h.2, decide_eq_false hne, Bool.and_false]
section rr17
variable (b : Nat) (ad : Option Addr) (cap : Nat) (l : List Tok)
theorem c_Ris17 (i : Nat) (bad : Bool) (s : List UInt8) (hi : i ≤ 1000000) (w0 : World) (h0 : View) (hv : VLe h0 (Full w0)) (hno : h0 b = none) (hl : SlC 84 4 (flatR tokC) h0 (.slice ad l.length cap) l)
    (hbl : w0.heap[b]? = some (.cells (rrC ad l.length cap i bad).toArray 89 (0, 0))) :
    Calls Tryz.prog 36 #[.pointer (some ⟨b, 0, none⟩), vs s] w0 (RetM [b] w0 fun u w' => u = .bool (onS l i bad 4 s) ∧ w'.heap[b]? = some (.cells (rrC ad l.length cap i bad).toArray 89 (0, 0))) := by
  refine entM (args := [.pointer (some ⟨b, 0, none⟩), vs s]) TT_ok [] [] [.o 900 0, .v (vs s)] Tryz.func36 rfl Tryz.ntmps36 rfl rfl hv hbl hno rfl ?_
  refine And.intro (by kernel_rfl) ?_
  refine ixsg hl i t0 ?_ (fun h => by simp at h; omega)
  refine kg1 ?_
  refine ixsg hl i t0 ?_ (fun h => by simp at h; omega)
  refine kg1 ?_
  refine ⟨?_, rfl⟩
  refine congrArg Value.bool ?_
  cases bad with
  | true => rw [on_bad]; simp
  | false =>
    by_cases h : i < l.length
    · rw [onS, nowS]
      simp [h]
    · have e : onS l i false 4 s = false := by
        cases ho : onS l i false 4 s with
        | false => rfl
        | true => exact absurd (on_lt ho (by decide)).1 h
      rw [e]
      simp [h]
theorem c_Rmust17 (p : CSt) (s : List UInt8) (hi : p.1 ≤ 1000000) (w0 : World) (h0 : View) (hv : VLe h0 (Full w0)) (hno : h0 b = none) (hl : SlC 84 4 (flatR tokC) h0 (.slice ad l.length cap) l)
    (hbl : w0.heap[b]? = some (.cells (rrC ad l.length cap (p.1 : Nat) p.2).toArray 89 (0, 0))) :
    Calls Tryz.prog 38 #[.pointer (some ⟨b, 0, none⟩), vs s] w0 (RetM [b] w0 fun u w' => u = .tuple #[] ∧ w'.heap[b]? = some (.cells (rrC ad l.length cap ((mustC l p s).1 : Nat) (mustC l p s).2).toArray 89 (0, 0))) := by
  obtain ⟨i, bad⟩ := p
  dsimp only at hbl hi
  refine entM (args := [.pointer (some ⟨b, 0, none⟩), vs s]) TT_ok [] [] [.o 900 0, .v (vs s)] Tryz.func38 rfl Tryz.ntmps38 rfl rfl hv hbl hno rfl ?_
  refine cM TT_ok 900 (fun w v h1 h2 h3 h4 h5 => c_Ris17 b ad cap l i bad s hi w v h3 h4 (Mono.slF _ _ h1 hl) h5) ?_
  refine cnd (fun h => ?_) (fun h => ?_)
  · have h : onS l i bad 4 s = true := h
    have e : mustC l (i, bad) s = (i + 1, bad) := if_pos h
    rw [e]
    refine wi ?_
    exact ⟨rfl, rfl⟩
  · have h : onS l i bad 4 s = false := h
    have e : mustC l (i, bad) s = (i, true) := if_neg (by rw [h]; decide)
    rw [e]; exact ⟨rfl, rfl⟩
theorem c_Rsign17 (k : Int) (w0 : World) (h0 : View) (hv : VLe h0 (Full w0)) : Calls Tryz.prog 73 #[.int .i64 k] w0 (Ret w0 h0 fun u _ => u = vs (sgC k)) := by
  refine ent (args := [.int .i64 k]) TT_ok [] [] Tryz.func73 rfl Tryz.ntmps73 rfl rfl hv ?_
  unfold sgC
  refine cnd (fun h => ?_) (fun h => ?_)
  · rw [if_pos h]; exact rfl
  rw [if_neg h]
  refine cnd (fun h => ?_) (fun h => ?_)
  · rw [if_pos h]; exact rfl
  rw [if_neg h]
  refine cnd (fun h => ?_) (fun h => ?_)
  · rw [if_pos h]; exact rfl
  rw [if_neg h]
  refine cnd (fun h => ?_) (fun h => ?_)
  · rw [if_pos h]; exact rfl
  rw [if_neg h]
  exact rfl
variable {b ad cap l}
theorem c_Rexpr17 (hT : TokN l) (hTs : ∀ t ∈ l, t.s.length ≤ 1000000) (hn : l.length ≤ 999999) (p : CSt) (hi : p.1 ≤ l.length) (w0 : World) (h0 : View) (hv : VLe h0 (Full w0)) (hno : h0 b = none) (hl : SlC 84 4 (flatR tokC) h0 (.slice ad l.length cap) l)
    (hbl : w0.heap[b]? = some (.cells (rrC ad l.length cap (p.1 : Nat) p.2).toArray 89 (0, 0))) :
    Calls Tryz.prog 74 #[.pointer (some ⟨b, 0, none⟩)] w0 (RetV [b] w0 h0 fun u w' hh => ∃ x : Option Addr × Nat, u = exV (exprC l p).1 x ∧ w'.heap[b]? = some (.cells (rrC ad l.length cap ((exprC l p).2.1 : Nat) (exprC l p).2.2).toArray 89 (0, 0)) ∧ XL hh x.1 x.2 (exprC l p).1.l) := by
  obtain ⟨i, bad⟩ := p
  dsimp only at hbl hi
  have hR : exprC l (i, bad) = if bad = true then (ex0, (i, bad)) else ((readT l i 4).1, (readT l i 4).2.1, decide ((readT l i 4).2.2 ≠ 0)) := rfl
  generalize exprC l (i, bad) = R at hR ⊢
  refine entW (args := [.pointer (some ⟨b, 0, none⟩)]) TT_ok [1000003] [] [.o 900 0] Tryz.func74 rfl Tryz.ntmps74 rfl rfl hv hbl hno rfl (fun x => xl_m x _) ?_
  intro b2
  refine cnd (fun h => ?_) (fun h => ?_)
  · have h : bad = true := h
    rw [if_pos h] at hR
    rw [hR]
    exact ⟨(none, 0), rfl, rfl, fun v _ _ => xl_nil v⟩
  have h : bad = false := by simpa using h
  subst h
  rw [if_neg (by decide), show decide ((readT l i 4).2.2 ≠ 0) = !decide ((readT l i 4).2.2 = 0) from decide_not] at hR
  have hg := rt_ge l (lev := 4) hi
  refine regPt TT_ok (.m [0,4,1,5,2,6,3,7] (.n 8 (.m [9,10,11,12] (.n 13 (.n 14 (.m [15,16] .e) .z) .z)) (.n 13 (.n 8 (.m [9,10,11,12] (.n 14 (.m [15,16] .e) .z)) .z) .z))) [3] ?_
  refine kq ⟨?_, ?_⟩
  · refine cA TT_ok (fun w v h1 h2 h3 => c_RRead ad cap l hT hTs hn i 4 hi (by omega) w v h3 (Mono.slF _ _ h1 hl)) (fun x => xl_m x _) (fun x1 => ?_)
    generalize readT l i 4 = r at hR hg ⊢
    rw [hR]
    refine kq ?_
    refine kq ?_
    intro b3
    refine kq ?_
    refine kq ?_
    refine kq ?_
    exact ⟨x1, rfl, rfl, fun v _ hF => hF.2⟩
  · intro b3
    refine kq ?_
    refine cA TT_ok (fun w v h1 h2 h3 => c_RRead ad cap l hT hTs hn i 4 hi (by omega) w v h3 (Mono.slF _ _ h1 hl)) (fun x => xl_m x _) (fun x1 => ?_)
    generalize readT l i 4 = r at hR hg ⊢
    rw [hR]
    refine kq ?_
    refine kq ?_
    refine kq ?_
    refine kq ?_
    exact ⟨x1, rfl, rfl, fun v _ hF => hF.2⟩
set_option maxHeartbeats 2000000 in
theorem c_Rtest17 (hT : TokN l) (hTs : ∀ t ∈ l, t.s.length ≤ 1000000) (hn : l.length ≤ 999999) (p : CSt) (hi : p.1 ≤ l.length) (w0 : World) (h0 : View) (hv : VLe h0 (Full w0)) (hno : h0 b = none) (hl : SlC 84 4 (flatR tokC) h0 (.slice ad l.length cap) l)
    (hbl : w0.heap[b]? = some (.cells (rrC ad l.length cap (p.1 : Nat) p.2).toArray 89 (0, 0))) :
    Calls Tryz.prog 37 #[.pointer (some ⟨b, 0, none⟩)] w0 (RetV [b] w0 h0 fun u w' hh => ∃ x, u = tstV (testC l p).1 x ∧ w'.heap[b]? = some (.cells (rrC ad l.length cap ((testC l p).2.1 : Nat) (testC l p).2.2).toArray 89 (0, 0)) ∧ TX hh (testC l p).1 x) := by
  obtain ⟨i, bad⟩ := p
  dsimp only at hbl hi
  have hhit := fun k => test_hit (l := l) (p := (i, bad)) (k := k)
  have hnone := test_no (l := l) (p := (i, bad))
  dsimp only at hhit hnone
  generalize testC l (i, bad) = R at hhit hnone ⊢
  refine entW (args := [.pointer (some ⟨b, 0, none⟩)]) TT_ok [4000029] [9, 14] [.o 900 0] Tryz.func37 rfl Tryz.ntmps37 rfl rfl hv hbl hno rfl (fun x => tx_m x _) ?_
  intro b2
  refine w_loop TT_ok (fun k : Nat => [(3, .v (.int .i64 ((k + 2 : Nat) : Int)))]) 0 (fun k => k ≤ 4 ∧ ∀ j, j < k → onS l i bad 4 (sgC ((j + 2 : Nat) : Int)) = false) (fun k => 4 - k) ?_
  refine And.intro ⟨⟨Nat.zero_le _, fun j hj => absurd hj (Nat.not_lt_zero j)⟩, gs⟩ ?_
  intro k ⟨hk, hnk⟩
  refine cnd (fun h => ?_) (fun h => ?_)
  · have hk4 : k < 4 := by omega
    refine cl (c_Rsign17 ((k + 2 : Nat) : Int)) ?_
    refine cM TT_ok 900 (fun w v h1 h2 h3 h4 h5 => c_Ris17 b ad cap l i bad (sgC ((k + 2 : Nat) : Int)) (by omega) w v h3 h4 (Mono.slF _ _ h1 hl) h5) ?_
    refine cnd (fun h1 => ?_) (fun h1 => ?_)
    · have h1 : onS l i bad 4 (sgC ((k + 2 : Nat) : Int)) = true := h1
      have hlt := (on_lt h1 (by decide)).1
      have e := hhit k hk4 hnk h1
      rw [e]
      refine wi ?_
      refine cV TT_ok 900 (fun w v h1 h2 h3 h4 h5 => c_Rexpr17 hT hTs hn (i + 1, bad) hlt w v h3 h4 (Mono.slF _ _ h1 hl) h5) (fun x => xl_m x _) (fun x1 => ?_)
      exact ⟨(x1, (none, 0)), rfl, rfl, fun v _ hF => ⟨hF.2, xl_nil v⟩⟩
    · refine wi ?_
      exact ⟨k + 1, ⟨⟨by omega, upto_snoc hnk h1⟩, by omega⟩, gs⟩
  have e := hnone (fun j hj => hnk j (by omega))
  clear hhit hnone
  have hlt := fun s => (fun h => (on_lt (l := l) (i := i) (bad := bad) (k := 4) (s := s) h (by decide)).1)
  refine w_cutB TT_ok (fun _ : Unit => []) (fun _ => [(2, .c b2 52 (tstC tst0 none 0 none 0)), (900, .c b 89 (rrC ad l.length cap (i : Int) bad))]) (fun _ => R = inC l (i + 1, bad) (onS l i bad 4 [93]) ∧ i < l.length) ?_
  refine And.intro ?_ ?_
  · refine cM TT_ok 900 (fun w v h1 h2 h3 h4 h5 => c_Ris17 b ad cap l i bad [91] (by omega) w v h3 h4 (Mono.slF _ _ h1 hl) h5) ?_
    refine cnd (fun h1 => ?_) (fun h1 => ?_)
    · have h1 : onS l i bad 4 [91] = false := by simpa using h1
      rw [if_neg (by rw [h1]; decide)] at e
      refine cMI TT_ok 900 (fun w v h1 h2 h3 h4 h5 => c_Ris17 b ad cap l i bad [93] (by omega) w v h3 h4 (Mono.slF _ _ h1 hl) h5) ?_
      refine cnd (fun h2 => ?_) (fun h2 => ?_)
      · have h2 : onS l i bad 4 [93] = false := by
          have h2 := h2.2
          simpa using h2
        rw [if_neg (by rw [h2]; decide)] at e
        rw [e]
        refine cV TT_ok 900 (fun w v h1 h2 h3 h4 h5 => c_Rexpr17 hT hTs hn (i, bad) hi w v h3 h4 (Mono.slF _ _ h1 hl) h5) (fun x => xl_m x _) (fun x1 => ?_)
        exact ⟨(x1, (none, 0)), rfl, rfl, fun v _ hF => ⟨hF.2, xl_nil v⟩⟩
      · have h2 : onS l i bad 4 [93] = true := by
          rcases h2 with h2 | h2
          · rw [h1] at h2; exact absurd h2 (by decide)
          · simpa using h2
        rw [if_pos h2] at e
        exact ⟨(), ⟨by rw [h2]; exact e, hlt _ h2⟩, gs⟩
    · have h1 : onS l i bad 4 [91] = true := by simpa using h1
      rw [if_pos h1] at e
      refine ⟨.bool false, ?_⟩
      refine cndF (by rw [h1]; rfl) ?_
      exact ⟨(), ⟨by rw [on_two h1 (by decide)]; exact e, hlt _ h1⟩, gs⟩
  intro _ ⟨e, hlt⟩
  refine cM TT_ok 900 (fun w v h1 h2 h3 h4 h5 => c_Ris17 b ad cap l i bad [93] (by omega) w v h3 h4 (Mono.slF _ _ h1 hl) h5) ?_
  generalize onS l i bad 4 [93] = lo at e ⊢
  intro b4
  refine wi ?_
  unfold inC at e
  have n1 := ex_ge (l := l) (p := (i + 1, bad)) hlt
  refine cV TT_ok 900 (fun w v h1 h2 h3 h4 h5 => c_Rexpr17 hT hTs hn (i + 1, bad) hlt w v h3 h4 (Mono.slF _ _ h1 hl) h5) (fun x => xl_m x _) (fun x1 => ?_)
  generalize exprC l (i + 1, bad) = r1 at e n1 ⊢
  have n2 := mC_ge (l := l) (p := r1.2) [46, 46] n1.2
  refine w_cutB TT_ok (fun _ : Unit => []) (fun _ => [(4, .c b4 52 (tstC ⟨6, r1.1, ex0, lo, false⟩ x1.1 x1.2 none 0)), (2, .c b2 52 (tstC tst0 none 0 none 0)), (900, .c b 89 (rrC ad l.length cap ((mustC l r1.2 [46, 46]).1 : Nat) (mustC l r1.2 [46, 46]).2))]) (fun _ => True) ?_
  refine And.intro ?_ ?_
  · refine cnd (fun h2 => ?_) (fun h2 => ?_)
    · refine cM TT_ok 900 (fun w v h1 h2 h3 h4 h5 => c_Rmust17 b ad cap l r1.2 [46, 46] (by have := n1.2; omega) w v h3 h4 (Mono.slF _ _ h1 hl) h5) ?_
      exact ⟨(), trivial, gs⟩
    · have h2 : r1.2.2 = true := by simpa using h2
      obtain ⟨y, j, bd⟩ := r1
      have h2 : bd = true := h2
      subst h2
      have e2 := mC_bad l j [46, 46]
      exact ⟨(), trivial, gs rfl (by dsimp only; rw [e2]; rfl)⟩
  intro _ _
  generalize mustC l r1.2 [46, 46] = p2 at e n2 ⊢
  have n3 := ex_ge (l := l) (p := p2) n2.2
  refine cV TT_ok 900 (fun w v h1 h2 h3 h4 h5 => c_Rexpr17 hT hTs hn p2 n2.2 w v h3 h4 (Mono.slF _ _ h1 hl) h5) (fun x => xl_m x _) (fun x2 => ?_)
  generalize exprC l p2 = r3 at e n3 ⊢
  refine cM TT_ok 900 (fun w v h1 h2 h3 h4 h5 => c_Ris17 b ad cap l r3.2.1 r3.2.2 [91] (by have := n3.2; omega) w v h3 h4 (Mono.slF _ _ h1 hl) h5) ?_
  refine cnd (fun h3 => ?_) (fun h3 => ?_)
  · have h3 : onS l r3.2.1 r3.2.2 4 [91] = true := h3
    rw [if_pos h3] at e
    rw [h3, e]
    refine wi ?_
    exact ⟨(x1, x2), rfl, rfl, fun v _ hF => ⟨hF.1.2, hF.2⟩⟩
  · have h3 : onS l r3.2.1 r3.2.2 4 [91] = false := h3
    rw [if_neg (by rw [h3]; decide)] at e
    rw [h3, e]
    refine cnd (fun h4 => ?_) (fun h4 => ?_)
    · refine cM TT_ok 900 (fun w v h1 h2 h3 h4 h5 => c_Rmust17 b ad cap l r3.2 [93] (by have := n3.2; omega) w v h3 h4 (Mono.slF _ _ h1 hl) h5) ?_
      exact ⟨(x1, x2), rfl, rfl, fun v _ hF => ⟨hF.1.2, hF.2⟩⟩
    · have h4 : r3.2.2 = true := by simpa using h4
      obtain ⟨y, j, bd⟩ := r3
      have h4 : bd = true := h4
      subst h4
      have e2 := mC_bad l j [93]
      dsimp only
      rw [e2]
      exact ⟨(x1, x2), rfl, rfl, fun v _ hF => ⟨hF.1.2, hF.2⟩⟩
end rr17
end Go.Proofs.YtkjhlfleojcgjaaGreatDoor
set_option maxRecDepth 100000
namespace Go.Proofs.YtkjhlfleojcgjaaGreatDoor
open Go Go.Dx Go.RowKit
theorem neg_iff {l : List Tok} : negC l = true ↔ (((((1 : Int) < (l.length : Int) ∧ (l.getD 0 t0).k = 1) ∧ (l.getD 0 t0).s = [110, 111, 116]) ∧ (l.getD 1 t0).k = 4) ∧ (l.getD 1 t0).s = [40]) := by
  have e : ((1 : Int) < (l.length : Int)) ↔ 1 < l.length := by omega
  unfold negC
  rw [e]
  simp only [Bool.and_eq_true, decide_eq_true_eq]
def tailC (l : List Tok) (f : Nat) (p : CSt) : List Tst × CSt := if onS l p.1 p.2 4 [44] = true then testsC l f (p.1 + 1, p.2) else ([], p)
theorem tests_tail (l : List Tok) (f : Nat) (p : CSt) : testsC l (f + 1) p = ((testC l p).1 :: (tailC l f (testC l p).2).1, (tailC l f (testC l p).2).2) := by
  rw [testsC, tailC]
  split <;> rfl
set_option maxHeartbeats 4000000 in
theorem c_RCParse (s : List UInt8) (w0 : World) (h0 : View) (hv : VLe h0 (Full w0)) :
    Calls Tryz.prog 12 #[vs s] w0 (Ret w0 h0 fun u hh => ∃ x : Option Addr × Nat, u = cpV (parseC s) x ∧ TL hh x.1 x.2 (parseC s).1.ts) := by
  obtain ⟨hT, hTs, hn, _⟩ := lex_facts s
  obtain ⟨hR, hn2, hP⟩ := lex_facts2 s
  have hpc : parseC s = if (lexS s).2.2 ≠ 0 then (cel0, (lexS s).2.1, (lexS s).2.2)
      else if (lexS s).1.length = 1 ∧ onS (lexS s).1 0 false 4 [45] = true then (⟨true, false, []⟩, 0, 0)
      else if (endC (lexS s).1).1 < (lexS s).1.length then (cel0, ((lexS s).1.getD (endC (lexS s).1).1 t0).p, 11)
      else if (endC (lexS s).1).2 = true then (cel0, s.length, 11)
      else if 12 < (cellC (lexS s).1).1.length then (cel0, 0, 24)
      else if rightC ⟨false, negC (lexS s).1, (cellC (lexS s).1).1⟩ = true then (⟨false, negC (lexS s).1, (cellC (lexS s).1).1⟩, 0, 0) else (cel0, 0, 12) := rfl
  generalize parseC s = P at hpc ⊢
  refine entA (args := [vs s]) TT_ok [1000011, 1000014, 1000018, 4000029, 103] [7, 11, 17] Tryz.func12 rfl Tryz.ntmps12 rfl rfl hv (fun x => tl_m x _) ?_
  intro b2
  refine cA TT_ok (fun w v h1 h2 h3 => c_RLex s w v h3) (fun _ => Mono.slF) (fun x => ?_)
  generalize lexS s = L at hT hTs hn hR hn2 hP hpc ⊢
  obtain ⟨l, at_, e⟩ := L
  dsimp only at hT hTs hn hR hn2 hP hpc ⊢
  refine cnd (fun h => ?_) (fun h => ?_)
  · rw [if_pos h] at hpc
    rw [hpc]
    exact ⟨(none, 0), rfl, fun v _ _ => tl_nil v⟩
  rw [if_neg (fun hh => hh (by simpa using h))] at hpc
  intro b23
  refine w_cutB TT_ok (fun _ : Unit => []) (fun _ => [(23, .c b23 89 (rrC x.1 l.length x.2 ((0 : Nat) : Int) false)), (2, .c b2 25 (celC cel0 none 0))]) (fun _ => ¬ (l.length = 1 ∧ onS l 0 false 4 [45] = true)) ?_
  refine And.intro ?_ ?_
  · refine cnd (fun h1 => ?_) (fun h1 => ?_)
    · refine cMI TT_ok 23 (fun w v h1 h2 h3 h4 h5 => c_Ris17 b23 x.1 x.2 l 0 false [45] (by decide) w v h3 h4 h2.2 h5) ?_
      refine cnd (fun h2 => ?_) (fun h2 => ?_)
      · have h2 : onS l 0 false 4 [45] = true := h2.2
        rw [if_pos ⟨by omega, h2⟩] at hpc
        rw [hpc]
        exact ⟨(none, 0), rfl, fun v _ _ => tl_nil v⟩
      · have h2 : onS l 0 false 4 [45] = false := h2.resolve_left (fun hh => hh h1)
        exact ⟨(), fun hh => by rw [h2] at hh; exact absurd hh.2 (by decide), gs⟩
    · refine ⟨.bool false, ?_⟩
      refine cndF (by simp) ?_
      exact ⟨(), fun hh => h1 (by omega), gs⟩
  intro _ hno
  rw [if_neg hno] at hpc
  have hneg : negC l = true → 2 ≤ l.length := fun h => by
    simp only [negC, Bool.and_eq_true, decide_eq_true_eq] at h; omega
  have hnd := tests_nd hT (l := l) (l.length + 1) (if negC l = true then 2 else 0, false)
  have hce : testsC l (l.length + 1) (if negC l = true then 2 else 0, false) = cellC l := rfl
  have hcl : ∀ t ∈ (cellC l).1, ndTs t := hnd
  have hee : endC l = if negC l = true then mustC l (cellC l).2 [41] else (cellC l).2 := rfl
  have hcg := cell_ge (l := l)
  have heg := end_ge (l := l)
  have hok := end_ok (l := l) hR
  have hdp : ∀ t ∈ (cellC l).1, dpTs t := tests_dp hn2 (l.length + 1) (if negC l = true then 2 else 0, false)
  generalize endC l = E at hpc hee heg hok
  generalize cellC l = R at hpc hce hcl hee hcg hok hdp
  intro b9
  refine w_cutB TT_ok (fun _ : Nat => []) (fun i0 => [(9, .c b9 25 (celC ⟨false, negC l, []⟩ none 0)), (23, .c b23 89 (rrC x.1 l.length x.2 (i0 : Int) false)), (2, .c b2 25 (celC cel0 none 0))]) (fun i0 => i0 = if negC l = true then 2 else 0) ?_
  refine And.intro ?_ ?_
  · refine ixfg (fun v hF => hF.2) 0 t0 ?_ (by intros; omega)
    refine kg1 ?_
    refine ixfg (fun v hF => hF.2) 0 t0 ?_ (fun h => by simp at h; omega)
    refine kg1 ?_
    refine ixfg (fun v hF => hF.2) 1 t0 ?_ (fun h => by simp at h; omega)
    refine kg1 ?_
    refine ixfg (fun v hF => hF.2) 1 t0 ?_ (fun h => by simp at h; omega)
    refine kg1 ?_
    refine cnd (fun h1 => ?_) (fun h1 => ?_)
    · have hg : negC l = true := neg_iff.2 h1
      exact ⟨2, by rw [if_pos hg], gs rfl (by rw [hg]; rfl)⟩
    · have hg : negC l = false := by
        rcases Bool.eq_false_or_eq_true (negC l) with hh | hh
        · exfalso
          have hc := neg_iff.1 hh
          rcases h1 with (((h1 | h1) | h1) | h1) | h1
          · exact h1 hc.1.1.1.1
          · exact h1 hc.1.1.1.2
          · exact h1 hc.1.1.2
          · exact h1 hc.1.2
          · exact h1 hc.2
        · exact hh
      exact ⟨0, by rw [if_neg (by rw [hg]; decide)], gs rfl (by rw [hg]; rfl)⟩
  intro i0 hi0
  have h2l : i0 ≤ l.length := by
    rw [hi0]
    split
    · rename_i h; exact hneg h
    · exact Nat.zero_le _
  rw [← hi0] at hce
  generalize negC l = ng at hpc hee ⊢
  refine nilC 901 52 15 ?_
  refine regQ TT_ok [0, 1, 2] [3, 4, 5, 6, 7] [23, 901] true ?_
  refine cV TT_ok 23 (fun w v h1 h2 h3 h4 h5 => c_Rtest17 hT hTs hn (i0, false) h2l w v h3 h4 h2.2 h5) (fun x => tx_m x _) (fun x1 => ?_)
  have tg := test_ge (l := l) (p := (i0, false)) h2l
  rw [tests_tail] at hce
  generalize testC l (i0, false) = r at hce tg ⊢
  refine kq ?_
  intro b72
  refine kq ?_
  refine ap TT_ok 901 (AppT.of (bytes := 176) (sz := 14) (by kernel_rfl) (by kernel_rfl) (by kernel_rfl)) rfl rfl rfl rfl rfl rfl rfl (by show (0 + 15) * 177 ≤ _; omega) (fun a2 n2 c2 e2 => ?_)
  have hn2 : n2 = 1 := by
    have e2 : n2 * 15 = 0 + 15 := e2
    omega
  refine kq ?_
  refine kq ?_
  refine w_loopF TT_ok (fun _ => []) (fun z : LpC => [(72, .c b72 52 (tstC r.1 x1.1.1 x1.1.2 x1.2.1 x1.2.2 ++ [])), (901, .e (bufE 52 15 (.slice z.a z.n z.c) (z.es.map tsC).flatten)), (9, .c b9 25 [.bool false, .bool ng, .slice z.a z.n z.c]), (23, .c b23 89 (rrC x.1 l.length x.2 ((z.p.1 : Nat) : Int) z.p.2)), (2, .c b2 25 (celC cel0 none 0))])
    (fun z h => SlC 84 4 (flatR tokC) h (.slice x.1 l.length x.2) l ∧ TXL h z.es) ⟨a2, n2, c2, [(r.1, x1)], r.2, l.length⟩ (fun z => z.n = z.es.length ∧ z.es.length ≤ z.p.1 + 1 ∧ z.p.1 ≤ l.length ∧ l.length - z.p.1 ≤ z.f ∧ (z.es.map (·.1) ++ (tailC l z.f z.p).1, (tailC l z.f z.p).2) = R) (fun z => l.length - z.p.1) (fun z _ _ hle hx => ⟨Mono.slF _ _ hle hx.1, txl_m _ _ _ hle hx.2⟩) ?_
  refine And.intro ⟨⟨hn2, by show 1 ≤ _ + 1; omega, tg.2, by show l.length - r.2.1 ≤ l.length; omega, hce⟩, gs (fv := fun v hF => ⟨hF.1.2, fun q hq => by
    have : q = (r.1, x1) := by simpa using hq
    subst this; exact hF.2⟩)⟩ ?_
  rintro ⟨a1, n1, c1, es, p, f⟩ ⟨hn1, hle, hpl, hf, hR'⟩
  dsimp only at hn1 hle hpl hf hR' ⊢
  refine cM TT_ok 23 (fun w v h1 h2 h3 h4 h5 => c_Ris17 b23 x.1 x.2 l p.1 p.2 [44] (by omega) w v h3 h4 h2.1 h5) ?_
  refine cnd (fun h3 => ?_) (fun h3 => ?_)
  · have h3 : onS l p.1 p.2 4 [44] = true := h3
    have hlt := (on_lt h3 (by decide)).1
    obtain ⟨f, rfl⟩ : ∃ g, f = g + 1 := ⟨f - 1, by omega⟩
    rw [tailC, if_pos h3, tests_tail] at hR'
    have tg := test_ge (l := l) (p := (p.1 + 1, p.2)) hlt
    refine wi ?_
    refine regQ TT_ok [0, 1, 2] [3, 4, 5, 6, 7] [23, 901] true ?_
    refine cV TT_ok 23 (fun w v h1 h2 h3 h4 h5 => c_Rtest17 hT hTs hn (p.1 + 1, p.2) hlt w v h3 h4 h2.1 h5) (fun x => tx_m x _) (fun x2 => ?_)
    generalize testC l (p.1 + 1, p.2) = r2 at hR' tg ⊢
    refine kq ?_
    intro b88
    refine kq ?_
    refine ap TT_ok 901 (AppT.of (bytes := 176) (sz := 14) (by kernel_rfl) (by kernel_rfl) (by kernel_rfl)) rfl rfl rfl rfl rfl rfl rfl (by rw [flatTs]; show (_ + 15) * 177 ≤ _; omega) (fun a3 n3 c3 e3 => ?_)
    have hn3 : n3 = (es ++ [(r2.1, x2)]).length := by
      rw [flatTs] at e3
      have e3 : n3 * 15 = es.length * 15 + 15 := e3
      rw [List.length_append]; show n3 = es.length + 1; omega
    refine kq ?_
    refine kq ?_
    have efl : ((es ++ [(r2.1, x2)]).map tsC).flatten = (es.map tsC).flatten ++ (tstC r2.1 x2.1.1 x2.1.2 x2.2.1 x2.2.2 ++ []) := by rw [List.map_append, List.flatten_append]; rfl
    have emp : (es ++ [(r2.1, x2)]).map (·.1) = es.map (·.1) ++ [r2.1] := by simp
    have tg1 : p.1 + 1 ≤ r2.2.1 := tg.1
    refine ⟨⟨a3, n3, c3, es ++ [(r2.1, x2)], r2.2, f⟩, ⟨⟨hn3, ?_, tg.2, ?_, ?_⟩, ?_⟩, gs rfl (by rw [efl]; rfl) (fun v hF => ⟨hF.1.1, txl_snoc hF.1.2 hF.2⟩)⟩
    · rw [List.length_append]; show es.length + 1 ≤ r2.2.1 + 1; omega
    · show l.length - r2.2.1 ≤ f; omega
    · show ((es ++ [(r2.1, x2)]).map (·.1) ++ _, _) = R
      rw [emp, ← hR']; simp
    · show l.length - r2.2.1 < l.length - p.1; omega
  · have h3 : onS l p.1 p.2 4 [44] = false := h3
    rw [tailC, if_neg (by rw [h3]; decide)] at hR'
    have hr : (es.map (·.1), p) = R := by rw [← hR']; simp
    rw [← rowT_map]
    have hR1 : R.1.length = n1 := by rw [← hr, hn1]; simp
    have hd : ∀ q ∈ es, ndTs q.1 := fun q hq => hcl q.1 (by rw [← hr]; exact List.mem_map.2 ⟨q, hq, rfl⟩)
    have htl : ∀ v, TXL v es → SlC 52 15 (flatR (rowT es)) v (.slice a1 n1 c1) (List.range es.length) → TL v a1 c1 R.1 := fun v hF hs => by
      have := rowT_tl hn1 hs hF hd
      rw [← hr]; exact this
    have hr2 : p = R.2 := by rw [← hr]
    rw [← hr2] at hee
    refine w_cutB TT_ok (fun _ : Unit => []) (fun _ => [(72, .c b72 52 (tstC r.1 x1.1.1 x1.1.2 x1.2.1 x1.2.2 ++ [])), (901, .e (bufE 52 15 (.slice a1 n1 c1) ((List.range es.length).map (rowT es)).flatten)), (9, .c b9 25 [.bool false, .bool ng, .slice a1 n1 c1]), (23, .c b23 89 (rrC x.1 l.length x.2 ((E.1 : Nat) : Int) E.2)), (2, .c b2 25 (celC cel0 none 0))]) (fun _ => True) ?_
    refine And.intro ?_ ?_
    · refine cnd (fun h4 => ?_) (fun h4 => ?_)
      · have h5 : ng = true := h4.1
        rw [if_pos h5] at hee
        rw [hee]
        refine cM TT_ok 23 (fun w v h1 h2 h3 h4 h5 => c_Rmust17 b23 x.1 x.2 l p [41] (by omega) w v h3 h4 h2.1 h5) ?_
        exact ⟨(), trivial, gs⟩
      · cases ng with
        | true =>
          rw [if_pos rfl] at hee
          have h5 : p.2 = true := by
            rcases h4 with h4 | h4
            · exact absurd h4 (by decide)
            · simpa using h4
          obtain ⟨j, bd⟩ := p
          have h5 : bd = true := h5
          subst h5
          rw [mC_bad] at hee
          rw [hee]
          exact ⟨(), trivial, gs⟩
        | false =>
          rw [if_neg (by decide)] at hee
          rw [hee]
          exact ⟨(), trivial, gs⟩
    intro _ _
    refine And.intro rfl ?_
    refine sealW (g := rowT es) (l := List.range es.length) 901 rfl (by simp [hn1]) ?_
    refine goW TT_ok ?_
    have ec : celC ⟨false, ng, R.1⟩ a1 c1 = [.bool false, .bool ng, .slice a1 n1 c1] := by unfold celC; rw [hR1]
    refine cnd (fun h2 => ?_) (fun h2 => ?_)
    · rw [if_pos (by omega)] at hpc
      rw [hpc]
      refine regPh TT_ok [([0,1,2,3,4,5,6,7,8],[9]),([10,11],[])] [2] ?_
      refine ixf (fun v hF => hF.1.1) E.1 t0 ?_ (by omega)
      refine kq ?_
      refine kq ?_
      refine kq ?_
      exact ⟨(none, 0), rfl, fun v _ _ => tl_nil v⟩
    rw [if_neg (by omega)] at hpc
    refine cnd (fun h3 => ?_) (fun h3 => ?_)
    · have h3 : E.2 = true := h3
      rw [if_pos h3] at hpc
      rw [hpc]
      exact ⟨(none, 0), rfl, fun v _ _ => tl_nil v⟩
    have h3 : E.2 = false := by simpa using h3
    rw [if_neg (by rw [h3]; decide)] at hpc
    refine cnd (fun h4 => ?_) (fun h4 => ?_)
    · rw [if_pos (by have h4 : (12 : Int) < (n1 : Int) := h4; omega)] at hpc
      rw [hpc]
      exact ⟨(none, 0), rfl, fun v _ _ => tl_nil v⟩
    rw [if_neg (by have h4 : ¬ (12 : Int) < (n1 : Int) := h4; omega)] at hpc
    have hg : ∀ t ∈ R.1, GT t := fun t ht => ok_gt (hok h3 t ht) (hdp t ht)
    refine cf (x := .bool (rightC ⟨false, ng, R.1⟩)) (fun w v h1 h2 h3 => by
      have := c_RRightC ⟨false, ng, R.1⟩ a1 c1 hg w v h3 (htl v h2.1.2 h2.2)
      rw [ec] at this; exact this) ?_
    refine cnd (fun h5 => ?_) (fun h5 => ?_)
    · have h5 : rightC ⟨false, ng, R.1⟩ = false := by simpa using h5
      rw [if_neg (by rw [h5]; decide)] at hpc
      rw [hpc]
      exact ⟨(none, 0), rfl, fun v _ _ => tl_nil v⟩
    · have h5 : rightC ⟨false, ng, R.1⟩ = true := by simpa using h5
      rw [if_pos h5] at hpc
      rw [hpc]
      refine ⟨(a1, c1), ?_, fun v _ hF => htl v hF.1.2 hF.2⟩
      show _ = cpV (⟨false, ng, R.1⟩, 0, 0) (a1, c1)
      unfold cpV
      dsimp only
      rw [ec]; rfl
end Go.Proofs.YtkjhlfleojcgjaaGreatDoor
set_option maxRecDepth 100000
namespace Go.Proofs.YtkjhlfleojcgjaaGreatDoor
open Go Go.Dx Go.RowKit
mutual
theorem same_refl7 : ∀ x : Ex, sameX x x = true
  | .mk o v s l => by
    rw [sameX, show (Ex.mk o v s l).l = l from rfl, sameL_refl7 l]
    simp [Ex.op, Ex.v, Ex.s]
theorem sameL_refl7 : ∀ l : List Ex, sameXL l l = true
  | [] => by rw [sameXL]
  | x :: l => by rw [sameXL, same_refl7 x, sameL_refl7 l]; rfl
end
theorem sameT_refl7 (t : Tst) : sameT t t = true := by
  rw [sameT, same_refl7, same_refl7]; simp
theorem sameTL_refl7 : ∀ l : List Tst, sameTL l l = true
  | [] => rfl
  | t :: l => by rw [sameTL, sameT_refl7, sameTL_refl7 l]; rfl
theorem sameC_refl7 (c : Cel) : sameC c c = true := by rw [sameC, sameTL_refl7]; simp
set_option maxHeartbeats 1000000 in
theorem c_CellParses (s : List UInt8) (w0 : World) (h0 : View) (hv : VLe h0 (Full w0)) (hp : PowV h0) :
    Calls Tryz.prog 3 #[vs s] w0 (Ret w0 h0 fun u _ => u = .bool true) := by
  refine ent (args := [vs s]) TT_ok [] [] Tryz.func3 rfl Tryz.ntmps3 rfl rfl hv ?_
  refine cnd (fun h => ?_) (fun h => ?_)
  · refine cb (fun w hw => c_lives17 w h0 hw hp) ?_
    exact rfl
  have hP : ∀ w h0, VLe h0 (Full w) → Calls Tryz.prog 12 #[vs s] w (Ret w h0 fun u hh => ∃ x : Option Addr × Nat, u = cpV (parseC s) x ∧ TL hh x.1 x.2 (parseC s).1.ts) := fun w h0 hv => c_RCParse s w h0 hv
  have hC : ∀ w h0, VLe h0 (Full w) → Calls Tryz.prog 11 #[vs s] w (Ret w h0 fun u hh => ∃ x : Option Addr × Nat, u = cpV (parseC s) x ∧ TL hh x.1 x.2 (parseC s).1.ts) := fun w h0 hv => c_CParse s w h0 hv
  generalize parseC s = P at hP hC
  obtain ⟨d, at', e⟩ := P
  refine cA TT_ok (fun w v h1 h2 h3 => hC w v h3) (fun a => tl_m a _) (fun a => ?_)
  intro b3
  refine cA TT_ok (fun w v h1 h2 h3 => hP w v h3) (fun a => tl_m a _) (fun a2 => ?_)
  intro b6
  refine cf (fun w v h1 h2 h3 => c_RSameC d d a.1 a2.1 a.2 a2.2 w v h3 h2.1.2 h2.2) ?_
  rw [sameC_refl7]
  refine cbg (fun _ w hw => c_lives17 w h0 hw hp) ?_
  refine finB ?_
  simp
end Go.Proofs.YtkjhlfleojcgjaaGreatDoor
namespace Go.Proofs.YtkjhlfleojcgjaaGreatDoor
open Go Go.Dx Go.RowKit
theorem pow_of_laid {W : World} (h : laidMetH Tryz.prog laidL W) : PowV (Full W) := by
  have h1 := laidMetH.filter (fun x => x.1 == "internal/strconv.uint64pow10") h
  have e : laidL.filter (fun x => x.1 == "internal/strconv.uint64pow10") = [("internal/strconv.uint64pow10", Lib.tabData .u64 Lib.pow10Tab)] := by kernel_rfl
  rw [e] at h1
  have h2 := (laidMetH_iff.1 h1).1
  have e2 : ([("internal/strconv.uint64pow10", (Lib.tabData .u64 Lib.pow10Tab : DataW Unit))].filter fun x => x.2.handleName?.isNone) = [("internal/strconv.uint64pow10", Lib.tabData .u64 Lib.pow10Tab)] := by kernel_rfl
  rw [e2] at h2
  have hn : Tryz.prog.globalNamed "internal/strconv.uint64pow10" = some powG := by kernel_rfl
  have ht := Lib.tabIs_of_head (P := Tryz.prog) (t := 266) (e := 254) (n := 20) hn (by kernel_rfl) (by kernel_rfl) (by kernel_rfl) (by kernel_rfl) (by kernel_rfl) h2
  unfold Lib.TabIs World.var? at ht
  rw [hn, Option.bind_some] at ht
  split at ht
  · rename_i cs T fz hg
    have : cs = (Lib.pow10Tab.map fun z => Value.int .u64 z).toArray := Option.some.inj ht
    subst this
    exact ⟨T, fz, hg⟩
  · cases ht
end Go.Proofs.YtkjhlfleojcgjaaGreatDoor
