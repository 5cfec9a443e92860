/- Laws of walks, and what functions of the program compute: part 5. Each with the conditions that it names. -/
import Derived.LaidSub
import Derived.Test.YtkjhlfleojcgjaaGreatDoorCtNd
set_option linter.unusedSimpArgs false
set_option linter.unusedVariables false
set_option maxRecDepth 100000
namespace Go.Proofs.YtkjhlfleojcgjaaGreatDoor
open Go Go.Dx Go.RowKit
abbrev AA := (Option Addr × Nat) × (Option Addr × Nat)
def tsC (q : Tst × AA) : List Value := tstC q.1 q.2.1.1 q.2.1.2 q.2.2.1 q.2.2.2
def rowT (es : List (Tst × AA)) (i : Nat) : List Value := tsC (es.getD i (tst0, (none, 0), (none, 0)))
theorem rowT_map (es : List (Tst × AA)) : (List.range es.length).map (rowT es) = es.map tsC := by
  refine List.ext_getElem (by simp) fun i h1 h2 => ?_
  have h3 : i < es.length := by simpa using h1
  simp [rowT, List.getD, h3]
theorem flatTs (es : List (Tst × AA)) : (es.map tsC).flatten.length = es.length * 15 := by
  induction es with
  | nil => rfl
  | cons v l ih => rw [List.map_cons, List.flatten_cons, List.length_append, ih, List.length_cons]; show 15 + _ = _; omega
def TXL (h : View) (es : List (Tst × AA)) : Prop := ∀ q ∈ es, TX h q.1 q.2
theorem txl_m (es : List (Tst × AA)) : Mono fun h => TXL h es := fun _ _ hle hx q hq => tx_m q.2 q.1 _ _ hle (hx q hq)
theorem txl_snoc {h : View} {es : List (Tst × AA)} {t : Tst} {x : AA} (h1 : TXL h es) (h2 : TX h t x) : TXL h (es ++ [(t, x)]) := by
  intro q hq
  rcases List.mem_append.1 hq with hq | hq
  · exact h1 q hq
  · have : q = (t, x) := by simpa using hq
    subst this; exact h2
theorem rowT_tl {h : View} {ad : Option Addr} {cap : Nat} {es : List (Tst × AA)} {n : Nat} (hn : n = es.length) (hs : SlC 52 15 (flatR (rowT es)) h (.slice ad n cap) (List.range es.length)) (hx : TXL h es) (hd : ∀ q ∈ es, ndTs q.1) : TL h ad cap (es.map (·.1)) := by
  subst hn
  refine ⟨rowT es, by simpa using hs, fun i t hi => ?_⟩
  rw [List.getElem?_map] at hi
  cases he : es[i]? with
  | none => rw [he] at hi; cases hi
  | some p =>
    rw [he] at hi
    cases hi
    have hm : p ∈ es := List.mem_of_getElem? he
    have e : es.getD i (tst0, (none, 0), (none, 0)) = p := by simp [List.getD, he]
    obtain ⟨g1, g2⟩ := hx p hm
    obtain ⟨d1, d2, d3⟩ := hd p hm
    exact ⟨p.2.1.1, p.2.1.2, p.2.2.1, p.2.2.2, by rw [rowT, e]; rfl, ⟨g1, d1⟩, ⟨g2, d2⟩, d3⟩
structure LpC where
  a : Option Addr
  n : Nat
  c : Nat
  es : List (Tst × AA)
  p : CSt
  f : Nat
theorem tests_snoc {A : List Tst} {l : List Tok} {n : Nat} {p : CSt} {R : List Tst × CSt} (h : (A ++ (testsC l (n + 1) p).1, (testsC l (n + 1) p).2) = R) :
    (onS l (testC l p).2.1 (testC l p).2.2 4 [44] = true → ((A ++ [(testC l p).1]) ++ (testsC l n ((testC l p).2.1 + 1, (testC l p).2.2)).1, (testsC l n ((testC l p).2.1 + 1, (testC l p).2.2)).2) = R) ∧
    (onS l (testC l p).2.1 (testC l p).2.2 4 [44] = false → (A ++ [(testC l p).1], (testC l p).2) = R) := by
  rw [testsC] at h
  constructor
  · intro ho
    rw [if_pos ho] at h
    rw [← h]; simp
  · intro ho
    rw [if_neg (by rw [ho]; decide)] at h
    rw [← h]
section cr
variable {b : Nat} {ad : Option Addr} {cap : Nat} {l : List Tok}
set_option maxHeartbeats 2000000 in
theorem c_Ccell (hT : TokN l) (hTs : ∀ t ∈ l, t.s.length ≤ 1000000) (hn : l.length ≤ 999999) (w0 : World) (h0 : View) (hv : VLe h0 (Full w0)) (hno : h0 b = none) (hl : SlC 84 4 (flatR tokC) h0 (.slice ad l.length cap) l)
    (hbl : w0.heap[b]? = some (.cells (rdC ad l.length cap ((0 : Nat) : Int) false).toArray 79 (0, 0))) :
    Calls Tryz.prog 34 #[.pointer (some ⟨b, 0, none⟩)] w0 (RetV [b] w0 h0 fun u w' hh => ∃ x : Option Addr × Nat, u = .agg (celC ⟨false, negC l, (cellC l).1⟩ x.1 x.2).toArray ∧ w'.heap[b]? = some (.cells (rdC ad l.length cap ((endC l).1 : Nat) (endC l).2).toArray 79 (0, 0)) ∧ TL hh x.1 x.2 (cellC l).1) := by
  have hneg : negC l = true → 2 ≤ l.length := fun h => by
    simp only [negC, Bool.and_eq_true, decide_eq_true_eq] at h; omega
  have hnd := tests_nd hT (l := l) (l.length + 1) (if negC l = true then 2 else 0, false)
  have hce : (([] : List Tst) ++ (testsC l (l.length + 1) (if negC l = true then 2 else 0, false)).1, (testsC l (l.length + 1) (if negC l = true then 2 else 0, false)).2) = cellC l := rfl
  have hcl : ∀ t ∈ (cellC l).1, ndTs t := hnd
  have hee : endC l = if negC l = true then mustC l (cellC l).2 [41] else (cellC l).2 := rfl
  have hcg := cell_ge (l := l)
  generalize endC l = E at hee ⊢
  generalize cellC l = R at hce hcl hee hcg ⊢
  refine entW (args := [.pointer (some ⟨b, 0, none⟩)]) TT_ok [1000005, 27] [5] [.o 900 0] Tryz.func34 rfl Tryz.ntmps34 rfl rfl hv hbl hno rfl (fun x => tl_m x _) ?_
  intro b2 b3
  refine w_cutB TT_ok (fun _ : Nat => []) (fun i0 => [(3, .c b3 25 (celC ⟨false, negC l, []⟩ none 0)), (2, .c b2 25 (celC cel0 none 0)), (900, .c b 79 (rdC ad l.length cap (i0 : Int) false))]) (fun i0 => i0 = if negC l = true then 2 else 0) ?_
  refine And.intro ?_ ?_
  · refine cb (fun w hw => c_Cnot w h0 hw hl) ?_
    refine cnd (fun h => ?_) (fun h => ?_)
    · have h : negC l = true := h
      exact ⟨2, by rw [if_pos h], gs⟩
    · have h : negC l = false := by simpa using h
      exact ⟨0, by rw [if_neg (by rw [h]; decide)], gs⟩
  intro i0 hi0
  have h2l : (if negC l = true then 2 else 0) ≤ l.length := by
    split
    · rename_i h; exact hneg h
    · exact Nat.zero_le _
  rw [← hi0] at h2l hce
  refine nilC 901 52 15 ?_
  refine w_loopF TT_ok (fun _ => []) (fun z : LpC => [(901, .e (bufE 52 15 (.slice z.a z.n z.c) (z.es.map tsC).flatten)), (3, .c b3 25 [.bool false, .bool (negC l), .slice z.a z.n z.c]), (2, .c b2 25 (celC cel0 none 0)), (900, .c b 79 (rdC ad l.length cap ((z.p.1 : Nat) : Int) z.p.2))])
    (fun z h => TXL h z.es) ⟨none, 0, 0, [], (i0, false), l.length + 1⟩ (fun z => z.n = z.es.length ∧ z.es.length ≤ z.p.1 ∧ z.p.1 ≤ l.length ∧ l.length - z.p.1 < z.f ∧ (z.es.map (·.1) ++ (testsC l z.f z.p).1, (testsC l z.f z.p).2) = R) (fun z => l.length - z.p.1) (fun z => txl_m _) ?_
  refine And.intro ⟨⟨rfl, Nat.zero_le _, h2l, by show l.length - i0 < l.length + 1; omega, hce⟩, gs (fv := fun v _ q hq => absurd hq List.not_mem_nil)⟩ ?_
  rintro ⟨a1, n1, c1, es, p, f⟩ ⟨hn1, hle, hpl, hf, hR⟩
  dsimp only at hn1 hle hpl hf hR ⊢
  obtain ⟨f, rfl⟩ : ∃ g, f = g + 1 := ⟨f - 1, by omega⟩
  obtain ⟨hgo, hend⟩ := tests_snoc hR
  have tg := test_ge (l := l) hpl
  refine regQ TT_ok [0, 1, 2] [3, 4, 5, 6, 7] [900, 901] true ?_
  refine cV TT_ok 900 (fun w v h1 h2 h3 h4 h5 => c_Ctest hT hTs hn p hpl w v h3 h4 (Mono.slF _ _ h1 hl) h5) (fun x => tx_m x _) (fun x1 => ?_)
  generalize testC l p = r at hgo hend tg ⊢
  refine kq ?_
  intro b21
  refine kq ?_
  refine ap TT_ok 901 (AppT.of (bytes := 176) (sz := 14) (by kernel_rfl) (by kernel_rfl) (by kernel_rfl)) rfl rfl rfl rfl rfl rfl rfl (by rw [flatTs]; show (_ + 15) * 177 ≤ _; omega) (fun a2 n2 c2 e2 => ?_)
  have hn2 : n2 = (es ++ [(r.1, x1)]).length := by
    rw [flatTs] at e2
    have e2 : n2 * 15 = es.length * 15 + 15 := e2
    rw [List.length_append]; show n2 = es.length + 1; omega
  refine kq ?_
  refine kq ?_
  refine cM TT_ok 900 (fun w v h1 h2 h3 h4 h5 => c_Con b ad cap l r.2.1 r.2.2 [44] (by decide) (by have := tg.2; omega) w v h3 h4 (Mono.slF _ _ h1 hl) h5) ?_
  have ecs : (es ++ [(r.1, x1)]).map tsC = es.map tsC ++ [tsC (r.1, x1)] := by simp
  have efl : ((es ++ [(r.1, x1)]).map tsC).flatten = (es.map tsC).flatten ++ (tstC r.1 x1.1.1 x1.1.2 x1.2.1 x1.2.2 ++ []) := by rw [ecs, List.flatten_append]; rfl
  have emp : (es ++ [(r.1, x1)]).map (·.1) = es.map (·.1) ++ [r.1] := by simp
  refine cnd (fun h => ?_) (fun h => ?_)
  · have h : onS l r.2.1 r.2.2 4 [44] = false := by simpa using h
    have hr := hend h
    rw [h, if_neg (by decide)]
    rw [← efl, ← rowT_map]
    have hx' : ∀ v, TXL v es ∧ TX v r.1 x1 → TXL v (es ++ [(r.1, x1)]) := fun v hF => txl_snoc hF.1 hF.2
    rw [← emp] at hr
    clear hgo hend efl ecs emp hR
    generalize es ++ [(r.1, x1)] = es' at hn2 hr hx'
    have hR1 : R.1.length = n2 := by rw [← hr, hn2]; simp
    have hd : ∀ q ∈ es', ndTs q.1 := fun q hq => hcl q.1 (by rw [← hr]; exact List.mem_map.2 ⟨q, hq, rfl⟩)
    have htl : ∀ v, (TXL v es ∧ TX v r.1 x1) ∧ SlC 52 15 (flatR (rowT es')) v (.slice a2 n2 c2) (List.range es'.length) → TL v a2 c2 R.1 := fun v hF => by
      have := rowT_tl hn2 hF.2 (hx' v hF.1) hd
      rw [← hr]; exact this
    have ec : celC ⟨false, negC l, R.1⟩ a2 c2 = [.bool false, .bool (negC l), .slice a2 n2 c2] := by unfold celC; rw [hR1]
    have hr2 : r.2 = R.2 := by rw [← hr]
    refine And.intro rfl ?_
    refine sealWM (g := rowT es') (l := List.range es'.length) 901 900 rfl (by simp [hn2]) ?_
    refine goW TT_ok ?_
    refine cnd (fun h3 => ?_) (fun h3 => ?_)
    · have h3 : negC l = true := h3
      rw [if_pos h3, ← hr2] at hee
      refine cM TT_ok 900 (fun w v h1 h2 h3 h4 h5 => c_Cmust b ad cap l r.2 [41] (by decide) (by have := tg.2; omega) w v h3 h4 (Mono.slF _ _ h1 hl) h5) ?_
      rw [← hee]
      refine ⟨(a2, c2), ?_, rfl, fun v _ hF => htl v hF⟩
      show _ = Value.agg (celC ⟨false, negC l, R.1⟩ a2 c2).toArray
      rw [ec]; rfl
    · have h3 : negC l = false := by simpa using h3
      rw [if_neg (by rw [h3]; decide), ← hr2] at hee
      rw [hee]
      refine ⟨(a2, c2), ?_, rfl, fun v _ hF => htl v hF⟩
      show _ = Value.agg (celC ⟨false, negC l, R.1⟩ a2 c2).toArray
      rw [ec]; rfl
  · have h : onS l r.2.1 r.2.2 4 [44] = true := by simpa using h
    have hlt := (on_lt h (by decide)).1
    rw [h, if_pos rfl]
    have hr := hgo h
    refine ⟨⟨a2, n2, c2, es ++ [(r.1, x1)], (r.2.1 + 1, r.2.2), f⟩, ⟨⟨hn2, ?_, hlt, ?_, by show ((es ++ [(r.1, x1)]).map (·.1) ++ _, _) = R; rw [emp]; exact hr⟩, ?_⟩, gs rfl (by rw [efl]; rfl) (fun v hF => txl_snoc hF.1 hF.2)⟩
    · rw [List.length_append]; show es.length + 1 ≤ r.2.1 + 1; omega
    · show l.length - (r.2.1 + 1) < f; omega
    · show l.length - (r.2.1 + 1) < l.length - p.1; omega
end cr
theorem tl_nil (h : View) : TL h none 0 [] := ⟨fun _ => [], SlC.nil (by simp [maxLen]), fun i t hi => by simp at hi⟩
def cpV (r : Cel × Int × Int) (x : Option Addr × Nat) : Value := .tuple #[.agg (celC r.1 x.1 x.2).toArray, .int .i64 r.2.1, .int .i64 r.2.2]
theorem sm0 : SmX ex0 := ⟨1, by decide⟩
theorem ok_gt {t : Tst} (h : okTs t) (hd : dpTs t) : GT t := ⟨smx_right h.1, by
  rcases h.2 with h | h
  · exact smx_right h
  · rw [h]; exact sm0, hd⟩
set_option maxHeartbeats 2000000 in
theorem c_CParse (s : List UInt8) (w0 : World) (h0 : View) (hv : VLe h0 (Full w0)) :
    Calls Tryz.prog 11 #[vs s] w0 (Ret w0 h0 fun u hh => ∃ x : Option Addr × Nat, u = cpV (parseC s) x ∧ TL hh x.1 x.2 (parseC s).1.ts) := by
  obtain ⟨hT, hTs, hn, _⟩ := lex_facts s
  obtain ⟨hR, hn2, hP⟩ := lex_facts2 s
  have hpc : parseC s = if (lexS s).2.2 ≠ 0 then (cel0, (lexS s).2.1, (lexS s).2.2)
      else if (lexS s).1.length = 1 ∧ onS (lexS s).1 0 false 4 [45] = true then (⟨true, false, []⟩, 0, 0)
      else if (endC (lexS s).1).1 < (lexS s).1.length then (cel0, ((lexS s).1.getD (endC (lexS s).1).1 t0).p, 11)
      else if (endC (lexS s).1).2 = true then (cel0, s.length, 11)
      else if 12 < (cellC (lexS s).1).1.length then (cel0, 0, 24)
      else if rightC ⟨false, negC (lexS s).1, (cellC (lexS s).1).1⟩ = true then (⟨false, negC (lexS s).1, (cellC (lexS s).1).1⟩, 0, 0) else (cel0, 0, 12) := rfl
  generalize parseC s = P at hpc ⊢
  refine entA (args := [vs s]) TT_ok [1000009, 4000032] [7] Tryz.func11 rfl Tryz.ntmps11 rfl rfl hv (fun x => tl_m x _) ?_
  intro b2
  refine cA TT_ok (fun w v h1 h2 h3 => c_Lex s w v h3) (fun _ => Mono.slF) (fun x => ?_)
  generalize lexS s = L at hT hTs hn hR hn2 hP hpc ⊢
  obtain ⟨l, at_, e⟩ := L
  dsimp only at hT hTs hn hR hn2 hP hpc ⊢
  refine cnd (fun h => ?_) (fun h => ?_)
  · rw [if_pos h] at hpc
    rw [hpc]
    exact ⟨(none, 0), rfl, fun v _ _ => tl_nil v⟩
  rw [if_neg (fun hh => hh (by simpa using h))] at hpc
  intro b24
  refine w_cutB TT_ok (fun _ : Unit => []) (fun _ => [(24, .c b24 79 (rdC x.1 l.length x.2 ((0 : Nat) : Int) false)), (2, .c b2 25 (celC cel0 none 0))]) (fun _ => ¬ (l.length = 1 ∧ onS l 0 false 4 [45] = true)) ?_
  refine And.intro ?_ ?_
  · refine cnd (fun h1 => ?_) (fun h1 => ?_)
    · refine cMI TT_ok 24 (fun w v h1 h2 h3 h4 h5 => c_cmark b24 x.1 x.2 l 0 false w v h3 h4 h2.2 h5) ?_
      have hm := on_mark l 0 [45] (by decide)
      refine cnd (fun h2 => ?_) (fun h2 => ?_)
      · have h2 : markS l 0 = [45] := by
          have h2 := (show ((l.length : Int) = 1 ∧ markS l 0 = [45]) by simpa using h2)
          exact h2.2
        rw [if_pos ⟨by omega, by rw [hm, decide_eq_true h2]⟩] at hpc
        rw [hpc]
        exact ⟨(none, 0), rfl, fun v _ _ => tl_nil v⟩
      · have h2 : markS l 0 ≠ [45] := by
          have h2 := (show (¬(l.length : Int) = 1 ∨ ¬ markS l 0 = [45]) by simpa using h2)
          exact h2.resolve_left (fun hh => hh h1)
        exact ⟨(), fun hh => by rw [hm, decide_eq_false h2] at hh; exact absurd hh.2 (by decide), gs⟩
    · refine ⟨vs [], ?_⟩
      refine cndF (by simp) ?_
      exact ⟨(), fun hh => h1 (by omega), gs⟩
  intro _ hno
  rw [if_neg hno] at hpc
  refine cV TT_ok 24 (fun w v h1 h2 h3 h4 h5 => c_Ccell hT hTs hn w v h3 h4 h2.2 h5) (fun x => tl_m x _) (fun x1 => ?_)
  intro b9
  have hcg := end_ge (l := l)
  have hok := end_ok (l := l) hR
  have hdp := tests_dp hn2 (l.length + 1) (if negC l = true then 2 else 0, false)
  have hdp : ∀ t ∈ (cellC l).1, dpTs t := hdp
  generalize endC l = E at hpc hcg hok ⊢
  generalize cellC l = R at hpc hok hdp ⊢
  generalize negC l = ng at hpc ⊢
  refine cnd (fun h2 => ?_) (fun h2 => ?_)
  · rw [if_pos (by omega)] at hpc
    rw [hpc]
    refine regPh TT_ok [([0,1,2,3,4,5,6,7,8,9],[10]),([11,12],[])] [2] ?_
    refine ixf (fun v hF => hF.1.2) E.1 t0 ?_ (by omega)
    refine kq ?_
    refine kq ?_
    refine kq ?_
    exact ⟨(none, 0), rfl, fun v _ _ => tl_nil v⟩
  rw [if_neg (by omega)] at hpc
  refine cnd (fun h3 => ?_) (fun h3 => ?_)
  · have h3 : E.2 = true := h3
    rw [if_pos h3] at hpc
    rw [hpc]
    exact ⟨(none, 0), rfl, fun v _ _ => tl_nil v⟩
  have h3 : E.2 = false := by simpa using h3
  rw [if_neg (by rw [h3]; decide)] at hpc
  refine cnd (fun h4 => ?_) (fun h4 => ?_)
  · rw [if_pos (by have h4 : (12 : Int) < (R.1.length : Int) := h4; omega)] at hpc
    rw [hpc]
    exact ⟨(none, 0), rfl, fun v _ _ => tl_nil v⟩
  rw [if_neg (by have h4 : ¬ (12 : Int) < (R.1.length : Int) := h4; omega)] at hpc
  have hg : ∀ t ∈ R.1, GT t := fun t ht => ok_gt (hok h3 t ht) (hdp t ht)
  refine cf (fun w v h1 h2 h3 => c_CCheck ⟨false, ng, R.1⟩ x1.1 x1.2 hg w v h3 h2.2) ?_
  refine cnd (fun h5 => ?_) (fun h5 => ?_)
  · rw [if_neg (fun hh => by rw [if_pos hh] at h5; exact h5 rfl)] at hpc
    rw [hpc]
    exact ⟨(none, 0), rfl, fun v _ _ => tl_nil v⟩
  · rw [if_pos (by
      by_cases hh : rightC ⟨false, ng, R.1⟩ = true
      · exact hh
      · rw [if_neg hh] at h5; exact absurd h5 (by decide))] at hpc
    rw [hpc]
    exact ⟨x1, rfl, fun v _ hF => hF.2⟩
end Go.Proofs.YtkjhlfleojcgjaaGreatDoor
set_option maxRecDepth 100000
namespace Go.Proofs.YtkjhlfleojcgjaaGreatDoor
open Go Go.Dx Go.RowKit
theorem text_len {x : Ex} : (textT x).1.length ≤ 200 := by
  unfold textT
  split
  · exact Nat.zero_le _
  split
  · exact Nat.zero_le _
  split
  · exact Nat.zero_le _
  · rename_i h; show (putS x 0).length ≤ 200; omega
theorem wr_len {x : Ex} : (wrX x).1.length ≤ 202 := by
  have := text_len (x := x)
  unfold wrX
  split
  · simp; omega
  · omega
theorem sg_len (k : Int) : (sgC k).length ≤ 2 := by
  unfold sgC
  split
  · decide
  split
  · decide
  split
  · decide
  split
  · decide
  · decide
theorem txt_len (t : Tst) : (txtT t).1.length ≤ 1000 := by
  have h1 := wr_len (x := t.a)
  have h2 := wr_len (x := t.b)
  have h3 := sg_len t.k
  unfold txtT
  split
  · exact Nat.zero_le _
  split
  · show (wrX t.a).1.length ≤ _; omega
  split
  · show (sgC t.k ++ [32] ++ (wrX t.a).1).length ≤ _
    simp; omega
  split
  · exact Nat.zero_le _
  · show (_ ++ (wrX t.a).1 ++ [46, 46] ++ (wrX t.b).1 ++ _).length ≤ _
    simp only [List.length_append, List.length_cons, List.length_nil]
    split <;> split <;> simp <;> omega
theorem c_Cwrite (x : Ex) (ad : Option Addr) (cap : Nat) (hd : deepS x ≤ 1000000000) (w0 : World) (h0 : View) (hv : VLe h0 (Full w0)) (hx : GX h0 ad cap x) (hp : PowV h0) :
    Calls Tryz.prog 86 #[.agg (exC x.op x.v x.s (.slice ad x.l.length cap)).toArray] w0 (Ret w0 h0 fun u _ => u = tsV (wrX x)) := by
  refine ent (args := [.agg (exC x.op x.v x.s (.slice ad x.l.length cap)).toArray]) TT_ok [] [] Tryz.func86 rfl Tryz.ntmps86 rfl rfl hv ?_
  intro b1
  refine cb (fun w hw => c_Text x ad cap hd w h0 hw hx hp) ?_
  have hl := text_len (x := x)
  unfold wrX
  refine cnd (fun h => ?_) (fun h => ?_)
  · rw [if_pos ⟨h.1, h.2.1, h.2.2⟩]
    refine ct ?_
    refine ct ?_
    exact (congrArg (fun n : Int => Value.tuple #[vs ([40] ++ (textT x).1 ++ [41]), .int .i64 n]) h.1)
  · rw [if_neg (fun hh => by
      rcases h with h | h | h
      · exact h hh.1
      · exact h hh.2.1
      · exact h hh.2.2)]
    exact rfl
theorem c_Ctext (t : Tst) (aa : Option Addr) (ca : Nat) (ab : Option Addr) (cb' : Nat) (hk : 1 ≤ t.k ∧ t.k ≤ 6) (hg : GT t) (w0 : World) (h0 : View) (hv : VLe h0 (Full w0)) (ha : EX h0 aa ca t.a) (hb : EX h0 ab cb' t.b) (hp : PowV h0) :
    Calls Tryz.prog 51 #[.agg (tstC t aa ca ab cb').toArray] w0 (Ret w0 h0 fun u _ => u = tsV (txtT t)) := by
  have la := wr_len (x := t.a)
  have lb := wr_len (x := t.b)
  have ls := sg_len t.k
  refine ent (args := [.agg (tstC t aa ca ab cb').toArray]) TT_ok [] [12] Tryz.func51 rfl Tryz.ntmps51 rfl rfl hv ?_
  intro b1
  refine cb (fun w hw => c_Cwrite t.a aa ca hg.2.2.1 w h0 hw (ha.gx hg.1) hp) ?_
  unfold txtT
  generalize wrX t.a = ra at la ⊢
  obtain ⟨sa, ea⟩ := ra
  dsimp only at la ⊢
  refine cnd (fun h => ?_) (fun h => ?_)
  · have h : ea ≠ 0 := by simpa using h
    rw [if_pos h]; exact rfl
  have h : ea = 0 := by simpa using h
  subst h
  rw [if_neg (fun hh => hh rfl)]
  refine w_cut TT_ok (fun _ : Unit => []) (fun _ => t.k = 6) ?_
  refine And.intro ?_ ?_
  · refine cnd (fun h1 => ?_) (fun h1 => ?_)
    · rw [if_pos h1]; exact rfl
    rw [if_neg h1]
    refine cnd (fun h2 => ?_) (fun h2 => ?_)
    · rw [if_pos (by omega)]
      refine cndT (decide_eq_true h2) ?_
      refine cl (c_Csign t.k) ?_
      refine ct ?_
      refine ct ?_
      exact rfl
    refine cnd (fun h3 => ?_) (fun h3 => ?_)
    · rw [if_pos (by omega)]
      refine cndT (decide_eq_true h3) ?_
      refine cl (c_Csign t.k) ?_
      refine ct ?_
      refine ct ?_
      exact rfl
    refine cnd (fun h4 => ?_) (fun h4 => ?_)
    · rw [if_pos (by omega)]
      refine cndT (decide_eq_true h4) ?_
      refine cl (c_Csign t.k) ?_
      refine ct ?_
      refine ct ?_
      exact rfl
    refine cnd (fun h5 => ?_) (fun h5 => ?_)
    · rw [if_pos (by omega)]
      refine cl (c_Csign t.k) ?_
      refine ct ?_
      refine ct ?_
      exact rfl
    exact ⟨(), by omega, gs⟩
  intro _ h6
  rw [if_neg (by omega), if_neg (by omega)]
  refine cb (fun w hw => c_Cwrite t.b ab cb' hg.2.2.2 w h0 hw (hb.gx hg.2.1) hp) ?_
  generalize wrX t.b = rb at lb ⊢
  obtain ⟨sb, eb⟩ := rb
  dsimp only at lb ⊢
  refine cnd (fun h => ?_) (fun h => ?_)
  · have h : eb ≠ 0 := by simpa using h
    rw [if_pos h]; exact rfl
  have h : eb = 0 := by simpa using h
  subst h
  rw [if_neg (fun hh => hh rfl)]
  refine cnd (fun h1 => ?_) (fun h1 => ?_)
  · have h1 : t.lo = true := h1
    rw [if_pos h1]
    refine cnd (fun h2 => ?_) (fun h2 => ?_)
    · have h2 : t.hi = true := h2
      rw [if_pos h2]
      refine ct ?_
      refine ct ?_
      refine ct ?_
      refine ct ?_
      exact rfl
    · have h2 : t.hi = false := h2
      rw [if_neg (by rw [h2]; decide)]
      refine ct ?_
      refine ct ?_
      refine ct ?_
      refine ct ?_
      exact rfl
  · have h1 : t.lo = false := h1
    rw [if_neg (by rw [h1]; decide)]
    refine cnd (fun h2 => ?_) (fun h2 => ?_)
    · have h2 : t.hi = true := h2
      rw [if_pos h2]
      refine ct ?_
      refine ct ?_
      refine ct ?_
      refine ct ?_
      exact rfl
    · have h2 : t.hi = false := h2
      rw [if_neg (by rw [h2]; decide)]
      refine ct ?_
      refine ct ?_
      refine ct ?_
      refine ct ?_
      exact rfl
theorem c_strJoin (ad : Option Addr) (cap : Nat) (l : List (List UInt8)) (sep : List UInt8) (hl : l.length ≤ 1000000) (hlen : (Lib.join l sep).length ≤ 140737488355328) (w0 : World) (h0 : View) (hv : VLe h0 (Full w0)) (hb : SlC 9 1 (flatR fun s => [vs s]) h0 (.slice ad l.length cap) l) :
    Calls Tryz.prog 52 #[.slice ad l.length cap, vs sep] w0 (Ret w0 h0 fun u _ => u = vs (Lib.join l sep)) := by
  by_cases he : l = []
  · subst he
    exact calls_same (h := h0) (Tryz.strings_Join_none ad cap ⟨sep.toArray⟩ w0)
  · have hpos : 0 < l.length := List.length_pos_iff.2 he
    have el : ∀ j, j < l.length → ad = some ⟨adB ad, adO ad, none⟩ ∧ w0.cell? ⟨adB ad, adO ad + j, none⟩ = some (vs (l.getD j [])) := fun j hj => by
      have := SlC.el (h0 := h0) (F := fun _ => True) (fun v h1 _ => hb.monoF h1) [] hj h0 (VLe.refl _) trivial
      refine ⟨this.1, ?_⟩
      have h2 := this.2 w0 hv 0 (vs (l.getD j [])) rfl
      simpa using h2
    have h0' := el 0 hpos
    obtain ⟨_, _, _, hcap, _⟩ := hb.parts
    have hcap' : l.length ≤ cap := by
      obtain ⟨a, c, hv, h1, h2⟩ := hb.parts
      cases hv; exact h1
    have hx := Tryz.strings_Join (adB ad) (adO ad) cap (l.map fun s => (⟨s.toArray⟩ : ByteArray)) ⟨sep.toArray⟩ w0 (fun j x hj => by
      rw [List.getElem?_map] at hj
      cases hg : l[j]? with
      | none => rw [hg] at hj; cases hj
      | some s =>
        rw [hg] at hj
        cases hj
        have hlt := (List.getElem?_eq_some_iff.1 hg)
        obtain ⟨hlt, hs⟩ := hlt
        have := (el j hlt).2
        rw [getD_lt l j [] hlt, hs] at this
        exact this) (cell_lt h0'.2) (by simp; omega) (by simpa using hcap') (by simpa [List.map_map, Function.comp_def] using hlen)
    rw [List.length_map, ← h0'.1] at hx
    have e : (Lib.join ((l.map fun s => (⟨s.toArray⟩ : ByteArray)).map (·.data.toList)) (⟨sep.toArray⟩ : ByteArray).data.toList) = Lib.join l sep := by simp [List.map_map, Function.comp_def]
    rw [e] at hx
    exact calls_below hx
theorem com_join : ∀ l : List (List UInt8), Lib.join l [44, 32] = comS l
  | [] => rfl
  | [s] => Lib.join_one _ _
  | s :: u :: l => by
    have ih := com_join (u :: l)
    rw [comS, ← ih, Lib.join_cons, Lib.join_cons]
    simp [Lib.joinTail]
theorem com_len : ∀ {l : List (List UInt8)}, (∀ s ∈ l, s.length ≤ 1000) → (comS l).length ≤ 1002 * l.length
  | [], _ => by simp [comS]
  | [s], h => by have := h s (by simp); show s.length ≤ _; simp; omega
  | s :: u :: l, h => by
    have h1 := h s (by simp)
    have ih := com_len (l := u :: l) (fun x hx => h x (List.mem_cons_of_mem _ hx))
    rw [comS]
    simp only [List.length_append, List.length_cons, List.length_nil] at ih ⊢
    omega
theorem txtL_er : ∀ {l : List Tst} {k : Nat}, k < l.length → (∀ j, j < k → (txtT (l.getD j tst0)).2 = 0) → (txtT (l.getD k tst0)).2 ≠ 0 → (txtL l).2 = (txtT (l.getD k tst0)).2
  | [], _, h, _, _ => by simp at h
  | x :: l, 0, _, _, h => by
    have h : (txtT x).2 ≠ 0 := by simpa using h
    rw [txtL, if_pos h]; rfl
  | x :: l, k + 1, hk, hj, h => by
    have h0 : (txtT x).2 = 0 := by simpa using hj 0 (Nat.succ_pos _)
    have ih := txtL_er (l := l) (k := k) (by simpa using hk) (fun j hjk => by simpa using hj (j + 1) (by omega)) (by simpa using h)
    have h : (txtT (l.getD k tst0)).2 ≠ 0 := by simpa using h
    rw [txtL, if_neg (fun hh => hh h0), if_pos (by rw [ih]; exact h), ih]
    simp
theorem txtL_ok : ∀ {l : List Tst}, (∀ j, j < l.length → (txtT (l.getD j tst0)).2 = 0) → txtL l = (l.map fun t => (txtT t).1, 0)
  | [], _ => rfl
  | x :: l, h => by
    have h0 : (txtT x).2 = 0 := by simpa using h 0 (by simp)
    rw [txtL, if_neg (fun hh => hh h0), txtL_ok (l := l) (fun j hj => by simpa using h (j + 1) (by simpa using hj)), if_neg (fun hh => hh rfl)]
    rfl
theorem fl1c (l : List (List UInt8)) : (l.map fun s => [vs s]).flatten.length = l.length := by
  induction l with
  | nil => rfl
  | cons s l ih => rw [List.map_cons, List.flatten_cons, List.length_append, ih]; show 1 + l.length = l.length + 1; omega
set_option maxHeartbeats 2000000 in
theorem c_CText (c : Cel) (ad : Option Addr) (cap : Nat) (hg : ∀ t ∈ c.ts, GT t) (w0 : World) (h0 : View) (hv : VLe h0 (Full w0)) (hx : TL h0 ad cap c.ts) (hp : PowV h0) :
    Calls Tryz.prog 20 #[.agg (celC c ad cap).toArray] w0 (Ret w0 h0 fun u _ => u = tsV (textC c)) := by
  have hlm := hx.lm
  refine ent (args := [.agg (celC c ad cap).toArray]) TT_ok [38] [] Tryz.func20 rfl Tryz.ntmps20 rfl rfl hv ?_
  intro b1
  refine cb (fun w hw => c_CCheck c ad cap hg w h0 hw hx) ?_
  have hte : textC c = if rightC c = false then ([], 2) else if c.any = true then ([45], 0) else if (txtL c.ts).2 ≠ 0 then ([], (txtL c.ts).2) else if 200 < (bodyC c).length then ([], 5) else (bodyC c, 0) := rfl
  generalize textC c = R at hte ⊢
  refine cnd (fun h => ?_) (fun h => ?_)
  · by_cases hm : rightC c = true
    · rw [if_pos hm] at h; exact absurd rfl h
    · have e2 : (if rightC c = true then (0 : Int) else 2) = 2 := if_neg hm
      rw [if_pos (by simpa using hm)] at hte
      rw [hte, e2]; exact rfl
  have hr : rightC c = true := by
    split at h
    · assumption
    · exact absurd h (by decide)
  rw [if_neg (by rw [hr]; decide)] at hte
  refine cnd (fun h1 => ?_) (fun h1 => ?_)
  · have h1 : c.any = true := h1
    rw [if_pos h1] at hte
    rw [hte]; exact rfl
  have h1 : c.any = false := h1
  rw [if_neg (by rw [h1]; decide)] at hte
  have h12 : c.ts.length ≤ 12 := by
    rw [rightC, if_neg (by rw [h1]; decide)] at hr
    simp only [Bool.and_eq_true, decide_eq_true_eq] at hr
    exact hr.1.2
  have hso := right_sound hr
  have hbo : bodyC c = if c.neg = true then [110, 111, 116, 40] ++ comS (txtL c.ts).1 ++ [41] else comS (txtL c.ts).1 := rfl
  generalize bodyC c = BC at hte hbo
  refine nilC 900 9 1 ?_
  refine w_loopB TT_ok (fun x : Option Addr × Nat × Nat × Nat => [(5, .v (.slice x.1 x.2.1 x.2.2.1)), (21, .v (.int .i64 x.2.2.2))]) (fun x => [(900, .e (bufE 9 1 (.slice x.1 x.2.1 x.2.2.1) (((c.ts.take x.2.2.2).map fun t => (txtT t).1).map fun s => [vs s]).flatten)), (1, .c b1 25 (celC c ad cap))]) (none, 0, 0, 0)
    (fun x => x.2.2.2 ≤ c.ts.length ∧ x.2.1 = x.2.2.2 ∧ ∀ j, j < x.2.2.2 → (txtT (c.ts.getD j tst0)).2 = 0) (fun x => c.ts.length - x.2.2.2) ?_
  refine And.intro ⟨⟨Nat.zero_le _, rfl, fun j h => absurd h (Nat.not_lt_zero _)⟩, gs⟩ ?_
  rintro ⟨a0, nn, cp, k⟩ ⟨hk, hnk, hz⟩
  dsimp only at hk hnk hz ⊢
  subst hnk
  refine cnd (fun h3 => ?_) (fun h3 => ?_)
  · have hk' : nn < c.ts.length := by omega
    have hmem := getT_mem c.ts nn hk'
    have her := txtL_er (l := c.ts) (k := nn) hk' hz
    have hz' : (txtT (c.ts.getD nn tst0)).2 = 0 → ∀ j, j < nn + 1 → (txtT (c.ts.getD j tst0)).2 = 0 := fun hh => upto_snoc hz hh
    have htk := take_snocD c.ts nn tst0 hk'
    refine ixT hx nn (fun aa ca ab cb' g1 g2 g3 => ?_)
    have hgt := hg _ hmem
    have hsk := sound_k (hso _ hmem)
    generalize c.ts.getD nn tst0 = t at *
    intro b7
    refine cb (fun w hw => c_Ctext t aa ca ab cb' hsk hgt w h0 hw g1 g2 hp) ?_
    refine cnd (fun h4 => ?_) (fun h4 => ?_)
    · have h4 : (txtT t).2 ≠ 0 := by simpa using h4
      rw [her h4, if_pos h4] at hte
      rw [hte]; exact rfl
    · have h4 : (txtT t).2 = 0 := by simpa using h4
      intro b35
      refine ap TT_ok 900 (AppT.of (bytes := 16) (sz := 0) (by kernel_rfl) (by kernel_rfl) (by kernel_rfl)) rfl rfl rfl rfl rfl rfl rfl (by rw [fl1c, List.length_map, List.length_take]; show (_ + 1) * 17 ≤ _; omega) (fun a1 n1 c1 e1 => ?_)
      refine wi ?_
      have hn1 : n1 = nn + 1 := by
        rw [fl1c, List.length_map, List.length_take] at e1
        have e1 : n1 * 1 = min nn c.ts.length + 1 := e1
        omega
      refine ⟨(a1, n1, c1, nn + 1), ⟨⟨hk', hn1, hz' h4⟩, ?_⟩, ?_⟩
      · show c.ts.length - (nn + 1) < c.ts.length - nn; omega
      · refine gs rfl ?_
        show [(900, OB.e (bufE 9 1 (.slice a1 n1 c1) _)), _] = [(900, OB.e (bufE 9 1 (.slice a1 n1 c1) _)), _]
        rw [htk, List.map_append, List.map_append, List.flatten_append]; rfl
  · have e2 : nn = c.ts.length := by omega
    have hok := txtL_ok (l := c.ts) (fun j hj => hz j (by omega))
    rw [hok] at hte hbo
    rw [List.take_of_length_le (show c.ts.length ≤ nn by omega)]
    have hml : (c.ts.map fun t => (txtT t).1).length = nn := by rw [List.length_map]; exact e2.symm
    have hcl := com_len (l := c.ts.map fun t => (txtT t).1) (fun s hs => by
      obtain ⟨t, _, rfl⟩ := List.mem_map.1 hs
      exact txt_len t)
    generalize c.ts.map (fun t => (txtT t).1) = L at *
    rw [if_neg (fun hh => hh rfl)] at hte
    dsimp only at hbo
    refine And.intro rfl ?_
    refine sealW (g := fun s => [vs s]) (l := L) 900 rfl hml.symm ?_
    refine goW TT_ok ?_
    subst hml
    refine cf (x := vs (comS L)) (fun w v h1 h2 h3 => ?_) ?_
    · have := c_strJoin a0 cp L [44, 32] (by omega) (by rw [com_join]; omega) w v h3 h2.2
      rw [com_join] at this
      exact this
    generalize comS L = s at hbo hcl ⊢
    refine cnd (fun h5 => ?_) (fun h5 => ?_)
    · have h5 : c.neg = true := h5
      rw [if_pos h5] at hbo
      refine ct ?_
      refine ct ?_
      rw [← hbo]
      refine cnd (fun h6 => ?_) (fun h6 => ?_)
      · rw [if_pos (by omega)] at hte
        rw [hte]; exact rfl
      · rw [if_neg (by omega)] at hte
        rw [hte]; exact rfl
    · have h5 : c.neg = false := h5
      rw [if_neg (by rw [h5]; decide)] at hbo
      rw [← hbo]
      refine cnd (fun h6 => ?_) (fun h6 => ?_)
      · rw [if_pos (by omega)] at hte
        rw [hte]; exact rfl
      · rw [if_neg (by omega)] at hte
        rw [hte]; exact rfl
end Go.Proofs.YtkjhlfleojcgjaaGreatDoor
set_option maxRecDepth 100000
namespace Go.Proofs.YtkjhlfleojcgjaaGreatDoor
open Go Go.Dx Go.RowKit
def exS : List UInt8 := [110, 111, 116, 40, 60, 53, 44, 93, 97, 46, 46, 57, 93, 41]
def exS2 : List UInt8 := [110, 111, 116, 40, 60, 32, 53, 44, 32, 93, 97, 46, 46, 57, 93, 41]
def exC1 : Tst := ⟨2, numX 5, ex0, false, false⟩
def exC2 : Tst := ⟨6, KX 2 v0 [97], numX 9, true, false⟩
def exCel : Cel := ⟨false, true, [exC1, exC2]⟩
theorem lex_c : lexS exS = ([⟨1, [110, 111, 116], 0, 0⟩, ⟨4, [40], 0, 3⟩, ⟨4, [60], 0, 4⟩, ⟨2, [], 5, 5⟩, ⟨4, [44], 0, 6⟩, ⟨4, [93], 0, 7⟩, ⟨1, [97], 0, 8⟩, ⟨4, [46, 46], 0, 9⟩, ⟨2, [], 9, 11⟩, ⟨4, [93], 0, 12⟩, ⟨4, [41], 0, 13⟩], 0, 0) := by
  rw [lex_run exS (by decide)]; decide +kernel
theorem parse_c : parseC exS = (exCel, 0, 0) := by
  unfold parseC; rw [lex_c]; kernel_rfl
theorem text_c : textC exCel = (exS2, 0) := by kernel_rfl
theorem ev_num (col : List Col) (row : List Val) (n : Int) : evX col row (SizeOf.sizeOf (numX n) + 1) (numX n) = .ok ⟨1, n, []⟩ := by
  rw [evX, if_pos (show (numX n).op = 1 from rfl)]; rfl
theorem ev_nam (v : Val) : evX [colA] [v] (SizeOf.sizeOf (KX 2 v0 [97]) + 1) (KX 2 v0 [97]) = .ok v := by
  rw [evX, if_neg (by decide), if_pos (show (KX 2 v0 [97]).op = 2 from rfl)]; rfl
theorem right_nam : rightS (KX 2 v0 [97]) = true := by kernel_rfl
theorem es_num (m n : Int) (h : 0 ≤ n) : evalS [colA] [⟨1, m, []⟩] (numX n) = (⟨1, n, []⟩, 0) := by rw [evalS, if_pos ⟨right_num h, rfl, by rfl⟩, ev_num]
theorem es_nam (m : Int) : evalS [colA] [⟨1, m, []⟩] (KX 2 v0 [97]) = (⟨1, m, []⟩, 0) := by rw [evalS, if_pos ⟨right_nam, rfl, by rfl⟩, ev_nam]
theorem ask_c1 (n : Int) : askT exC1 ⟨1, n, []⟩ [colA] [⟨1, 5, []⟩] = (passT exC1 ⟨1, n, []⟩ [⟨1, 5, []⟩], 0) := by
  rw [ask_one (p := (⟨1, 5, []⟩, 0)) (by decide) (es_num 5 5 (by decide)), if_neg (by decide), if_pos (by rfl)]
theorem ask_c2 (n : Int) : askT exC2 ⟨1, n, []⟩ [colA] [⟨1, 5, []⟩] = (passT exC2 ⟨1, n, []⟩ [⟨1, 5, []⟩, ⟨1, 9, []⟩], 0) := by
  rw [ask_two (p := (⟨1, 5, []⟩, 0)) (q := (⟨1, 9, []⟩, 0)) rfl (es_nam 5) (es_num 5 9 (by decide)), if_neg (by decide), if_neg (by decide), if_pos (by rfl)]
theorem holds_c5 : holdsC exCel ⟨1, 5, []⟩ [colA] [⟨1, 5, []⟩] = (true, 0) := by
  rw [holdsC, if_pos (by kernel_rfl)]
  show holdL false true ⟨1, 5, []⟩ [colA] [⟨1, 5, []⟩] [exC1, exC2] = _
  have e1 : passT exC1 ⟨1, 5, []⟩ [⟨1, 5, []⟩] = false := by kernel_rfl
  have e2 : passT exC2 ⟨1, 5, []⟩ [⟨1, 5, []⟩, ⟨1, 9, []⟩] = false := by kernel_rfl
  rw [holdL, ask_c1, e1, if_neg (by decide), if_neg (by decide), holdL, ask_c2, e2, if_neg (by decide), if_neg (by decide), holdL]; rfl
theorem holds_c6 : holdsC exCel ⟨1, 6, []⟩ [colA] [⟨1, 5, []⟩] = (false, 0) := by
  rw [holdsC, if_pos (by kernel_rfl)]
  show holdL false true ⟨1, 6, []⟩ [colA] [⟨1, 5, []⟩] [exC1, exC2] = _
  have e1 : passT exC1 ⟨1, 6, []⟩ [⟨1, 5, []⟩] = false := by kernel_rfl
  have e2 : passT exC2 ⟨1, 6, []⟩ [⟨1, 5, []⟩, ⟨1, 9, []⟩] = true := by kernel_rfl
  rw [holdL, ask_c1, e1, if_neg (by decide), if_neg (by decide), holdL, ask_c2, e2, if_neg (by decide), if_pos (by rfl)]; rfl
theorem c_CParseE {s : List UInt8} {c : Cel} {at' e : Int} (he : parseC s = (c, at', e)) (w0 : World) (h0 : View) (hv : VLe h0 (Full w0)) :
    Calls Tryz.prog 11 #[vs s] w0 (Ret w0 h0 fun u hh => ∃ x : Option Addr × Nat, u = cpV (c, at', e) x ∧ TL hh x.1 x.2 c.ts) := by
  have := c_CParse s w0 h0 hv
  rw [he] at this; exact this
theorem gt_num (n : Int) (h : 0 ≤ n) : SmX (numX n) := smx_right (right_num h)
theorem gt_ex : ∀ t ∈ exCel.ts, GT t := by
  intro t ht
  have : t = exC1 ∨ t = exC2 := by simpa [exCel] using ht
  rcases this with rfl | rfl
  · exact ⟨gt_num 5 (by decide), sm0, by decide +kernel, by decide +kernel⟩
  · exact ⟨smx_right right_nam, gt_num 9 (by decide), by decide +kernel, by decide +kernel⟩
theorem c_CHoldsK {c : Cel} {v : Val} {col : List Col} {row : List Val} {p : Bool × Int} (he : holdsC c v col row = p) (adt : Option Addr) (capt : Nat) (ad : Option Addr) (cap : Nat) (ad2 : Option Addr) (cap2 : Nat) (hg : ∀ t ∈ c.ts, GT t) (hvv : valB v) (hl : col.length ≤ 1000000) (hvb : ∀ v ∈ row, valB v) (w0 : World) (h0 : View) (hv : VLe h0 (Full w0))
    (hx : TL h0 adt capt c.ts) (hc : SlC 70 3 (flatR colC) h0 (.slice ad col.length cap) col) (hr : SlC 35 3 (flatR valC) h0 (.slice ad2 row.length cap2) row) :
    Calls Tryz.prog 17 #[.agg (celC c adt capt).toArray, .agg (valC v).toArray, .slice ad col.length cap, .slice ad2 row.length cap2] w0 (Ret w0 h0 fun u _ => u = kbR2 p) := by
  subst he
  exact c_CHolds c adt capt v ad cap col ad2 cap2 row hg hvv hl hvb w0 h0 hv hx hc hr
set_option maxRecDepth 100000 in
theorem c_lives17 (w0 : World) (h0 : View) (hv : VLe h0 (Full w0)) (hp : PowV h0) : Calls Tryz.prog 10 #[] w0 (Ret w0 h0 fun u _ => u = .bool true) := by
  refine ent (args := []) TT_ok [27] [] Tryz.func10 rfl Tryz.ntmps10 rfl rfl hv ?_
  refine cA TT_ok (fun w v h1 h2 h3 => c_CParseE parse_c w v h3) (fun a => tl_m a _) (fun a => ?_)
  intro b1
  refine cf (fun w v h1 h2 h3 => c_CText exCel a.1 a.2 gt_ex w v h3 h2.2 (pow_m h1 hp)) ?_
  rw [text_c]
  intro b23 b25
  refine ⟨rfl, shutW 23 (row_sl (g := colC) (l := [colA]) (sz := 3) (n := 1) (cp := 1) rfl) ?_ Mono.slF⟩
  refine shutW 25 (row_sl (g := valC) (l := [(⟨1, 5, []⟩ : Val)]) (sz := 3) (n := 1) (cp := 1) rfl) ?_ Mono.slF
  refine goW TT_ok ?_
  refine cf (fun w v h1 h2 h3 => c_CHoldsK holds_c5 a.1 a.2 (some ⟨b23, 0, none⟩) 1 (some ⟨b25, 0, none⟩) 1 gt_ex ⟨i64n (by decide), i64n (by decide)⟩ (by decide) (by simp [valB, i64]) w v h3 h2.1.1.2 h2.1.2 h2.2) ?_
  refine cf (fun w v h1 h2 h3 => c_CHoldsK holds_c6 a.1 a.2 (some ⟨b23, 0, none⟩) 1 (some ⟨b25, 0, none⟩) 1 gt_ex ⟨i64n (by decide), i64n (by decide)⟩ (by decide) (by simp [valB, i64]) w v h3 h2.1.1.2 h2.1.2 h2.2) ?_
  exact rfl
end Go.Proofs.YtkjhlfleojcgjaaGreatDoor
set_option maxRecDepth 100000
namespace Go.Proofs.YtkjhlfleojcgjaaGreatDoor
open Go Go.Dx Go.RowKit
theorem small_gt {ts : List Tst} (h : smallC ts = true) : ts.length ≤ 14 ∧ ∀ t ∈ ts, GT t := by
  unfold smallC at h
  simp only [Bool.and_eq_true, decide_eq_true_eq, List.all_eq_true] at h
  refine ⟨h.1, fun t ht => ?_⟩
  obtain ⟨h1, h2⟩ := h.2 t ht
  exact ⟨sm_of h1, sm_of h2, by have := deep_of h1; omega, by have := deep_of h2; omega⟩
theorem few_len {cl : List Col} (h : fewS cl = true) : cl.length ≤ 1000000 := by
  simp only [fewS, Bool.and_eq_true, decide_eq_true_eq] at h
  omega
end Go.Proofs.YtkjhlfleojcgjaaGreatDoor
set_option maxRecDepth 100000
namespace Go.Proofs.YtkjhlfleojcgjaaGreatDoor
open Go Go.Dx Go.RowKit
section snd
variable {col : List Col} {row : List Val}
end snd
end Go.Proofs.YtkjhlfleojcgjaaGreatDoor
set_option maxRecDepth 100000
namespace Go.Proofs.YtkjhlfleojcgjaaGreatDoor
open Go Go.Dx Go.RowKit
theorem tl_row1 {h : View} {a : Option Addr} {cp : Nat} {t : Tst} {aa : Option Addr} {ca : Nat} {ab : Option Addr} {cb : Nat} (hs : SlC 52 15 (flatR fun _ : Nat => tstC t aa ca ab cb) h (.slice a 1 cp) (List.range 1)) (ha : EX h aa ca t.a) (hb : EX h ab cb t.b) (hk : i64 t.k) : TL h a cp [t] := by
  refine ⟨_, hs, fun i u hi => ?_⟩
  match i, hi with
  | 0, hi =>
    have : t = u := by simpa using hi
    subst this
    exact ⟨aa, ca, ab, cb, rfl, ha, hb, hk⟩
  | n + 1, hi => simp at hi
section nots
variable {v : Val} {col : List Col} {row : List Val}
theorem hold_neg : ∀ l : List Tst, (holdL false true v col row l).2 = (holdL false false v col row l).2 ∧ ((holdL false false v col row l).2 = 0 → (holdL false true v col row l).1 = !(holdL false false v col row l).1) ∧ ((holdL false false v col row l).2 ≠ 0 → (holdL false false v col row l).1 = false ∧ (holdL false true v col row l).1 = false)
  | [] => ⟨rfl, fun _ => rfl, fun h => absurd rfl h⟩
  | t :: l => by
    rw [holdL, holdL]
    split
    · rename_i h; exact ⟨rfl, fun hh => absurd hh h, fun _ => ⟨rfl, rfl⟩⟩
    split
    · exact ⟨rfl, fun _ => rfl, fun h => absurd rfl h⟩
    · exact hold_neg l
theorem may_neg (ts : List Tst) (neg : Bool) : mayC ⟨false, neg, ts⟩ v col row = mayC ⟨false, false, ts⟩ v col row := rfl
theorem holds_neg (ts : List Tst) : (holdsC ⟨false, true, ts⟩ v col row).2 = (holdsC ⟨false, false, ts⟩ v col row).2 ∧ ((holdsC ⟨false, false, ts⟩ v col row).2 = 0 → (holdsC ⟨false, true, ts⟩ v col row).1 = !(holdsC ⟨false, false, ts⟩ v col row).1) ∧ ((holdsC ⟨false, false, ts⟩ v col row).2 ≠ 0 → (holdsC ⟨false, false, ts⟩ v col row).1 = false ∧ (holdsC ⟨false, true, ts⟩ v col row).1 = false) := by
  unfold holdsC
  rw [may_neg ts true]
  split
  · exact hold_neg ts
  · exact ⟨rfl, fun h => absurd h (by decide), fun _ => ⟨rfl, rfl⟩⟩
theorem hold_app (m : List Tst) : ∀ l : List Tst, (holdL false false v col row l).2 = 0 → holdL false false v col row (l ++ m) = if (holdL false false v col row l).1 = true then (true, 0) else holdL false false v col row m
  | [], _ => by rw [holdL]; rfl
  | t :: l, h => by
    rw [List.cons_append, holdL, holdL]
    rw [holdL] at h
    by_cases h1 : (askT t v col row).2 ≠ 0
    · rw [if_pos h1] at h; exact absurd h h1
    rw [if_neg h1] at h ⊢
    rw [if_neg h1]
    by_cases h2 : (askT t v col row).1 = true
    · rw [if_pos h2, if_pos h2]; rfl
    · rw [if_neg h2] at h ⊢
      rw [if_neg h2]
      exact hold_app m l h
theorem holds_more {ts : List Tst} {t : Tst} (h : (holdsC ⟨false, false, ts⟩ v col row).2 = 0) (hr : rightC ⟨false, false, ts ++ [t]⟩ = true) :
    holdsC ⟨false, false, ts ++ [t]⟩ v col row = if (holdsC ⟨false, false, ts⟩ v col row).1 = true then (true, 0) else holdsC ⟨false, false, [t]⟩ v col row := by
  have hm : mayC ⟨false, false, ts⟩ v col row = true := by
    by_cases hh : mayC ⟨false, false, ts⟩ v col row = true
    · exact hh
    · rw [holdsC, if_neg hh] at h; exact absurd h (by decide)
  obtain ⟨_, m2, m3, m4⟩ := mayR hm
  have hm2 : mayC ⟨false, false, ts ++ [t]⟩ v col row = true := by unfold mayC; rw [hr, m2, m4, decide_eq_true m3]; rfl
  have hst : soundT t = true := right_sound hr t (by simp)
  have hr1 : rightC ⟨false, false, [t]⟩ = true := by
    rw [rightC, if_neg (show ¬ (false = true) by decide)]
    simp [hst]
  have hm3 : mayC ⟨false, false, [t]⟩ v col row = true := by unfold mayC; rw [hr1, m2, m4, decide_eq_true m3]; rfl
  have e1 : holdsC ⟨false, false, ts⟩ v col row = holdL false false v col row ts := if_pos hm
  have e2 : holdsC ⟨false, false, ts ++ [t]⟩ v col row = holdL false false v col row (ts ++ [t]) := if_pos hm2
  have e3 : holdsC ⟨false, false, [t]⟩ v col row = holdL false false v col row [t] := if_pos hm3
  rw [e1] at h ⊢
  rw [e2, e3]
  exact hold_app [t] ts h
end nots
theorem flat_rng (cc : Nat → List Value) : ∀ n, (∀ i, i < n → (cc i).length = 15) → ((List.range n).map cc).flatten.length = 15 * n
  | 0, _ => rfl
  | n + 1, h => by
    have ih := flat_rng cc n fun i hi => h i (by omega)
    rw [List.range_succ, List.map_append, List.flatten_append, List.length_append, ih]
    simp [h n (by omega)]
    omega
set_option maxHeartbeats 40000000 in
theorem c_CellNot (c : Cel) (adt : Option Addr) (capt : Nat) (t : Tst) (aa : Option Addr) (ca : Nat) (ab : Option Addr) (cb' : Nat) (v : Val) (ad : Option Addr) (cap : Nat) (col : List Col) (ad2 : Option Addr) (cap2 : Nat) (row : List Val) (hvv : valB v) (hvs : v.s.length ≤ 9223372036854775807) (hvb : ∀ v ∈ row, valB v ∧ v.s.length ≤ 9223372036854775807) (w0 : World) (h0 : View) (hv : VLe h0 (Full w0))
    (hx : TL h0 adt capt c.ts) (ha : EX h0 aa ca t.a) (hb : EX h0 ab cb' t.b) (hk : i64 t.k) (hc : SlC 70 3 (flatR colC) h0 (.slice ad col.length cap) col) (hr : SlC 35 3 (flatR valC) h0 (.slice ad2 row.length cap2) row) (hp : PowV h0) :
    Calls Tryz.prog 5 #[.agg (celC c adt capt).toArray, .agg (tstC t aa ca ab cb').toArray, .agg (valC v).toArray, .slice ad col.length cap, .slice ad2 row.length cap2] w0 (Ret w0 h0 fun u _ => u = .bool true) := by
  have hlm := slc_lm hc
  refine ent (args := [.agg (celC c adt capt).toArray, .agg (tstC t aa ca ab cb').toArray, .agg (valC v).toArray, .slice ad col.length cap, .slice ad2 row.length cap2]) TT_ok [24, 1000009, 94, 99, 127] [10] Tryz.func5 rfl Tryz.ntmps5 rfl rfl hv ?_
  intro b5 b6 b7
  refine cb (fun w hw => c_CSmall c adt capt w h0 hw hx) ?_
  by_cases hsm : smallC c.ts = false
  · refine ⟨rfl, goW1 TT_ok ⟨rfl, ?_⟩⟩
    refine unG (cndF (by rw [hsm]; rfl) ⟨rfl, ?_⟩)
    refine unG (cndF (by rw [hsm]; rfl) ⟨rfl, ?_⟩)
    refine unG (cndF (by rw [hsm]; rfl) ⟨rfl, ?_⟩)
    refine unG (cndF (by rw [hsm]; rfl) ⟨rfl, ?_⟩)
    refine unG (cndF (by rw [hsm]; rfl) ⟨rfl, ?_⟩)
    refine pkT TT_ok rfl (by rw [hsm]; rfl) rfl ?_
    refine cbg (fun _ w hw => c_Few ad cap col w h0 hw hc) ?_
    refine cbg (fun _ w hw => c_RowFew ad2 cap2 row w h0 hw hr) ?_
    refine cndT (by simp) ?_
    refine cb (fun w hw => c_lives17 w h0 hw hp) ?_
    exact rfl
  have hsm : smallC c.ts = true := by simpa using hsm
  refine ⟨rfl, goW1 TT_ok ⟨rfl, ?_⟩⟩
  refine unG (cndT (by rw [hsm]; rfl) (goW1 TT_ok ⟨rfl, ?_⟩))
  refine unG (cndT (by rw [hsm]; rfl) (goW1 TT_ok ?_))
  intro b26
  refine ⟨rfl, ?_⟩
  refine shutW 26 (row_sl (g := fun _ : Nat => tstC t aa ca ab cb') (l := List.range 1) (sz := 15) (n := 1) (cp := 1) rfl) ?_ Mono.slF
  refine unG (cndT (by rw [hsm]; rfl) (goW1 TT_ok ⟨rfl, ?_⟩))
  refine unG (cndT (by rw [hsm]; rfl) (goW1 TT_ok ?_))
  refine cf (fun w v h1 h2 h3 => c_CSmall ⟨false, false, [t]⟩ (some ⟨b26, 0, none⟩) 1 w v h3 (tl_row1 h2.2 (ha.mono h1) (hb.mono h1) hk)) ?_
  refine ⟨rfl, ?_⟩
  refine unG (cndT (by rw [hsm]; rfl) (goW1 TT_ok ⟨rfl, ?_⟩))
  refine goW TT_ok ?_
  refine cbg (fun _ w hw => c_Few ad cap col w h0 hw hc) ?_
  refine cbg (fun _ w hw => c_RowFew ad2 cap2 row w h0 hw hr) ?_
  refine cnd (fun h => ?_) (fun h => ?_)
  · refine cb (fun w hw => c_lives17 w h0 hw hp) ?_
    exact rfl
  obtain ⟨⟨⟨⟨_, hst⟩, hfw⟩, _⟩, _⟩ : (((True ∧ smallC [t] = true) ∧ fewS col = true) ∧ fewR row = true) ∧ True := by
    refine ⟨⟨⟨⟨trivial, ?_⟩, ?_⟩, ?_⟩, trivial⟩
    · simpa using h.1.1.1.2
    · simpa using h.1.1.2
    · simpa using h.1.2
  have hg := (small_gt hsm).2
  have hgt : GT t := (small_gt hst).2 t (by simp)
  have hll := (small_gt hsm).1
  have hb1 : ∀ v ∈ row, valB v := fun v hv => (hvb v hv).1
  intro b11
  have hN := holds_neg (v := v) (col := col) (row := row) c.ts
  have hM := holds_more (v := v) (col := col) (row := row) (ts := c.ts) (t := t)
  obtain ⟨p, hpp⟩ : ∃ p, holdsC ⟨false, false, c.ts⟩ v col row = p := ⟨_, rfl⟩
  obtain ⟨q, hq⟩ : ∃ q, holdsC ⟨false, true, c.ts⟩ v col row = q := ⟨_, rfl⟩
  rw [hpp, hq] at hN
  rw [hpp] at hM
  refine cb (fun w hw => c_CHoldsK (c := ⟨false, false, c.ts⟩) hpp adt capt ad cap ad2 cap2 hg hvv (few_len hfw) hb1 w h0 hw hx hc hr) ?_
  refine cb (fun w hw => c_CHoldsK (c := ⟨false, true, c.ts⟩) hq adt capt ad cap ad2 cap2 hg hvv (few_len hfw) hb1 w h0 hw hx hc hr) ?_
  refine cnd (fun h2 => ?_) (fun h2 => ?_)
  · exfalso
    obtain ⟨n1, n2, n3⟩ := hN
    rcases h2 with (h2 | h2) | h2
    · exact h2 n1.symm
    · have := n2 h2.1
      rw [this] at h2
      cases hp1 : p.1 <;> rw [hp1] at h2 <;> exact absurd h2.2 (by decide)
    · have := n3 h2.1
      rw [this.1, this.2] at h2
      rcases h2.2 with h3 | h3 <;> exact absurd h3 (by decide)
  clear h2 hN
  obtain ⟨cc, hcs, hcc⟩ := hx
  have hcl : ∀ x ∈ List.range c.ts.length, (cc x).length = 15 := fun i hi => by
    have hi := List.mem_range.1 hi
    obtain ⟨_, _, _, _, e, _⟩ := hcc i (c.ts.getD i tst0) (by rw [getDT c.ts i hi]; exact List.getElem?_eq_getElem hi)
    rw [e]; rfl
  have hc1 : ∀ x ∈ List.range c.ts.length, ∀ u ∈ cc x, u.oneCell' = true := fun i hi => by
    have hi := List.mem_range.1 hi
    obtain ⟨a1, a2, a3, a4, e, _⟩ := hcc i (c.ts.getD i tst0) (by rw [getDT c.ts i hi]; exact List.getElem?_eq_getElem hi)
    rw [e]
    exact List.all_eq_true.1 (show (tstC _ a1 a2 a3 a4).all (fun u => u.oneCell') = true from rfl)
  have hcf := flat_rng cc c.ts.length (fun i hi => hcl i (List.mem_range.2 hi))
  refine w_cutB TT_ok (fun _ : Nat × Option Addr × Nat × Nat => [(16, .o 16 0)]) (fun x => [(901, .e (bufE 52 15 (.slice x.2.1 x.2.2.1 x.2.2.2) (((List.range c.ts.length).map cc).flatten ++ tstC t aa ca ab cb'))), (16, .c x.1 25 [.bool false, .bool false, .slice x.2.1 x.2.2.1 x.2.2.2]), (11, .c b11 25 [.bool false, .bool true, .slice adt c.ts.length capt]), (7, .c b7 35 (valC v)), (6, .c b6 52 (tstC t aa ca ab cb')), (5, .c b5 25 [.bool false, .bool false, .slice adt c.ts.length capt])]) (fun x => x.2.2.1 = c.ts.length + 1) ?_
  refine And.intro ?_ ?_
  · refine regPt TT_ok (.m [1, 4, 2] (.n 0 (.n 3 (.n 5 (.n 6 (.m [7] (.n 8 (.n 9 .e .z) .z)) (.n 8 (.n 6 (.m [7] (.n 9 .e .z)) .z) .z)) (.n 8 (.n 5 (.n 6 (.m [7] (.n 9 .e .z)) .z) .z) .z)) (.n 5 (.n 3 (.n 6 (.m [7] (.n 8 (.n 9 .e .z) .z)) (.n 8 (.n 6 (.m [7] (.n 9 .e .z)) .z) .z)) (.n 8 (.n 3 (.n 6 (.m [7] (.n 9 .e .z)) .z) .z) .z)) (.n 8 (.n 3 (.n 5 (.n 6 (.m [7] (.n 9 .e .z)) .z) .z) (.n 5 (.n 3 (.n 6 (.m [7] (.n 9 .e .z)) .z) .z) .z)) .z))) (.n 5 (.n 0 (.n 3 (.n 6 (.m [7] (.n 8 (.n 9 .e .z) .z)) (.n 8 (.n 6 (.m [7] (.n 9 .e .z)) .z) .z)) (.n 8 (.n 3 (.n 6 (.m [7] (.n 9 .e .z)) .z) .z) .z)) (.n 8 (.n 0 (.n 3 (.n 6 (.m [7] (.n 9 .e .z)) .z) .z) .z) .z)) (.n 8 (.n 0 (.n 3 (.n 5 (.n 6 (.m [7] (.n 9 .e .z)) .z) .z) (.n 5 (.n 3 (.n 6 (.m [7] (.n 9 .e .z)) .z) .z) .z)) (.n 5 (.n 0 (.n 3 (.n 6 (.m [7] (.n 9 .e .z)) .z) .z) .z) .z)) .z)))) [901, 91, 16, 96] ?_
    refine kq ⟨?_, ?_⟩
    all_goals
      repeat' (first
        | exact (rfl : true = true)
        | exact True.intro
        | exact ⟨(_, _, _, _), (by
            have e4 := hn4
            rw [List.nil_append, hcf] at e4
            have e4 : n4 * 15 = 15 * c.ts.length + 15 := e4
            show n4 = c.ts.length + 1; omega), gsJ ⟨rfl, rfl, rfl, rfl, rfl, rfl, trivial⟩⟩
        | refine kq (kq (kq ?_))
        | refine kq (kq (And.intro ?_ ?_))
        | refine kq (kq ?_)
        | refine kq (And.intro ?_ ?_)
        | refine kq ?_
        | intro bq
        | refine rowE (k := 91) (n := 0) (cp := 0) (sz := 15) 901 rfl rfl rfl (by decide) (Nat.le_refl _) ⟨rfl, apF TT_ok (g := cc) (l := List.range c.ts.length) 901 (AppT.of (bytes := 176) (sz := 14) (by kernel_rfl) (by kernel_rfl) (by kernel_rfl)) (fun v h1 _ => Mono.slF _ _ h1 hcs) hcl hc1 rfl rfl rfl rfl (by rw [hcf]; show (0 + 15 * c.ts.length) * 177 ≤ 140737488355328; omega) (fun a3 n3 c3 hn3 => ?_)⟩
        | refine (ap TT_ok 901 (AppT.of (bytes := 176) (sz := 14) (by kernel_rfl) (by kernel_rfl) (by kernel_rfl)) rfl rfl rfl rfl rfl rfl rfl (by rw [List.nil_append, hcf]; show (15 * c.ts.length + 15) * 177 ≤ 140737488355328; omega) (fun a4 n4 c4 hn4 => ?_)).2
        | refine And.intro ?_ ?_
        | fail)
  rintro ⟨b16, a4, n4, c4⟩ hn4
  dsimp only at hn4 ⊢
  have hrow : ((List.range c.ts.length).map cc).flatten ++ tstC t aa ca ab cb' = ((List.range (c.ts.length + 1)).map (fun i => if i < c.ts.length then cc i else tstC t aa ca ab cb')).flatten := by
    rw [List.range_succ, List.map_append, List.flatten_append, List.map_cons, List.map_nil, List.flatten_cons, List.flatten_nil, List.append_nil, if_neg (Nat.lt_irrefl _)]
    congr 2
    exact List.map_congr_left fun i hi => (if_pos (List.mem_range.1 hi)).symm
  rw [hrow]
  refine And.intro rfl ?_
  refine sealW (g := fun i => if i < c.ts.length then cc i else tstC t aa ca ab cb') (l := List.range (c.ts.length + 1)) 901 rfl (by simp [hn4]) ?_ (by
    intro i hi
    split
    · rename_i h; exact hcl i (List.mem_range.2 h)
    · rfl)
  refine goW TT_ok ?_
  have hlen : (c.ts ++ [t]).length = n4 := by rw [hn4]; simp
  have htl : ∀ v, VLe h0 v → SlC 52 15 (flatR fun i => if i < c.ts.length then cc i else tstC t aa ca ab cb') v (.slice a4 n4 c4) (List.range (c.ts.length + 1)) → TL v a4 c4 (c.ts ++ [t]) := fun v hv hs => by
    refine ⟨_, by rw [hlen, ← hn4] at *; rw [hn4] at hs ⊢; exact hs, fun i u hi => ?_⟩
    by_cases h : i < c.ts.length
    · rw [List.getElem?_append_left h] at hi
      show RT v (if i < c.ts.length then cc i else _) u
      rw [if_pos h]
      exact (hcc i u hi).mono hv
    · have hi2 : i < (c.ts ++ [t]).length := (List.getElem?_eq_some_iff.1 hi).1
      have : i = c.ts.length := by rw [List.length_append] at hi2; simp at hi2; omega
      subst this
      rw [List.getElem?_append_right (Nat.le_refl _)] at hi
      have : t = u := by simpa using hi
      subst this
      show RT v (if _ then cc _ else _) t
      rw [if_neg h]
      exact ⟨aa, ca, ab, cb', rfl, ha.mono hv, hb.mono hv, hk⟩
  have hgm : ∀ u ∈ c.ts ++ [t], GT u := fun u hu => by
    rcases List.mem_append.1 hu with hu | hu
    · exact hg u hu
    · have : u = t := by simpa using hu
      rw [this]; exact hgt
  have ecel : celC ⟨false, false, c.ts ++ [t]⟩ a4 c4 = [.bool false, .bool false, .slice a4 n4 c4] := by unfold celC; rw [hlen]
  refine cfg (x := .int .i64 (if rightC ⟨false, false, c.ts ++ [t]⟩ = true then 0 else 2)) (fun _ w v h1 h2 h3 => by
    have := c_CCheck ⟨false, false, c.ts ++ [t]⟩ a4 c4 hgm w v h3 (htl v h1 h2.2)
    rw [ecel] at this; exact this) ?_
  refine cnd (fun h2 => ?_) (fun h2 => ?_)
  · refine cb (fun w hw => c_lives17 w h0 hw hp) ?_
    exact rfl
  have hp2 : p.2 = 0 := h2.1
  have hrm : rightC ⟨false, false, c.ts ++ [t]⟩ = true := by
    have := h2.2
    by_cases hh : rightC ⟨false, false, c.ts ++ [t]⟩ = true
    · exact hh
    · rw [if_neg hh] at this; exact absurd this (by decide)
  have hM := hM hp2 hrm
  obtain ⟨d, hd⟩ : ∃ d, holdsC ⟨false, false, c.ts ++ [t]⟩ v col row = d := ⟨_, rfl⟩
  obtain ⟨o, ho⟩ : ∃ o, holdsC ⟨false, false, [t]⟩ v col row = o := ⟨_, rfl⟩
  rw [hd, ho] at hM
  refine cf (x := kbR2 d) (fun w v' h1 h2 h3 => by
    have := c_CHoldsK (c := ⟨false, false, c.ts ++ [t]⟩) hd a4 c4 ad cap ad2 cap2 hgm hvv (few_len hfw) hb1 w v' h3 (htl v' h1 h2.2) (Mono.slF _ _ h1 hc) (Mono.slF _ _ h1 hr)
    rw [ecel] at this; exact this) ?_
  refine cnd (fun h3 => ?_) (fun h3 => ?_)
  · have h3 : p.1 = true := h3
    rw [if_pos h3] at hM
    rw [hM]
    refine cbg (fun _ w hw => c_lives17 w h0 hw hp) ?_
    exact rfl
  · have h3 : p.1 = false := h3
    rw [if_neg (by rw [h3]; decide)] at hM
    rw [hM]
    intro b126
    refine shutG TT_ok 126 rfl (row_sl (g := fun _ : Nat => tstC t aa ca ab cb') (l := List.range 1) (sz := 15) (n := 1) (cp := 1) rfl) ?_ Mono.slF
    refine cf (fun w v' h1 h2 h3 => c_CHoldsK (c := ⟨false, false, [t]⟩) ho (some ⟨b126, 0, none⟩) 1 ad cap ad2 cap2 (fun u hu => by
      have : u = t := by simpa using hu
      rw [this]; exact hgt) hvv (few_len hfw) hb1 w v' h3 (tl_row1 h2.2 (ha.mono h1) (hb.mono h1) hk) (Mono.slF _ _ h1 hc) (Mono.slF _ _ h1 hr)) ?_
    refine cbg (fun _ w hw => c_lives17 w h0 hw hp) ?_
    refine finB ?_
    simp
end Go.Proofs.YtkjhlfleojcgjaaGreatDoor
namespace Go.Proofs.YtkjhlfleojcgjaaGreatDoor
open Go Go.Dx Go.RowKit
theorem pow_of_laid {W : World} (h : laidMetH Tryz.prog laidL W) : PowV (Full W) := by
  have h1 := laidMetH.filter (fun x => x.1 == "internal/strconv.uint64pow10") h
  have e : laidL.filter (fun x => x.1 == "internal/strconv.uint64pow10") = [("internal/strconv.uint64pow10", Lib.tabData .u64 Lib.pow10Tab)] := by kernel_rfl
  rw [e] at h1
  have h2 := (laidMetH_iff.1 h1).1
  have e2 : ([("internal/strconv.uint64pow10", (Lib.tabData .u64 Lib.pow10Tab : DataW Unit))].filter fun x => x.2.handleName?.isNone) = [("internal/strconv.uint64pow10", Lib.tabData .u64 Lib.pow10Tab)] := by kernel_rfl
  rw [e2] at h2
  have hn : Tryz.prog.globalNamed "internal/strconv.uint64pow10" = some powG := by kernel_rfl
  have ht := Lib.tabIs_of_head (P := Tryz.prog) (t := 266) (e := 254) (n := 20) hn (by kernel_rfl) (by kernel_rfl) (by kernel_rfl) (by kernel_rfl) (by kernel_rfl) h2
  unfold Lib.TabIs World.var? at ht
  rw [hn, Option.bind_some] at ht
  split at ht
  · rename_i cs T fz hg
    have : cs = (Lib.pow10Tab.map fun z => Value.int .u64 z).toArray := Option.some.inj ht
    subst this
    exact ⟨T, fz, hg⟩
  · cases ht
end Go.Proofs.YtkjhlfleojcgjaaGreatDoor
