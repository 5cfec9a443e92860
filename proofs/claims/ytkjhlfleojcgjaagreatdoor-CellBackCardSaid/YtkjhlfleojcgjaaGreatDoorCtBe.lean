/- Laws of walks, and what functions of the program compute: part 5. Each with the conditions that it names. -/
import Derived.LaidSub
import Derived.Test.YtkjhlfleojcgjaaGreatDoorCtBd
set_option linter.unusedSimpArgs false
set_option linter.unusedVariables false
set_option maxRecDepth 100000
namespace Go.Proofs.YtkjhlfleojcgjaaGreatDoor
open Go Go.Dx Go.RowKit
abbrev AA := (Option Addr × Nat) × (Option Addr × Nat)
def tsC (q : Tst × AA) : List Value := tstC q.1 q.2.1.1 q.2.1.2 q.2.2.1 q.2.2.2
def rowT (es : List (Tst × AA)) (i : Nat) : List Value := tsC (es.getD i (tst0, (none, 0), (none, 0)))
theorem rowT_map (es : List (Tst × AA)) : (List.range es.length).map (rowT es) = es.map tsC := by
  refine List.ext_getElem (by simp) fun i h1 h2 => ?_
  have h3 : i < es.length := by simpa using h1
  simp [rowT, List.getD, h3]
theorem flatTs (es : List (Tst × AA)) : (es.map tsC).flatten.length = es.length * 15 := by
  induction es with
  | nil => rfl
  | cons v l ih => rw [List.map_cons, List.flatten_cons, List.length_append, ih, List.length_cons]; show 15 + _ = _; omega
def TXL (h : View) (es : List (Tst × AA)) : Prop := ∀ q ∈ es, TX h q.1 q.2
theorem txl_m (es : List (Tst × AA)) : Mono fun h => TXL h es := fun _ _ hle hx q hq => tx_m q.2 q.1 _ _ hle (hx q hq)
theorem txl_snoc {h : View} {es : List (Tst × AA)} {t : Tst} {x : AA} (h1 : TXL h es) (h2 : TX h t x) : TXL h (es ++ [(t, x)]) := by
  intro q hq
  rcases List.mem_append.1 hq with hq | hq
  · exact h1 q hq
  · have : q = (t, x) := by simpa using hq
    subst this; exact h2
theorem rowT_tl {h : View} {ad : Option Addr} {cap : Nat} {es : List (Tst × AA)} {n : Nat} (hn : n = es.length) (hs : SlC 52 15 (flatR (rowT es)) h (.slice ad n cap) (List.range es.length)) (hx : TXL h es) (hd : ∀ q ∈ es, ndTs q.1) : TL h ad cap (es.map (·.1)) := by
  subst hn
  refine ⟨rowT es, by simpa using hs, fun i t hi => ?_⟩
  rw [List.getElem?_map] at hi
  cases he : es[i]? with
  | none => rw [he] at hi; cases hi
  | some p =>
    rw [he] at hi
    cases hi
    have hm : p ∈ es := List.mem_of_getElem? he
    have e : es.getD i (tst0, (none, 0), (none, 0)) = p := by simp [List.getD, he]
    obtain ⟨g1, g2⟩ := hx p hm
    obtain ⟨d1, d2, d3⟩ := hd p hm
    exact ⟨p.2.1.1, p.2.1.2, p.2.2.1, p.2.2.2, by rw [rowT, e]; rfl, ⟨g1, d1⟩, ⟨g2, d2⟩, d3⟩
structure LpC where
  a : Option Addr
  n : Nat
  c : Nat
  es : List (Tst × AA)
  p : CSt
  f : Nat
theorem tests_snoc {A : List Tst} {l : List Tok} {n : Nat} {p : CSt} {R : List Tst × CSt} (h : (A ++ (testsC l (n + 1) p).1, (testsC l (n + 1) p).2) = R) :
    (onS l (testC l p).2.1 (testC l p).2.2 4 [44] = true → ((A ++ [(testC l p).1]) ++ (testsC l n ((testC l p).2.1 + 1, (testC l p).2.2)).1, (testsC l n ((testC l p).2.1 + 1, (testC l p).2.2)).2) = R) ∧
    (onS l (testC l p).2.1 (testC l p).2.2 4 [44] = false → (A ++ [(testC l p).1], (testC l p).2) = R) := by
  rw [testsC] at h
  constructor
  · intro ho
    rw [if_pos ho] at h
    rw [← h]; simp
  · intro ho
    rw [if_neg (by rw [ho]; decide)] at h
    rw [← h]
section cr
variable {b : Nat} {ad : Option Addr} {cap : Nat} {l : List Tok}
set_option maxHeartbeats 2000000 in
theorem c_Ccell (hT : TokN l) (hTs : ∀ t ∈ l, t.s.length ≤ 1000000) (hn : l.length ≤ 999999) (w0 : World) (h0 : View) (hv : VLe h0 (Full w0)) (hno : h0 b = none) (hl : SlC 84 4 (flatR tokC) h0 (.slice ad l.length cap) l)
    (hbl : w0.heap[b]? = some (.cells (rdC ad l.length cap ((0 : Nat) : Int) false).toArray 79 (0, 0))) :
    Calls Tryz.prog 34 #[.pointer (some ⟨b, 0, none⟩)] w0 (RetV [b] w0 h0 fun u w' hh => ∃ x : Option Addr × Nat, u = .agg (celC ⟨false, negC l, (cellC l).1⟩ x.1 x.2).toArray ∧ w'.heap[b]? = some (.cells (rdC ad l.length cap ((endC l).1 : Nat) (endC l).2).toArray 79 (0, 0)) ∧ TL hh x.1 x.2 (cellC l).1) := by
  have hneg : negC l = true → 2 ≤ l.length := fun h => by
    simp only [negC, Bool.and_eq_true, decide_eq_true_eq] at h; omega
  have hnd := tests_nd hT (l := l) (l.length + 1) (if negC l = true then 2 else 0, false)
  have hce : (([] : List Tst) ++ (testsC l (l.length + 1) (if negC l = true then 2 else 0, false)).1, (testsC l (l.length + 1) (if negC l = true then 2 else 0, false)).2) = cellC l := rfl
  have hcl : ∀ t ∈ (cellC l).1, ndTs t := hnd
  have hee : endC l = if negC l = true then mustC l (cellC l).2 [41] else (cellC l).2 := rfl
  have hcg := cell_ge (l := l)
  generalize endC l = E at hee ⊢
  generalize cellC l = R at hce hcl hee hcg ⊢
  refine entW (args := [.pointer (some ⟨b, 0, none⟩)]) TT_ok [1000005, 27] [5] [.o 900 0] Tryz.func34 rfl Tryz.ntmps34 rfl rfl hv hbl hno rfl (fun x => tl_m x _) ?_
  intro b2 b3
  refine w_cutB TT_ok (fun _ : Nat => []) (fun i0 => [(3, .c b3 25 (celC ⟨false, negC l, []⟩ none 0)), (2, .c b2 25 (celC cel0 none 0)), (900, .c b 79 (rdC ad l.length cap (i0 : Int) false))]) (fun i0 => i0 = if negC l = true then 2 else 0) ?_
  refine And.intro ?_ ?_
  · refine cb (fun w hw => c_Cnot w h0 hw hl) ?_
    refine cnd (fun h => ?_) (fun h => ?_)
    · have h : negC l = true := h
      exact ⟨2, by rw [if_pos h], gs⟩
    · have h : negC l = false := by simpa using h
      exact ⟨0, by rw [if_neg (by rw [h]; decide)], gs⟩
  intro i0 hi0
  have h2l : (if negC l = true then 2 else 0) ≤ l.length := by
    split
    · rename_i h; exact hneg h
    · exact Nat.zero_le _
  rw [← hi0] at h2l hce
  refine nilC 901 52 15 ?_
  refine w_loopF TT_ok (fun _ => []) (fun z : LpC => [(901, .e (bufE 52 15 (.slice z.a z.n z.c) (z.es.map tsC).flatten)), (3, .c b3 25 [.bool false, .bool (negC l), .slice z.a z.n z.c]), (2, .c b2 25 (celC cel0 none 0)), (900, .c b 79 (rdC ad l.length cap ((z.p.1 : Nat) : Int) z.p.2))])
    (fun z h => TXL h z.es) ⟨none, 0, 0, [], (i0, false), l.length + 1⟩ (fun z => z.n = z.es.length ∧ z.es.length ≤ z.p.1 ∧ z.p.1 ≤ l.length ∧ l.length - z.p.1 < z.f ∧ (z.es.map (·.1) ++ (testsC l z.f z.p).1, (testsC l z.f z.p).2) = R) (fun z => l.length - z.p.1) (fun z => txl_m _) ?_
  refine And.intro ⟨⟨rfl, Nat.zero_le _, h2l, by show l.length - i0 < l.length + 1; omega, hce⟩, gs (fv := fun v _ q hq => absurd hq List.not_mem_nil)⟩ ?_
  rintro ⟨a1, n1, c1, es, p, f⟩ ⟨hn1, hle, hpl, hf, hR⟩
  dsimp only at hn1 hle hpl hf hR ⊢
  obtain ⟨f, rfl⟩ : ∃ g, f = g + 1 := ⟨f - 1, by omega⟩
  obtain ⟨hgo, hend⟩ := tests_snoc hR
  have tg := test_ge (l := l) hpl
  refine regQ TT_ok [0, 1, 2] [3, 4, 5, 6, 7] [900, 901] true ?_
  refine cV TT_ok 900 (fun w v h1 h2 h3 h4 h5 => c_Ctest hT hTs hn p hpl w v h3 h4 (Mono.slF _ _ h1 hl) h5) (fun x => tx_m x _) (fun x1 => ?_)
  generalize testC l p = r at hgo hend tg ⊢
  refine kq ?_
  intro b21
  refine kq ?_
  refine ap TT_ok 901 (AppT.of (bytes := 176) (sz := 14) (by kernel_rfl) (by kernel_rfl) (by kernel_rfl)) rfl rfl rfl rfl rfl rfl rfl (by rw [flatTs]; show (_ + 15) * 177 ≤ _; omega) (fun a2 n2 c2 e2 => ?_)
  have hn2 : n2 = (es ++ [(r.1, x1)]).length := by
    rw [flatTs] at e2
    have e2 : n2 * 15 = es.length * 15 + 15 := e2
    rw [List.length_append]; show n2 = es.length + 1; omega
  refine kq ?_
  refine kq ?_
  refine cM TT_ok 900 (fun w v h1 h2 h3 h4 h5 => c_Con b ad cap l r.2.1 r.2.2 [44] (by decide) (by have := tg.2; omega) w v h3 h4 (Mono.slF _ _ h1 hl) h5) ?_
  have ecs : (es ++ [(r.1, x1)]).map tsC = es.map tsC ++ [tsC (r.1, x1)] := by simp
  have efl : ((es ++ [(r.1, x1)]).map tsC).flatten = (es.map tsC).flatten ++ (tstC r.1 x1.1.1 x1.1.2 x1.2.1 x1.2.2 ++ []) := by rw [ecs, List.flatten_append]; rfl
  have emp : (es ++ [(r.1, x1)]).map (·.1) = es.map (·.1) ++ [r.1] := by simp
  refine cnd (fun h => ?_) (fun h => ?_)
  · have h : onS l r.2.1 r.2.2 4 [44] = false := by simpa using h
    have hr := hend h
    rw [h, if_neg (by decide)]
    rw [← efl, ← rowT_map]
    have hx' : ∀ v, TXL v es ∧ TX v r.1 x1 → TXL v (es ++ [(r.1, x1)]) := fun v hF => txl_snoc hF.1 hF.2
    rw [← emp] at hr
    clear hgo hend efl ecs emp hR
    generalize es ++ [(r.1, x1)] = es' at hn2 hr hx'
    have hR1 : R.1.length = n2 := by rw [← hr, hn2]; simp
    have hd : ∀ q ∈ es', ndTs q.1 := fun q hq => hcl q.1 (by rw [← hr]; exact List.mem_map.2 ⟨q, hq, rfl⟩)
    have htl : ∀ v, (TXL v es ∧ TX v r.1 x1) ∧ SlC 52 15 (flatR (rowT es')) v (.slice a2 n2 c2) (List.range es'.length) → TL v a2 c2 R.1 := fun v hF => by
      have := rowT_tl hn2 hF.2 (hx' v hF.1) hd
      rw [← hr]; exact this
    have ec : celC ⟨false, negC l, R.1⟩ a2 c2 = [.bool false, .bool (negC l), .slice a2 n2 c2] := by unfold celC; rw [hR1]
    have hr2 : r.2 = R.2 := by rw [← hr]
    refine And.intro rfl ?_
    refine sealWM (g := rowT es') (l := List.range es'.length) 901 900 rfl (by simp [hn2]) ?_
    refine goW TT_ok ?_
    refine cnd (fun h3 => ?_) (fun h3 => ?_)
    · have h3 : negC l = true := h3
      rw [if_pos h3, ← hr2] at hee
      refine cM TT_ok 900 (fun w v h1 h2 h3 h4 h5 => c_Cmust b ad cap l r.2 [41] (by decide) (by have := tg.2; omega) w v h3 h4 (Mono.slF _ _ h1 hl) h5) ?_
      rw [← hee]
      refine ⟨(a2, c2), ?_, rfl, fun v _ hF => htl v hF⟩
      show _ = Value.agg (celC ⟨false, negC l, R.1⟩ a2 c2).toArray
      rw [ec]; rfl
    · have h3 : negC l = false := by simpa using h3
      rw [if_neg (by rw [h3]; decide), ← hr2] at hee
      rw [hee]
      refine ⟨(a2, c2), ?_, rfl, fun v _ hF => htl v hF⟩
      show _ = Value.agg (celC ⟨false, negC l, R.1⟩ a2 c2).toArray
      rw [ec]; rfl
  · have h : onS l r.2.1 r.2.2 4 [44] = true := by simpa using h
    have hlt := (on_lt h (by decide)).1
    rw [h, if_pos rfl]
    have hr := hgo h
    refine ⟨⟨a2, n2, c2, es ++ [(r.1, x1)], (r.2.1 + 1, r.2.2), f⟩, ⟨⟨hn2, ?_, hlt, ?_, by show ((es ++ [(r.1, x1)]).map (·.1) ++ _, _) = R; rw [emp]; exact hr⟩, ?_⟩, gs rfl (by rw [efl]; rfl) (fun v hF => txl_snoc hF.1 hF.2)⟩
    · rw [List.length_append]; show es.length + 1 ≤ r.2.1 + 1; omega
    · show l.length - (r.2.1 + 1) < f; omega
    · show l.length - (r.2.1 + 1) < l.length - p.1; omega
end cr
theorem tl_nil (h : View) : TL h none 0 [] := ⟨fun _ => [], SlC.nil (by simp [maxLen]), fun i t hi => by simp at hi⟩
def cpV (r : Cel × Int × Int) (x : Option Addr × Nat) : Value := .tuple #[.agg (celC r.1 x.1 x.2).toArray, .int .i64 r.2.1, .int .i64 r.2.2]
theorem sm0 : SmX ex0 := ⟨1, by decide⟩
theorem ok_gt {t : Tst} (h : okTs t) (hd : dpTs t) : GT t := ⟨smx_right h.1, by
  rcases h.2 with h | h
  · exact smx_right h
  · rw [h]; exact sm0, hd⟩
set_option maxHeartbeats 2000000 in
theorem c_CParse (s : List UInt8) (w0 : World) (h0 : View) (hv : VLe h0 (Full w0)) :
    Calls Tryz.prog 11 #[vs s] w0 (Ret w0 h0 fun u hh => ∃ x : Option Addr × Nat, u = cpV (parseC s) x ∧ TL hh x.1 x.2 (parseC s).1.ts) := by
  obtain ⟨hT, hTs, hn, _⟩ := lex_facts s
  obtain ⟨hR, hn2, hP⟩ := lex_facts2 s
  have hpc : parseC s = if (lexS s).2.2 ≠ 0 then (cel0, (lexS s).2.1, (lexS s).2.2)
      else if (lexS s).1.length = 1 ∧ onS (lexS s).1 0 false 4 [45] = true then (⟨true, false, []⟩, 0, 0)
      else if (endC (lexS s).1).1 < (lexS s).1.length then (cel0, ((lexS s).1.getD (endC (lexS s).1).1 t0).p, 11)
      else if (endC (lexS s).1).2 = true then (cel0, s.length, 11)
      else if 12 < (cellC (lexS s).1).1.length then (cel0, 0, 24)
      else if rightC ⟨false, negC (lexS s).1, (cellC (lexS s).1).1⟩ = true then (⟨false, negC (lexS s).1, (cellC (lexS s).1).1⟩, 0, 0) else (cel0, 0, 12) := rfl
  generalize parseC s = P at hpc ⊢
  refine entA (args := [vs s]) TT_ok [1000009, 4000032] [7] Tryz.func11 rfl Tryz.ntmps11 rfl rfl hv (fun x => tl_m x _) ?_
  intro b2
  refine cA TT_ok (fun w v h1 h2 h3 => c_Lex s w v h3) (fun _ => Mono.slF) (fun x => ?_)
  generalize lexS s = L at hT hTs hn hR hn2 hP hpc ⊢
  obtain ⟨l, at_, e⟩ := L
  dsimp only at hT hTs hn hR hn2 hP hpc ⊢
  refine cnd (fun h => ?_) (fun h => ?_)
  · rw [if_pos h] at hpc
    rw [hpc]
    exact ⟨(none, 0), rfl, fun v _ _ => tl_nil v⟩
  rw [if_neg (fun hh => hh (by simpa using h))] at hpc
  intro b24
  refine w_cutB TT_ok (fun _ : Unit => []) (fun _ => [(24, .c b24 79 (rdC x.1 l.length x.2 ((0 : Nat) : Int) false)), (2, .c b2 25 (celC cel0 none 0))]) (fun _ => ¬ (l.length = 1 ∧ onS l 0 false 4 [45] = true)) ?_
  refine And.intro ?_ ?_
  · refine cnd (fun h1 => ?_) (fun h1 => ?_)
    · refine cMI TT_ok 24 (fun w v h1 h2 h3 h4 h5 => c_cmark b24 x.1 x.2 l 0 false w v h3 h4 h2.2 h5) ?_
      have hm := on_mark l 0 [45] (by decide)
      refine cnd (fun h2 => ?_) (fun h2 => ?_)
      · have h2 : markS l 0 = [45] := by
          have h2 := (show ((l.length : Int) = 1 ∧ markS l 0 = [45]) by simpa using h2)
          exact h2.2
        rw [if_pos ⟨by omega, by rw [hm, decide_eq_true h2]⟩] at hpc
        rw [hpc]
        exact ⟨(none, 0), rfl, fun v _ _ => tl_nil v⟩
      · have h2 : markS l 0 ≠ [45] := by
          have h2 := (show (¬(l.length : Int) = 1 ∨ ¬ markS l 0 = [45]) by simpa using h2)
          exact h2.resolve_left (fun hh => hh h1)
        exact ⟨(), fun hh => by rw [hm, decide_eq_false h2] at hh; exact absurd hh.2 (by decide), gs⟩
    · refine ⟨vs [], ?_⟩
      refine cndF (by simp) ?_
      exact ⟨(), fun hh => h1 (by omega), gs⟩
  intro _ hno
  rw [if_neg hno] at hpc
  refine cV TT_ok 24 (fun w v h1 h2 h3 h4 h5 => c_Ccell hT hTs hn w v h3 h4 h2.2 h5) (fun x => tl_m x _) (fun x1 => ?_)
  intro b9
  have hcg := end_ge (l := l)
  have hok := end_ok (l := l) hR
  have hdp := tests_dp hn2 (l.length + 1) (if negC l = true then 2 else 0, false)
  have hdp : ∀ t ∈ (cellC l).1, dpTs t := hdp
  generalize endC l = E at hpc hcg hok ⊢
  generalize cellC l = R at hpc hok hdp ⊢
  generalize negC l = ng at hpc ⊢
  refine cnd (fun h2 => ?_) (fun h2 => ?_)
  · rw [if_pos (by omega)] at hpc
    rw [hpc]
    refine regPh TT_ok [([0,1,2,3,4,5,6,7,8,9],[10]),([11,12],[])] [2] ?_
    refine ixf (fun v hF => hF.1.2) E.1 t0 ?_ (by omega)
    refine kq ?_
    refine kq ?_
    refine kq ?_
    exact ⟨(none, 0), rfl, fun v _ _ => tl_nil v⟩
  rw [if_neg (by omega)] at hpc
  refine cnd (fun h3 => ?_) (fun h3 => ?_)
  · have h3 : E.2 = true := h3
    rw [if_pos h3] at hpc
    rw [hpc]
    exact ⟨(none, 0), rfl, fun v _ _ => tl_nil v⟩
  have h3 : E.2 = false := by simpa using h3
  rw [if_neg (by rw [h3]; decide)] at hpc
  refine cnd (fun h4 => ?_) (fun h4 => ?_)
  · rw [if_pos (by have h4 : (12 : Int) < (R.1.length : Int) := h4; omega)] at hpc
    rw [hpc]
    exact ⟨(none, 0), rfl, fun v _ _ => tl_nil v⟩
  rw [if_neg (by have h4 : ¬ (12 : Int) < (R.1.length : Int) := h4; omega)] at hpc
  have hg : ∀ t ∈ R.1, GT t := fun t ht => ok_gt (hok h3 t ht) (hdp t ht)
  refine cf (fun w v h1 h2 h3 => c_CCheck ⟨false, ng, R.1⟩ x1.1 x1.2 hg w v h3 h2.2) ?_
  refine cnd (fun h5 => ?_) (fun h5 => ?_)
  · rw [if_neg (fun hh => by rw [if_pos hh] at h5; exact h5 rfl)] at hpc
    rw [hpc]
    exact ⟨(none, 0), rfl, fun v _ _ => tl_nil v⟩
  · rw [if_pos (by
      by_cases hh : rightC ⟨false, ng, R.1⟩ = true
      · exact hh
      · rw [if_neg hh] at h5; exact absurd h5 (by decide))] at hpc
    rw [hpc]
    exact ⟨x1, rfl, fun v _ hF => hF.2⟩
end Go.Proofs.YtkjhlfleojcgjaaGreatDoor
set_option maxRecDepth 100000
namespace Go.Proofs.YtkjhlfleojcgjaaGreatDoor
open Go Go.Dx Go.RowKit
theorem text_len {x : Ex} : (textT x).1.length ≤ 200 := by
  unfold textT
  split
  · exact Nat.zero_le _
  split
  · exact Nat.zero_le _
  split
  · exact Nat.zero_le _
  · rename_i h; show (putS x 0).length ≤ 200; omega
theorem wr_len {x : Ex} : (wrX x).1.length ≤ 202 := by
  have := text_len (x := x)
  unfold wrX
  split
  · simp; omega
  · omega
theorem sg_len (k : Int) : (sgC k).length ≤ 2 := by
  unfold sgC
  split
  · decide
  split
  · decide
  split
  · decide
  split
  · decide
  · decide
theorem txt_len (t : Tst) : (txtT t).1.length ≤ 1000 := by
  have h1 := wr_len (x := t.a)
  have h2 := wr_len (x := t.b)
  have h3 := sg_len t.k
  unfold txtT
  split
  · exact Nat.zero_le _
  split
  · show (wrX t.a).1.length ≤ _; omega
  split
  · show (sgC t.k ++ [32] ++ (wrX t.a).1).length ≤ _
    simp; omega
  split
  · exact Nat.zero_le _
  · show (_ ++ (wrX t.a).1 ++ [46, 46] ++ (wrX t.b).1 ++ _).length ≤ _
    simp only [List.length_append, List.length_cons, List.length_nil]
    split <;> split <;> simp <;> omega
theorem c_Cwrite (x : Ex) (ad : Option Addr) (cap : Nat) (hd : deepS x ≤ 1000000000) (w0 : World) (h0 : View) (hv : VLe h0 (Full w0)) (hx : GX h0 ad cap x) (hp : PowV h0) :
    Calls Tryz.prog 86 #[.agg (exC x.op x.v x.s (.slice ad x.l.length cap)).toArray] w0 (Ret w0 h0 fun u _ => u = tsV (wrX x)) := by
  refine ent (args := [.agg (exC x.op x.v x.s (.slice ad x.l.length cap)).toArray]) TT_ok [] [] Tryz.func86 rfl Tryz.ntmps86 rfl rfl hv ?_
  intro b1
  refine cb (fun w hw => c_Text x ad cap hd w h0 hw hx hp) ?_
  have hl := text_len (x := x)
  unfold wrX
  refine cnd (fun h => ?_) (fun h => ?_)
  · rw [if_pos ⟨h.1, h.2.1, h.2.2⟩]
    refine ct ?_
    refine ct ?_
    exact (congrArg (fun n : Int => Value.tuple #[vs ([40] ++ (textT x).1 ++ [41]), .int .i64 n]) h.1)
  · rw [if_neg (fun hh => by
      rcases h with h | h | h
      · exact h hh.1
      · exact h hh.2.1
      · exact h hh.2.2)]
    exact rfl
theorem c_Ctext (t : Tst) (aa : Option Addr) (ca : Nat) (ab : Option Addr) (cb' : Nat) (hk : 1 ≤ t.k ∧ t.k ≤ 6) (hg : GT t) (w0 : World) (h0 : View) (hv : VLe h0 (Full w0)) (ha : EX h0 aa ca t.a) (hb : EX h0 ab cb' t.b) (hp : PowV h0) :
    Calls Tryz.prog 51 #[.agg (tstC t aa ca ab cb').toArray] w0 (Ret w0 h0 fun u _ => u = tsV (txtT t)) := by
  have la := wr_len (x := t.a)
  have lb := wr_len (x := t.b)
  have ls := sg_len t.k
  refine ent (args := [.agg (tstC t aa ca ab cb').toArray]) TT_ok [] [12] Tryz.func51 rfl Tryz.ntmps51 rfl rfl hv ?_
  intro b1
  refine cb (fun w hw => c_Cwrite t.a aa ca hg.2.2.1 w h0 hw (ha.gx hg.1) hp) ?_
  unfold txtT
  generalize wrX t.a = ra at la ⊢
  obtain ⟨sa, ea⟩ := ra
  dsimp only at la ⊢
  refine cnd (fun h => ?_) (fun h => ?_)
  · have h : ea ≠ 0 := by simpa using h
    rw [if_pos h]; exact rfl
  have h : ea = 0 := by simpa using h
  subst h
  rw [if_neg (fun hh => hh rfl)]
  refine w_cut TT_ok (fun _ : Unit => []) (fun _ => t.k = 6) ?_
  refine And.intro ?_ ?_
  · refine cnd (fun h1 => ?_) (fun h1 => ?_)
    · rw [if_pos h1]; exact rfl
    rw [if_neg h1]
    refine cnd (fun h2 => ?_) (fun h2 => ?_)
    · rw [if_pos (by omega)]
      refine cndT (decide_eq_true h2) ?_
      refine cl (c_Csign t.k) ?_
      refine ct ?_
      refine ct ?_
      exact rfl
    refine cnd (fun h3 => ?_) (fun h3 => ?_)
    · rw [if_pos (by omega)]
      refine cndT (decide_eq_true h3) ?_
      refine cl (c_Csign t.k) ?_
      refine ct ?_
      refine ct ?_
      exact rfl
    refine cnd (fun h4 => ?_) (fun h4 => ?_)
    · rw [if_pos (by omega)]
      refine cndT (decide_eq_true h4) ?_
      refine cl (c_Csign t.k) ?_
      refine ct ?_
      refine ct ?_
      exact rfl
    refine cnd (fun h5 => ?_) (fun h5 => ?_)
    · rw [if_pos (by omega)]
      refine cl (c_Csign t.k) ?_
      refine ct ?_
      refine ct ?_
      exact rfl
    exact ⟨(), by omega, gs⟩
  intro _ h6
  rw [if_neg (by omega), if_neg (by omega)]
  refine cb (fun w hw => c_Cwrite t.b ab cb' hg.2.2.2 w h0 hw (hb.gx hg.2.1) hp) ?_
  generalize wrX t.b = rb at lb ⊢
  obtain ⟨sb, eb⟩ := rb
  dsimp only at lb ⊢
  refine cnd (fun h => ?_) (fun h => ?_)
  · have h : eb ≠ 0 := by simpa using h
    rw [if_pos h]; exact rfl
  have h : eb = 0 := by simpa using h
  subst h
  rw [if_neg (fun hh => hh rfl)]
  refine cnd (fun h1 => ?_) (fun h1 => ?_)
  · have h1 : t.lo = true := h1
    rw [if_pos h1]
    refine cnd (fun h2 => ?_) (fun h2 => ?_)
    · have h2 : t.hi = true := h2
      rw [if_pos h2]
      refine ct ?_
      refine ct ?_
      refine ct ?_
      refine ct ?_
      exact rfl
    · have h2 : t.hi = false := h2
      rw [if_neg (by rw [h2]; decide)]
      refine ct ?_
      refine ct ?_
      refine ct ?_
      refine ct ?_
      exact rfl
  · have h1 : t.lo = false := h1
    rw [if_neg (by rw [h1]; decide)]
    refine cnd (fun h2 => ?_) (fun h2 => ?_)
    · have h2 : t.hi = true := h2
      rw [if_pos h2]
      refine ct ?_
      refine ct ?_
      refine ct ?_
      refine ct ?_
      exact rfl
    · have h2 : t.hi = false := h2
      rw [if_neg (by rw [h2]; decide)]
      refine ct ?_
      refine ct ?_
      refine ct ?_
      refine ct ?_
      exact rfl
theorem c_strJoin (ad : Option Addr) (cap : Nat) (l : List (List UInt8)) (sep : List UInt8) (hl : l.length ≤ 1000000) (hlen : (Lib.join l sep).length ≤ 140737488355328) (w0 : World) (h0 : View) (hv : VLe h0 (Full w0)) (hb : SlC 9 1 (flatR fun s => [vs s]) h0 (.slice ad l.length cap) l) :
    Calls Tryz.prog 52 #[.slice ad l.length cap, vs sep] w0 (Ret w0 h0 fun u _ => u = vs (Lib.join l sep)) := by
  by_cases he : l = []
  · subst he
    exact calls_same (h := h0) (Tryz.strings_Join_none ad cap ⟨sep.toArray⟩ w0)
  · have hpos : 0 < l.length := List.length_pos_iff.2 he
    have el : ∀ j, j < l.length → ad = some ⟨adB ad, adO ad, none⟩ ∧ w0.cell? ⟨adB ad, adO ad + j, none⟩ = some (vs (l.getD j [])) := fun j hj => by
      have := SlC.el (h0 := h0) (F := fun _ => True) (fun v h1 _ => hb.monoF h1) [] hj h0 (VLe.refl _) trivial
      refine ⟨this.1, ?_⟩
      have h2 := this.2 w0 hv 0 (vs (l.getD j [])) rfl
      simpa using h2
    have h0' := el 0 hpos
    obtain ⟨_, _, _, hcap, _⟩ := hb.parts
    have hcap' : l.length ≤ cap := by
      obtain ⟨a, c, hv, h1, h2⟩ := hb.parts
      cases hv; exact h1
    have hx := Tryz.strings_Join (adB ad) (adO ad) cap (l.map fun s => (⟨s.toArray⟩ : ByteArray)) ⟨sep.toArray⟩ w0 (fun j x hj => by
      rw [List.getElem?_map] at hj
      cases hg : l[j]? with
      | none => rw [hg] at hj; cases hj
      | some s =>
        rw [hg] at hj
        cases hj
        have hlt := (List.getElem?_eq_some_iff.1 hg)
        obtain ⟨hlt, hs⟩ := hlt
        have := (el j hlt).2
        rw [getD_lt l j [] hlt, hs] at this
        exact this) (cell_lt h0'.2) (by simp; omega) (by simpa using hcap') (by simpa [List.map_map, Function.comp_def] using hlen)
    rw [List.length_map, ← h0'.1] at hx
    have e : (Lib.join ((l.map fun s => (⟨s.toArray⟩ : ByteArray)).map (·.data.toList)) (⟨sep.toArray⟩ : ByteArray).data.toList) = Lib.join l sep := by simp [List.map_map, Function.comp_def]
    rw [e] at hx
    exact calls_below hx
theorem com_join : ∀ l : List (List UInt8), Lib.join l [44, 32] = comS l
  | [] => rfl
  | [s] => Lib.join_one _ _
  | s :: u :: l => by
    have ih := com_join (u :: l)
    rw [comS, ← ih, Lib.join_cons, Lib.join_cons]
    simp [Lib.joinTail]
theorem com_len : ∀ {l : List (List UInt8)}, (∀ s ∈ l, s.length ≤ 1000) → (comS l).length ≤ 1002 * l.length
  | [], _ => by simp [comS]
  | [s], h => by have := h s (by simp); show s.length ≤ _; simp; omega
  | s :: u :: l, h => by
    have h1 := h s (by simp)
    have ih := com_len (l := u :: l) (fun x hx => h x (List.mem_cons_of_mem _ hx))
    rw [comS]
    simp only [List.length_append, List.length_cons, List.length_nil] at ih ⊢
    omega
theorem txtL_er : ∀ {l : List Tst} {k : Nat}, k < l.length → (∀ j, j < k → (txtT (l.getD j tst0)).2 = 0) → (txtT (l.getD k tst0)).2 ≠ 0 → (txtL l).2 = (txtT (l.getD k tst0)).2
  | [], _, h, _, _ => by simp at h
  | x :: l, 0, _, _, h => by
    have h : (txtT x).2 ≠ 0 := by simpa using h
    rw [txtL, if_pos h]; rfl
  | x :: l, k + 1, hk, hj, h => by
    have h0 : (txtT x).2 = 0 := by simpa using hj 0 (Nat.succ_pos _)
    have ih := txtL_er (l := l) (k := k) (by simpa using hk) (fun j hjk => by simpa using hj (j + 1) (by omega)) (by simpa using h)
    have h : (txtT (l.getD k tst0)).2 ≠ 0 := by simpa using h
    rw [txtL, if_neg (fun hh => hh h0), if_pos (by rw [ih]; exact h), ih]
    simp
theorem txtL_ok : ∀ {l : List Tst}, (∀ j, j < l.length → (txtT (l.getD j tst0)).2 = 0) → txtL l = (l.map fun t => (txtT t).1, 0)
  | [], _ => rfl
  | x :: l, h => by
    have h0 : (txtT x).2 = 0 := by simpa using h 0 (by simp)
    rw [txtL, if_neg (fun hh => hh h0), txtL_ok (l := l) (fun j hj => by simpa using h (j + 1) (by simpa using hj)), if_neg (fun hh => hh rfl)]
    rfl
theorem fl1c (l : List (List UInt8)) : (l.map fun s => [vs s]).flatten.length = l.length := by
  induction l with
  | nil => rfl
  | cons s l ih => rw [List.map_cons, List.flatten_cons, List.length_append, ih]; show 1 + l.length = l.length + 1; omega
set_option maxHeartbeats 2000000 in
theorem c_CText (c : Cel) (ad : Option Addr) (cap : Nat) (hg : ∀ t ∈ c.ts, GT t) (w0 : World) (h0 : View) (hv : VLe h0 (Full w0)) (hx : TL h0 ad cap c.ts) (hp : PowV h0) :
    Calls Tryz.prog 20 #[.agg (celC c ad cap).toArray] w0 (Ret w0 h0 fun u _ => u = tsV (textC c)) := by
  have hlm := hx.lm
  refine ent (args := [.agg (celC c ad cap).toArray]) TT_ok [38] [] Tryz.func20 rfl Tryz.ntmps20 rfl rfl hv ?_
  intro b1
  refine cb (fun w hw => c_CCheck c ad cap hg w h0 hw hx) ?_
  have hte : textC c = if rightC c = false then ([], 2) else if c.any = true then ([45], 0) else if (txtL c.ts).2 ≠ 0 then ([], (txtL c.ts).2) else if 200 < (bodyC c).length then ([], 5) else (bodyC c, 0) := rfl
  generalize textC c = R at hte ⊢
  refine cnd (fun h => ?_) (fun h => ?_)
  · by_cases hm : rightC c = true
    · rw [if_pos hm] at h; exact absurd rfl h
    · have e2 : (if rightC c = true then (0 : Int) else 2) = 2 := if_neg hm
      rw [if_pos (by simpa using hm)] at hte
      rw [hte, e2]; exact rfl
  have hr : rightC c = true := by
    split at h
    · assumption
    · exact absurd h (by decide)
  rw [if_neg (by rw [hr]; decide)] at hte
  refine cnd (fun h1 => ?_) (fun h1 => ?_)
  · have h1 : c.any = true := h1
    rw [if_pos h1] at hte
    rw [hte]; exact rfl
  have h1 : c.any = false := h1
  rw [if_neg (by rw [h1]; decide)] at hte
  have h12 : c.ts.length ≤ 12 := by
    rw [rightC, if_neg (by rw [h1]; decide)] at hr
    simp only [Bool.and_eq_true, decide_eq_true_eq] at hr
    exact hr.1.2
  have hso := right_sound hr
  have hbo : bodyC c = if c.neg = true then [110, 111, 116, 40] ++ comS (txtL c.ts).1 ++ [41] else comS (txtL c.ts).1 := rfl
  generalize bodyC c = BC at hte hbo
  refine nilC 900 9 1 ?_
  refine w_loopB TT_ok (fun x : Option Addr × Nat × Nat × Nat => [(5, .v (.slice x.1 x.2.1 x.2.2.1)), (21, .v (.int .i64 x.2.2.2))]) (fun x => [(900, .e (bufE 9 1 (.slice x.1 x.2.1 x.2.2.1) (((c.ts.take x.2.2.2).map fun t => (txtT t).1).map fun s => [vs s]).flatten)), (1, .c b1 25 (celC c ad cap))]) (none, 0, 0, 0)
    (fun x => x.2.2.2 ≤ c.ts.length ∧ x.2.1 = x.2.2.2 ∧ ∀ j, j < x.2.2.2 → (txtT (c.ts.getD j tst0)).2 = 0) (fun x => c.ts.length - x.2.2.2) ?_
  refine And.intro ⟨⟨Nat.zero_le _, rfl, fun j h => absurd h (Nat.not_lt_zero _)⟩, gs⟩ ?_
  rintro ⟨a0, nn, cp, k⟩ ⟨hk, hnk, hz⟩
  dsimp only at hk hnk hz ⊢
  subst hnk
  refine cnd (fun h3 => ?_) (fun h3 => ?_)
  · have hk' : nn < c.ts.length := by omega
    have hmem := getT_mem c.ts nn hk'
    have her := txtL_er (l := c.ts) (k := nn) hk' hz
    have hz' : (txtT (c.ts.getD nn tst0)).2 = 0 → ∀ j, j < nn + 1 → (txtT (c.ts.getD j tst0)).2 = 0 := fun hh => upto_snoc hz hh
    have htk := take_snocD c.ts nn tst0 hk'
    refine ixT hx nn (fun aa ca ab cb' g1 g2 g3 => ?_)
    have hgt := hg _ hmem
    have hsk := sound_k (hso _ hmem)
    generalize c.ts.getD nn tst0 = t at *
    intro b7
    refine cb (fun w hw => c_Ctext t aa ca ab cb' hsk hgt w h0 hw g1 g2 hp) ?_
    refine cnd (fun h4 => ?_) (fun h4 => ?_)
    · have h4 : (txtT t).2 ≠ 0 := by simpa using h4
      rw [her h4, if_pos h4] at hte
      rw [hte]; exact rfl
    · have h4 : (txtT t).2 = 0 := by simpa using h4
      intro b35
      refine ap TT_ok 900 (AppT.of (bytes := 16) (sz := 0) (by kernel_rfl) (by kernel_rfl) (by kernel_rfl)) rfl rfl rfl rfl rfl rfl rfl (by rw [fl1c, List.length_map, List.length_take]; show (_ + 1) * 17 ≤ _; omega) (fun a1 n1 c1 e1 => ?_)
      refine wi ?_
      have hn1 : n1 = nn + 1 := by
        rw [fl1c, List.length_map, List.length_take] at e1
        have e1 : n1 * 1 = min nn c.ts.length + 1 := e1
        omega
      refine ⟨(a1, n1, c1, nn + 1), ⟨⟨hk', hn1, hz' h4⟩, ?_⟩, ?_⟩
      · show c.ts.length - (nn + 1) < c.ts.length - nn; omega
      · refine gs rfl ?_
        show [(900, OB.e (bufE 9 1 (.slice a1 n1 c1) _)), _] = [(900, OB.e (bufE 9 1 (.slice a1 n1 c1) _)), _]
        rw [htk, List.map_append, List.map_append, List.flatten_append]; rfl
  · have e2 : nn = c.ts.length := by omega
    have hok := txtL_ok (l := c.ts) (fun j hj => hz j (by omega))
    rw [hok] at hte hbo
    rw [List.take_of_length_le (show c.ts.length ≤ nn by omega)]
    have hml : (c.ts.map fun t => (txtT t).1).length = nn := by rw [List.length_map]; exact e2.symm
    have hcl := com_len (l := c.ts.map fun t => (txtT t).1) (fun s hs => by
      obtain ⟨t, _, rfl⟩ := List.mem_map.1 hs
      exact txt_len t)
    generalize c.ts.map (fun t => (txtT t).1) = L at *
    rw [if_neg (fun hh => hh rfl)] at hte
    dsimp only at hbo
    refine And.intro rfl ?_
    refine sealW (g := fun s => [vs s]) (l := L) 900 rfl hml.symm ?_
    refine goW TT_ok ?_
    subst hml
    refine cf (x := vs (comS L)) (fun w v h1 h2 h3 => ?_) ?_
    · have := c_strJoin a0 cp L [44, 32] (by omega) (by rw [com_join]; omega) w v h3 h2.2
      rw [com_join] at this
      exact this
    generalize comS L = s at hbo hcl ⊢
    refine cnd (fun h5 => ?_) (fun h5 => ?_)
    · have h5 : c.neg = true := h5
      rw [if_pos h5] at hbo
      refine ct ?_
      refine ct ?_
      rw [← hbo]
      refine cnd (fun h6 => ?_) (fun h6 => ?_)
      · rw [if_pos (by omega)] at hte
        rw [hte]; exact rfl
      · rw [if_neg (by omega)] at hte
        rw [hte]; exact rfl
    · have h5 : c.neg = false := h5
      rw [if_neg (by rw [h5]; decide)] at hbo
      rw [← hbo]
      refine cnd (fun h6 => ?_) (fun h6 => ?_)
      · rw [if_pos (by omega)] at hte
        rw [hte]; exact rfl
      · rw [if_neg (by omega)] at hte
        rw [hte]; exact rfl
end Go.Proofs.YtkjhlfleojcgjaaGreatDoor
set_option maxRecDepth 100000
namespace Go.Proofs.YtkjhlfleojcgjaaGreatDoor
open Go Go.Dx Go.RowKit
def exS : List UInt8 := [110, 111, 116, 40, 60, 53, 44, 93, 97, 46, 46, 57, 93, 41]
def exS2 : List UInt8 := [110, 111, 116, 40, 60, 32, 53, 44, 32, 93, 97, 46, 46, 57, 93, 41]
def exC1 : Tst := ⟨2, numX 5, ex0, false, false⟩
def exC2 : Tst := ⟨6, KX 2 v0 [97], numX 9, true, false⟩
def exCel : Cel := ⟨false, true, [exC1, exC2]⟩
theorem lex_c : lexS exS = ([⟨1, [110, 111, 116], 0, 0⟩, ⟨4, [40], 0, 3⟩, ⟨4, [60], 0, 4⟩, ⟨2, [], 5, 5⟩, ⟨4, [44], 0, 6⟩, ⟨4, [93], 0, 7⟩, ⟨1, [97], 0, 8⟩, ⟨4, [46, 46], 0, 9⟩, ⟨2, [], 9, 11⟩, ⟨4, [93], 0, 12⟩, ⟨4, [41], 0, 13⟩], 0, 0) := by
  rw [lex_run exS (by decide)]; decide +kernel
theorem parse_c : parseC exS = (exCel, 0, 0) := by
  unfold parseC; rw [lex_c]; kernel_rfl
theorem text_c : textC exCel = (exS2, 0) := by kernel_rfl
theorem ev_num (col : List Col) (row : List Val) (n : Int) : evX col row (SizeOf.sizeOf (numX n) + 1) (numX n) = .ok ⟨1, n, []⟩ := by
  rw [evX, if_pos (show (numX n).op = 1 from rfl)]; rfl
theorem ev_nam (v : Val) : evX [colA] [v] (SizeOf.sizeOf (KX 2 v0 [97]) + 1) (KX 2 v0 [97]) = .ok v := by
  rw [evX, if_neg (by decide), if_pos (show (KX 2 v0 [97]).op = 2 from rfl)]; rfl
theorem right_nam : rightS (KX 2 v0 [97]) = true := by kernel_rfl
theorem es_num (m n : Int) (h : 0 ≤ n) : evalS [colA] [⟨1, m, []⟩] (numX n) = (⟨1, n, []⟩, 0) := by rw [evalS, if_pos ⟨right_num h, rfl, by rfl⟩, ev_num]
theorem es_nam (m : Int) : evalS [colA] [⟨1, m, []⟩] (KX 2 v0 [97]) = (⟨1, m, []⟩, 0) := by rw [evalS, if_pos ⟨right_nam, rfl, by rfl⟩, ev_nam]
theorem ask_c1 (n : Int) : askT exC1 ⟨1, n, []⟩ [colA] [⟨1, 5, []⟩] = (passT exC1 ⟨1, n, []⟩ [⟨1, 5, []⟩], 0) := by
  rw [ask_one (p := (⟨1, 5, []⟩, 0)) (by decide) (es_num 5 5 (by decide)), if_neg (by decide), if_pos (by rfl)]
theorem ask_c2 (n : Int) : askT exC2 ⟨1, n, []⟩ [colA] [⟨1, 5, []⟩] = (passT exC2 ⟨1, n, []⟩ [⟨1, 5, []⟩, ⟨1, 9, []⟩], 0) := by
  rw [ask_two (p := (⟨1, 5, []⟩, 0)) (q := (⟨1, 9, []⟩, 0)) rfl (es_nam 5) (es_num 5 9 (by decide)), if_neg (by decide), if_neg (by decide), if_pos (by rfl)]
theorem holds_c5 : holdsC exCel ⟨1, 5, []⟩ [colA] [⟨1, 5, []⟩] = (true, 0) := by
  rw [holdsC, if_pos (by kernel_rfl)]
  show holdL false true ⟨1, 5, []⟩ [colA] [⟨1, 5, []⟩] [exC1, exC2] = _
  have e1 : passT exC1 ⟨1, 5, []⟩ [⟨1, 5, []⟩] = false := by kernel_rfl
  have e2 : passT exC2 ⟨1, 5, []⟩ [⟨1, 5, []⟩, ⟨1, 9, []⟩] = false := by kernel_rfl
  rw [holdL, ask_c1, e1, if_neg (by decide), if_neg (by decide), holdL, ask_c2, e2, if_neg (by decide), if_neg (by decide), holdL]; rfl
theorem holds_c6 : holdsC exCel ⟨1, 6, []⟩ [colA] [⟨1, 5, []⟩] = (false, 0) := by
  rw [holdsC, if_pos (by kernel_rfl)]
  show holdL false true ⟨1, 6, []⟩ [colA] [⟨1, 5, []⟩] [exC1, exC2] = _
  have e1 : passT exC1 ⟨1, 6, []⟩ [⟨1, 5, []⟩] = false := by kernel_rfl
  have e2 : passT exC2 ⟨1, 6, []⟩ [⟨1, 5, []⟩, ⟨1, 9, []⟩] = true := by kernel_rfl
  rw [holdL, ask_c1, e1, if_neg (by decide), if_neg (by decide), holdL, ask_c2, e2, if_neg (by decide), if_pos (by rfl)]; rfl
theorem c_CParseE {s : List UInt8} {c : Cel} {at' e : Int} (he : parseC s = (c, at', e)) (w0 : World) (h0 : View) (hv : VLe h0 (Full w0)) :
    Calls Tryz.prog 11 #[vs s] w0 (Ret w0 h0 fun u hh => ∃ x : Option Addr × Nat, u = cpV (c, at', e) x ∧ TL hh x.1 x.2 c.ts) := by
  have := c_CParse s w0 h0 hv
  rw [he] at this; exact this
theorem gt_num (n : Int) (h : 0 ≤ n) : SmX (numX n) := smx_right (right_num h)
theorem gt_ex : ∀ t ∈ exCel.ts, GT t := by
  intro t ht
  have : t = exC1 ∨ t = exC2 := by simpa [exCel] using ht
  rcases this with rfl | rfl
  · exact ⟨gt_num 5 (by decide), sm0, by decide +kernel, by decide +kernel⟩
  · exact ⟨smx_right right_nam, gt_num 9 (by decide), by decide +kernel, by decide +kernel⟩
theorem c_CHoldsK {c : Cel} {v : Val} {col : List Col} {row : List Val} {p : Bool × Int} (he : holdsC c v col row = p) (adt : Option Addr) (capt : Nat) (ad : Option Addr) (cap : Nat) (ad2 : Option Addr) (cap2 : Nat) (hg : ∀ t ∈ c.ts, GT t) (hvv : valB v) (hl : col.length ≤ 1000000) (hvb : ∀ v ∈ row, valB v) (w0 : World) (h0 : View) (hv : VLe h0 (Full w0))
    (hx : TL h0 adt capt c.ts) (hc : SlC 70 3 (flatR colC) h0 (.slice ad col.length cap) col) (hr : SlC 35 3 (flatR valC) h0 (.slice ad2 row.length cap2) row) :
    Calls Tryz.prog 17 #[.agg (celC c adt capt).toArray, .agg (valC v).toArray, .slice ad col.length cap, .slice ad2 row.length cap2] w0 (Ret w0 h0 fun u _ => u = kbR2 p) := by
  subst he
  exact c_CHolds c adt capt v ad cap col ad2 cap2 row hg hvv hl hvb w0 h0 hv hx hc hr
set_option maxRecDepth 100000 in
theorem c_lives17 (w0 : World) (h0 : View) (hv : VLe h0 (Full w0)) (hp : PowV h0) : Calls Tryz.prog 10 #[] w0 (Ret w0 h0 fun u _ => u = .bool true) := by
  refine ent (args := []) TT_ok [27] [] Tryz.func10 rfl Tryz.ntmps10 rfl rfl hv ?_
  refine cA TT_ok (fun w v h1 h2 h3 => c_CParseE parse_c w v h3) (fun a => tl_m a _) (fun a => ?_)
  intro b1
  refine cf (fun w v h1 h2 h3 => c_CText exCel a.1 a.2 gt_ex w v h3 h2.2 (pow_m h1 hp)) ?_
  rw [text_c]
  intro b23 b25
  refine ⟨rfl, shutW 23 (row_sl (g := colC) (l := [colA]) (sz := 3) (n := 1) (cp := 1) rfl) ?_ Mono.slF⟩
  refine shutW 25 (row_sl (g := valC) (l := [(⟨1, 5, []⟩ : Val)]) (sz := 3) (n := 1) (cp := 1) rfl) ?_ Mono.slF
  refine goW TT_ok ?_
  refine cf (fun w v h1 h2 h3 => c_CHoldsK holds_c5 a.1 a.2 (some ⟨b23, 0, none⟩) 1 (some ⟨b25, 0, none⟩) 1 gt_ex ⟨i64n (by decide), i64n (by decide)⟩ (by decide) (by simp [valB, i64]) w v h3 h2.1.1.2 h2.1.2 h2.2) ?_
  refine cf (fun w v h1 h2 h3 => c_CHoldsK holds_c6 a.1 a.2 (some ⟨b23, 0, none⟩) 1 (some ⟨b25, 0, none⟩) 1 gt_ex ⟨i64n (by decide), i64n (by decide)⟩ (by decide) (by simp [valB, i64]) w v h3 h2.1.1.2 h2.1.2 h2.2) ?_
  exact rfl
end Go.Proofs.YtkjhlfleojcgjaaGreatDoor
set_option maxRecDepth 100000
namespace Go.Proofs.YtkjhlfleojcgjaaGreatDoor
open Go Go.Dx Go.RowKit
theorem small_gt {ts : List Tst} (h : smallC ts = true) : ts.length ≤ 14 ∧ ∀ t ∈ ts, GT t := by
  unfold smallC at h
  simp only [Bool.and_eq_true, decide_eq_true_eq, List.all_eq_true] at h
  refine ⟨h.1, fun t ht => ?_⟩
  obtain ⟨h1, h2⟩ := h.2 t ht
  exact ⟨sm_of h1, sm_of h2, by have := deep_of h1; omega, by have := deep_of h2; omega⟩
end Go.Proofs.YtkjhlfleojcgjaaGreatDoor
set_option maxRecDepth 100000
namespace Go.Proofs.YtkjhlfleojcgjaaGreatDoor
open Go Go.Dx Go.RowKit
mutual
theorem same_refl : ∀ x : Ex, sameX x x = true
  | .mk o v s l => by
    rw [sameX, show (Ex.mk o v s l).l = l from rfl, sameL_refl l]
    simp [Ex.op, Ex.v, Ex.s]
theorem sameL_refl : ∀ l : List Ex, sameXL l l = true
  | [] => by rw [sameXL]
  | x :: l => by rw [sameXL, same_refl x, sameL_refl l]; rfl
end
theorem sameT_refl (t : Tst) : sameT t t = true := by
  have e : ∀ x : Ex, sameX x x = true := same_refl
  rw [sameT, e, e]; simp
theorem sameTL_refl : ∀ l : List Tst, sameTL l l = true
  | [] => rfl
  | t :: l => by rw [sameTL, sameT_refl, sameTL_refl l]; rfl
theorem sameC_refl (c : Cel) : sameC c c = true := by rw [sameC, sameTL_refl]; simp
theorem right_gt {c : Cel} (h : rightC c = true) : ∀ t ∈ c.ts, GT t := by
  intro t ht
  obtain ⟨k1, k6, pa, pb, po⟩ := sound_parts (right_sound h t ht)
  have ra := part_r pa
  refine ⟨smx_right ra.1, ?_, by have := ra.2; omega, ?_⟩
  · by_cases h6 : t.k = 6
    · exact smx_right (part_r (pb h6)).1
    · rw [same_ex0 (po h6).1]; exact sm0
  · by_cases h6 : t.k = 6
    · have := (part_r (pb h6)).2; omega
    · rw [same_ex0 (po h6).1]; exact dp0
theorem wr_err {x : Ex} (h : partX x = true) : (wrX x).2 = 0 ∨ (wrX x).2 = 5 := by
  obtain ⟨hr, hd⟩ := part_r h
  have ht : (textT x).2 = 0 ∨ (textT x).2 = 5 := by
    unfold textT
    rw [if_neg (by rw [hr]; decide), if_neg (by omega)]
    split
    · exact .inr rfl
    · exact .inl rfl
  unfold wrX
  split
  · exact .inl rfl
  · exact ht
theorem txt_err {t : Tst} (h : soundT t = true) : (txtT t).2 = 0 ∨ (txtT t).2 = 5 := by
  obtain ⟨k1, k6, pa, pb, po⟩ := sound_parts h
  have ea := wr_err pa
  unfold txtT
  by_cases h1 : (wrX t.a).2 ≠ 0
  · rw [if_pos h1]; exact ea
  rw [if_neg h1]
  by_cases h2 : t.k = 1
  · rw [if_pos h2]; exact .inl rfl
  rw [if_neg h2]
  by_cases h3 : 2 ≤ t.k ∧ t.k ≤ 5
  · rw [if_pos h3]; exact .inl rfl
  rw [if_neg h3]
  have eb := wr_err (pb (by omega))
  by_cases h4 : (wrX t.b).2 ≠ 0
  · rw [if_pos h4]; exact eb
  · rw [if_neg h4]; exact .inl rfl
theorem txtL_err : ∀ {l : List Tst}, (∀ t ∈ l, soundT t = true) → (txtL l).2 = 0 ∨ (txtL l).2 = 5
  | [], _ => .inl rfl
  | t :: l, h => by
    rw [txtL]
    split
    · exact txt_err (h t (by simp))
    split
    · exact txtL_err fun u hu => h u (List.mem_cons_of_mem _ hu)
    · exact .inl rfl
theorem text_err {c : Cel} (h : rightC c = true) : (textC c).2 = 0 ∨ (textC c).2 = 5 := by
  unfold textC
  rw [if_neg (by rw [h]; decide)]
  split
  · exact .inl rfl
  split
  · exact txtL_err (right_sound h)
  split
  · exact .inr rfl
  · exact .inl rfl
theorem textC_len {c : Cel} (h : (textC c).2 = 0) : (textC c).1.length ≤ 200 ∧ rightC c = true := by
  unfold textC at h ⊢
  by_cases h1 : rightC c = false
  · rw [if_pos h1] at h; exact absurd h (by decide)
  rw [if_neg h1] at h ⊢
  refine ⟨?_, by simpa using h1⟩
  by_cases h2 : c.any = true
  · rw [if_pos h2]; decide
  rw [if_neg h2] at h ⊢
  by_cases h3 : (txtL c.ts).2 ≠ 0
  · rw [if_pos h3] at h; exact absurd h h3
  rw [if_neg h3] at h ⊢
  by_cases h4 : 200 < (bodyC c).length
  · rw [if_pos h4] at h; exact absurd h (by decide)
  · rw [if_neg h4]; show (bodyC c).length ≤ 200; omega
theorem parseC_inv (s : List UInt8) : ((parseC s).2 = (0, 0) ∧ rightC (parseC s).1 = true) ∨ ((parseC s).1 = cel0 ∧ (parseC s).2.2 ≠ 0 ∧ 0 ≤ (parseC s).2.1 ∧ (parseC s).2.1 ≤ s.length) := by
  unfold parseC
  rcases lexS_lay s with ⟨l, e, hl⟩ | ⟨j, e, h, he, hj⟩
  · rw [e]
    simp only [ne_eq, not_true, if_false]
    split
    · exact .inl ⟨rfl, rfl⟩
    split
    · rename_i h
      exact .inr ⟨rfl, (by show ¬ (11 : Int) = 0; decide), lay_p hl _ (getD_mem l _ t0 h)⟩
    split
    · exact .inr ⟨rfl, (by show ¬ (11 : Int) = 0; decide), Int.natCast_nonneg _, Int.le_refl _⟩
    split
    · exact .inr ⟨rfl, (by show ¬ (24 : Int) = 0; decide), Int.le_refl _, Int.natCast_nonneg _⟩
    split
    · rename_i h; exact .inl ⟨rfl, h⟩
    · exact .inr ⟨rfl, (by show ¬ (12 : Int) = 0; decide), Int.le_refl _, Int.natCast_nonneg _⟩
  · rw [h, if_pos he]
    exact .inr ⟨rfl, he, Int.natCast_nonneg _, by show (j : Int) ≤ _; omega⟩
theorem tl_vt {h : View} {ad : Option Addr} {cap : Nat} {l : List Tst} (hx : TL h ad cap l) : ∀ t ∈ l, VT2 t := by
  intro t ht
  obtain ⟨i, hi⟩ := List.mem_iff_getElem?.1 ht
  obtain ⟨c, _, hc⟩ := hx
  obtain ⟨aa, ca, ab, cb, _, ha, hb, _⟩ := hc i t hi
  exact ⟨RX.vb (ha.1.rx ha.2), RX.vb (hb.1.rx hb.2)⟩
set_option maxHeartbeats 2000000 in
theorem c_CellBack (c : Cel) (ad : Option Addr) (cap : Nat) (s : List UInt8) (w0 : World) (h0 : View) (hv : VLe h0 (Full w0)) (hx : TL h0 ad cap c.ts) (hp : PowV h0) :
    Calls Tryz.prog 6 #[.agg (celC c ad cap).toArray, vs s] w0 (Ret w0 h0 fun u _ => u = .bool true) := by
  refine ent (args := [.agg (celC c ad cap).toArray, vs s]) TT_ok [] [8] Tryz.func6 rfl Tryz.ntmps6 rfl rfl hv ?_
  intro b2
  refine cb (fun w hw => c_CSmall c ad cap w h0 hw hx) ?_
  refine cnd (fun h => ?_) (fun h => ?_)
  · refine cb (fun w hw => c_lives17 w h0 hw hp) ?_
    exact rfl
  have hsm : smallC c.ts = true := by simpa using h.1
  have hsl : s.length ≤ 1000 := by have := h.2; omega
  have hg := (small_gt hsm).2
  refine cb (fun w hw => c_CText c ad cap hg w h0 hw hx hp) ?_
  refine w_cutB TT_ok (fun _ : Unit => []) (fun _ => [(2, .c b2 25 (celC c ad cap))]) (fun _ => True) ?_
  refine And.intro ?_ ?_
  · refine cnd (fun h2 => ?_) (fun h2 => ?_)
    · have h2 : (textC c).2 = 0 := h2
      obtain ⟨hl, hr⟩ := textC_len h2
      have hpar := parse_cel hr (tl_vt hx) h2
      refine cA TT_ok (fun w v h1 h2 h3 => c_CParseE hpar w v h3) (fun a => tl_m a _) (fun a => ?_)
      intro b7
      refine cf (fun w v h1 h2 h3 => c_CSame c c ad a.1 cap a.2 w v h3 (hx.mono h1) h2.2) ?_
      rw [sameC_refl]
      refine cndF (by simp; omega) ?_
      exact ⟨(), trivial, gs (fv := fun _ _ => trivial)⟩
    · exact ⟨(), trivial, gs⟩
  intro _ _
  obtain ⟨d, at', e, he⟩ : ∃ d at' e, parseC s = (d, at', e) := ⟨_, _, _, rfl⟩
  have hinv := parseC_inv s
  rw [he] at hinv
  dsimp only at hinv
  refine cA TT_ok (fun w v h1 h2 h3 => c_CParseE he w v h3) (fun a => tl_m a _) (fun a => ?_)
  intro b10
  refine cnd (fun h2 => ?_) (fun h2 => ?_)
  · have h2 : ¬ e = 0 := by simpa using h2
    obtain ⟨rfl, _, h3, h4⟩ := hinv.resolve_left (fun hh => h2 (congrArg Prod.snd hh.1))
    refine cf (fun w v h1 h2 h3 => c_CSame cel0 cel0 a.1 none a.2 0 w v h3 h2.2 (tl_nil v)) ?_
    refine cbg (fun _ w hw => c_lives17 w h0 hw hp) ?_
    refine congrArg Value.bool ?_
    rw [sameC_refl]
    simp; omega
  · have h2 : e = 0 := by simpa using h2
    subst h2
    obtain ⟨h3, hr⟩ := hinv.resolve_right (fun hh => hh.2.1 rfl)
    have hgd := right_gt hr
    refine cf (fun w v h1 h2 h3 => c_CText d a.1 a.2 hgd w v h3 h2.2 (pow_m h1 hp)) ?_
    refine cnd (fun h5 => ?_) (fun h5 => ?_)
    · have e5 : (textC d).2 = 5 := (text_err hr).resolve_left (by simpa using h5)
      refine cfg (fun _ w v h1 h2 h3 => c_CCheck d a.1 a.2 hgd w v h3 h2.2) ?_
      refine cbg (fun _ w hw => c_lives17 w h0 hw hp) ?_
      refine congrArg Value.bool ?_
      rw [e5, if_pos hr]; decide
    · have h5 : (textC d).2 = 0 := by simpa using h5
      refine cA TT_ok (fun w v h1 h2 h3 => c_CParseE (parse_cel hr (tl_vt h2.2) h5) w v h3) (fun a => tl_m a _) (fun a2 => ?_)
      intro b15
      refine cf (fun w v h1 h2 h3 => c_CSame d d a2.1 a.1 a2.2 a.2 w v h3 h2.2 h2.1.2) ?_
      refine cbg (fun _ w hw => c_lives17 w h0 hw hp) ?_
      refine congrArg Value.bool ?_
      rw [sameC_refl]
      simp
end Go.Proofs.YtkjhlfleojcgjaaGreatDoor
namespace Go.Proofs.YtkjhlfleojcgjaaGreatDoor
open Go Go.Dx Go.RowKit
theorem pow_of_laid {W : World} (h : laidMetH Tryz.prog laidL W) : PowV (Full W) := by
  have h1 := laidMetH.filter (fun x => x.1 == "internal/strconv.uint64pow10") h
  have e : laidL.filter (fun x => x.1 == "internal/strconv.uint64pow10") = [("internal/strconv.uint64pow10", Lib.tabData .u64 Lib.pow10Tab)] := by kernel_rfl
  rw [e] at h1
  have h2 := (laidMetH_iff.1 h1).1
  have e2 : ([("internal/strconv.uint64pow10", (Lib.tabData .u64 Lib.pow10Tab : DataW Unit))].filter fun x => x.2.handleName?.isNone) = [("internal/strconv.uint64pow10", Lib.tabData .u64 Lib.pow10Tab)] := by kernel_rfl
  rw [e2] at h2
  have hn : Tryz.prog.globalNamed "internal/strconv.uint64pow10" = some powG := by kernel_rfl
  have ht := Lib.tabIs_of_head (P := Tryz.prog) (t := 266) (e := 254) (n := 20) hn (by kernel_rfl) (by kernel_rfl) (by kernel_rfl) (by kernel_rfl) (by kernel_rfl) h2
  unfold Lib.TabIs World.var? at ht
  rw [hn, Option.bind_some] at ht
  split at ht
  · rename_i cs T fz hg
    have : cs = (Lib.pow10Tab.map fun z => Value.int .u64 z).toArray := Option.some.inj ht
    subst this
    exact ⟨T, fz, hg⟩
  · cases ht
end Go.Proofs.YtkjhlfleojcgjaaGreatDoor
