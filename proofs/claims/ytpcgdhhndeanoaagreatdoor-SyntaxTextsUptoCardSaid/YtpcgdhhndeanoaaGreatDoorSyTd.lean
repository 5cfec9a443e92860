/- Laws of walks, and what functions of the program compute: part 4. Each with the conditions that it names. -/
import Derived.RangeFuncRecord
import Derived.Lib.ItoaNum
import Derived.Lib.ItoaLen
import Derived.Lib.Join
import Derived.Test.YtpcgdhhndeanoaaGreatDoorSyTc
set_option linter.unusedSimpArgs false
set_option linter.unusedVariables false
namespace Go.Dx
open Go Go.RowKit
def LoopC (r : Loop) : Option Obj → Prop := fun o => o = some (.loop r)
def DefC : Option Obj → Prop := fun o => o = some (.deferred (some []))
/-- what a call of yield does: a round, that writes the caller's own blocks -/
def YC {σ : Type} (P : Program) (J : σ → BL) (s : σ) (l : Nat) (args : List Value) (w : World) (Ψ : Value → σ → Prop) : Prop :=
  ∃ fn tmps assign body, (Instr.yield l args.toArray).run P w = .ok (.round l fn tmps assign body) w ∧ RoundIn Fence.wide 0 P l fn tmps assign body w (RetJ J s w Ψ)
theorem wide_none : wideR none = Fence.wide := rfl
theorem wide_some (l : Nat) : wideR (some l) = Fence.wide.inRound l := rfl
section yj
variable {c : Cx} (hT : c.T.Ok c.P)
include hT
/-- at a stop: yield is called -/
theorem yJ {σ : Type} (J : σ → BL) (s : σ) {g : σ → Value} {Ψ : σ → Prop} {al : List Oper} {K : KR} {d l : Nat} {x : Operand} {args : List Operand} {ats : Array TypeId} {ty : TypeId} {pos : String} {af : Array Edge} {rest : List Oper} {L : SL} {B : BL} {F : FV} {vsl : List Value}
    (H : ∀ w v, VLe c.h0 v → F v → VLe v (Full w) → (∀ b ∈ ids (oes (J s)), v b = none) → OwnJ w (oes (J s)) → YC c.P J s l vsl w fun u s' => u = g s' ∧ Ψ s')
    (k : ∀ s', Ψ s' → wr c.n d (.v (g s')) L [] fun L I => runs c al true K rest L I (J s' ++ delL B (J s)) F)
    (hmd : c.md = .rd none := by rfl) (hx : rdS L [] none x = some (.v (.func (.yield l) #[] #[])) := by rfl)
    (hl : lksJ B (J s) := by exact ⟨rfl, rfl, trivial⟩) (hkn : keysN (J s) = true := by rfl) (ha : ∀ s s', (J s).map (fun p => (p.1, adOf p.2)) = (J s').map (fun p => (p.1, adOf p.2)) := by exact fun _ _ => rfl) (hnk : noK (J s) = true := by rfl) (hnk' : ∀ s, noK (J s) = true := by exact fun _ => rfl)
    (hv : argK (rdS L [] none) B args fun l => l = vsl := by exact rfl) :
    true = true ∧ WP c al (⟨some d, .call ⟨.value x, ⟨args⟩, ats⟩, ty, pos, af, none⟩ :: rest) L [] B F K := by
  have hperm := lksJ_perm hkn hl
  have hoes : (oes B).Perm (oes (J s) ++ oes (delL B (J s))) := by rw [← oes_app]; exact oes_perm hperm
  refine ⟨rfl, ⟨fun Q a w hn hp hD hS => ?_⟩⟩
  have hInv : Inv L [] := inv_nil
  obtain ⟨vl, rfl, hev⟩ := argK_sound (hρ_of (B := B) hInv (cx := none) (og := none) rfl) hv
  have hS1 : St c.w0 c.h0 c.M w (oes (J s) ++ oes (delL B (J s))) F := hS.st.perm hoes
  have hin : ∀ b ∈ ids (oes (J s)), b ∈ ids (oes B) := fun b hb => (ids_perm hoes).mem_iff.2 (by rw [ids_app]; exact List.mem_append_left _ hb)
  have hown : OwnJ w (oes (J s)) := ⟨fun e he => hS1.own e (List.mem_append_left _ he), by have := hS1.nd; rw [ids_app] at this; exact (List.nodup_append.1 this).1, fun b hb => (hS.st.fresh b (hin b hb)).2⟩
  obtain ⟨fn, tmps, assign, body, hy, hR⟩ := H w _ hS.st.base_cv hS.st.facts hS.st.view (fun b hb => cv_own (hin b hb)) hown
  refine wpM_plain rfl fun K' hK => ?_
  have fin : ∀ v w', (∃ s', (v = g s' ∧ Ψ s') ∧ Keep (ids (oes (J s))) w w' ∧ OwnJ w' (oes (J s')) ∧ ∀ b ∈ ids (oes (J s')), b ∈ ids (oes (J s)) ∨ w.heap.size ≤ b) → K' (a.put (some d) v) w' := by
    rintro v w' ⟨s', ⟨rfl, hΨ⟩, hk, ho, hfr⟩
    obtain ⟨L', I', hX, hI', hdn, hkv, hrw⟩ := wr_sound hInv (k s' hΨ)
    refine hK _ _ ((runs_sound hT rest _ _ _ _ hX hI').run Q _ w' hn hp (Dn.cons (rr := some (g s')) (hD.fr.put hdn _) hI' (fun t => ?_) (fun u hu => (Option.some.inj hu).symm)) ⟨?_, fun m g' b o cs hm => ?_⟩)
    · rw [hkv, kv_fl (fl_congr fun sv => dvO_go hl (ha s s') sv)]; rfl
    · rw [oes_app]; exact hS1.go hk ho hfr
    · rcases List.mem_append.1 hm with hm | hm
      · exact absurd hm (noK_ne (hnk' s') _ _ _ _ _)
      · exact hS.bk m g' b o cs (hperm.mem_iff.2 (List.mem_append_right _ hm))
  rw [hmd]
  show Oper.wpIn (wideR none) 0 c.P _ a w K' Q
  have e1 : a.eval x = .func (.yield l) #[] #[] := hD.fr.ev (ev_sl hx rfl)
  have e2 : args.map a.eval = vl := evs_map _ vl (hev yes_none) fun y _ u hu => hD.fr.ev hu
  have hrun : (execOp a.eval ⟨some d, .call ⟨.value x, ⟨args⟩, ats⟩, ty, pos, af, none⟩).run c.P w = .ok (.round l fn tmps assign body) w := by
    simp only [execOp, resolve, List.map_toArray, e1, e2, Deferred.ofValue, Sem.run_bind, Sem.run_pure, Result.andThen_ok, invoke, Array.empty_append]
    exact hy
  refine ⟨fun _ _ => trivial, ?_⟩
  rw [Oper.semAt_eq _ _ _ (fun c hc => by cases hc), hrun, Oper.uponIn_round]
  refine ⟨(fun h => by cases h), hR.mono ?_⟩
  rintro e w' ⟨u, s', rfl, ⟨h1, h2⟩, h3, h4, h5⟩
  exact fin u w' ⟨s', ⟨h1, h2⟩, h3, h4, h5⟩
end yj
/-- the entry in full, of a function that may hand out to a loop's rounds -/
theorem entGR {P : Program} {T : Tab} (hT : T.Ok P) {f : FuncId} {fn : Func} {code : Code} {w0 : World} {h0 : View} {rs : List ResultVar} {n : Nat} {R : Ending → World → Prop} {kp : List PanicEntry → Prop} {E : BL → FV → List Value → Prop} (stop cut M : List Nat) (as : List SV) (B0 : BL)
    (hf : P.funcs[f]? = some fn) (hb : fn.body = some code) (hn : fn.ntmps = n) (hle : Nat.ble as.length n = true) (hr : fn.results = rs.toArray) (hp : ∀ ch w, kp ch → Keep M w0 w → R (.panicked ch) w)
    (hS : Sx ⟨P, T, .rd none, n, w0, h0, M, kp, stop, cut⟩ B0 (fun _ => True) w0) (hE : ∀ B F vs w, E B F vs → Sx ⟨P, T, .rd none, n, w0, h0, M, kp, stop, cut⟩ B F w → R (.returned (tupV vs)) w)
    (h : vcC ⟨P, T, .rd none, n, w0, h0, M, kp, stop, cut⟩ code (argV as 0) B0 (fun _ => True) (fun L B F => resK T L B rs (E B F)) (fun _ _ _ _ => False) (fun L B F => resK T L B rs (E B F))) : Calls P f (as.map (dv B0)).toArray w0 R := by
  refine f_enterR hf hb hn (by simpa using hle) fun a hF => ?_
  have fin : ∀ L B F a w, resK T L B rs (E B F) → Dn ⟨P, T, .rd none, n, w0, h0, M, kp, stop, cut⟩ L [] B a → Sx ⟨P, T, .rd none, n, w0, h0, M, kp, stop, cut⟩ B F w → bodyPost P fn R .ret a w := by
    intro L B F a w hk hD hS
    obtain ⟨vs, h1, h2⟩ := resK_sound (c := ⟨P, T, .rd none, n, w0, h0, M, kp, stop, cut⟩) hT hD hS.wok hk
    exact f_ret hD.fr hr h2 (hE _ _ _ _ h1 hS)
  refine (vcC_sound (c := ⟨P, T, .rd none, n, w0, h0, M, kp, stop, cut⟩) hT code _ _ _ _ _ _ h).run (bodyPost P fn R) a w0 (fun L B F a w hk hD hS => ?_) ⟨fun _ _ _ _ _ _ _ h => h.elim, fun _ _ _ _ _ _ h => h.elim⟩ fin (fun ch a w hk hd hkeep => ⟨hd, hp ch w hk hkeep⟩) ⟨Fr.of_kv hF.df hF.sz fun t v hv => ?_, inv_nil⟩ hS
  · exact fin L B F a w hk hD hS
  · exact hF.at_ t v (argV_kv as 0 t v hv)
theorem sx_J {c : Cx} {B : BL} {w : World} (hw : c.w0 = w) (hM : c.M = ids (oes B)) (hv : VLe c.h0 (Full w)) (hno : ∀ b ∈ ids (oes B), c.h0 b = none) (ho : OwnJ w (oes B)) (hnk : noK B = true) : Sx c B (fun _ => True) w := by
  refine ⟨?_, fun k g b o cs hm => absurd hm (noK_ne hnk _ _ _ _ _)⟩
  rw [hM, hw]
  refine ⟨Keep.refl _ _, fun k o hk => ⟨hv k o hk, fun hm => ?_⟩, ho.own, fun b hb => ⟨.inr hb, ho.lt b hb⟩, ho.nd, Mono.tru, trivial⟩
  rw [hno k hm] at hk; cases hk
/-- the entry: a function that writes several blocks of the caller's, and calls yield -/
theorem entJR {σ : Type} (J : σ → BL) (s : σ) {g : σ → Value} {Ψ : σ → Prop} {P : Program} {T : Tab} (hT : T.Ok P) {f : FuncId} {fn : Func} {code : Code} {args : List Value} {w0 : World} {h0 : View} {rs : List ResultVar} {n : Nat} (stop cut : List Nat) (as : List SV)
    (hf : P.funcs[f]? = some fn) (hb : fn.body = some code) (hn : fn.ntmps = n) (hle : Nat.ble as.length n = true) (hr : fn.results = rs.toArray) (hv : VLe h0 (Full w0)) (hno : ∀ b ∈ ids (oes (J s)), h0 b = none) (ho : OwnJ w0 (oes (J s))) (ha : args = as.map (dv (J s)))
    (h : vcC ⟨P, T, .rd none, n, w0, h0, ids (oes (J s)), fun _ => False, stop, cut⟩ code (argV as 0) (J s) (fun _ => True) (fun L B F => resK T L B rs fun vs => ∃ s', tupV vs = g s' ∧ Ψ s' ∧ keysN (J s') = true ∧ lksJ B (J s')) (fun _ _ _ _ => False)
      (fun L B F => resK T L B rs fun vs => ∃ s', tupV vs = g s' ∧ Ψ s' ∧ keysN (J s') = true ∧ lksJ B (J s'))) (hnk : noK (J s) = true := by rfl) : Calls P f args.toArray w0 (RetJ J s w0 fun u s' => u = g s' ∧ Ψ s') := by
  rw [ha]
  refine entGR (E := fun B F vs => ∃ s', tupV vs = g s' ∧ Ψ s' ∧ keysN (J s') = true ∧ lksJ B (J s')) (h0 := h0) (kp := fun _ => False) hT stop cut (ids (oes (J s))) as (J s) hf hb hn hle hr (fun _ _ h _ => h.elim) (sx_J rfl rfl hv hno ho hnk)
    (fun B F vs w ⟨s', h1, h2, h3, h4⟩ hS => ?_) h
  obtain ⟨g1, g2⟩ := ownJ_sub hS h3 h4
  exact ⟨_, s', rfl, ⟨h1, h2⟩, hS.st.keep, g1, fun b hb => (g2 b hb).symm⟩
theorem setAK_own {B : BL} {k b : Nat} {C C' : Option Obj → Prop} {K : BL → Prop} {c : Cx} {F : FV} {w w' : World} (hB : lkA B k = some (.e (some b, C))) (h : setAK B k (.e (some b, C')) K) (hS : Sx c B F w) (hk : Keep [b] w w') (hC : C' w'.heap[b]?) :
    ∃ B', K B' ∧ Sx c B' F w' ∧ ∀ s, dvO B' s = dvO B s := by
  obtain ⟨i, hi, hset⟩ := lkE_ix hB
  obtain ⟨B', hrun, h3, h4, h5⟩ := hset h
  have hdv := dvO_setE hB h4
  refine ⟨B', hrun, ⟨?_, fun q g b o cs hq => ?_⟩, hdv⟩
  · rw [h3]; exact hS.st.write hi hk hC
  · rcases h5 _ hq with hq | hq
    · exact hS.bk _ _ _ _ _ hq
    · cases hq
theorem keep_put {w : World} {l : Nat} {o : Obj} : Keep [l] w (w.putObj l o) := ⟨rfl, rfl, rfl, by simp, fun k _ hn => World.putObj_heap_other (by simpa using hn)⟩
/-- **A round**: the variables are set, the body runs, the record is ready again. -/
theorem roundJ {σ : Type} {P : Program} {T : Tab} (hT : T.Ok P) (JR : σ → BL) (kl : Nat) {rec : Loop} (hrec : rec.state = .ready) (hpe : rec.pending = none) (s : σ) {Ψ : σ → Prop} (stop cut : List Nat) (L0 : SL) {l n : Nat} {v : View} {w : World} {tmps : Array Value}
    (hv : VLe v (Full w)) (hno : ∀ b ∈ ids (oes (JR s ++ [(kl, .e (some l, LoopC rec))])), v b = none) (ho : OwnJ w (oes (JR s ++ [(kl, .e (some l, LoopC rec))]))) (hsz : tmps.size = n)
    (hL : ∀ t x, kv L0 [] (JR s ++ [(kl, .e (some l, LoopC rec))]) t = some x → tmps.getD t undef = x)
    (h : vcC ⟨P, T, .rd (some l), n, w, v, ids (oes (JR s ++ [(kl, .e (some l, LoopC rec))])), fun _ => False, stop, cut⟩ rec.assign L0 (JR s ++ [(kl, .e (some l, LoopC rec))]) (fun _ => True)
      (fun L B F => lkA B kl = some (.e (some l, LoopC rec)) ∧ setAK B kl (.e (some l, LoopC { rec with state := .busy })) fun B =>
        vcC ⟨P, T, .rd (some l), n, w, v, ids (oes (JR s ++ [(kl, .e (some l, LoopC rec))])), fun _ => False, stop, cut⟩ rec.body L B F
          (fun _ B _ => ∃ s', Ψ s' ∧ keysN (JR s' ++ [(kl, .e (some l, LoopC { rec with state := .busy }))]) = true ∧ lksJ B (JR s' ++ [(kl, .e (some l, LoopC { rec with state := .busy }))])) (fun _ _ _ _ => False) (fun _ _ _ => False))
      (fun _ _ _ _ => False) (fun _ _ _ => False)) (hnk : noK (JR s ++ [(kl, .e (some l, LoopC rec))]) = true := by rfl) :
    RoundIn Fence.wide 0 P l rec.fn tmps rec.assign rec.body w (RetJ (fun s => JR s ++ [(kl, .e (some l, LoopC rec))]) s w fun u s' => u = .bool true ∧ Ψ s') := by
  refine roundIn_of_wpIn trivial ?_
  rw [← wide_some]
  have hS0 : Sx ⟨P, T, .rd (some l), n, w, v, ids (oes (JR s ++ [(kl, .e (some l, LoopC rec))])), fun _ => False, stop, cut⟩ (JR s ++ [(kl, .e (some l, LoopC rec))]) (fun _ => True) w := sx_J rfl rfl hv hno ho hnk
  refine (vcC_sound (c := ⟨P, T, .rd (some l), n, w, v, ids (oes (JR s ++ [(kl, .e (some l, LoopC rec))])), fun _ => False, stop, cut⟩) hT rec.assign _ _ _ _ _ _ h).run _ ⟨tmps, []⟩ w (fun L B F a w1 hk hD hS => ?_) ⟨fun _ _ _ _ _ _ _ h => h.elim, fun _ _ _ _ _ _ h => h.elim⟩ (fun _ _ _ _ _ h _ _ => h.elim) (fun _ _ _ h _ _ => h.elim)
    ⟨Fr.of_kv rfl hsz fun t x hx => hL t x hx, inv_nil⟩ hS0
  obtain ⟨hB, hset⟩ := hk
  have hl1 : w1.heap[l]? = some (.loop rec) := by
    obtain ⟨i, hi, _⟩ := lkE_ix hB
    exact hS.st.at hi
  have hlt1 : l < w1.heap.size := (Array.getElem?_eq_some_iff.1 hl1).1
  refine ⟨_, run_beginRound hl1 hrec, ?_⟩
  obtain ⟨B', hvc, hS', hdv⟩ := setAK_own hB hset hS keep_put (C' := LoopC { rec with state := .busy }) (World.putObj_heap_same hlt1)
  refine (vcC_sound (c := ⟨P, T, .rd (some l), n, w, v, ids (oes (JR s ++ [(kl, .e (some l, LoopC rec))])), fun _ => False, stop, cut⟩) hT rec.body _ _ _ _ _ _ hvc).run (roundPost P l _) a _ (fun L B F a w2 hk hD hS => ?_) ⟨fun _ _ _ _ _ _ _ h => h.elim, fun _ _ _ _ _ _ h => h.elim⟩ (fun _ _ _ _ _ h _ _ => h.elim) (fun _ _ _ h _ _ => h.elim)
    ⟨by rw [fl_congr hdv]; exact hD.fr, inv_nil⟩ hS'
  obtain ⟨s', hΨ, hkn, hlk⟩ := hk
  obtain ⟨g1, g2⟩ := ownJ_sub hS hkn hlk
  have eo : ∀ C, oes (JR s' ++ [(kl, OB.e (some l, C))]) = oes (JR s') ++ [(some l, C)] := fun C => by rw [oes_app]; rfl
  have ei : ∀ C : Option Obj → Prop, ids (oes (JR s') ++ [(some l, C)]) = ids (oes (JR s')) ++ [l] := fun C => by rw [ids_app]; rfl
  rw [eo] at g1 g2
  rw [ei] at g2
  have hl2 : w2.heap[l]? = some (.loop { rec with state := .busy }) := g1.own (some l, _) (List.mem_append_right _ (List.mem_singleton.2 rfl))
  have hlt2 : l < w2.heap.size := (Array.getElem?_eq_some_iff.1 hl2).1
  have hnd := g1.nd
  rw [ei] at hnd
  have hnl : ∀ b ∈ ids (oes (JR s')), b ≠ l := fun b hb e => (List.nodup_append.1 hnd).2.2 b hb l (List.mem_singleton.2 rfl) e
  have hrr : ({ ({ rec with state := .busy } : Loop) with state := .ready, pending := none } : Loop) = rec := by cases rec; cases hrec; cases hpe; rfl
  have hend := run_endRound (P := P) none hl2
  refine ⟨_, _, hend, _, s', rfl, ⟨rfl, hΨ⟩, ?_, ?_, ?_⟩
  · refine hS.st.keep.trans (keep_put.mono fun b hb _ => ?_)
    have : b = l := by simpa using hb
    subst this
    show b ∈ ids (oes (JR s ++ [(kl, .e (some b, LoopC rec))]))
    rw [oes_app, ids_app]; exact List.mem_append_right _ (List.mem_singleton.2 rfl)
  · show OwnJ _ (oes (JR s' ++ [(kl, .e (some l, LoopC rec))]))
    rw [eo]
    refine ⟨fun e he => ?_, by rw [ei]; exact hnd, fun b hb => ?_⟩
    · rcases List.mem_append.1 he with he | he
      · have := g1.own e (List.mem_append_left _ he)
        cases h1 : e.1 with
        | none => rw [h1] at this; exact this
        | some b =>
          rw [h1] at this
          have hb : b ∈ ids (oes (JR s')) := List.mem_filterMap.2 ⟨e, he, h1⟩
          simp only [Option.bind_some] at this ⊢
          rw [World.putObj_heap_other (hnl b hb)]; exact this
      · rw [List.mem_singleton.1 he]
        show LoopC rec _
        have h1 := World.putObj_heap_same (o := .loop { ({ rec with state := .busy } : Loop) with state := if (none : Option Code).isNone then .ready else .done, pending := none }) hlt2
        exact h1.trans (congrArg (fun r => some (Obj.loop r)) hrr)
    · rw [World.putObj_size]
      rw [ei] at hb
      have := g1.lt b
      rw [ei] at this
      exact this hb
  · intro b hb
    have hb : b ∈ ids (oes (JR s' ++ [(kl, OB.e (some l, LoopC rec))])) := hb
    rw [eo, ei] at hb
    exact (g2 b hb).symm
/-- **The statement**: the record is laid, the function runs with yield, the record is spent. -/
theorem rangeJ {c : Cx} (hT : c.T.Ok c.P) {σ : Type} (JR : σ → BL) (s : σ) (kl kd : Nat) {Ψ : σ → Prop} {g : Operand} {ps : Array Tmp} {assign body : Code} {gf : Nat} {lb : List Value} {L : SL} {B : BL} {F : FV} {Q : Exit → Act → World → Prop} {a : Act} {w : World}
    (hD : Dn c L [] B a) (hS : Sx c B F w) (hg : a.eval g = .func (.func gf) #[] lb.toArray) (hgf : CallOk c.P gf)
    (hl : lksJ B (JR s)) (hkn : keysN (JR s) = true) (ha : ∀ s s', (JR s).map (fun p => (p.1, adOf p.2)) = (JR s').map (fun p => (p.1, adOf p.2))) (hnk' : ∀ s, noK (JR s) = true)
    (hkd : ∀ s', lkA (JR s' ++ delL B (JR s)) kd = none)
    (H : ∀ (rec : Loop) (l : Nat), rec.state = .ready → rec.pending = none → rec.tmps = a.tmps → rec.params = ps → rec.assign = assign → rec.body = body → ∀ w1 v, VLe c.h0 v → F v → VLe v (Full w1) →
      (∀ b ∈ ids (oes (JR s ++ [(kl, .e (some l, LoopC rec))])), v b = none) → OwnJ w1 (oes (JR s ++ [(kl, .e (some l, LoopC rec))])) → Calls c.P gf (Value.func (.yield l) #[] #[] :: lb).toArray w1 (RetJ (fun s => JR s ++ [(kl, .e (some l, LoopC rec))]) s w1 fun _ s' => Ψ s'))
    (k : ∀ s' D w', Ψ s' → Dn c L [] ((kd, .e (some D, DefC)) :: (JR s' ++ delL B (JR s))) a → Sx c ((kd, .e (some D, DefC)) :: (JR s' ++ delL B (JR s))) F w' → Q .normal { a with defers := ⟨.collected D, #[]⟩ :: a.defers } w') :
    codeM .wp c.P (.rangeFunc g ps assign body) Q a w := by
  refine (wpIn_wide (n := 1)).1 (wpIn_rangeFunc ?_)
  intro fn _
  have hperm := lksJ_perm hkn hl
  have hoes : (oes B).Perm (oes (JR s) ++ oes (delL B (JR s))) := by rw [← oes_app]; exact oes_perm hperm
  have hS0 : St c.w0 c.h0 c.M w (oes (JR s) ++ oes (delL B (JR s))) F := hS.st.perm hoes
  obtain ⟨rec, hrec⟩ : ∃ rec : Loop, rec = { state := .ready, pending := none, fn, tmps := a.tmps, params := ps, assign, body, defers := w.heap.size } := ⟨_, rfl⟩
  obtain ⟨W1, hW1⟩ : ∃ W1, (w.alloc (.deferred (some []))).alloc (.loop rec) = W1 := ⟨_, rfl⟩
  obtain ⟨D, hDe⟩ : ∃ D, D = w.heap.size := ⟨_, rfl⟩
  obtain ⟨l, hle⟩ : ∃ l, l = w.heap.size + 1 := ⟨_, rfl⟩
  have hS1 := (hS0.new (.deferred (some [])) (C := DefC) rfl).new (.loop rec) (C := LoopC rec) rfl
  rw [hW1, World.size_alloc, ← hDe, show D + 1 = l by omega] at hS1
  have pm : ((some l, LoopC rec) :: (some D, DefC) :: (oes (JR s) ++ oes (delL B (JR s)))).Perm ((oes (JR s) ++ [(some l, LoopC rec)]) ++ ((some D, DefC) :: oes (delL B (JR s)))) := by
    rw [List.append_assoc, List.singleton_append]
    refine (List.Perm.trans ?_ List.perm_middle.symm)
    exact List.Perm.cons _ List.perm_middle.symm
  have hS2 := hS1.perm pm
  have eo : ∀ s', oes (JR s' ++ [(kl, OB.e (some l, LoopC rec))]) = oes (JR s') ++ [(some l, LoopC rec)] := fun s' => by rw [oes_app]; rfl
  have hin : ∀ b ∈ ids (oes (JR s) ++ [(some l, LoopC rec)]), b ∈ ids ((oes (JR s) ++ [(some l, LoopC rec)]) ++ ((some D, DefC) :: oes (delL B (JR s)))) := fun b hb => by rw [ids_app]; exact List.mem_append_left _ hb
  have hown : OwnJ W1 (oes (JR s) ++ [(some l, LoopC rec)]) := ⟨fun e he => hS2.own e (List.mem_append_left _ he), by have := hS2.nd; rw [ids_app] at this; exact (List.nodup_append.1 this).1, fun b hb => (hS2.fresh b (hin b hb)).2⟩
  have hcall := H rec l (by rw [hrec]) (by rw [hrec]) (by rw [hrec]) (by rw [hrec]) (by rw [hrec]) (by rw [hrec]) W1 _ hS2.base_cv hS2.facts hS2.view (fun b hb => cv_own (hin b (by rw [eo] at hb; exact hb))) (by rw [eo]; exact hown)
  refine ⟨l, [⟨.collected D, #[]⟩], W1, { target := .fn (.func gf) lb.toArray, args := #[.func (.yield l) #[] #[]] }, W1, gf, #[.func (.yield l) #[] #[]] ++ lb.toArray, W1, ?_, ?_, fun _ _ => trivial, ?_, fun _ => Nat.le_refl _, ?_⟩
  · have := run_enterLoop_outer (P := c.P) (w := w) fn a.tmps ps assign body
    rw [← hrec, hW1, ← hDe, show D + 1 = l by omega] at this
    exact this
  · simp only [resolve, hg]
    simp [go_sem]
  · simp only [invoke]
    exact run_call hgf
  · refine callsIn_wide.2 ?_
    have e0 : (#[.func (.yield l) #[] #[]] ++ lb.toArray : Array Value) = (Value.func (.yield l) #[] #[] :: lb).toArray := by simp
    rw [e0]
    refine hcall.mono ?_
    rintro e W2 ⟨u, s', rfl, hΨ, hk2, ho2, hf2⟩
    have hk2 : Keep (ids (oes (JR s ++ [(kl, OB.e (some l, LoopC rec))]))) W1 W2 := hk2
    have ho2 : OwnJ W2 (oes (JR s' ++ [(kl, OB.e (some l, LoopC rec))])) := ho2
    have hf2 : ∀ b ∈ ids (oes (JR s' ++ [(kl, OB.e (some l, LoopC rec))])), b ∈ ids (oes (JR s ++ [(kl, OB.e (some l, LoopC rec))])) ∨ W1.heap.size ≤ b := hf2
    rw [eo] at hk2 hf2 ho2
    rw [eo] at hf2
    have hS3 := hS2.go hk2 ho2 hf2
    have pm2 : ((oes (JR s') ++ [(some l, LoopC rec)]) ++ ((some D, DefC) :: oes (delL B (JR s)))).Perm ((some l, LoopC rec) :: (some D, DefC) :: (oes (JR s') ++ oes (delL B (JR s)))) := by
      rw [List.append_assoc, List.singleton_append]
      refine List.Perm.trans List.perm_middle ?_
      exact List.Perm.cons _ List.perm_middle
    have hS4 := hS3.perm pm2
    have hl2 : W2.heap[l]? = some (.loop rec) := hS4.at (i := 0) rfl
    have hlt2 : l < W2.heap.size := (Array.getElem?_eq_some_iff.1 hl2).1
    have hend := run_endLoop (P := c.P) hl2 (by rw [hrec]; simp)
    have hS5 := hS4.write (i := 0) (C' := fun _ => True) rfl (keep_put (o := .loop { rec with state := .exhausted })) trivial
    have hS6 := St.suffix (A := [(some l, fun _ => True)]) hS5
    refine ⟨none, _, hend.trans (congrArg (fun p => Result.ok p (W2.putObj l (.loop { rec with state := .exhausted }))) (show rec.pending = none by rw [hrec])), ?_⟩
    have hdv : ∀ sv, dvO ((kd, .e (some D, DefC)) :: (JR s' ++ delL B (JR s))) sv = dvO B sv := fun sv => (nil_dv (hkd s') (some D, DefC) sv).trans (dvO_go hl (ha s s') sv)
    refine k s' D _ hΨ ⟨by rw [fl_congr hdv]; exact hD.fr, inv_nil⟩ ⟨?_, fun m g' b o cs hm => ?_⟩
    · show St _ _ _ _ ((some D, DefC) :: oes (JR s' ++ delL B (JR s))) _
      rw [oes_app]; exact hS6
    · rcases List.mem_cons.1 hm with hm | hm
      · cases hm
      rcases List.mem_append.1 hm with hm | hm
      · exact absurd hm (noK_ne (hnk' s') _ _ _ _ _)
      · exact hS.bk m g' b o cs (hperm.mem_iff.2 (List.mem_append_right _ hm))
/-- the end of a function that holds a mark: the mark is taken, the results are read -/
theorem retM {c : Cx} (hT : c.T.Ok c.P) {L : SL} {B : BL} {F : FV} {a : Act} {w : World} {fn : Func} {rs : List ResultVar} {R : Ending → World → Prop} {E : BL → FV → List Value → Prop} (kd : Nat) {D : Nat} (hr : fn.results = rs.toArray) (hB : lkA B kd = some (.e (some D, DefC)))
    (h : setAK B kd (.e (some D, fun _ => True)) fun B => resK c.T L B rs (E B F)) (hD : Dn c L [] B a) (hS : Sx c B F w) (hE : ∀ B F vs w, E B F vs → Sx c B F w → R (.returned (tupV vs)) w) :
    LeavesInM Fence.wide 1 c.P fn a.tmps R [⟨.collected D, #[]⟩] .returning w := by
  have hd : w.heap[D]? = some (.deferred (some [])) := by
    obtain ⟨i, hi, _⟩ := lkE_ix hB
    exact hS.st.at hi
  obtain ⟨B', hk, hS', hdv⟩ := setAK_own hB h hS (keep_put (o := .deferred none)) (C' := fun _ => True) trivial
  refine ⟨by simp, .inl ⟨D, _, rfl, run_takeDeferred hd, ?_⟩⟩
  have hD' : Dn c L [] B' a := ⟨by rw [fl_congr hdv]; exact hD.fr, inv_nil⟩
  obtain ⟨vs, h1, h2⟩ := resK_sound (c := c) hT hD' hS'.wok hk
  obtain ⟨_, v, hv1, hv2⟩ := f_ret (R := R) hD'.fr hr h2 (hE _ _ _ _ h1 hS')
  exact ⟨v, hv1, hv2⟩
/-- the entry of a function that holds a range over a function: the parts ahead reckoned -/
theorem entDM {P : Program} {T : Tab} (hT : T.Ok P) {f : FuncId} {fn : Func} {code : Code} {args : List Value} {w0 : World} {h0 : View} {rs : List ResultVar} {n : Nat} {R : Ending → World → Prop} {E : BL → FV → List Value → Prop} (stop cut : List Nat) (m : Nat)
    (hf : P.funcs[f]? = some fn) (hb : fn.body = some code) (hn : fn.ntmps = n) (hle : Nat.ble args.length n = true) (hr : fn.results = rs.toArray) (hv : VLe h0 (Full w0))
    (hE : ∀ B F vs w, E B F vs → Sx ⟨P, T, .wp, n, w0, h0, [], fun _ => False, stop, cut⟩ B F w → R (.returned (tupV vs)) w)
    (h : vcD ⟨P, T, .wp, n, w0, h0, [], fun _ => False, stop, cut⟩ (fun L B F code => ∀ a w, Dn ⟨P, T, .wp, n, w0, h0, [], fun _ => False, stop, cut⟩ L [] B a → Sx ⟨P, T, .wp, n, w0, h0, [], fun _ => False, stop, cut⟩ B F w → codeM .wp P code (bodyPostM Fence.wide 1 P fn R) a w) m code (argS args 0) [] (fun _ => True) (fun _ _ _ _ => False)
      (fun L B F => resK T L B rs (E B F))) : Calls P f args.toArray w0 R := by
  have hle' : args.length ≤ n := Nat.le_of_ble_eq_true hle
  refine callsIn_wide.1 (callsIn_of_wp_marks (F := Fence.wide) (n := 1) hf hb trivial (wpIn_wide.2 ?_))
  generalize hac : ({ tmps := args.toArray ++ Array.replicate (fn.ntmps - args.toArray.size) undef, defers := [] } : Act) = ac
  have hF : Fr ac n (argL args 0) := by
    subst hac
    refine ⟨rfl, ?_, fun i v hi => ?_⟩
    · simp only [hn, Array.size_append, List.size_toArray, Array.size_replicate]; omega
    · obtain ⟨j, rfl, hj⟩ := lk_argL args 0 i v hi
      have hlt : j < args.length := (List.getElem?_eq_some_iff.1 hj).1
      simp only [Nat.zero_add]
      simp [Array.getElem?_append, hlt]
      have := List.getElem?_eq_some_iff.1 hj
      exact this.2
  refine vcD_sound (c := ⟨P, T, .wp, n, w0, h0, [], fun _ => False, stop, cut⟩) hT (Q := bodyPostM Fence.wide 1 P fn R) (fun L B F code a w hW hD hS => hW a w hD hS) ⟨fun _ _ _ _ _ _ _ h => h.elim, fun _ _ _ _ _ _ h => h.elim⟩ ?_ (fun ch a w hk _ _ => hk.elim) m code _ _ _ h ac w0 ⟨Fr.of_kv hF.df hF.sz fun t v hv => ?_, inv_nil⟩ ⟨St.init w0 h0 hv, fun k g b o cs hk => by cases hk⟩
  · intro L B F a w hk hD hS
    obtain ⟨vs, h1, h2⟩ := resK_sound (c := ⟨P, T, .wp, n, w0, h0, [], fun _ => False, stop, cut⟩) hT hD hS.wok hk
    obtain ⟨_, v, hv1, hv2⟩ := f_ret (R := R) hD.fr hr h2 (hE _ _ _ _ h1 hS)
    show LeavesInM Fence.wide 1 P fn a.tmps R a.defers .returning w
    rw [hD.fr.df]
    exact ⟨v, hv1, hv2⟩
  · have e : argS args 0 = argV (args.map .v) 0 := argS_V args 0
    rw [e] at hv
    have := argV_kv (args.map .v) 0 t v hv
    rw [List.map_map] at this
    have e2 : (dv [] ∘ SV.v) = id := by funext x; rfl
    rw [e2, List.map_id] at this
    exact hF.at_ t v this
/-- the ops of a region behind a mark -/
theorem regM {c : Cx} (hT : c.T.Ok c.P) (hmd : c.md = .wp) {i : Nat} {ops : List Oper} {L : SL} {B : BL} {F : FV} {Q : Exit → Act → World → Prop} {a : Act} {w : World} {ds : List Deferred} {K : KN} (hD : Dn c L [] B a) (hS : Sx c B F w) (hn : ∀ o ∈ ops, NoDef c.P o)
    (h : regK c ops L B F K) (k : ∀ L B F a w, K L B F → Dn c L [] B a → Sx c B F w → Q .normal { a with defers := ds } w) (hp : PanOk c fun e a w => Q e { a with defers := ds } w) : codeM .wp c.P (.region i ops.toArray false) Q { a with defers := ds } w := by
  refine c_reg ?_
  show wpList c.P _ Q _ _ w
  refine wpList_df _ a w hn ?_
  have := (runs_sound hT ops L [] B F h inv_nil).run (fun e a w => Q e { a with defers := ds } w) a w (push_ok (kn := K) (Q := fun e a w => Q e { a with defers := ds } w) k) hp hD hS
  rw [hmd] at this
  exact this
/-- what an own buffer holds, read where it lies -/
theorem own_sl {c : Cx} {B : BL} {F : FV} {w : World} {α : Type} {T sz nn cp k : Nat} {a0 : Option Addr} {g : α → List Value} {l : List α} (hB : lkA B k = some (.e (bufE T sz (.slice a0 nn cp) (l.map g).flatten))) (hn : nn = l.length) (hg : ∀ x ∈ l, (g x).length = sz) (hS : Sx c B F w) : SlC T sz (flatR g) (Full w) (.slice a0 nn cp) l := by
  obtain ⟨i, hi, _⟩ := lkE_ix hB
  refine BufC.sl (hS.st.own _ (List.mem_of_getElem? hi)) (fun b hb => ?_) hg hn
  show w.heap[b]? = _
  unfold bufE
  rw [hb]; rfl
/-- a part of the code by its reckoning, then by hand -/
theorem hand {c : Cx} (hT : c.T.Ok c.P) {k : Code} {L : SL} {B : BL} {F : FV} {Q : Exit → Act → World → Prop} {a : Act} {w : World} (hD : Dn c L [] B a) (hS : Sx c B F w)
    (h : vcC c k L B F (fun L B F => ∀ a w, Dn c L [] B a → Sx c B F w → Q .normal a w) (fun _ _ _ _ => False) (fun _ _ _ => False)) (hp : PanOk c Q) : codeM c.md c.P k Q a w :=
  (vcC_sound hT k L B F _ _ _ h).run Q a w (fun _ _ _ a w hk hD hS => hk a w hD hS) ⟨fun _ _ _ _ _ _ _ h => h.elim, fun _ _ _ _ _ _ h => h.elim⟩ (fun _ _ _ _ _ h _ _ => h.elim) hp hD hS
theorem nil_dn {c : Cx} {L : SL} {B : BL} {a : Act} (k : Nat) (e : OE) (hD : Dn c L [] B a) (hk : lkA B k = none := by rfl) : Dn c L [] ((k, .e e) :: B) a := ⟨by rw [fl_congr (nil_dv hk e)]; exact hD.fr, inv_nil⟩
/-- the temporaries of a round: one is set, the others stay -/
theorem set_tmp {ts : Array Value} {n p : Nat} {v : Value} (hsz : ts.size = n) (hp : p < n) : (ts.setIfInBounds p v).getD p undef = v ∧ ∀ t, t ≠ p → (ts.setIfInBounds p v).getD t undef = ts.getD t undef := by
  subst hsz
  refine ⟨by simp [Array.getD, hp], fun t ht => ?_⟩
  rw [Array.getD_eq_getD_getElem?, Array.getD_eq_getD_getElem?, Array.getElem?_setIfInBounds_ne (Ne.symm ht)]
theorem run_yield1 {P : Program} {w : World} {l p : Nat} {r : Loop} {v : Value} (h : w.heap[l]? = some (.loop r)) (hp : r.params = #[p]) : (Instr.yield l [v].toArray).run P w = .ok (.round l r.fn (r.tmps.setIfInBounds p v) r.assign r.body) w := by
  have := run_yield (P := P) (args := [v].toArray) h (by rw [hp]; rfl)
  rw [hp] at this
  simpa using this
theorem kv_none {L : SL} {B : BL} {t : Nat} (h : lkA L t = none) : kv L [] B t = none := by
  unfold kv
  rw [h]; rfl
section own
variable {c : Cx} (hT : c.T.Ok c.P)
include hT
/-- at a stop: a place in an own buffer of one-cell values -/
theorem ixB {al : List Oper} {K : KR} {d t e T : Nat} {x y : Operand} {ty : TypeId} {pos : String} {af : Array Edge} {r : List Oper} {L : SL} {B : BL} {F : FV} {a : Option Addr} {n cp m : Nat} {xs : List Value} {it : IntKind} {i : Int} (k : Nat)
    (hB : lkA B k = some (.e (bufE T 1 (.slice a n cp) xs))) (ht : SlT c.P t e 1) (hx : rdS L [] none x = some (.v (.slice a n cp))) (hy : rdS L [] none y = some (.v (.int it i))) (hi : i = (m : Int)) (hm : m < n)
    (h : ∀ b o, a = some ⟨b, o, none⟩ → runs c al true K r ((d, .v (.pointer (some ⟨b, o + m, none⟩))) :: L) [] B F) (hd : Nat.blt d c.n = true := by rfl) : true = true ∧ WP c al (⟨some d, .indexAddr t x y, ty, pos, af, none⟩ :: r) L [] B F K := by
  refine ⟨rfl, ⟨fun Q ac w hn hp hD hS => ?_⟩⟩
  obtain ⟨q, hq, _⟩ := lkE_ix hB
  have hC := hS.st.own _ (List.mem_of_getElem? hq)
  rcases hC with ⟨h1, _⟩ | ⟨g, off, n', cap, cur, fz, h1, _⟩
  · cases h1; omega
  · cases h1
    have hpu := pu_iaddr_sla (P := c.P) (w := w) (d := some d) (ty := ty) (pos := pos) (af := af) (g := none) (L := fl L [] B) (j := m) rfl ht (ev_sl hx rfl) (ev_sl (v := .int it i) hy rfl) hi hm
    rw [Nat.mul_one] at hpu
    exact s_pu hD.fr hpu hd fun a' hF' => (runs_sound hT r _ _ _ _ (h g off rfl) inv_nil).run Q a' w hn hp ⟨hF', inv_nil⟩ hS
/-- at a stop: a value of an own buffer, read -/
theorem ldB {al : List Oper} {K : KR} {d t T : Nat} {x : Operand} {ty : TypeId} {pos : String} {af : Array Edge} {r : List Oper} {L : SL} {B : BL} {F : FV} {b o n cp m : Nat} {xs : List Value} {v : Value} (k : Nat)
    (hB : lkA B k = some (.e (bufE T 1 (.slice (some ⟨b, o, none⟩) n cp) xs))) (ht : OneT c.P t) (hx : rdS L [] none x = some (.v (.pointer (some ⟨b, o + m, none⟩)))) (hm : xs[m]? = some v)
    (h : runs c al true K r ((d, .v v) :: L) [] B F) (hd : Nat.blt d c.n = true := by rfl) : true = true ∧ WP c al (⟨some d, .load t x, ty, pos, af, none⟩ :: r) L [] B F K := by
  refine goPu hT v (fun w hS => ?_) h hd
  obtain ⟨q, hq, _⟩ := lkE_ix hB
  have hC := hS.st.own _ (List.mem_of_getElem? hq)
  refine pu_load1 ht (ev_sl hx rfl) ?_
  have hC' : BufC T 1 (.slice (some ⟨b, o, none⟩) n cp) xs w.heap[b]? := hC
  rw [buf_cell hC' (List.getElem?_eq_some_iff.1 hm).1]; exact hm
end own
end Go.Dx
namespace Go.Dx
open Go Go.RowKit
theorem wpAnyS_weak {P : Program} {ops : Array Oper} {Q : Exit → Act → World → Prop} {nd : Nat → Bool} {S S' : World → Prop} (h : ∀ w, S' w → S w) : ∀ (f : Nat) (listed : Array Bool) (a : Act) (w : World), wpAnyS P ops Q nd S' f listed a w → wpAnyS P ops Q nd S f listed a w
  | 0, _, _, _, H => H
  | f + 1, _, _, _, H => ⟨H.1, fun i hi => wpOp_mono (fun a' w' h' => ⟨fun hn => h _ (h'.1 hn), wpAnyS_weak h f _ a' w' h'.2⟩) (H.2 i hi)⟩
def chkS (ops : Array Oper) : List Nat → Array Bool → (Array Bool → Bool) → Bool
  | [], listed, k => k listed
  | j :: r, listed, k => decide (Region.ready .any ops listed = [j]) && chkS ops r (listed.setIfInBounds j true) k
def chkP (ops : Array Oper) : List (List Nat × List Nat) → Array Bool → Bool
  | [], listed => (Region.ready .any ops listed).isEmpty
  | (mv, rest) :: p, listed => chkM ops mv listed fun listed => chkS ops rest listed fun listed => chkP ops p listed
def planN : List (List Nat × List Nat) → Nat
  | [] => 0
  | (mv, rest) :: p => (planN p + rest.length) + mv.length
def chkPh (l : List Oper) (plan : List (List Nat × List Nat)) : Bool :=
  Region.noSelect l.toArray && Nat.beq (planN plan) l.length && chkP l.toArray plan (Array.replicate l.length false)
/-- one operation that is taken first -/
def mvO (c : Cx) (F : FV) (ex : List Nat) (d : Nat) (op : Op) (L : SL) (B : BL) (K : SL → BL → Prop) : Prop := match op with
  | .indexAddr t x y => rd1 (rdS L [] none) x fun s => rd1 (rdS L [] none) y fun s' => ixG c F none (lkA c.T.tys t) s s' fun b o cs =>
      fresh d L [] B (bif Nat.blt d c.n then K ((d, .o d 0) :: L) ((d, .k none b o cs) :: B) else False)
  | op => bif isPure op && Nat.blt d c.n then pv c.P c.T c.h0 F (exB ex B) none (rdS L [] none) (fun s => hasN (exB ex B) s (K ((d, s) :: L) B)) op else False
def mvG (c : Cx) (al : List Oper) (F : FV) (ex : List Nat) : List Nat → SL → BL → (SL → BL → Prop) → Prop
  | [], L, B, K => K L B
  | i :: r, L, B, K => match nthV al i with
    | some ⟨some d, op, _, _, _, none⟩ => mvO c F ex d op L B fun L B => mvG c al F ex r L B K
    | some ⟨some d, op, _, _, _, some (j, b)⟩ => guardAt al L [] j b fun _ g => (g = true → mvO c F ex d op L B fun L B => mvG c al F ex r L B K) ∧ (g = false → bif Nat.blt d c.n then mvG c al F ex r ((d, .v undef) :: L) B K else False)
    | _ => False
def tlP (c : Cx) (al : List Oper) (BS : BL) (F0 : FV) : List Nat → SL → IL → BL → FV → KR → Prop
  | [], L, I, B, F, K => K L I B F
  | j :: r, L, I, B, F, K => match nthV al j with
    | some o => runs c al true (fun L I B F => keepsB BS F0 B F ∧ tlP c al BS F0 r L I B F K) [o] L I B F
    | none => False
def plK (c : Cx) (al : List Oper) (ex : List Nat) : List (List Nat × List Nat) → SL → IL → BL → FV → KR → Prop
  | [], L, I, B, F, K => K L I B F
  | (mv, rest) :: p, L, I, B, F, K => match I with
    | [] => mvG c al F ex mv L B fun L' B' => keepsB (exB ex B) F B' F ∧ tlP c al (exB ex B) F rest L' [] B' F fun L I B F => plK c al ex p L I B F K
    | _ :: _ => False
theorem keepsB_ex {c : Cx} {ex : List Nat} {B0 B : BL} {F0 F : FV} {w : World} (h : keepsB (exB ex B0) F0 B F) (hW : WOk c.h0 F (exB ex B) w) : WOk c.h0 F0 (exB ex B0) w := by
  obtain ⟨v, h1, h2, h3⟩ := hW.vw
  refine ⟨⟨v, h1, h.1 v h2, h3⟩, fun k b T cs hl => ?_⟩
  have h4 := map_eq_mem h.2 _ (exB_mem hl)
  have h5 : lkA B k = some (.c b T cs) := h4
  refine hW.own k b T cs ?_
  rw [exB_lk, h5]
  rw [exB_lk] at hl
  cases hm : memF ex k with
  | false => simp
  | true =>
    cases h6 : lkA B0 k with
    | none => rw [h6] at hl; cases hl
    | some o => rw [h6] at hl; cases o <;> simp [hm] at hl
section reg
variable {c : Cx} (hT : c.T.Ok c.P)
include hT
theorem mvO_sound {l : List Oper} {nd : Nat → Bool} {ex : List Nat} {F : FV} {Q : Exit → Act → World → Prop} {S : World → Prop} {m i d : Nat} {op : Op} {ty : TypeId} {pos : String} {af : Array Edge} {gd : Option (Nat × Bool)} {L : SL} {B : BL} {listed : Array Bool} {a : Act} {w : World} {K : SL → BL → Prop} (hsel : Region.noSelect l.toArray = true)
    (hoi : l.toArray[i]? = some ⟨some d, op, ty, pos, af, gd⟩) (hw : Region.wanted ⟨some d, op, ty, pos, af, gd⟩ (yielded l.toArray a.tmps) = true) (hr : i ∈ Region.ready .any l.toArray listed) (hfree : Region.free .any l.toArray listed i = true) (hnd : ∀ j, nd j = false → j ≠ i → ∃ f, depB l.toArray f j i = true) (hc : Closed l.toArray listed)
    (hSw : ∀ w, S w → WOk c.h0 F (exB ex B) w) (hSn : S w) (h : mvO c F ex d op L B K) (hD : Dn c L [] B a) (hS : Sx c B F w)
    (H : ∀ L' B' v, K L' B' → (∀ w, S w → WOk c.h0 F (exB ex B') w) → Dn c L' [] B' (a.put (some d) v) → Sx c B' F w → wpAnyS c.P l.toArray (panQ c Q) nd S m (listed.setIfInBounds i true) (a.put (some d) v) w) :
    wpAnyS c.P l.toArray (panQ c Q) nd S (m + 1) listed a w := by
  have go : ∀ (v : Value), (∀ w, S w → Pu c.P (fl L [] B) ⟨some d, op, ty, pos, af, none⟩ w v) → wpAnyS c.P l.toArray (panQ c Q) nd S m (listed.setIfInBounds i true) (a.put (some d) v) w → wpAnyS c.P l.toArray (panQ c Q) nd S (m + 1) listed a w := by
    intro v hpu h'
    refine wpAnyS_first (v := v) hoi hsel (fun ch a w h => ⟨h.1, by rw [← put_df a (some d) v]; exact h.2.1, h.2.2⟩) hnd m listed a w hc (Region.free_spec hoi hfree) hr ?_ hSn h'
    exact .inl ⟨hw, fun w hw => hpu w hw a.eval fun x _ u hu => hD.fr.ev hu⟩
  unfold mvO at h
  split at h
  · rename_i t x y
    obtain ⟨s, hs, h⟩ := rd1_sound h
    obtain ⟨s', hs', h⟩ := rd1_sound h
    have hρ : yes none → ∀ x s v, rdS L [] none x = some s → dvO (exB ex B) s = some v → ev (fl L [] B) x = some v := fun _ x s v h1 h2 => rdS_ev inv_nil (cx := none) (og := none) rfl yes_none h1 (exB_dv h2)
    obtain ⟨b, o, cs, h, hkn, hpu⟩ := ixG_sound (B := exB ex B) hT hρ hs hs' h
    obtain ⟨hl, hfl, h⟩ := fresh_sound h
    cases hd : Nat.blt d c.n with
    | false => rw [hd] at h; exact h.elim
    | true =>
      rw [hd] at h
      have hB' : Sx c ((d, .k none b o cs) :: B) F w := ⟨by rw [oes_k]; exact hS.st, bok_k hS.bk hkn⟩
      refine go (.pointer (some ⟨b, o, none⟩)) (fun w hw => hpu yes_none w (hSw w hw) _ _ _ _ _) (H _ _ _ h (fun w hw => ⟨(hSw w hw).vw, fun k b T cs hk => ?_⟩) ?_ hB')
      · refine (hSw w hw).own k b T cs ?_
        simp only [exB] at hk
        by_cases hkd : d = k
        · subst hkd; rw [lkA_eq] at hk; cases hk
        · rwa [lkA_ne hkd] at hk
      · refine Dn.cons (rr := some (.pointer (some ⟨b, o, none⟩))) (hD.fr.put hd _) inv_nil (fun t => ?_) (fun u hu => (Option.some.inj hu).symm)
        unfold kv
        simp only [lkA]
        by_cases ht : t = d
        · subst ht; simp [dvO, lkA_eq]
        · rw [beq_ne (Ne.symm ht), if_neg ht]
          simp only [cond_false]
          have := kv_fl (L := L) (I := []) (hfl (.k none b o cs)) t
          unfold kv at this
          simpa only [lkA] using this
  · cases hd : (isPure op && Nat.blt d c.n) with
    | false => rw [hd] at h; exact h.elim
    | true =>
      rw [hd] at h
      simp only [Bool.and_eq_true] at hd
      have hρ : yes none → ∀ x s v, rdS L [] none x = some s → dvO (exB ex B) s = some v → ev (fl L [] B) x = some v := fun _ x s v h1 h2 => rdS_ev inv_nil (cx := none) (og := none) rfl yes_none h1 (exB_dv h2)
      obtain ⟨s, v, hs, hv, hpu⟩ := pv_sound (L := fl L [] B) hT (exB_bok (ex := ex) hS.bk) hρ h
      obtain ⟨_, _, h⟩ := hasN_sound hs
      refine go v (fun w hw => hpu yes_none w (hSw w hw) _ _ _ _ _) (H _ _ _ h hSw ?_ hS)
      have hv' := exB_dv hv
      exact Dn.cons (rr := some v) (hD.fr.put hd.2 _) inv_nil (fun t => by
        unfold kv
        simp only [lkA]
        by_cases ht : t = d
        · subst ht; simp [hv']
        · rw [beq_ne (Ne.symm ht), if_neg ht]; rfl) (fun u hu => (Option.some.inj hu).symm)
theorem mvG_sound {l : List Oper} {nd : Nat → Bool} {ex : List Nat} {F : FV} {K : SL → BL → Prop} {Q : Exit → Act → World → Prop} {S : World → Prop} {k : Array Bool → Bool} {m : Nat} (hsel : Region.noSelect l.toArray = true) :
    ∀ (mv : List Nat) (L : SL) (B : BL) (listed : Array Bool) (a : Act) (w : World), chkM l.toArray mv listed k = true → (∀ i ∈ mv, ∀ j, nd j = false → j ≠ i → ∃ f, depB l.toArray f j i = true) → Closed l.toArray listed → (∀ w, S w → WOk c.h0 F (exB ex B) w) → S w →
      mvG c l F ex mv L B K → Dn c L [] B a → Sx c B F w →
      (∀ L' B' a' listed', K L' B' → k listed' = true → Closed l.toArray listed' → Dn c L' [] B' a' → Sx c B' F w → wpAnyS c.P l.toArray (panQ c Q) nd S m listed' a' w) → wpAnyS c.P l.toArray (panQ c Q) nd S (m + mv.length) listed a w
  | [], L, B, listed, a, w, hk, _, hc, _, _, h, hD, hS, H => H L B a listed h hk hc hD hS
  | i :: r, L, B, listed, a, w, hk, hnd, hc, hSw, hw, h, hD, hS, H => by
    simp only [chkM, Bool.and_eq_true] at hk
    obtain ⟨⟨hr, hfree⟩, hk⟩ := hk
    have hr : i ∈ Region.ready .any l.toArray listed := by simpa using hr
    have ih := fun L' B' a' hSw' h' hD' hS' => mvG_sound (ex := ex) hsel r L' B' (listed.setIfInBounds i true) a' w hk (fun i hi => hnd i (List.mem_cons_of_mem _ hi)) (hc.set hr) hSw' hw h' hD' hS' H
    unfold mvG at h
    split at h
    · rename_i d op ty pos af ho
      have hoi : l.toArray[i]? = some ⟨some d, op, ty, pos, af, none⟩ := by rw [nthV_eq] at ho; simpa using ho
      exact mvO_sound hT (m := m + r.length) hsel hoi (by simp [Region.wanted]) hr hfree (hnd i (List.mem_cons_self ..)) hc hSw hw h hD hS fun L' B' v h' hSw' hD' hS' => ih L' B' _ hSw' h' hD' hS'
    · rename_i d op ty pos af j b ho
      have hoi : l.toArray[i]? = some ⟨some d, op, ty, pos, af, some (j, b)⟩ := by rw [nthV_eq] at ho; simpa using ho
      obtain ⟨o, t, g, ho', hod, hgx, h⟩ := guardAt_sound h
      have hwt := wanted_of (o := ⟨some d, op, ty, pos, af, some (j, b)⟩) ho' hod (fun v hv => hD.fr.kv hv) hgx rfl
      cases hg : g with
      | true => exact mvO_sound hT (m := m + r.length) hsel hoi (hwt.trans hg) hr hfree (hnd i (List.mem_cons_self ..)) hc hSw hw (h.1 hg) hD hS fun L' B' v h' hSw' hD' hS' => ih L' B' _ hSw' h' hD' hS'
      | false =>
        have h2 := h.2 hg
        cases hd : Nat.blt d c.n with
        | false => rw [hd] at h2; exact h2.elim
        | true =>
          rw [hd] at h2
          have hD' : Dn c ((d, .v undef) :: L) [] B (a.put (some d) undef) := Dn.cons (rr := some undef) (hD.fr.put hd _) inv_nil (fun t => by
            unfold kv
            simp only [lkA]
            by_cases ht : t = d
            · subst ht; simp [dvO]
            · rw [beq_ne (Ne.symm ht), if_neg ht]; rfl) (fun u hu => (Option.some.inj hu).symm)
          exact wpAnyS_first (v := undef) hoi hsel (fun ch a w h => ⟨h.1, by rw [← put_df a (some d) undef]; exact h.2.1, h.2.2⟩) (hnd i (List.mem_cons_self ..)) (m + r.length) listed a w hc (Region.free_spec hoi hfree) hr (.inr ⟨hwt.trans hg, rfl⟩) hw (ih _ _ _ hSw h2 hD' hS)
    · exact h.elim
theorem tlP_sound {l : List Oper} {BS : BL} {F0 : FV} {K : KR} {Q : Exit → Act → World → Prop} {k : Array Bool → Bool} {m : Nat} (hmd : c.md = .wp) (hu : ∀ k b T cs, lkA BS k = some (.c b T cs) → (k, OB.c b T cs) ∈ BS)
    (H : ∀ L I B F a w listed, keepsB BS F0 B F → K L I B F → k listed = true → Closed l.toArray listed → Dn c L I B a → Sx c B F w → wpAnyS c.P l.toArray (panQ c Q) (fun _ => true) (WOk c.h0 F0 BS) m listed a w) :
    ∀ (rest : List Nat) (L : SL) (I : IL) (B : BL) (F : FV) (listed : Array Bool) (a : Act) (w : World), chkS l.toArray rest listed k = true → Closed l.toArray listed → keepsB BS F0 B F → tlP c l BS F0 rest L I B F K → Dn c L I B a → Sx c B F w → wpAnyS c.P l.toArray (panQ c Q) (fun _ => true) (WOk c.h0 F0 BS) (m + rest.length) listed a w
  | [], L, I, B, F, listed, a, w, hk, hc, hkb, h, hD, hS => H L I B F a w listed hkb h hk hc hD hS
  | j :: r, L, I, B, F, listed, a, w, hk, hc, hkb, h, hD, hS => by
    simp only [chkS, Bool.and_eq_true, decide_eq_true_eq] at hk
    unfold tlP at h
    split at h
    · rename_i o ho
      have hrd := hk.1
      have hoj : l.toArray[j]? = some o := by rw [nthV_eq] at ho; simpa using ho
      refine ⟨fun h0 => (by rw [hrd] at h0; cases h0), fun i hi => ?_⟩
      have hir := hi
      rw [hrd] at hi
      obtain rfl := List.mem_singleton.1 hi
      have ih := fun L I B F a w => tlP_sound hmd hu H r L I B F (listed.setIfInBounds i true) a w hk.2 (hc.set hir)
      have hrun := (runs_sound hT [o] L I B F h hD.inv).run (fun e a' w' => match e with
        | .normal => (true = true → WOk c.h0 F0 BS w') ∧ wpAnyS c.P l.toArray (panQ c Q) (fun _ => true) (WOk c.h0 F0 BS) (m + r.length) (listed.setIfInBounds i true) a' w'
        | e => panQ c Q e a' w') a w (fun L' I' B' F' a' w' hk' hD' hS' => ⟨fun _ => keepsB_wok hk'.1 hS' hu, ih _ _ _ _ _ _ hk'.1 hk'.2 hD' hS'⟩) (fun ch a w h1 h2 h3 => ⟨h1, h2, h3⟩) hD hS
      rw [hmd] at hrun
      simp only [wpM, wpList] at hrun
      unfold wpOp
      rw [hoj]
      simp only
      split
      · rename_i hw
        rw [if_pos hw] at hrun
        rcases hrun with hrun | ⟨h1, h2⟩
        · exact .inl (oper_wpQ (fun _ _ _ h => h) (fun ⟨a, w, h⟩ => ⟨a, w, h⟩) hrun)
        · exact .inr ⟨h1, let ⟨a, w, h⟩ := h2; ⟨a, w, h⟩⟩
      · rename_i hw
        rw [if_neg hw] at hrun
        exact hrun
    · exact h.elim
theorem plK_sound {l : List Oper} {ex : List Nat} {K : KR} {Q : Exit → Act → World → Prop} (hmd : c.md = .wp) (hn : NormOk c K Q) (hsel : Region.noSelect l.toArray = true) :
    ∀ (plan : List (List Nat × List Nat)) (L : SL) (I : IL) (B : BL) (F : FV) (listed : Array Bool) (a : Act) (w : World) (S : World → Prop), chkP l.toArray plan listed = true → Closed l.toArray listed → (∀ w, WOk c.h0 F (exB ex B) w → S w) → plK c l ex plan L I B F K → Dn c L I B a → Sx c B F w → wpAnyS c.P l.toArray (panQ c Q) (fun _ => true) S (planN plan) listed a w
  | [], L, I, B, F, listed, a, w, S, hk, hc, hSS, h, hD, hS => ⟨by simpa [chkP] using hk, hn L I B F a w h hD hS⟩
  | (mv, rest) :: p, L, I, B, F, listed, a, w, S, hk, hc, hSS, h, hD, hS => by
    unfold plK at h
    split at h
    · refine wpAnyS_weak hSS _ _ _ _ ?_
      unfold chkP at hk
      refine mvG_sound hT (F := F) (ex := ex) (S := WOk c.h0 F (exB ex B)) hsel mv L B listed a w hk (fun i _ j hj => by cases hj) hc (fun _ h => h) (exB_wok hS.wok) h hD hS fun L' B' a' listed' hK hk' hc' hD' hS' => ?_
      refine tlP_sound hT hmd (fun k b T cs h => exB_mem h) (fun L2 I2 B2 F2 a2 w2 listed2 hkb2 hK2 hk2 hc2 hD2 hS2 => ?_) rest L' [] B' F listed' a' w hk' hc' hK.1 hK.2 hD' hS'
      exact plK_sound hmd hn hsel p L2 I2 B2 F2 listed2 a2 w2 _ hk2 hc2 (fun w hw => keepsB_ex hkb2 hw) hK2 hD2 hS2
    · exact h.elim
omit hT in
theorem closed_no (ops : Array Oper) (n : Nat) : Closed ops (Array.replicate n false) := fun j oj _ hl => by
  rw [getD_replicate_false] at hl; cases hl
/-- **A region that draws its order, by turns**: `plan`: what is taken first, what comes in turn behind it, and so on; `ex`: own blocks of which nothing is read by what is taken first. -/
theorem regPh {i : Nat} {l : List Oper} (plan : List (List Nat × List Nat)) (ex : List Nat) {L : SL} {B : BL} {F : FV} {kn : KN} {kx : Nat → KN} {kr : KN}
    (h : plK c l ex plan L [] B F fun L I B F => pushK I L fun L => kn L B F)
    (hq : chkPh l plan = true := by kernel_rfl) (hmd : c.md = .wp := by rfl) : CP c (.region i ⟨l⟩ true) L B F kn kx kr := by
  simp only [chkPh, Bool.and_eq_true] at hq
  obtain ⟨⟨hsel, hlen⟩, hchk⟩ := hq
  have hlen := Nat.eq_of_beq_eq_true hlen
  refine ⟨fun Q a w hn _ _ hp hD hS => ?_⟩
  rw [hmd]
  refine wp_mono (wp_region_any (Q := panQ c Q) hT.mix (wpAny_of_S (nd := fun _ => true) (S := WOk c.h0 F (exB ex B)) _ _ _ _ ?_)) fun e a w he => ?_
  · have hS1 : Sx c B F { w with drawn := w.drawn + 1 } := hS.step (keep_drawn w)
    have e : l.toArray.size = planN plan := by rw [List.size_toArray]; omega
    rw [e]
    exact plK_sound hT hmd (push_ok hn) hsel plan L [] B F _ a _ _ (by rw [← e, List.size_toArray]; exact hchk) (closed_no _ _) (fun _ h => h) h hD hS1
  · cases e with
    | panic ch => exact hp ch a w he.1 he.2.1 he.2.2
    | _ => exact he
end reg
end Go.Dx
namespace Go.Proofs.YtpcgdhhndeanoaaGreatDoor
open Go Go.Dx Go.RowKit
def nowS (l : List Tok) (i : Nat) (bad : Bool) : Tok := if bad = true then t0 else l.getD i t0
def onS (l : List Tok) (i : Nat) (bad : Bool) (k : Int) (s : List UInt8) : Bool := decide ((nowS l i bad).k = k) && decide ((nowS l i bad).s = s)
def kindB (b : Int × List UInt8 × Int) : Int := if b.2.2 < 3 then 1 else 4
def hitB (l : List Tok) (i : Nat) (bad : Bool) (lev : Int) (b : Int × List UInt8 × Int) : Bool := decide (b.2.2 = lev) && onS l i bad (kindB b) b.2.1
/-- the op of two of a level that stands here; 0: none -/
def opS (l : List Tok) (i : Nat) (bad : Bool) (lev : Int) : Int := match binL.find? (hitB l i bad lev) with
  | some b => b.1
  | none => 0
theorem op_hit (l : List Tok) (i : Nat) (bad : Bool) (lev : Int) (k : Nat) (hk : k < 12) (hn : ∀ j, j < k → hitB l i bad lev (binL.getD j (0, [], 0)) = false) (hp : hitB l i bad lev (binL.getD k (0, [], 0)) = true) : opS l i bad lev = (binL.getD k (0, [], 0)).1 := by
  have e : binL.find? (hitB l i bad lev) = some (binL.getD k (0, [], 0)) := by
    rw [List.find?_eq_some_iff_getElem]
    refine ⟨hp, k, hk, by rw [getD_lt _ _ _ (show k < binL.length from hk)]; rfl, fun j hj => ?_⟩
    have := hn j hj
    simpa [List.getD, show j < binL.length by have : binL.length = 12 := rfl; omega] using this
  rw [opS, e]
theorem op_none (l : List Tok) (i : Nat) (bad : Bool) (lev : Int) (hn : ∀ j, j < 12 → hitB l i bad lev (binL.getD j (0, [], 0)) = false) : opS l i bad lev = 0 := by
  have e : binL.find? (hitB l i bad lev) = none := by
    rw [List.find?_eq_none]
    intro b hb
    obtain ⟨j, hj⟩ := List.mem_iff_getElem?.1 hb
    have hlt := (List.getElem?_eq_some_iff.1 hj).1
    have := hn j hlt
    simpa [List.getD, hj] using this
  rw [opS, e]
theorem op_pos : ∀ (k : Nat), k < 12 → (binL.getD k (0, [], 0)).1 ≠ 0
  | 0, _ | 1, _ | 2, _ | 3, _ | 4, _ | 5, _ | 6, _ | 7, _ | 8, _ | 9, _ | 10, _ | 11, _ => by decide
  | n + 12, h => by omega
theorem op_some {l : List Tok} {i : Nat} {bad : Bool} {lev : Int} (h : opS l i bad lev ≠ 0) : ∃ b ∈ binL, hitB l i bad lev b = true ∧ opS l i bad lev = b.1 := by
  unfold opS at h ⊢
  split at h
  · rename_i b hb
    exact ⟨b, List.mem_of_find?_eq_some hb, List.find?_some hb, rfl⟩
  · exact absurd rfl h
theorem op_i64 (l : List Tok) (i : Nat) (bad : Bool) (lev : Int) : i64 (opS l i bad lev) := by
  by_cases h : opS l i bad lev = 0
  · rw [h]; unfold i64; omega
  · obtain ⟨b, hb, _, e⟩ := op_some h
    rw [e]
    have : ∀ b ∈ binL, 0 ≤ b.1 ∧ b.1 ≤ 100 := by decide
    have := this b hb
    unfold i64; omega
theorem on_lt {l : List Tok} {i : Nat} {bad : Bool} {k : Int} {s : List UInt8} (h : onS l i bad k s = true) (hk : k ≠ 0) : i < l.length ∧ bad = false := by
  simp only [onS, Bool.and_eq_true, decide_eq_true_eq] at h
  have h1 := h.1
  unfold nowS at h1
  split at h1
  · exact absurd h1.symm hk
  · rename_i hb
    refine ⟨?_, by simpa using hb⟩
    rcases Nat.lt_or_ge i l.length with hlt | hge
    · exact hlt
    · simp [List.getD, List.getElem?_eq_none hge] at h1
      exact absurd h1.symm hk
theorem op_lt {l : List Tok} {i : Nat} {bad : Bool} {lev : Int} (h : opS l i bad lev ≠ 0) : i < l.length ∧ bad = false := by
  obtain ⟨b, _, hh, _⟩ := op_some h
  simp only [hitB, Bool.and_eq_true] at hh
  refine on_lt hh.2 ?_
  unfold kindB; split <;> decide
theorem now_lt {l : List Tok} {i : Nat} {bad : Bool} (h : (nowS l i bad).k ≠ 0) : i < l.length ∧ bad = false := by
  unfold nowS at h
  split at h
  · exact absurd rfl h
  · rename_i hb
    refine ⟨?_, by simpa using hb⟩
    rcases Nat.lt_or_ge i l.length with hlt | hge
    · exact hlt
    · simp [List.getD, List.getElem?_eq_none hge] at h
      exact absurd rfl h
abbrev RdR := Ex × Nat × Bool
def mustS (l : List Tok) (p : Nat × Bool) (k : Int) (s : List UInt8) : Nat × Bool := (if onS l p.1 p.2 k s = true then p.1 + 1 else p.1, p.2 || !onS l p.1 p.2 k s)
def wordV (s : List UInt8) : Option Val := if s = [110, 117, 108, 108] then some v0 else if s = [102, 97, 108, 115, 101] then some ⟨3, 0, []⟩ else if s = [116, 114, 117, 101] then some ⟨3, 1, []⟩ else none
def atomS (rd : Nat → Bool → RdR) (l : List Tok) (i : Nat) (bad : Bool) : RdR :=
  if onS l i bad 4 [40] = true then ((rd (i + 1) bad).1, mustS l (rd (i + 1) bad).2 4 [41])
  else if (nowS l i bad).k = 2 then (.mk 1 ⟨1, (nowS l i bad).n, []⟩ [] [], i + 1, bad)
  else if (nowS l i bad).k = 3 then (.mk 1 ⟨2, 0, (nowS l i bad).s⟩ [] [], i + 1, bad)
  else if (nowS l i bad).k = 1 then (if (wordV (nowS l i bad).s).isSome = true then (.mk 1 ((wordV (nowS l i bad).s).getD v0) [] [], i + 1, bad) else if nameOk (nowS l i bad).s = true then (.mk 2 v0 (nowS l i bad).s [], i + 1, bad) else (ex0, i, true))
  else (ex0, i, true)
def thenT : List UInt8 := [116, 104, 101, 110]
def elseT : List UInt8 := [101, 108, 115, 101]
def branchS (rd : Nat → Bool → RdR) (l : List Tok) (i : Nat) (bad : Bool) : RdR :=
  (.mk 16 v0 [] [(rd i bad).1, (rd (mustS l (rd i bad).2 1 thenT).1 (mustS l (rd i bad).2 1 thenT).2).1,
    (rd (mustS l (rd (mustS l (rd i bad).2 1 thenT).1 (mustS l (rd i bad).2 1 thenT).2).2 1 elseT).1 (mustS l (rd (mustS l (rd i bad).2 1 thenT).1 (mustS l (rd i bad).2 1 thenT).2).2 1 elseT).2).1],
    (rd (mustS l (rd (mustS l (rd i bad).2 1 thenT).1 (mustS l (rd i bad).2 1 thenT).2).2 1 elseT).1 (mustS l (rd (mustS l (rd i bad).2 1 thenT).1 (mustS l (rd i bad).2 1 thenT).2).2 1 elseT).2).2)
def loopS (rd : Nat → Bool → RdR) (l : List Tok) (lev : Nat) : Nat → Ex → Nat → Bool → RdR
  | 0, x, i, bad => (x, i, bad)
  | n + 1, x, i, bad => if opS l i bad lev = 0 then (x, i, bad) else
    if lev ≠ 3 ∧ (rd (i + 1) bad).2.2 = false then loopS rd l lev n (.mk (opS l i bad lev) v0 [] [x, (rd (i + 1) bad).1]) (rd (i + 1) bad).2.1 (rd (i + 1) bad).2.2
    else (.mk (opS l i bad lev) v0 [] [x, (rd (i + 1) bad).1], (rd (i + 1) bad).2)
def ifT : List UInt8 := [105, 102]
def rdF (l : List Tok) : Nat → Nat → Nat → Bool → RdR
  | 0, _, i, _ => (ex0, i, true)
  | f + 1, lev, i, bad =>
    if bad = true then (ex0, i, bad)
    else if lev = 0 then (if onS l i bad 1 ifT = true then branchS (rdF l f 0) l (i + 1) bad else rdF l f 1 i bad)
    else if lev = 6 ∧ onS l i bad 4 [45] = true then (.mk 3 v0 [] [(rdF l f 6 (i + 1) bad).1], (rdF l f 6 (i + 1) bad).2)
    else if 6 ≤ lev then atomS (rdF l f 0) l i bad
    else loopS (rdF l f (lev + 1)) l lev (l.length + 1) (rdF l f (lev + 1) i bad).1 (rdF l f (lev + 1) i bad).2.1 (rdF l f (lev + 1) i bad).2.2
/-- how much is to be had: fuel -/
def needS (l : List Tok) (lev i : Nat) : Nat := 10 * (l.length - i) + (9 - lev)
def Ge (l : List Tok) (i : Nat) (r : RdR) : Prop := i ≤ r.2.1 ∧ r.2.1 ≤ l.length
theorem must_ge {l : List Tok} {p : Nat × Bool} {k : Int} {s : List UInt8} (hk : k ≠ 0) (h : p.1 ≤ l.length) : p.1 ≤ (mustS l p k s).1 ∧ (mustS l p k s).1 ≤ l.length := by
  unfold mustS
  by_cases hh : onS l p.1 p.2 k s = true
  · rw [if_pos hh]
    have := (on_lt hh hk).1
    exact ⟨by show p.1 ≤ p.1 + 1; omega, by show p.1 + 1 ≤ _; omega⟩
  · rw [if_neg hh]; exact ⟨Nat.le_refl _, h⟩
theorem loop_ge {rd : Nat → Bool → RdR} {l : List Tok} {lev : Nat} (hr : ∀ i bad, i ≤ l.length → Ge l i (rd i bad)) : ∀ (n : Nat) (x : Ex) (i : Nat) (bad : Bool), i ≤ l.length → Ge l i (loopS rd l lev n x i bad)
  | 0, x, i, bad, h => ⟨Nat.le_refl _, h⟩
  | n + 1, x, i, bad, h => by
    unfold loopS
    by_cases h0 : opS l i bad lev = 0
    · rw [if_pos h0]; exact ⟨Nat.le_refl _, h⟩
    · rw [if_neg h0]
      have hlt := (op_lt h0).1
      have h1 := hr (i + 1) bad (by omega)
      unfold Ge at h1
      split
      · have h2 := loop_ge (lev := lev) hr n (.mk (opS l i bad lev) v0 [] [x, (rd (i + 1) bad).1]) (rd (i + 1) bad).2.1 (rd (i + 1) bad).2.2 h1.2
        exact ⟨Nat.le_trans (Nat.le_trans (Nat.le_succ i) h1.1) h2.1, h2.2⟩
      · exact ⟨Nat.le_trans (Nat.le_succ i) h1.1, h1.2⟩
theorem atom_ge {rd : Nat → Bool → RdR} {l : List Tok} (hr : ∀ i bad, i ≤ l.length → Ge l i (rd i bad)) {i : Nat} {bad : Bool} (h : i ≤ l.length) : Ge l i (atomS rd l i bad) := by
  unfold atomS
  have hn : (nowS l i bad).k ≠ 0 → i + 1 ≤ l.length := fun hk => (now_lt hk).1
  split
  · rename_i hh
    have hlt := (on_lt hh (by decide)).1
    have h1 := hr (i + 1) bad (by omega)
    unfold Ge at h1
    have h2 := must_ge (l := l) (p := (rd (i + 1) bad).2) (k := 4) (s := [41]) (by decide) h1.2
    exact ⟨Nat.le_trans (by omega) h2.1, h2.2⟩
  split
  · rename_i hk; exact ⟨Nat.le_succ _, hn (by rw [hk]; decide)⟩
  split
  · rename_i hk; exact ⟨Nat.le_succ _, hn (by rw [hk]; decide)⟩
  split
  · rename_i hk
    split
    · exact ⟨Nat.le_succ _, hn (by rw [hk]; decide)⟩
    split
    · exact ⟨Nat.le_succ _, hn (by rw [hk]; decide)⟩
    · exact ⟨Nat.le_refl _, h⟩
  · exact ⟨Nat.le_refl _, h⟩
theorem branch_ge {rd : Nat → Bool → RdR} {l : List Tok} (hr : ∀ i bad, i ≤ l.length → Ge l i (rd i bad)) {i : Nat} {bad : Bool} (h : i ≤ l.length) : Ge l i (branchS rd l i bad) := by
  have h1 := hr i bad h
  unfold Ge at h1
  have h2 := must_ge (l := l) (p := (rd i bad).2) (k := 1) (s := thenT) (by decide) h1.2
  have h3 := hr _ (mustS l (rd i bad).2 1 thenT).2 h2.2
  unfold Ge at h3
  have h4 := must_ge (l := l) (p := (rd (mustS l (rd i bad).2 1 thenT).1 (mustS l (rd i bad).2 1 thenT).2).2) (k := 1) (s := elseT) (by decide) h3.2
  have h5 := hr _ (mustS l (rd (mustS l (rd i bad).2 1 thenT).1 (mustS l (rd i bad).2 1 thenT).2).2 1 elseT).2 h4.2
  exact ⟨Nat.le_trans (Nat.le_trans h1.1 h2.1) (Nat.le_trans h3.1 (Nat.le_trans h4.1 h5.1)), h5.2⟩
theorem rd_ge (l : List Tok) : ∀ (f lev i : Nat) (bad : Bool), i ≤ l.length → Ge l i (rdF l f lev i bad)
  | 0, lev, i, bad, h => ⟨Nat.le_refl _, h⟩
  | f + 1, lev, i, bad, h => by
    have ih := rd_ge l f
    unfold rdF
    split
    · exact ⟨Nat.le_refl _, h⟩
    split
    · split
      · rename_i hh
        have := branch_ge (bad := bad) (fun i bad h => ih 0 i bad h) (show i + 1 ≤ l.length from (on_lt hh (by decide)).1)
        exact ⟨Nat.le_trans (Nat.le_succ i) this.1, this.2⟩
      · exact ih 1 i bad h
    split
    · rename_i hh
      have := ih 6 (i + 1) bad (on_lt hh.2 (by decide)).1
      exact ⟨Nat.le_trans (Nat.le_succ i) this.1, this.2⟩
    split
    · exact atom_ge (fun i bad h => ih 0 i bad h) h
    · have h1 := ih (lev + 1) i bad h
      have h2 := loop_ge (lev := lev) (fun i bad h => ih (lev + 1) i bad h) (l.length + 1) (rdF l f (lev + 1) i bad).1 (rdF l f (lev + 1) i bad).2.1 (rdF l f (lev + 1) i bad).2.2 h1.2
      exact ⟨Nat.le_trans h1.1 h2.1, h2.2⟩
/-- the node's own numbers -/
def Nd (x : Ex) : Prop := i64 x.op ∧ valB x.v
theorem i64_s {n : Int} (h : -1000 ≤ n ∧ n ≤ 1000) : i64 n := by unfold i64; omega
theorem vb_s {k n : Int} {s : List UInt8} (h : -1000 ≤ k ∧ k ≤ 1000) (h2 : -1000 ≤ n ∧ n ≤ 1000) : valB ⟨k, n, s⟩ := ⟨i64_s h, i64_s h2⟩
theorem vb0 : valB v0 := vb_s (by omega) (by omega)
theorem nd0 : Nd ex0 := ⟨i64_s (show _ ≤ (0 : Int) ∧ (0 : Int) ≤ _ by omega), vb0⟩
theorem nd_v0 {op : Int} {s : List UInt8} {l : List Ex} (h : i64 op) : Nd (.mk op v0 s l) := ⟨h, vb0⟩
def TokN (l : List Tok) : Prop := ∀ t ∈ l, i64 t.n
theorem now_n {l : List Tok} (hl : TokN l) (i : Nat) (bad : Bool) : i64 (nowS l i bad).n := by
  unfold nowS
  split
  · exact i64_s (show _ ≤ (0 : Int) ∧ (0 : Int) ≤ _ by omega)
  · rcases Nat.lt_or_ge i l.length with h | h
    · rw [getD_lt l i t0 h]; exact hl _ (List.getElem_mem h)
    · simp only [List.getD, List.getElem?_eq_none h]; exact i64_s (show _ ≤ (0 : Int) ∧ (0 : Int) ≤ _ by omega)
theorem word_b (s : List UInt8) : valB ((wordV s).getD v0) := by
  unfold wordV
  split
  · exact vb0
  split
  · exact vb_s (by omega) (by omega)
  split
  · exact vb_s (by omega) (by omega)
  · exact vb0
theorem loop_nd {rd : Nat → Bool → RdR} {l : List Tok} {lev : Nat} : ∀ (n : Nat) (x : Ex) (i : Nat) (bad : Bool), Nd x → Nd (loopS rd l lev n x i bad).1
  | 0, x, i, bad, h => h
  | n + 1, x, i, bad, h => by
    unfold loopS
    split
    · exact h
    split
    · exact loop_nd n _ _ _ (nd_v0 (op_i64 l i bad lev))
    · exact nd_v0 (op_i64 l i bad lev)
theorem atom_nd {rd : Nat → Bool → RdR} {l : List Tok} (hl : TokN l) (hr : ∀ i bad, Nd (rd i bad).1) (i : Nat) (bad : Bool) : Nd (atomS rd l i bad).1 := by
  unfold atomS
  split
  · exact hr _ _
  split
  · exact ⟨i64_s (show _ ≤ (1 : Int) ∧ (1 : Int) ≤ _ by omega), i64_s (show _ ≤ (1 : Int) ∧ (1 : Int) ≤ _ by omega), now_n hl i bad⟩
  split
  · exact ⟨i64_s (show _ ≤ (1 : Int) ∧ (1 : Int) ≤ _ by omega), vb_s (by omega) (by omega)⟩
  split
  · split
    · exact ⟨i64_s (show _ ≤ (1 : Int) ∧ (1 : Int) ≤ _ by omega), word_b _⟩
    split
    · exact nd_v0 (i64_s (by omega))
    · exact nd0
  · exact nd0
theorem rd_nd {l : List Tok} (hl : TokN l) : ∀ (f lev i : Nat) (bad : Bool), Nd (rdF l f lev i bad).1
  | 0, lev, i, bad => nd0
  | f + 1, lev, i, bad => by
    have ih := rd_nd hl f
    unfold rdF
    split
    · exact nd0
    split
    · split
      · exact nd_v0 (i64_s (by omega))
      · exact ih 1 i bad
    split
    · exact nd_v0 (i64_s (by omega))
    split
    · exact atom_nd hl (fun i bad => ih 0 i bad) i bad
    · exact loop_nd _ _ _ _ (ih _ _ _)
theorem XL.rx {h : View} {ad : Option Addr} {cap : Nat} {e : Ex} (hx : XL h ad cap e.l) (hn : Nd e) : RX h (exC e.op e.v e.s (.slice ad e.l.length cap)) e := by
  obtain ⟨c, h1, h2⟩ := hx
  cases e with
  | mk op v s l => exact .mk op v s l ad cap c hn (by simpa using h1) h2
end Go.Proofs.YtpcgdhhndeanoaaGreatDoor
namespace Go.Proofs.YtpcgdhhndeanoaaGreatDoor
open Go Go.Dx Go.RowKit
/-- what a reading from a token on tells -/
def readT (l : List Tok) (i lev : Nat) : Ex × Nat × Int := if (rdF l (needS l lev i) lev i false).2.2 = true then (ex0, (rdF l (needS l lev i) lev i false).2.1, 11) else ((rdF l (needS l lev i) lev i false).1, (rdF l (needS l lev i) lev i false).2.1, 0)
/-- what a text is read as -/
def parseT (s : List UInt8) : Ex × Int × Int :=
  if (lexS s).2.2 ≠ 0 then (ex0, (lexS s).2.1, (lexS s).2.2)
  else if (readT (lexS s).1 0 0).2.1 < (lexS s).1.length then (ex0, ((lexS s).1.getD (readT (lexS s).1 0 0).2.1 t0).p, 11)
  else if (readT (lexS s).1 0 0).2.2 ≠ 0 then (ex0, s.length, (readT (lexS s).1 0 0).2.2)
  else if 12 < deepS (readT (lexS s).1 0 0).1 then (ex0, 0, 12) else ((readT (lexS s).1 0 0).1, 0, 0)
end Go.Proofs.YtpcgdhhndeanoaaGreatDoor
namespace Go.Proofs.YtpcgdhhndeanoaaGreatDoor
open Go Go.Dx Go.RowKit
/-! numerals -/
theorem dec_lo {u : Nat} (h : u < 10) : Lib.decDigits u = [UInt8.ofNat (48 + u)] := Lib.decDigits_one h
theorem dec_hi {u : Nat} (h : ¬ u < 10) : Lib.decDigits u = Lib.decDigits (u / 10) ++ [UInt8.ofNat (48 + u % 10)] := by rw [Lib.decDigits, dif_neg h]
theorem itoa_pos {n : Int} (h : ¬ n < 0) : Lib.itoa n = Lib.decDigits n.natAbs := by
  rw [Lib.itoa, if_neg h, show n.toNat = n.natAbs by omega]
theorem itoa_neg' {n : Int} (h : n < 0) : Lib.itoa n = 45 :: Lib.decDigits n.natAbs := by rw [Lib.itoa, if_pos h]
theorem itoa_hi {n : Int} (h : n < -9 ∨ 9 < n) : Lib.itoa n = Lib.itoa (n.tdiv 10) ++ [UInt8.ofNat (48 + (n.natAbs % 10))] := by
  have e : (n.tdiv 10).natAbs = n.natAbs / 10 := by rw [Int.natAbs_tdiv]; rfl
  have q : ∀ m : Nat, (m : Int).tdiv 10 = ((m / 10 : Nat) : Int) := fun m => by rw [Int.tdiv_eq_ediv_of_nonneg (by omega)]; rfl
  by_cases hn : n < 0
  · have : n.tdiv 10 < 0 := by
      obtain ⟨m, rfl⟩ : ∃ m : Nat, n = -(m : Int) := ⟨n.natAbs, by omega⟩
      rw [Int.neg_tdiv, q]; omega
    rw [itoa_neg' hn, itoa_neg' this, e, dec_hi (by omega)]; rfl
  · have : ¬ n.tdiv 10 < 0 := by
      obtain ⟨m, rfl⟩ : ∃ m : Nat, n = (m : Int) := ⟨n.natAbs, by omega⟩
      rw [q]; omega
    rw [itoa_pos hn, itoa_pos this, e, dec_hi (by omega)]
theorem digit_val {m : Nat} (h : m < 10) : (UInt8.ofNat (48 + m)).toNat = 48 + m := byte_lo (by omega)
/-- the number of a numeral -/
def decV (l : List UInt8) : Nat := l.foldl (fun a b => a * 10 + (b.toNat - 48)) 0
theorem dec_back : ∀ u : Nat, decV (Lib.decDigits u) = u := by
  intro u
  induction u using Nat.strongRecOn with
  | _ u ih =>
    by_cases h : u < 10
    · rw [dec_lo h]; simp only [decV, List.foldl_cons, List.foldl_nil, digit_val h]; omega
    · have := ih (u / 10) (by omega)
      rw [dec_hi h]
      simp only [decV, List.foldl_append, List.foldl_cons, List.foldl_nil] at this ⊢
      rw [this, digit_val (by omega)]; omega
theorem dec_head : ∀ u : Nat, ∃ m r, m < 10 ∧ Lib.decDigits u = UInt8.ofNat (48 + m) :: r := by
  intro u
  induction u using Nat.strongRecOn with
  | _ u ih =>
    by_cases h : u < 10
    · exact ⟨u, [], h, dec_lo h⟩
    · obtain ⟨m, r, hm, hr⟩ := ih (u / 10) (by omega)
      exact ⟨m, _, hm, by rw [dec_hi h, hr]; rfl⟩
theorem dec_inj {u v : Nat} (h : Lib.decDigits u = Lib.decDigits v) : u = v := by rw [← dec_back u, h, dec_back]
theorem byte_ne {m n : Nat} (hm : m < 256) (hn : n < 256) (h : m ≠ n) : UInt8.ofNat m ≠ UInt8.ofNat n := fun e => h (by rw [← byte_lo hm, e, byte_lo hn])
theorem itoa_inj {m n : Int} (h : Lib.itoa m = Lib.itoa n) : m = n := by
  by_cases hm : m < 0 <;> by_cases hn : n < 0
  · rw [itoa_neg' hm, itoa_neg' hn] at h
    have := dec_inj (List.cons.inj h).2; omega
  · rw [itoa_neg' hm, itoa_pos hn] at h
    obtain ⟨d, r, hd, hr⟩ := dec_head n.natAbs
    rw [hr] at h
    have := congrArg UInt8.toNat (List.cons.inj h).1
    rw [digit_val hd] at this
    have e : (45 : UInt8).toNat = 45 := rfl
    omega
  · rw [itoa_pos hm, itoa_neg' hn] at h
    obtain ⟨d, r, hd, hr⟩ := dec_head m.natAbs
    rw [hr] at h
    have := congrArg UInt8.toNat (List.cons.inj h).1
    rw [digit_val hd] at this
    have e : (45 : UInt8).toNat = 45 := rfl
    omega
  · rw [itoa_pos hm, itoa_pos hn] at h
    have := dec_inj h; omega
/-- how a numeral begins -/
theorem itoa_first (n : Int) : ∃ b r, Lib.itoa n = b :: r ∧ (b.toNat = 45 ∨ (48 ≤ b.toNat ∧ b.toNat ≤ 57)) := by
  by_cases hn : n < 0
  · exact ⟨45, _, itoa_neg' hn, .inl rfl⟩
  · obtain ⟨d, r, hd, hr⟩ := dec_head n.natAbs
    exact ⟨_, r, by rw [itoa_pos hn, hr], .inr (by rw [digit_val hd]; omega)⟩
/-! quoted texts -/
def qB (b : UInt8) : List UInt8 := if b = 34 ∨ b = 92 then [92, b] else [b]
theorem quS_eq (s : List UInt8) : quS s = 34 :: (s.flatMap qB) ++ [34] := rfl
theorem qB_len (b : UInt8) : 1 ≤ (qB b).length ∧ (qB b).length ≤ 2 := by unfold qB; split <;> simp
theorem flat_len (s : List UInt8) : (s.flatMap qB).length ≤ 2 * s.length := by
  induction s with
  | nil => simp
  | cons b s ih =>
    have := (qB_len b).2
    simp only [List.flatMap_cons, List.length_append, List.length_cons]; omega
theorem flat_snoc (s : List UInt8) (k : Nat) (h : k < s.length) : (s.take (k + 1)).flatMap qB = (s.take k).flatMap qB ++ qB (s.getD k 0) := by
  rw [List.take_add_one, List.getElem?_eq_getElem h, List.flatMap_append]
  congr 1
  simp [h]
theorem qB_inj {b b' : UInt8} {r r' : List UInt8} (h : qB b ++ r = qB b' ++ r') : b = b' ∧ r = r' := by
  unfold qB at h
  split at h <;> split at h
  · have := List.cons.inj h
    have h2 := List.cons.inj this.2
    exact ⟨h2.1, h2.2⟩
  · rename_i h1 h2
    have := (List.cons.inj h).1
    exact absurd (.inr this.symm) h2
  · rename_i h1 h2
    have := (List.cons.inj h).1
    exact absurd (.inr this) h1
  · have := List.cons.inj h
    exact ⟨this.1, this.2⟩
theorem flat_inj : ∀ {s t : List UInt8}, s.flatMap qB = t.flatMap qB → s = t
  | [], [], _ => rfl
  | [], b :: t, h => by
    have := congrArg List.length h
    have h2 := (qB_len b).1
    simp only [List.flatMap_nil, List.length_nil, List.flatMap_cons, List.length_append] at this; omega
  | b :: s, [], h => by
    have := congrArg List.length h
    have h2 := (qB_len b).1
    simp only [List.flatMap_nil, List.length_nil, List.flatMap_cons, List.length_append] at this; omega
  | b :: s, b' :: t, h => by
    simp only [List.flatMap_cons] at h
    obtain ⟨rfl, h2⟩ := qB_inj h
    rw [flat_inj h2]
theorem quS_inj {s t : List UInt8} (h : quS s = quS t) : s = t := by
  rw [quS_eq, quS_eq] at h
  have h1 := (List.cons.inj h).2
  have := (List.append_inj' h1 rfl).1
  exact flat_inj this
/-! a value's text -/
def nullS : List UInt8 := [110, 117, 108, 108]
def trueS : List UInt8 := [116, 114, 117, 101]
def falseS : List UInt8 := [102, 97, 108, 115, 101]
def boolS (b : Bool) : List UInt8 := if b then trueS else falseS
def txS (v : Val) : List UInt8 := if v.k = 1 then Lib.itoa v.n else if v.k = 2 then quS v.s else if v.k = 3 then boolS (decide (v.n = 1)) else nullS
def txR (v : Val) : List UInt8 × Int := if valOk v then (txS v, 0) else ([], 2)
/-- what a text begins with -/
def kindVT (b : Nat) : Int := if b = 110 then 0 else if b = 34 then 2 else if b = 116 ∨ b = 102 then 3 else 1
theorem tx_first {v : Val} (h : valOk v = true) : ∃ b r, txS v = b :: r ∧ kindVT b.toNat = v.k := by
  obtain ⟨k, n, s⟩ := v
  rcases valOk_cases h with ⟨h1, _⟩ | ⟨h1, _⟩ | ⟨h1, _⟩ | ⟨h1, _, h2⟩
  · simp only at h1; subst h1; exact ⟨110, _, rfl, rfl⟩
  · simp only at h1; subst h1
    obtain ⟨b, r, h3, h4⟩ := itoa_first n
    refine ⟨b, r, h3, ?_⟩
    unfold kindVT
    rw [if_neg (by omega), if_neg (by omega), if_neg (by omega)]
  · simp only at h1; subst h1; exact ⟨34, _, rfl, rfl⟩
  · simp only at h1 h2; subst h1
    rcases h2 with rfl | rfl
    · exact ⟨102, _, rfl, rfl⟩
    · exact ⟨116, _, rfl, rfl⟩
theorem tx_inj {a b : Val} (ha : valOk a = true) (hb : valOk b = true) (h : txS a = txS b) : a = b := by
  obtain ⟨x, r, h1, h2⟩ := tx_first ha
  obtain ⟨y, q, h3, h4⟩ := tx_first hb
  rw [h1, h3] at h
  have hk : a.k = b.k := by rw [← h2, ← h4, (List.cons.inj h).1]
  have h : txS a = txS b := by rw [h1, h3, h]
  obtain ⟨k, n, s⟩ := a
  obtain ⟨k', n', s'⟩ := b
  simp only at hk
  subst hk
  rcases valOk_cases ha with ⟨g1, g2, g3⟩ | ⟨g1, g3⟩ | ⟨g1, g2, g3⟩ | ⟨g1, g3, g2⟩ <;> rcases valOk_cases hb with ⟨q1, q2, q3⟩ | ⟨q1, q3⟩ | ⟨q1, q2, q3⟩ | ⟨q1, q3, q2⟩ <;> simp only at g1 q1 <;> try omega
  · simp only at g2 g3 q2 q3; subst g2 g3 q2 q3; rfl
  · simp only at g3 q3; subst g1 g3 q3
    have : Lib.itoa n = Lib.itoa n' := h
    rw [itoa_inj this]
  · simp only at g2 q2; subst g1 g2 q2
    have : quS s = quS s' := h
    rw [quS_inj this]
  · simp only at g2 g3 q2 q3; subst g1 g3 q3
    have e : boolS (decide (n = 1)) = boolS (decide (n' = 1)) := h
    rcases g2 with rfl | rfl <;> rcases q2 with rfl | rfl <;> first | rfl | (exfalso; revert e; decide)
/-! the order -/
theorem cmpV_three (a b : Val) : cmpV a b = -1 ∨ cmpV a b = 0 ∨ cmpV a b = 1 := by
  by_cases h : lessV a b
  · exact .inl (cmp_less h)
  · by_cases he : a = b
    · subst he; exact .inr (.inl (cmp_same a))
    · exact .inr (.inr (cmp_more h he))
theorem cmpI_swap (x y : Int) : cmpI y x = -cmpI x y := by unfold cmpI; split <;> split <;> first | rfl | omega
theorem cmpV_swap (a b : Val) : cmpV b a = -cmpV a b := by
  unfold cmpV
  rw [cmpI_swap a.k b.k, cmpI_swap a.n b.n, cmp_swap a.s b.s]
  by_cases h1 : cmpI a.k b.k = 0
  · by_cases h2 : cmpI a.n b.n = 0
    · simp [h1, h2]
    · simp [h1, h2]
  · simp [h1]
theorem cmpV_zero {a b : Val} : cmpV a b = 0 ↔ a = b := by
  constructor
  · intro h
    by_cases hl : lessV a b
    · rw [cmp_less hl] at h; cases h
    · by_cases he : a = b
      · exact he
      · rw [cmp_more hl he] at h; cases h
  · rintro rfl; exact cmp_same a
theorem less_of {a b : Val} (h : cmpV a b < 0) : lessV a b := by
  by_cases hl : lessV a b
  · exact hl
  · by_cases he : a = b
    · subst he; rw [cmp_same] at h; omega
    · rw [cmp_more hl he] at h; omega
theorem less_trans {a b c : Val} (h : lessV a b) (k : lessV b c) : lessV a c := by
  unfold lessV at *
  rcases h with h | ⟨h, h2⟩ <;> rcases k with k | ⟨k, k2⟩
  · exact .inl (by omega)
  · exact .inl (by omega)
  · exact .inl (by omega)
  · refine .inr ⟨by omega, ?_⟩
    rcases h2 with h2 | ⟨h2, h3⟩ <;> rcases k2 with k2 | ⟨k2, k3⟩
    · exact .inl (by omega)
    · exact .inl (by omega)
    · exact .inl (by omega)
    · exact .inr ⟨by omega, cmp_trans _ _ _ h3 k3⟩
theorem cmpV_trans (a b c : Val) : 0 < cmpV a b ∨ 0 < cmpV b c ∨ cmpV a c < 0 ∨ (cmpV a b = 0 ∧ cmpV b c = 0 ∧ cmpV a c = 0) := by
  rcases cmpV_three a b with h | h | h
  · rcases cmpV_three b c with k | k | k
    · exact .inr (.inr (.inl (by rw [cmp_less (less_trans (b := b) (less_of (by omega)) (less_of (by omega)))]; decide)))
    · have := cmpV_zero.1 k; subst this; exact .inr (.inr (.inl (by rw [h]; decide)))
    · exact .inr (.inl (by omega))
  · have := cmpV_zero.1 h; subst this
    rcases cmpV_three a c with k | k | k
    · exact .inr (.inr (.inl (by omega)))
    · exact .inr (.inr (.inr ⟨h, k, k⟩))
    · exact .inr (.inl (by omega))
  · exact .inl (by omega)
end Go.Proofs.YtpcgdhhndeanoaaGreatDoor
namespace Go.Proofs.YtpcgdhhndeanoaaGreatDoor
open Go Go.Dx Go.RowKit
def levS (op : Int) : Int := if op = 16 then 0 else if op = 3 then 6 else if op = 1 ∨ op = 2 then 7 else (findS op).2.2
/-- how loosely the parts may stand -/
def msS (op : Int) : List Int := if op = 3 then [6] else if op = 16 then [0, 0, 0] else [if (findS op).2.2 = 3 then 4 else (findS op).2.2, (findS op).2.2 + 1]
def ifW : List UInt8 := [105, 102, 32]
def thenW : List UInt8 := [32, 116, 104, 101, 110, 32]
def elseW : List UInt8 := [32, 101, 108, 115, 101, 32]
def bodyS (op : Int) (v : Val) (s : List UInt8) (c : List (List UInt8)) : List UInt8 :=
  if op = 1 then (txR v).1 else if op = 2 then s else if op = 3 then 45 :: c.getD 0 [] else if op = 16 then ifW ++ c.getD 0 [] ++ thenW ++ c.getD 1 [] ++ elseW ++ c.getD 2 []
  else c.getD 0 [] ++ (32 :: (findS op).2.1 ++ [32]) ++ c.getD 1 []
mutual
def putS : Ex → Int → List UInt8
  | .mk op v s l, m => if levS op < m then 40 :: bodyS op v s (putL l (msS op)) ++ [41] else bodyS op v s (putL l (msS op))
def putL : List Ex → List Int → List (List UInt8)
  | [], _ => []
  | _ :: _, [] => []
  | x :: l, m :: ms => putS x m :: putL l ms
end
def bodyX (x : Ex) : List UInt8 := bodyS x.op x.v x.s (putL x.l (msS x.op))
theorem put_eq (x : Ex) (m : Int) : putS x m = if levS x.op < m then 40 :: bodyX x ++ [41] else bodyX x := by
  cases x with
  | mk op v s l => rw [putS]; rfl
theorem putL_get : ∀ (l : List Ex) (ms : List Int) (i : Nat), i < l.length → i < ms.length → (putL l ms).getD i [] = putS (l.getD i ex0) (ms.getD i 0)
  | [], _, _, h, _ => by simp at h
  | _ :: _, [], _, _, h => by simp at h
  | x :: l, m :: ms, 0, _, _ => by simp [putL]
  | x :: l, m :: ms, i + 1, h, h2 => by
    have := putL_get l ms i (by simpa using h) (by simpa using h2)
    simp only [putL, List.getD_cons_succ]; exact this
theorem put_lv {x : Ex} {m : Int} (h : ¬ levS x.op < m) : putS x m = bodyX x := by rw [put_eq, if_neg h]
theorem find_cases (op : Int) : findS op = (0, [], 0) ∨ findS op ∈ binL := by
  unfold findS
  cases h : binL.find? fun b => decide (b.1 = op) with
  | none => exact .inl rfl
  | some b => exact .inr (List.mem_of_find?_eq_some h)
theorem find_lo (op : Int) : 0 ≤ (findS op).2.2 ∧ (findS op).2.2 ≤ 5 ∧ (findS op).2.1.length ≤ 3 := by
  have : ∀ b ∈ binL, 0 ≤ b.2.2 ∧ b.2.2 ≤ 5 ∧ b.2.1.length ≤ 3 := by decide
  rcases find_cases op with h | h
  · rw [h]; decide
  · exact this _ h
theorem lev_lo (op : Int) : 0 ≤ levS op ∧ levS op ≤ 7 := by
  have := find_lo op
  unfold levS
  split
  · omega
  split
  · omega
  split
  · omega
  · omega
theorem bodyX_0 (x : Ex) : putS x 0 = bodyX x := put_lv (by have := lev_lo x.op; omega)
end Go.Proofs.YtpcgdhhndeanoaaGreatDoor
namespace Go.Proofs.YtpcgdhhndeanoaaGreatDoor
open Go Go.Dx Go.RowKit
theorem tx_len {v : Val} (hb : valB v) (h : valOk v = true) : 0 < (txR v).1.length ∧ (txR v).1.length ≤ 82 := by
  rw [show txR v = (txS v, 0) by rw [txR, if_pos h]]
  refine ⟨?_, ?_⟩
  · obtain ⟨b, r, e, _⟩ := tx_first h
    show 0 < (txS v).length
    rw [e]; simp
  · show (txS v).length ≤ 82
    unfold txS
    split
    · have := Lib.itoa_length_le v.n hb.2.1 hb.2.2; omega
    split
    · rw [quS_eq]
      have := flat_len v.s
      have := valOk_40 h
      simp only [List.length_append, List.length_cons, List.length_nil]; omega
    split
    · unfold boolS; split <;> decide
    · decide
theorem name_len {s : List UInt8} (h : nameOk s = true) : 0 < s.length ∧ s.length ≤ 16 := by
  simp only [nameOk, Bool.and_eq_true, Bool.not_eq_true', decide_eq_false_iff_not, decide_eq_true_eq] at h
  exact ⟨List.length_pos_iff.2 h.1, by omega⟩
theorem cnt_op {x : Ex} (hr : rightS x = true) (h1 : ¬ x.op = 1) (h2 : ¬ x.op = 2) (h3 : ¬ x.op = 3) (h4 : ¬ x.op = 16) : 4 ≤ x.op ∧ x.op ≤ 15 := by
  have := hr
  rw [right_eq] at this
  simp only [Bool.and_eq_true, decide_eq_true_eq] at this
  have := this.1
  unfold cntS at this
  rw [if_neg (by omega), if_neg h3, if_neg h4] at this
  split at this
  · assumption
  · omega
theorem len_2 {α : Type} {l : List α} (h : l.length = 2) : ∃ a b, l = [a, b] := by
  match l, h with
  | [a, b], _ => exact ⟨a, b, rfl⟩
theorem len_3 {α : Type} {l : List α} (h : l.length = 3) : ∃ a b c, l = [a, b, c] := by
  match l, h with
  | [a, b, c], _ => exact ⟨a, b, c, rfl⟩
/-- what a right expression is -/
theorem right_parts {x : Ex} (hr : rightS x = true) : (x.op = 1 ∧ x.l = [] ∧ x.s = [] ∧ valOk x.v = true ∧ (x.v.k = 1 → 0 ≤ x.v.n)) ∨ (x.op = 2 ∧ x.l = [] ∧ x.v = v0 ∧ nameOk x.s = true) ∨
    (x.op = 3 ∧ x.v = v0 ∧ x.s = [] ∧ ∃ a, x.l = [a] ∧ rightS a = true) ∨ (x.op = 16 ∧ x.v = v0 ∧ x.s = [] ∧ ∃ a b c, x.l = [a, b, c] ∧ rightS a = true ∧ rightS b = true ∧ rightS c = true) ∨
    ((4 ≤ x.op ∧ x.op ≤ 15) ∧ x.v = v0 ∧ x.s = [] ∧ ∃ a b, x.l = [a, b] ∧ rightS a = true ∧ rightS b = true) := by
  have h := hr
  rw [right_eq] at h
  simp only [Bool.and_eq_true, decide_eq_true_eq] at h
  obtain ⟨hc, h⟩ := h
  by_cases h1 : x.op = 1
  · rw [if_pos h1] at h
    rw [cntS, if_pos (.inl h1)] at hc
    simp only [Bool.and_eq_true, decide_eq_true_eq, Bool.or_eq_true, Bool.not_eq_true', decide_eq_false_iff_not] at h
    exact .inl ⟨h1, List.length_eq_zero_iff.1 (by omega), h.1.1, h.1.2, fun hk => h.2.resolve_left (fun hn => hn hk)⟩
  rw [if_neg h1] at h
  by_cases h2 : x.op = 2
  · rw [if_pos h2] at h
    rw [cntS, if_pos (.inr h2)] at hc
    simp only [Bool.and_eq_true, decide_eq_true_eq] at h
    exact .inr (.inl ⟨h2, List.length_eq_zero_iff.1 (by omega), h.1, h.2⟩)
  rw [if_neg h2] at h
  simp only [Bool.and_eq_true, decide_eq_true_eq, List.all_eq_true] at h
  obtain ⟨⟨hv, hs⟩, ha⟩ := h
  by_cases h3 : x.op = 3
  · rw [cntS, if_neg (by omega), if_pos h3] at hc
    obtain ⟨a, e⟩ := List.length_eq_one_iff.1 (show x.l.length = 1 by omega)
    exact .inr (.inr (.inl ⟨h3, hv, hs, a, e, ha a (by rw [e]; simp)⟩))
  by_cases h4 : x.op = 16
  · rw [cntS, if_neg (by omega), if_neg h3, if_pos h4] at hc
    obtain ⟨a, b, c, e⟩ := len_3 (show x.l.length = 3 by omega)
    exact .inr (.inr (.inr (.inl ⟨h4, hv, hs, a, b, c, e, ha a (by rw [e]; simp), ha b (by rw [e]; simp), ha c (by rw [e]; simp)⟩)))
  have h5 := cnt_op hr h1 h2 h3 h4
  rw [cntS, if_neg (by omega), if_neg h3, if_neg h4, if_pos h5] at hc
  obtain ⟨a, b, e⟩ := len_2 (show x.l.length = 2 by omega)
  exact .inr (.inr (.inr (.inr ⟨h5, hv, hs, a, b, e, ha a (by rw [e]; simp), ha b (by rw [e]; simp)⟩)))
theorem body_1 {x : Ex} (h : x.op = 1) : bodyX x = (txR x.v).1 := by rw [bodyX, bodyS, if_pos h]
theorem body_2 {x : Ex} (h : x.op = 2) : bodyX x = x.s := by rw [bodyX, bodyS, if_neg (by omega), if_pos h]
theorem body_3 {x a : Ex} (h : x.op = 3) (hl : x.l = [a]) : bodyX x = 45 :: putS a 6 := by rw [bodyX, bodyS, if_neg (by omega), if_neg (by omega), if_pos h, hl, msS, if_pos h]; rfl
theorem body_16 {x a b c : Ex} (h : x.op = 16) (hl : x.l = [a, b, c]) : bodyX x = ifW ++ putS a 0 ++ thenW ++ putS b 0 ++ elseW ++ putS c 0 := by
  rw [bodyX, bodyS, if_neg (by omega), if_neg (by omega), if_neg (by omega), if_pos h, hl, msS, if_neg (by omega), if_pos h]; rfl
theorem body_b {x a b : Ex} (h : 4 ≤ x.op ∧ x.op ≤ 15) (hl : x.l = [a, b]) : bodyX x = putS a (if (findS x.op).2.2 = 3 then 4 else (findS x.op).2.2) ++ (32 :: (findS x.op).2.1 ++ [32]) ++ putS b ((findS x.op).2.2 + 1) := by
  rw [bodyX, bodyS, if_neg (by omega), if_neg (by omega), if_neg (by omega), if_neg (by omega), hl, msS, if_neg (by omega), if_neg (by omega)]; rfl
theorem put_long (x : Ex) (m : Int) : (putS x m).length ≤ (bodyX x).length + 2 ∧ (bodyX x).length ≤ (putS x m).length := by
  rw [put_eq]; split
  · simp only [List.length_append, List.length_cons, List.length_nil]; omega
  · omega
theorem body_pos {x : Ex} (hb : valB x.v) (hr : rightS x = true) : bodyX x ≠ [] := by
  apply List.length_pos_iff.1
  rcases right_parts hr with ⟨h, _, _, hv, _⟩ | ⟨h, _, _, hv⟩ | ⟨h, _, _, a, hl, _⟩ | ⟨h, _, _, a, b, c, hl, _⟩ | ⟨h, _, _, a, b, hl, _⟩
  · rw [body_1 h]; exact (tx_len hb hv).1
  · rw [body_2 h]; exact (name_len hv).1
  · rw [body_3 h hl]; simp
  · rw [body_16 h hl]; simp [ifW]
  · rw [body_b h hl]; simp only [List.length_append, List.length_cons, List.length_nil]; omega
theorem deep_1 {x a : Ex} (hl : x.l = [a]) : deepS x = deepS a + 1 := by rw [deep_eq, hl]; simp [deepL]
theorem put_len {h : View} {cs : List Value} {x : Ex} (hx : RX h cs x) : rightS x = true → ∀ m, (putS x m).length ≤ 100 * 4 ^ deepS x := by
  induction hx with
  | mk op v s l ad cap c hb hs hc ih =>
    intro hr m
    have h1 := (put_long (.mk op v s l) m).1
    have hd := deep_eq (.mk op v s l)
    have hd : deepS (.mk op v s l) = deepL 0 l + 1 := hd
    have hp : 100 * 4 ^ deepS (.mk op v s l) = 4 * (100 * 4 ^ deepL 0 l) := by rw [hd, Nat.pow_succ]; omega
    have hK : 100 ≤ 100 * 4 ^ deepL 0 l := by have := Nat.one_le_pow (deepL 0 l) 4 (by decide); omega
    have kid : ∀ y ∈ l, rightS y = true → ∀ m, (putS y m).length ≤ 100 * 4 ^ deepL 0 l := fun y hy hr m => by
      obtain ⟨i, hi⟩ := List.mem_iff_getElem?.1 hy
      have h2 := ih i y hi hr m
      have h3 := Nat.pow_le_pow_right (show 0 < 4 by decide) ((deepL_ge l 0).2 y hy)
      omega
    rw [hp]
    generalize 100 * 4 ^ deepL 0 l = K at kid hK ⊢
    refine Nat.le_trans h1 ?_
    rcases right_parts hr with ⟨h, _, _, hv, _⟩ | ⟨h, _, _, hv⟩ | ⟨h, _, _, a, hl, ra⟩ | ⟨h, _, _, a, b, c, hl, ra, rb, rc⟩ | ⟨h, _, _, a, b, hl, ra, rb⟩
    · rw [body_1 h]; have := (tx_len hb.2 hv).2; show (txR v).1.length + 2 ≤ _; omega
    · rw [body_2 h]; have := (name_len hv).2; omega
    · have hl' : l = [a] := hl
      rw [body_3 h hl]; have := kid a (by rw [hl']; simp) ra 6; simp only [List.length_cons]; omega
    · have hl' : l = [a, b, c] := hl
      have k1 := kid a (by rw [hl']; simp) ra 0
      have k2 := kid b (by rw [hl']; simp) rb 0
      have k3 := kid c (by rw [hl']; simp) rc 0
      rw [body_16 h hl]; simp only [List.length_append, ifW, thenW, elseW, List.length_cons, List.length_nil]; omega
    · have hl' : l = [a, b] := hl
      have k1 := kid a (by rw [hl']; simp) ra (if (findS (Ex.mk op v s l).op).2.2 = 3 then 4 else (findS (Ex.mk op v s l).op).2.2)
      have k2 := kid b (by rw [hl']; simp) rb ((findS (Ex.mk op v s l).op).2.2 + 1)
      have k3 := find_lo (Ex.mk op v s l).op
      rw [body_b h hl]; simp only [List.length_append, List.length_cons, List.length_nil]; omega
/-- what an expression's text is -/
def textT (x : Ex) : List UInt8 × Int := if rightS x = false then ([], 2) else if 12 < deepS x then ([], 12) else if 200 < (putS x 0).length then ([], 5) else (putS x 0, 0)
end Go.Proofs.YtpcgdhhndeanoaaGreatDoor
namespace Go.Proofs.YtpcgdhhndeanoaaGreatDoor
open Go Go.Dx Go.RowKit
def rightT (t : Tok) : Bool :=
  if t.k = 1 then decide (t.n = 0) && !decide (t.s = []) && decide ((wordN t.s : Int) = (t.s.length : Int)) && decide ((t.s.length : Int) ≤ 16)
  else if t.k = 2 then decide (t.n ≥ 0) && decide (t.s = [])
  else if t.k = 3 then decide (t.n = 0) && plainS t.s
  else if t.k = 4 then decide (t.n = 0) && marksL.contains t.s else false
def tkS (t : Tok) : List UInt8 := if t.k = 2 then Lib.itoa t.n else if t.k = 3 then quS t.s else t.s
def tkR (t : Tok) : List UInt8 × Int := if rightT t then (tkS t, 0) else ([], 2)
def joS (l : List Tok) : List UInt8 := Lib.join (l.map tkS) [32]
def joR (l : List Tok) : List UInt8 × Int := if l.all rightT then (joS l, 0) else ([], 2)
theorem right_1 {t : Tok} (h : t.k = 1) : rightT t = (decide (t.n = 0) && !decide (t.s = []) && decide ((wordN t.s : Int) = (t.s.length : Int)) && decide ((t.s.length : Int) ≤ 16)) := by rw [rightT, if_pos h]
theorem right_2 {t : Tok} (h : t.k = 2) : rightT t = (decide (t.n ≥ 0) && decide (t.s = [])) := by rw [rightT, if_neg (by omega), if_pos h]
theorem right_3 {t : Tok} (h : t.k = 3) : rightT t = (decide (t.n = 0) && plainS t.s) := by rw [rightT, if_neg (by omega), if_neg (by omega), if_pos h]
theorem right_4 {t : Tok} (h : t.k = 4) : rightT t = (decide (t.n = 0) && marksL.contains t.s) := by rw [rightT, if_neg (by omega), if_neg (by omega), if_neg (by omega), if_pos h]
theorem right_0 {t : Tok} (h1 : ¬ t.k = 1) (h2 : ¬ t.k = 2) (h3 : ¬ t.k = 3) (h4 : ¬ t.k = 4) : rightT t = false := by rw [rightT, if_neg h1, if_neg h2, if_neg h3, if_neg h4]
theorem tkR_ok {t : Tok} (h : rightT t = true) : tkR t = (tkS t, 0) := by rw [tkR, if_pos h]
theorem tkR_no {t : Tok} (h : rightT t = false) : tkR t = ([], 2) := by rw [tkR, h]; rfl
theorem tkS_len {t : Tok} (h : rightT t = true) (hn : I64 t.n) : (tkS t).length ≤ 100 := by
  unfold tkS
  split
  · have := Lib.itoa_length_le t.n hn.1 hn.2; omega
  · split
    · rename_i h3
      have hp : plainS t.s = true := by rw [right_3 h3] at h; simp only [Bool.and_eq_true] at h; exact h.2
      have := plain_40 hp
      rw [quS_eq]
      have := flat_len t.s
      simp only [List.length_append, List.length_cons, List.length_nil]; omega
    · rename_i h2 h3
      by_cases h1 : t.k = 1
      · rw [right_1 h1] at h; simp only [Bool.and_eq_true, decide_eq_true_eq] at h; omega
      · by_cases h4 : t.k = 4
        · rw [right_4 h4] at h
          simp only [Bool.and_eq_true, List.contains_eq_mem, decide_eq_true_eq] at h
          have : ∀ m ∈ marksL, m.length ≤ 2 := by decide
          have := this _ h.2; omega
        · rw [right_0 h1 h2 h3 h4] at h; cases h
/-! joined -/
theorem jo_one (t : Tok) : joS [t] = tkS t := Lib.join_one _ _
theorem joinT_snoc (x : List UInt8) (r : List (List UInt8)) (y : List UInt8) : Lib.join (x :: r ++ [y]) [32] = Lib.join (x :: r) [32] ++ [32] ++ y := by
  rw [List.cons_append, Lib.join_cons, Lib.join_cons]
  simp [Lib.joinTail]
theorem jo_snoc (l : List Tok) (h : l ≠ []) (t : Tok) : joS (l ++ [t]) = joS l ++ [32] ++ tkS t := by
  match l, h with
  | x :: r, _ =>
    have := joinT_snoc (tkS x) (r.map tkS) (tkS t)
    unfold joS
    rw [List.map_append, List.map_cons, List.map_singleton]
    exact this
theorem jo_len : ∀ (l : List Tok), (∀ t ∈ l, rightT t = true ∧ I64 t.n) → (joS l).length ≤ 101 * l.length
  | [], _ => by simp [joS, Lib.join, List.intercalate]
  | [t], h => by rw [jo_one]; have := tkS_len (h t (by simp)).1 (h t (by simp)).2; simp; omega
  | t :: u :: l, h => by
    have ih := jo_len (u :: l) fun x hx => h x (by simp [List.mem_cons] at hx ⊢; exact .inr hx)
    have ht := tkS_len (h t (by simp)).1 (h t (by simp)).2
    have e : joS (t :: u :: l) = tkS t ++ ([32] ++ joS (u :: l)) := by
      unfold joS
      rw [List.map_cons, List.map_cons, Lib.join_cons, Lib.join_cons]
      simp [Lib.joinTail]
    rw [e]
    simp only [List.length_append, List.length_cons, List.length_nil] at ih ⊢
    omega
theorem joR_no {l : List Tok} {k : Nat} (hk : k < l.length) (h : rightT (l.getD k t0) = false) : joR l = ([], 2) := by
  rw [joR, if_neg]
  rw [List.all_eq_true]
  intro hh
  have := hh _ (getD_mem l k t0 hk)
  rw [h] at this; cases this
theorem joR_ok {l : List Tok} (h : ∀ j, j < l.length → rightT (l.getD j t0) = true) : joR l = (joS l, 0) := by
  rw [joR, if_pos]
  rw [List.all_eq_true]
  intro t ht
  obtain ⟨j, hj, rfl⟩ := List.mem_iff_getElem.1 ht
  have := h j hj
  rwa [getD_lt l j t0 hj] at this
theorem take_right {l : List Tok} {k : Nat} (h : ∀ j, j < k → rightT (l.getD j t0) = true) (hn : ∀ t ∈ l, I64 t.n) : ∀ t ∈ l.take k, rightT t = true ∧ I64 t.n := by
  intro t ht
  obtain ⟨j, ⟨hj, hl⟩, rfl⟩ := mem_takeD t0 ht
  exact ⟨h j hj, hn _ (getD_mem l j t0 hl)⟩
end Go.Proofs.YtpcgdhhndeanoaaGreatDoor
namespace Go.Proofs.YtpcgdhhndeanoaaGreatDoor
open Go Go.Dx Go.RowKit
/-- what may stand behind a token -/
def Tail (r : List UInt8) : Prop := r = [] ∨ (∃ q, r = 32 :: q) ∨ ∃ q, r = 41 :: q
theorem getD_app {α : Type} (A X : List α) (d : α) : (A ++ X).getD A.length d = X.getD 0 d := by
  simp [List.getD, List.getElem?_append_right]
theorem getD_app' {α : Type} (A X : List α) (j : Nat) (d : α) : (A ++ X).getD (A.length + j) d = X.getD j d := by
  simp [List.getD, List.getElem?_append_right]
theorem sp_word : isWord 32 = false := by decide +kernel
theorem sp_dig : isDig 32 = false := by decide +kernel
theorem cl_word : isWord 41 = false := by decide +kernel
theorem cl_dig : isDig 41 = false := by decide +kernel
theorem tw_tail (p : UInt8 → Bool) (hp : p 32 = false) (hp2 : p 41 = false) : ∀ (s r : List UInt8), s.all p = true → Tail r → (s ++ r).takeWhile p = s
  | [], r, _, h => by
    rcases h with rfl | ⟨q, rfl⟩ | ⟨q, rfl⟩
    · rfl
    · simp [List.takeWhile_cons, hp]
    · simp [List.takeWhile_cons, hp2]
  | b :: s, r, ha, h => by
    simp only [List.all_cons, Bool.and_eq_true] at ha
    rw [List.cons_append, List.takeWhile_cons_of_pos (by simpa using ha.1), tw_tail p hp hp2 s r ha.2 h]
theorem tw_all (p : UInt8 → Bool) : ∀ s : List UInt8, (s.takeWhile p).length = s.length → s.all p = true
  | [], _ => rfl
  | b :: s, h => by
    rw [List.takeWhile_cons] at h
    cases hb : p b
    · rw [hb] at h; simp at h
    · rw [hb] at h
      rw [List.all_cons, hb, Bool.true_and]
      exact tw_all p s (by simpa using h)
theorem word_all {s : List UInt8} (h : s ≠ []) (hw : wordN s = s.length) : isLet (s.getD 0 0) = true ∧ s.all isWord = true := by
  have h0 : 0 < s.length := List.length_pos_iff.2 h
  cases hl : isLet (s.getD 0 0)
  · rw [wordN_zero s (.inr hl)] at hw; omega
  · rw [wordN_pos s h hl] at hw
    exact ⟨rfl, tw_all isWord s hw⟩
theorem one_name {s r : List UInt8} (h : s ≠ []) (hw : wordN s = s.length) (hl : s.length ≤ 16) (hr : Tail r) : oneS (s ++ r) = .ok ⟨1, s, 0, 0⟩ s.length := by
  obtain ⟨h1, h2⟩ := word_all h hw
  have e0 : (s ++ r).getD 0 0 = s.getD 0 0 := by
    match s, h with
    | b :: s, _ => rfl
  have hw2 : wordN (s ++ r) = s.length := by
    rw [wordN_pos _ (by simp [h]) (by rw [e0]; exact h1), tw_tail isWord sp_word cl_word s r h2 hr]
  rw [one_let (by rw [e0]; exact h1), nameS, hw2, if_neg (by omega)]
  congr 1
  rw [List.take_append_of_le_length (Nat.le_refl _), List.take_length]
/-! numbers -/
theorem dig_of {m : Nat} (h : m < 10) : isDig (UInt8.ofNat (48 + m)) = true := by
  have := digit_val h
  simp [isDig]; omega
theorem dec_all : ∀ u : Nat, (Lib.decDigits u).all isDig = true := by
  intro u
  induction u using Nat.strongRecOn with
  | _ u ih =>
    by_cases h : u < 10
    · rw [dec_lo h, List.all_cons, dig_of h]; rfl
    · rw [dec_hi h, List.all_append, ih _ (by omega), List.all_cons, dig_of (Nat.mod_lt u (by decide : 0 < 10))]; rfl
theorem num_snoc (l : List UInt8) (b : UInt8) : numF (l ++ [b]) = numStep (numF l) b := by simp [numF, List.foldl_append]
theorem num_dec : ∀ u : Nat, u ≤ 9223372036854775807 → numF (Lib.decDigits u) = some u := by
  intro u
  induction u using Nat.strongRecOn with
  | _ u ih =>
    intro hu
    by_cases h : u < 10
    · rw [dec_lo h]
      have := digit_val h
      simp only [numF, List.foldl_cons, List.foldl_nil, numStep, Option.bind_some, this]
      rw [if_neg (by omega)]; congr 1; omega
    · have := digit_val (Nat.mod_lt u (by decide : 0 < 10))
      rw [dec_hi h, num_snoc, ih (u / 10) (by omega) (by omega), numStep, Option.bind_some, this, if_neg (by omega)]
      congr 1; omega
theorem dec_lead : ∀ u : Nat, 1 < (Lib.decDigits u).length → ∃ b r, Lib.decDigits u = b :: r ∧ b.toNat ≠ 48 := by
  intro u
  induction u using Nat.strongRecOn with
  | _ u ih =>
    intro hl
    by_cases h : u < 10
    · rw [dec_lo h] at hl; simp at hl
    · rw [dec_hi h]
      by_cases h2 : u / 10 < 10
      · rw [dec_lo h2]
        refine ⟨_, _, rfl, ?_⟩
        have := digit_val h2; omega
      · obtain ⟨b, r, e, hb⟩ := ih (u / 10) (by omega) (by
          rw [dec_hi h2, List.length_append]
          have : Lib.decDigits (u / 10 / 10) ≠ [] := by
            obtain ⟨m, r, _, e⟩ := dec_head (u / 10 / 10)
            rw [e]; simp
          have := List.length_pos_iff.2 this
          simp; omega)
        exact ⟨b, r ++ _, by rw [e]; rfl, hb⟩
theorem isLet_dig {b : UInt8} (h : isDig b = true) : isLet b = false := by
  have := dig_b h
  rw [isLet_ref]
  simp; omega
theorem one_num {n : Int} (h0 : 0 ≤ n) (hn : I64 n) {r : List UInt8} (hr : Tail r) : oneS (Lib.itoa n ++ r) = .ok ⟨2, [], n, 0⟩ (Lib.itoa n).length := by
  have hn2 := hn.2
  rw [itoa_pos (by omega)]
  obtain ⟨m, q, hm, e⟩ := dec_head n.natAbs
  have hall := dec_all n.natAbs
  have e0 : (Lib.decDigits n.natAbs ++ r).getD 0 0 = UInt8.ofNat (48 + m) := by rw [e]; rfl
  have hd : digN (Lib.decDigits n.natAbs ++ r) = (Lib.decDigits n.natAbs).length := by unfold digN; rw [tw_tail isDig sp_dig cl_dig _ r hall hr]
  rw [one_dig (by rw [e0]; exact isLet_dig (dig_of hm)) (by rw [e0]; exact dig_of hm), numS, hd, if_neg, List.take_append_of_le_length (Nat.le_refl _), List.take_length, num_dec _ (by omega)]
  · simp only [Res.ok.injEq, Tok.mk.injEq, true_and, and_true]
    omega
  · rintro ⟨h1, h2⟩
    obtain ⟨b, q', e', hb⟩ := dec_lead _ h1
    have : (Lib.decDigits n.natAbs ++ r).getD 0 0 = b := by rw [e']; rfl
    rw [this] at h2; omega
/-! texts -/
theorem bt_app (P X : List UInt8) : bt (P ++ X) P.length = ((X.getD 0 0).toNat : Int) := by unfold bt; rw [getD_app]
theorem text_back : ∀ (s P acc r : List UInt8), (∀ b ∈ s, 32 ≤ b.toNat ∧ b.toNat ≤ 126) → textG (P ++ (s.flatMap qB ++ 34 :: r)) P.length acc = if 40 < (acc ++ s).length then .err 5 else .ok ⟨3, acc ++ s, 0, 0⟩ (P.length + (s.flatMap qB).length + 1)
  | [], P, acc, r, _ => by
    have hlt : P.length < (P ++ (List.flatMap qB [] ++ 34 :: r)).length := by simp
    have hb : bt (P ++ (List.flatMap qB [] ++ 34 :: r)) P.length = 34 := by rw [bt_app]; rfl
    by_cases h : 40 < acc.length
    · rw [tx_big hlt hb h, List.append_nil, if_pos h]
    · rw [tx_end hlt hb h, List.append_nil, if_neg h]; simp
  | b :: s, P, acc, r, hp => by
    have hb := hp b (by simp)
    have ih := fun P acc => text_back s P acc r fun x hx => hp x (by simp [hx])
    have ea : acc ++ b :: s = (acc ++ [b]) ++ s := by simp
    by_cases hq : b = 34 ∨ b = 92
    · have e : List.flatMap qB (b :: s) ++ 34 :: r = 92 :: b :: (s.flatMap qB ++ 34 :: r) := by rw [List.flatMap_cons, qB, if_pos hq]; simp
      have e2 : P ++ 92 :: b :: (s.flatMap qB ++ 34 :: r) = (P ++ [92, b]) ++ (s.flatMap qB ++ 34 :: r) := by simp
      have hlt : P.length < (P ++ 92 :: b :: (s.flatMap qB ++ 34 :: r)).length := by simp
      have h1 : bt (P ++ 92 :: b :: (s.flatMap qB ++ 34 :: r)) P.length = 92 := by rw [bt_app]; rfl
      have h2 : (P ++ 92 :: b :: (s.flatMap qB ++ 34 :: r)).getD (P.length + 1) 0 = b := by rw [getD_app']; rfl
      have h3 : bt (P ++ 92 :: b :: (s.flatMap qB ++ 34 :: r)) (P.length + 1) = (b.toNat : Int) := by unfold bt; rw [h2]
      rw [e, tx_esc hlt (by rw [h1]; decide) h1 (by
        rw [h3]
        rintro (h | ⟨h4, h5⟩)
        · simp at h
        · rcases hq with rfl | rfl
          · exact h4 rfl
          · exact h5 rfl), h2, e2]
      have := ih (P ++ [92, b]) (acc ++ [b])
      rw [show (P ++ [92, b]).length = P.length + 2 by simp] at this
      rw [this, ← ea]
      split
      · rfl
      · congr 1
        rw [List.flatMap_cons, qB, if_pos hq]; simp; omega
    · have e : List.flatMap qB (b :: s) ++ 34 :: r = b :: (s.flatMap qB ++ 34 :: r) := by rw [List.flatMap_cons, qB, if_neg hq]; simp
      have e2 : P ++ b :: (s.flatMap qB ++ 34 :: r) = (P ++ [b]) ++ (s.flatMap qB ++ 34 :: r) := by simp
      have hlt : P.length < (P ++ b :: (s.flatMap qB ++ 34 :: r)).length := by simp
      have h1 : bt (P ++ b :: (s.flatMap qB ++ 34 :: r)) P.length = (b.toNat : Int) := by rw [bt_app]; rfl
      have h2 : (P ++ b :: (s.flatMap qB ++ 34 :: r)).getD P.length 0 = b := by rw [getD_app]; rfl
      have n34 : b.toNat ≠ 34 := fun h => hq (.inl (UInt8.toNat_inj.1 h))
      have n92 : b.toNat ≠ 92 := fun h => hq (.inr (UInt8.toNat_inj.1 h))
      rw [e, tx_ch hlt (by rw [h1]; omega) (by rw [h1]; omega) (by rw [h1]; omega), h2, e2]
      have := ih (P ++ [b]) (acc ++ [b])
      rw [show (P ++ [b]).length = P.length + 1 by simp] at this
      rw [this, ← ea]
      split
      · rfl
      · congr 1
        rw [List.flatMap_cons, qB, if_neg hq]; simp; omega
theorem plain_bytes {s : List UInt8} (h : plainS s = true) : ∀ b ∈ s, 32 ≤ b.toNat ∧ b.toNat ≤ 126 := by
  intro b hb
  simp only [plainS, Bool.and_eq_true, List.all_eq_true, decide_eq_true_eq] at h
  have := h.2 b hb; omega
theorem one_text {s r : List UInt8} (h : plainS s = true) : oneS (quS s ++ r) = .ok ⟨3, s, 0, 0⟩ (quS s).length := by
  have h40 := plain_40 h
  have e : quS s ++ r = [34] ++ (s.flatMap qB ++ 34 :: r) := by rw [quS_eq]; simp
  have e0 : ([34] ++ (s.flatMap qB ++ 34 :: r) : List UInt8).getD 0 0 = 34 := rfl
  rw [e, one_txt (by rw [e0]; decide +kernel) (by rw [e0]; decide +kernel) (by unfold bt; rw [e0]; rfl), textS]
  have := text_back s [34] [] r (plain_bytes h)
  rw [show ([34] : List UInt8).length = 1 from rfl] at this
  rw [this, if_neg (by simp; omega), quS_eq]
  congr 1
  simp; omega
/-! marks -/
theorem one_mk {s r : List UInt8} (h : s ∈ marksL) (hr : Tail r) : oneS (s ++ r) = .ok ⟨4, s, 0, 0⟩ s.length := by
  have key : ∀ s ∈ marksL, isLet (s.getD 0 0) = false ∧ isDig (s.getD 0 0) = false ∧ ¬ bt s 0 = 34 ∧ s ≠ [] := by decide +kernel
  obtain ⟨k1, k2, k3, k4⟩ := key s h
  have e0 : (s ++ r).getD 0 0 = s.getD 0 0 := by
    match s, k4 with
    | b :: s, _ => rfl
  rw [one_mark (by rw [e0]; exact k1) (by rw [e0]; exact k2) (by unfold bt; rw [e0]; exact k3)]
  simp only [marksL, List.mem_cons, List.not_mem_nil, or_false] at h
  rcases hr with rfl | ⟨q, rfl⟩ | ⟨q, rfl⟩
  · rcases h with rfl | rfl | rfl | rfl | rfl | rfl | rfl | rfl | rfl | rfl | rfl | rfl | rfl | rfl | rfl | rfl <;> simp [markG, marksL, pre]
  · rcases h with rfl | rfl | rfl | rfl | rfl | rfl | rfl | rfl | rfl | rfl | rfl | rfl | rfl | rfl | rfl | rfl <;> simp [markG, marksL, pre]
  · rcases h with rfl | rfl | rfl | rfl | rfl | rfl | rfl | rfl | rfl | rfl | rfl | rfl | rfl | rfl | rfl | rfl <;> simp [markG, marksL, pre]
/-! any token -/
def bare (t : Tok) : Tok := { t with p := 0 }
theorem one_tk {t : Tok} (h : rightT t = true) (hn : I64 t.n) {r : List UInt8} (hr : Tail r) : oneS (tkS t ++ r) = .ok (bare t) (tkS t).length := by
  obtain ⟨k, s, n, p⟩ := t
  by_cases h1 : k = 1
  · subst h1
    rw [right_1 rfl] at h
    simp only [Bool.and_eq_true, decide_eq_true_eq, Bool.not_eq_true', decide_eq_false_iff_not] at h
    obtain ⟨⟨⟨rfl, hs⟩, hw⟩, hl⟩ := h
    have hw : (wordN s : Int) = s.length := hw
    have hl : (s.length : Int) ≤ 16 := hl
    exact one_name (s := s) hs (by omega) (by omega) hr
  · by_cases h2 : k = 2
    · subst h2
      rw [right_2 rfl] at h
      simp only [Bool.and_eq_true, decide_eq_true_eq] at h
      obtain ⟨h0, rfl⟩ := h
      exact one_num h0 hn hr
    · by_cases h3 : k = 3
      · subst h3
        rw [right_3 rfl] at h
        simp only [Bool.and_eq_true, decide_eq_true_eq] at h
        obtain ⟨rfl, hp⟩ := h
        exact one_text hp
      · by_cases h4 : k = 4
        · subst h4
          rw [right_4 rfl] at h
          simp only [Bool.and_eq_true, decide_eq_true_eq, List.contains_eq_mem] at h
          obtain ⟨rfl, hm⟩ := h
          exact one_mk hm hr
        · rw [right_0 h1 h2 h3 h4] at h; cases h
theorem tk_first {t : Tok} (h : rightT t = true) : ∃ b q, tkS t = b :: q ∧ b ≠ 32 := by
  obtain ⟨k, s, n, p⟩ := t
  by_cases h1 : k = 1
  · subst h1
    rw [right_1 rfl] at h
    simp only [Bool.and_eq_true, decide_eq_true_eq, Bool.not_eq_true', decide_eq_false_iff_not] at h
    obtain ⟨⟨⟨rfl, hs⟩, hw⟩, hl⟩ := h
    match s, hs with
    | b :: q, hs =>
      have := (word_all hs (by omega)).1
      refine ⟨b, q, rfl, ?_⟩
      rintro rfl
      have : isLet 32 = true := this
      revert this; decide +kernel
  · by_cases h2 : k = 2
    · subst h2
      rw [right_2 rfl] at h
      simp only [Bool.and_eq_true, decide_eq_true_eq] at h
      obtain ⟨h0, rfl⟩ := h
      have h0 : 0 ≤ n := h0
      obtain ⟨m, q, hm, e⟩ := dec_head n.natAbs
      refine ⟨_, q, (itoa_pos (n := n) (by omega)).trans e, fun hh => ?_⟩
      have := digit_val hm
      rw [hh] at this
      have e : (32 : UInt8).toNat = 32 := rfl
      omega
    · by_cases h3 : k = 3
      · subst h3
        exact ⟨34, _, rfl, by decide⟩
      · by_cases h4 : k = 4
        · subst h4
          rw [right_4 rfl] at h
          simp only [Bool.and_eq_true, decide_eq_true_eq, List.contains_eq_mem] at h
          obtain ⟨rfl, hm⟩ := h
          have key : ∀ s ∈ marksL, ∃ b q, s = b :: q ∧ b ≠ 32 := by
            intro s hs
            simp only [marksL, List.mem_cons, List.not_mem_nil, or_false] at hs
            rcases hs with rfl | rfl | rfl | rfl | rfl | rfl | rfl | rfl | rfl | rfl | rfl | rfl | rfl | rfl | rfl | rfl <;> exact ⟨_, _, rfl, by decide⟩
          exact key s hm
        · rw [right_0 h1 h2 h3 h4] at h; cases h
theorem bt_at {A : List UInt8} {b : UInt8} {q : List UInt8} : bt (A ++ b :: q) A.length = (b.toNat : Int) := by rw [bt_app]; rfl
theorem lex_tok {A r : List UInt8} {t : Tok} (h : rightT t = true) (hn : I64 t.n) (hr : Tail r) (out : List Tok) :
    lexG (A ++ (tkS t ++ r)) A.length out = lexG (A ++ (tkS t ++ r)) (A.length + (tkS t).length) (out ++ [{ t with p := (A.length : Int) }]) := by
  obtain ⟨b, q, e, hb⟩ := tk_first h
  have hlt : A.length < (A ++ (tkS t ++ r)).length := by rw [e]; simp
  have hd : (A ++ (tkS t ++ r)).drop A.length = tkS t ++ r := by simp
  have := lex_ok (out := out) hlt (by
    rw [e, List.cons_append, bt_at]
    intro hh; exact hb (UInt8.toNat_inj.1 (by have e : (32 : UInt8).toNat = 32 := rfl; omega))) (by rw [hd]; exact one_tk h hn hr) (by rw [e]; simp)
  exact this
theorem jo_two (t u : Tok) (l : List Tok) : joS (t :: u :: l) = tkS t ++ 32 :: joS (u :: l) := by
  unfold joS
  rw [List.map_cons, List.map_cons, Lib.join_cons, Lib.join_cons]
  simp [Lib.joinTail]
theorem lex_join : ∀ (l : List Tok) (A : List UInt8) (out : List Tok), (∀ t ∈ l, rightT t = true ∧ I64 t.n) → ∃ l', lexG (A ++ joS l) A.length out = (out ++ l', 0, 0) ∧ l'.map (key false) = l.map (key false)
  | [], A, out, _ => ⟨[], by rw [lex_end (by simp [joS, Lib.join, List.intercalate]), List.append_nil], rfl⟩
  | [t], A, out, h => by
    refine ⟨[{ t with p := (A.length : Int) }], ?_, rfl⟩
    have := lex_tok (A := A) (r := []) (h t (by simp)).1 (h t (by simp)).2 (.inl rfl) out
    rw [List.append_nil] at this
    rw [jo_one, this, lex_end (by simp)]
  | t :: u :: l, A, out, h => by
    obtain ⟨l', e, hk⟩ := lex_join (u :: l) (A ++ tkS t ++ [32]) (out ++ [{ t with p := (A.length : Int) }]) fun x hx => h x (by simp [List.mem_cons] at hx ⊢; exact .inr hx)
    refine ⟨{ t with p := (A.length : Int) } :: l', ?_, by rw [List.map_cons, hk]; rfl⟩
    have e1 : A ++ (tkS t ++ 32 :: joS (u :: l)) = (A ++ tkS t) ++ 32 :: joS (u :: l) := by simp
    have e2 : A ++ (tkS t ++ 32 :: joS (u :: l)) = (A ++ tkS t ++ [32]) ++ joS (u :: l) := by simp
    rw [jo_two, lex_tok (h t (by simp)).1 (h t (by simp)).2 (.inr (.inl ⟨_, rfl⟩)), lex_sp (by simp) (by rw [e1, ← List.length_append, bt_at]; rfl), e2]
    rw [show A.length + (tkS t).length + 1 = (A ++ tkS t ++ [32]).length by simp; omega, e]
    simp
theorem lex_back {l : List Tok} (h : ∀ t ∈ l, rightT t = true ∧ I64 t.n) : ∃ l', lexS (joS l) = (if 200 < (joS l).length then ([], 0, 5) else (l', 0, 0)) ∧ sameS l l' false = true := by
  obtain ⟨l', e, hk⟩ := lex_join l [] [] h
  refine ⟨l', ?_, decide_eq_true hk.symm⟩
  rw [lexS]
  split
  · rfl
  · simpa using e
end Go.Proofs.YtpcgdhhndeanoaaGreatDoor
namespace Go.Proofs.YtpcgdhhndeanoaaGreatDoor
open Go Go.Dx Go.RowKit
theorem take_tw (p : UInt8 → Bool) : ∀ s : List UInt8, s.take (s.takeWhile p).length = s.takeWhile p
  | [] => rfl
  | b :: s => by
    rw [List.takeWhile_cons]
    split
    · rw [List.length_cons, List.take_succ_cons, take_tw p s]
    · rfl
theorem tw_tw (p : UInt8 → Bool) : ∀ s : List UInt8, (s.takeWhile p).takeWhile p = s.takeWhile p
  | [] => rfl
  | b :: s => by
    rw [List.takeWhile_cons]
    split
    · rename_i h; rw [List.takeWhile_cons_of_pos h, tw_tw p s]
    · rfl
theorem tw_ok (p : UInt8 → Bool) : ∀ s : List UInt8, (s.takeWhile p).all p = true
  | [] => rfl
  | b :: s => by
    rw [List.takeWhile_cons]
    split
    · rename_i h; rw [List.all_cons, h, tw_ok p s]; rfl
    · rfl
theorem word_take {x : List UInt8} (h : x ≠ []) (hl : isLet (x.getD 0 0) = true) : wordN (x.take (wordN x)) = (x.take (wordN x)).length := by
  have hp := wordN_posit x h hl
  have e : x.take (wordN x) = x.takeWhile isWord := by rw [wordN_pos x h hl, take_tw]
  have e0 : (x.take (wordN x)).getD 0 0 = x.getD 0 0 := by
    match x, h, hp with
    | b :: x, _, hp =>
      obtain ⟨m, hm⟩ := Nat.exists_eq_succ_of_ne_zero (Nat.pos_iff_ne_zero.1 hp)
      rw [hm]; rfl
  have hne : x.take (wordN x) ≠ [] := by
    intro hh
    have := congrArg List.length hh
    rw [List.length_take, List.length_nil] at this
    have := List.length_pos_iff.2 h
    omega
  rw [wordN_pos _ hne (by rw [e0]; exact hl), e, tw_tw]
theorem byte_dig {b : UInt8} (h : isDig b = true) : UInt8.ofNat (48 + (b.toNat - 48)) = b := by
  have := dig_b h
  exact UInt8.toNat_inj.1 (by rw [byte_lo (by omega)]; omega)
theorem i64_0 : I64 0 := ⟨by decide, by decide⟩
theorem num_inv' : ∀ (n : Nat) (ds : List UInt8), ds.length = n → ds ≠ [] → ds.all isDig = true → (1 < ds.length → ds.getD 0 0 ≠ 48) → ∀ v, numF ds = some v → v ≤ 9223372036854775807 ∧ Lib.decDigits v = ds := by
  intro n
  induction n using Nat.strongRecOn with
  | _ n ihn =>
    intro ds0 hn hne ha hl v hv
    rcases List.eq_nil_or_concat ds0 with rfl | ⟨ds, b, rfl⟩
    · exact absurd rfl hne
    rw [List.concat_eq_append] at *
    have ih := ihn ds.length (by simp at hn; omega) ds rfl
    rw [List.all_append, Bool.and_eq_true] at ha
    have hb : isDig b = true := by simpa using ha.2
    have hbr := dig_b hb
    rw [num_snoc] at hv
    by_cases he : ds = []
    · subst he
      simp only [numF, List.foldl_nil, numStep, Option.bind_some] at hv
      rw [if_neg (by omega)] at hv
      have hv := Option.some.inj hv
      subst hv
      rw [dec_lo (by omega)]
      refine ⟨by omega, ?_⟩
      rw [Nat.mul_zero, Nat.zero_add, byte_dig hb]; rfl
    · have h0 : 0 < ds.length := List.length_pos_iff.2 he
      have e0 : (ds ++ [b]).getD 0 0 = ds.getD 0 0 := by
        match ds, he with
        | c :: ds, _ => rfl
      have hl' := hl (by simp; omega)
      rw [e0] at hl'
      cases hv' : numF ds with
      | none => rw [hv'] at hv; cases hv
      | some v' =>
        rw [hv', numStep, Option.bind_some] at hv
        obtain ⟨h1, h2⟩ := ih he ha.1 (fun _ => hl') v' hv'
        by_cases hc : (9223372036854775807 - (b.toNat - 48)) / 10 < v'
        · rw [if_pos hc] at hv; cases hv
        · rw [if_neg hc] at hv
          have hv := Option.some.inj hv
          subst hv
          have hz : v' ≠ 0 := by
            rintro rfl
            rw [dec_lo (by decide)] at h2
            rw [← h2] at hl'
            exact hl' rfl
          refine ⟨by omega, ?_⟩
          rw [dec_hi (by omega), show (10 * v' + (b.toNat - 48)) / 10 = v' by omega, show (10 * v' + (b.toNat - 48)) % 10 = b.toNat - 48 by omega, h2, byte_dig hb]
theorem num_inv (ds : List UInt8) (h : ds ≠ []) (ha : ds.all isDig = true) (hl : 1 < ds.length → ds.getD 0 0 ≠ 48) (v : Nat) (hv : numF ds = some v) : v ≤ 9223372036854775807 ∧ Lib.decDigits v = ds := num_inv' _ ds rfl h ha hl v hv
theorem getD_drop0 (x : List UInt8) (i : Nat) (h : i < x.length) : x.drop i = x.getD i 0 :: x.drop (i + 1) := by
  rw [List.drop_eq_getElem_cons h, getD_lt x i 0 h]
theorem text_inv (x : List UInt8) : ∀ (i : Nat) (b : List UInt8) (t : Tok) (n : Nat), textG x i b = .ok t n → ∃ s, t = ⟨3, b ++ s, 0, 0⟩ ∧ (∀ c ∈ s, 32 ≤ c.toNat ∧ c.toNat ≤ 126) ∧ (b ++ s).length ≤ 40 ∧ i < n ∧ n ≤ x.length ∧ (x.drop i).take (n - i) = s.flatMap qB ++ [34] := by
  intro i b
  induction i, b using textG.induct (s := x) with
  | case1 i b h h1 h2 => intro t n he; rw [tx_big h h1 h2] at he; cases he
  | case2 i b h h1 h2 =>
    intro t n he
    rw [tx_end h h1 h2] at he
    cases he
    refine ⟨[], by rw [List.append_nil], by simp, by rw [List.append_nil]; omega, by omega, by omega, ?_⟩
    rw [show i + 1 - i = 1 by omega, getD_drop0 x i h]
    have : x.getD i 0 = 34 := UInt8.toNat_inj.1 (by unfold bt at h1; have e : (34 : UInt8).toNat = 34 := rfl; omega)
    rw [this]; rfl
  | case3 i b h h1 h2 h3 => intro t n he; rw [tx_bad h h1 h2 h3] at he; cases he
  | case4 i b h h1 h2 h3 ih =>
    intro t n he
    rw [tx_esc h h1 h2 h3] at he
    obtain ⟨s, rfl, g1, g2, g3, g4, g5⟩ := ih t n he
    have hi1 : i + 1 < x.length := by omega
    have hq : x.getD (i + 1) 0 = 34 ∨ x.getD (i + 1) 0 = 92 := by
      by_cases a : bt x (i + 1) = 34
      · left; exact UInt8.toNat_inj.1 (by unfold bt at a; have e : (34 : UInt8).toNat = 34 := rfl; omega)
      · by_cases a' : bt x (i + 1) = 92
        · right; exact UInt8.toNat_inj.1 (by unfold bt at a'; have e : (92 : UInt8).toNat = 92 := rfl; omega)
        · exact absurd (.inr ⟨a, a'⟩) h3
    have h92 : x.getD i 0 = 92 := UInt8.toNat_inj.1 (by unfold bt at h2; have e : (92 : UInt8).toNat = 92 := rfl; omega)
    refine ⟨x.getD (i + 1) 0 :: s, by simp, fun c hc => ?_, by simpa using g2, by omega, g4, ?_⟩
    · rcases List.mem_cons.1 hc with rfl | hc
      · rcases hq with hq | hq <;> rw [hq] <;> decide
      · exact g1 c hc
    · rw [show n - i = (n - (i + 2)) + 1 + 1 by omega, getD_drop0 x i h, List.take_succ_cons, getD_drop0 x (i + 1) hi1, List.take_succ_cons, g5, h92, List.flatMap_cons, qB, if_pos hq]
      rfl
  | case5 i b h h1 h2 h3 => intro t n he; rw [tx_ctl h h1 h2 h3] at he; cases he
  | case6 i b h h1 h2 h3 ih =>
    intro t n he
    rw [tx_ch h h1 h2 h3] at he
    obtain ⟨s, rfl, g1, g2, g3, g4, g5⟩ := ih t n he
    have hq : ¬ (x.getD i 0 = 34 ∨ x.getD i 0 = 92) := by
      rintro (a | a)
      · exact h1 (by unfold bt; rw [a]; rfl)
      · exact h2 (by unfold bt; rw [a]; rfl)
    refine ⟨x.getD i 0 :: s, by simp, fun c hc => ?_, by simpa using g2, by omega, g4, ?_⟩
    · rcases List.mem_cons.1 hc with rfl | hc
      · unfold bt at h3; omega
      · exact g1 c hc
    · rw [show n - i = (n - (i + 1)) + 1 by omega, getD_drop0 x i h, List.take_succ_cons, g5, List.flatMap_cons, qB, if_neg hq]
      rfl
  | case7 i b h => intro t n he; rw [tx_over h] at he; cases he
theorem plain_of {s : List UInt8} (h : ∀ c ∈ s, 32 ≤ c.toNat ∧ c.toNat ≤ 126) (hl : s.length ≤ 40) : plainS s = true := by
  simp only [plainS, Bool.and_eq_true, List.all_eq_true, decide_eq_true_eq]
  exact ⟨hl, fun b hb => by have := h b hb; omega⟩
theorem one_inv {x : List UInt8} {t : Tok} {n : Nat} (hx : 0 < x.length) (h : oneS x = .ok t n) : rightT t = true ∧ I64 t.n ∧ x.take n = tkS t ∧ 0 < n ∧ n ≤ x.length := by
  have hne : x ≠ [] := List.length_pos_iff.1 hx
  obtain ⟨t', n', e', hn0, hnx⟩ : ∃ t' n', oneS x = .ok t' n' ∧ 0 < n' ∧ n' ≤ x.length := by
    rcases one_ok x hx with ⟨e, he, _⟩ | h'
    · rw [h] at he; cases he
    · exact h'
  rw [h] at e'
  cases e'
  suffices rightT t = true ∧ I64 t.n ∧ x.take n = tkS t from ⟨this.1, this.2.1, this.2.2, hn0, hnx⟩
  cases h1 : isLet (x.getD 0 0)
  · cases h2 : isDig (x.getD 0 0)
    · by_cases h3 : bt x 0 = 34
      · rw [one_txt h1 h2 h3, textS] at h
        obtain ⟨s, rfl, g1, g2, g3, g4, g5⟩ := text_inv x 1 [] t n h
        have hp := plain_of g1 (by simpa using g2)
        refine ⟨by rw [right_3 rfl]; simp [hp], i64_0, ?_⟩
        have e : x = x.getD 0 0 :: x.drop 1 := by simpa using getD_drop0 x 0 hx
        have h34 : x.getD 0 0 = 34 := UInt8.toNat_inj.1 (by unfold bt at h3; have e : (34 : UInt8).toNat = 34 := rfl; omega)
        have e2 : x.take n = 34 :: (x.drop 1).take (n - 1) := by
          conv => lhs; rw [e, h34, show n = (n - 1) + 1 by omega, List.take_succ_cons]
        rw [e2, g5]
        show _ = quS s
        rw [quS_eq]; simp
      · rw [one_mark h1 h2 h3, markG_ix] at h
        split at h
        · rename_i i hi
          rw [List.findIdx?_eq_some_iff_getElem] at hi
          obtain ⟨hlt, hpre, _⟩ := hi
          cases h
          have hm : marksL.getD i [] ∈ marksL := getD_mem marksL i [] hlt
          rw [← getD_lt marksL i [] hlt] at hpre
          simp only [pre, Bool.and_eq_true, decide_eq_true_eq] at hpre
          refine ⟨by rw [right_4 rfl]; simp only [Bool.and_eq_true, decide_eq_true_eq, List.contains_eq_mem]; exact ⟨trivial, hm⟩, i64_0, hpre.2⟩
        · cases h
    · rw [one_dig h1 h2, numS] at h
      split at h
      · cases h
      · rename_i hc
        split at h
        · cases h
        · rename_i v hv
          cases h
          have hd := digN_pos x hx h2
          have e : x.take (digN x) = x.takeWhile isDig := take_tw isDig x
          have hlen : (x.take (digN x)).length = digN x := by rw [List.length_take]; have := digN_le x; omega
          have e0 : (x.take (digN x)).getD 0 0 = x.getD 0 0 := by
            match x, hne, hd with
            | b :: x, _, hd =>
              obtain ⟨m, hm⟩ := Nat.exists_eq_succ_of_ne_zero (Nat.pos_iff_ne_zero.1 hd)
              rw [hm]; rfl
          obtain ⟨g1, g2⟩ := num_inv (x.take (digN x)) (fun hh => by rw [hh] at hlen; simp at hlen; omega) (by rw [e]; exact tw_ok isDig x) (fun hl => by
            rw [e0]
            intro hh
            exact hc ⟨by omega, by rw [hh]; rfl⟩) v hv
          refine ⟨by rw [right_2 rfl]; simp, ⟨by show (-9223372036854775808 : Int) ≤ (v : Int); omega, by show (v : Int) ≤ _; omega⟩, ?_⟩
          show _ = Lib.itoa (v : Int)
          rw [itoa_pos (by omega), Int.natAbs_natCast, g2]
  · rw [one_let h1, nameS] at h
    split at h
    · cases h
    · cases h
      have hw := word_take hne h1
      have hp := wordN_posit x hne h1
      have hlen : (x.take (wordN x)).length = wordN x := by rw [List.length_take]; have := wordN_le x; omega
      refine ⟨?_, i64_0, rfl⟩
      rw [right_1 rfl]
      simp only [Bool.and_eq_true, decide_eq_true_eq, Bool.not_eq_true', decide_eq_false_iff_not]
      exact ⟨⟨⟨trivial, fun hh => by rw [hh] at hlen; simp at hlen; omega⟩, by rw [hw]⟩, by omega⟩
/-! in a text -/
def blank (s : List UInt8) (a b : Nat) : Prop := ∀ j, a ≤ j → j < b → bt s j = 32
def Lay (s : List UInt8) : Nat → List Tok → Prop
  | e, [] => e ≤ s.length ∧ blank s e s.length
  | e, t :: r => ∃ p : Nat, t.p = (p : Int) ∧ e ≤ p ∧ p + (tkS t).length ≤ s.length ∧ blank s e p ∧ (s.drop p).take (tkS t).length = tkS t ∧ 0 < (tkS t).length ∧ rightT t = true ∧ I64 t.n ∧ Lay s (p + (tkS t).length) r
theorem blank_one {s : List UInt8} {i b : Nat} (h : bt s i = 32) (hb : blank s (i + 1) b) : blank s i b := fun j h1 h2 => by
  by_cases e : j = i
  · rw [e]; exact h
  · exact hb j (by omega) h2
theorem Lay.sp {s : List UInt8} {i : Nat} (hi : i < s.length) (h : bt s i = 32) : ∀ {l : List Tok}, Lay s (i + 1) l → Lay s i l
  | [], hl => ⟨by omega, blank_one h hl.2⟩
  | t :: r, ⟨p, h1, h2, h3, h4, h5⟩ => ⟨p, h1, by omega, h3, blank_one h h4, h5⟩
theorem lex_lay (s : List UInt8) : ∀ (i : Nat) (out : List Tok), i ≤ s.length → ((lexG s i out).2.2 = 0 ∧ ∃ l', lexG s i out = (out ++ l', 0, 0) ∧ Lay s i l') ∨ (¬ (lexG s i out).2.2 = 0 ∧ ∃ j : Nat, j ≤ s.length ∧ (lexG s i out).1 = [] ∧ (lexG s i out).2.1 = (j : Int)) := by
  intro i out
  induction i, out using lexG.induct (s := s) with
  | case1 i out h h1 ih =>
    intro hi
    rw [lex_sp h h1]
    rcases ih (by omega) with ⟨g, l', e, hl⟩ | g
    · exact .inl ⟨g, l', e, hl.sp h h1⟩
    · exact .inr g
  | case2 i out h h1 e he =>
    intro hi
    rw [lex_err h h1 he]
    have hx : 0 < (s.drop i).length := by rw [List.length_drop]; omega
    refine .inr ⟨?_, i, hi, rfl, rfl⟩
    rcases one_ok _ hx with ⟨e', he', hne⟩ | ⟨t, n, ht, _⟩
    · rw [he] at he'; cases he'; exact hne
    · rw [he] at ht; cases ht
  | case3 i out h h1 t n he hn ih =>
    intro hi
    have hx : 0 < (s.drop i).length := by rw [List.length_drop]; omega
    obtain ⟨g1, g2, g3, g4, g5⟩ := one_inv hx he
    rw [List.length_drop] at g5
    rw [lex_ok h h1 he hn]
    rcases ih (by omega) with ⟨g, l', e, hl⟩ | g
    · have hlen : (tkS t).length = n := by rw [← g3, List.length_take, List.length_drop]; omega
      refine .inl ⟨g, { t with p := (i : Int) } :: l', by rw [e]; simp, i, rfl, Nat.le_refl _, ?_, fun j a b => absurd b (by omega), ?_, ?_, g1, g2, ?_⟩
      · show i + (tkS t).length ≤ _; omega
      · show (s.drop i).take (tkS t).length = tkS t
        rw [hlen]; exact g3
      · show 0 < (tkS t).length; omega
      · show Lay s (i + (tkS t).length) l'
        rw [hlen]; exact hl
    · exact .inr g
  | case4 i out h h1 t n he hn =>
    intro hi
    have hx : 0 < (s.drop i).length := by rw [List.length_drop]; omega
    exact absurd (one_inv hx he).2.2.2.1 hn
  | case5 i out h =>
    intro hi
    rw [lex_end h]
    exact .inl ⟨rfl, [], by rw [List.append_nil], hi, fun j a b => absurd b (by omega)⟩
theorem lexS_lay (s : List UInt8) : (∃ l, lexS s = (l, 0, 0) ∧ Lay s 0 l) ∨ (∃ (j : Nat) (e : Int), lexS s = ([], (j : Int), e) ∧ ¬ e = 0 ∧ j ≤ s.length) := by
  rw [lexS]
  split
  · exact .inr ⟨0, 5, rfl, by decide, Nat.zero_le _⟩
  · rcases lex_lay s 0 [] (Nat.zero_le _) with ⟨_, l, e, hl⟩ | ⟨h, j, hj, e1, e2⟩
    · exact .inl ⟨l, by simpa using e, hl⟩
    · exact .inr ⟨j, _, Prod.ext e1 (Prod.ext e2 rfl), h, hj⟩
theorem Lay.all {s : List UInt8} : ∀ {e : Nat} {l : List Tok}, Lay s e l → ∀ t ∈ l, rightT t = true ∧ I64 t.n
  | _, [], _, t, ht => by simp at ht
  | _, u :: r, ⟨p, _, _, _, _, _, _, h1, h2, h3⟩, t, ht => by
    rcases List.mem_cons.1 ht with rfl | ht
    · exact ⟨h1, h2⟩
    · exact h3.all t ht
theorem right_len {t : Tok} (h : rightT t = true) : t.s.length ≤ 100 := by
  by_cases h1 : t.k = 1
  · rw [right_1 h1] at h; simp only [Bool.and_eq_true, decide_eq_true_eq] at h; omega
  · by_cases h2 : t.k = 2
    · rw [right_2 h2] at h; simp only [Bool.and_eq_true, decide_eq_true_eq] at h; rw [h.2]; simp
    · by_cases h3 : t.k = 3
      · rw [right_3 h3] at h; simp only [Bool.and_eq_true] at h; have := plain_40 h.2; omega
      · by_cases h4 : t.k = 4
        · rw [right_4 h4] at h
          simp only [Bool.and_eq_true, List.contains_eq_mem, decide_eq_true_eq] at h
          have : ∀ m ∈ marksL, m.length ≤ 2 := by decide
          have := this _ h.2; omega
        · rw [right_0 h1 h2 h3 h4] at h; cases h
end Go.Proofs.YtpcgdhhndeanoaaGreatDoor
namespace Go.Proofs.YtpcgdhhndeanoaaGreatDoor
open Go Go.Dx Go.RowKit
/-- two readers are alike from a place on -/
def Alk (l : List Tok) (i : Nat) (rd rd' : Nat → Bool → RdR) : Prop := ∀ j bad, i ≤ j → j ≤ l.length → rd j bad = rd' j bad
theorem atom_congr {rd rd' : Nat → Bool → RdR} {l : List Tok} {i : Nat} {bad : Bool} (h : Alk l (i + 1) rd rd') : atomS rd l i bad = atomS rd' l i bad := by
  unfold atomS
  by_cases hh : onS l i bad 4 [40] = true
  · rw [if_pos hh, if_pos hh, h (i + 1) bad (Nat.le_refl _) (on_lt hh (by decide)).1]
  · rw [if_neg hh, if_neg hh]
theorem branch_congr {rd rd' : Nat → Bool → RdR} {l : List Tok} {i : Nat} {bad : Bool} (hr : ∀ i bad, i ≤ l.length → Ge l i (rd' i bad)) (hi : i ≤ l.length) (h : Alk l i rd rd') : branchS rd l i bad = branchS rd' l i bad := by
  have e1 := h i bad (Nat.le_refl _) hi
  have g1 := hr i bad hi
  unfold Ge at g1
  have m1 := must_ge (l := l) (p := (rd' i bad).2) (k := 1) (s := thenT) (by decide) g1.2
  unfold branchS
  rw [e1]
  have e2 := h (mustS l (rd' i bad).2 1 thenT).1 (mustS l (rd' i bad).2 1 thenT).2 (Nat.le_trans g1.1 m1.1) m1.2
  have g2 := hr (mustS l (rd' i bad).2 1 thenT).1 (mustS l (rd' i bad).2 1 thenT).2 m1.2
  unfold Ge at g2
  have m2 := must_ge (l := l) (p := (rd' (mustS l (rd' i bad).2 1 thenT).1 (mustS l (rd' i bad).2 1 thenT).2).2) (k := 1) (s := elseT) (by decide) g2.2
  rw [e2]
  rw [h _ (mustS l (rd' (mustS l (rd' i bad).2 1 thenT).1 (mustS l (rd' i bad).2 1 thenT).2).2 1 elseT).2 (Nat.le_trans (Nat.le_trans g1.1 m1.1) (Nat.le_trans g2.1 m2.1)) m2.2]
theorem loop_congr {rd rd' : Nat → Bool → RdR} {l : List Tok} {lev : Nat} (hr : ∀ i bad, i ≤ l.length → Ge l i (rd' i bad)) : ∀ (n : Nat) (x : Ex) (i : Nat) (bad : Bool), i ≤ l.length → Alk l (i + 1) rd rd' → loopS rd l lev n x i bad = loopS rd' l lev n x i bad
  | 0, x, i, bad, _, _ => rfl
  | n + 1, x, i, bad, hi, h => by
    unfold loopS
    by_cases h0 : opS l i bad lev = 0
    · rw [if_pos h0, if_pos h0]
    · rw [if_neg h0, if_neg h0]
      have hlt := (op_lt h0).1
      have e := h (i + 1) bad (Nat.le_refl _) hlt
      have g := hr (i + 1) bad hlt
      unfold Ge at g
      rw [e]
      split
      · exact loop_congr hr n _ _ _ g.2 fun j b hj hjl => h j b (Nat.le_trans g.1 (Nat.le_trans (Nat.le_succ _) hj)) hjl
      · rfl
theorem rd_fuel (l : List Tok) : ∀ (f g lev i : Nat) (bad : Bool), lev ≤ 7 → i ≤ l.length → needS l lev i ≤ f → needS l lev i ≤ g → rdF l f lev i bad = rdF l g lev i bad
  | 0, g, lev, i, bad, h7, _, hf, _ => by unfold needS at hf; omega
  | f + 1, 0, lev, i, bad, h7, _, _, hg => by unfold needS at hg; omega
  | f + 1, g + 1, lev, i, bad, h7, hi, hf, hg => by
    have ih := rd_fuel l f g
    have alk : ∀ lev' i', lev' ≤ 7 → needS l lev' i' ≤ f → needS l lev' i' ≤ g → Alk l i' (rdF l f lev') (rdF l g lev') := fun lev' i' h1 h2 h3 j b hj hjl => ih lev' j b h1 hjl (by unfold needS at h2 ⊢; omega) (by unfold needS at h3 ⊢; omega)
    have hge := fun lev' i bad h => rd_ge l g lev' i bad h
    unfold rdF
    by_cases hb : bad = true
    · rw [if_pos hb, if_pos hb]
    rw [if_neg hb, if_neg hb]
    by_cases h0 : lev = 0
    · rw [if_pos h0, if_pos h0]
      subst h0
      by_cases hh : onS l i bad 1 ifT = true
      · rw [if_pos hh, if_pos hh]
        have hlt := (on_lt hh (by decide)).1
        exact branch_congr (fun i bad h => hge 0 i bad h) hlt (alk 0 (i + 1) (by omega) (by unfold needS at hf ⊢; omega) (by unfold needS at hg ⊢; omega))
      · rw [if_neg hh, if_neg hh]
        exact ih 1 i bad (by omega) hi (by unfold needS at hf ⊢; omega) (by unfold needS at hg ⊢; omega)
    rw [if_neg h0, if_neg h0]
    by_cases h6 : lev = 6 ∧ onS l i bad 4 [45] = true
    · rw [if_pos h6, if_pos h6]
      have hlt := (on_lt h6.2 (by decide)).1
      rw [ih 6 (i + 1) bad (by omega) hlt (by unfold needS at hf ⊢; omega) (by unfold needS at hg ⊢; omega)]
    rw [if_neg h6, if_neg h6]
    by_cases h6' : 6 ≤ lev
    · rw [if_pos h6', if_pos h6']
      by_cases hlt : i < l.length
      · exact atom_congr (alk 0 (i + 1) (by omega) (by unfold needS at hf ⊢; omega) (by unfold needS at hg ⊢; omega))
      · refine atom_congr fun j b hj hjl => ?_
        omega
    · rw [if_neg h6', if_neg h6']
      have e := ih (lev + 1) i bad (by omega) hi (by unfold needS at hf ⊢; omega) (by unfold needS at hg ⊢; omega)
      rw [e]
      have g1 := hge (lev + 1) i bad hi
      unfold Ge at g1
      refine loop_congr (fun i bad h => hge (lev + 1) i bad h) _ _ _ _ g1.2 fun j b hj hjl => ?_
      have := alk (lev + 1) i (by omega) (by unfold needS at hf ⊢; omega) (by unfold needS at hg ⊢; omega)
      exact this j b (by omega) hjl
/-- an expression of a level, read from a token on -/
def rdN (l : List Tok) (lev i : Nat) (bad : Bool) : RdR := rdF l (needS l lev i) lev i bad
theorem rdN_of (l : List Tok) {f lev i : Nat} {bad : Bool} (h7 : lev ≤ 7) (hi : i ≤ l.length) (hf : needS l lev i ≤ f) : rdF l f lev i bad = rdN l lev i bad := rd_fuel l f _ lev i bad h7 hi hf (Nat.le_refl _)
theorem rdN_ge (l : List Tok) (lev i : Nat) (bad : Bool) (h : i ≤ l.length) : Ge l i (rdN l lev i bad) := rd_ge l _ lev i bad h
theorem rdN_nd {l : List Tok} (hl : TokN l) (lev i : Nat) (bad : Bool) : Nd (rdN l lev i bad).1 := rd_nd hl _ lev i bad
theorem rdN_eq (l : List Tok) (lev i : Nat) (bad : Bool) (h7 : lev ≤ 7) (hi : i ≤ l.length) : rdN l lev i bad =
    if bad = true then (ex0, i, bad)
    else if lev = 0 then (if onS l i bad 1 ifT = true then branchS (rdN l 0) l (i + 1) bad else rdN l 1 i bad)
    else if lev = 6 ∧ onS l i bad 4 [45] = true then (.mk 3 v0 [] [(rdN l 6 (i + 1) bad).1], (rdN l 6 (i + 1) bad).2)
    else if 6 ≤ lev then atomS (rdN l 0) l i bad
    else loopS (rdN l (lev + 1)) l lev (l.length + 1) (rdN l (lev + 1) i bad).1 (rdN l (lev + 1) i bad).2.1 (rdN l (lev + 1) i bad).2.2 := by
  obtain ⟨f, hf⟩ : ∃ f, needS l lev i = f + 1 := ⟨needS l lev i - 1, by unfold needS; omega⟩
  have alk : ∀ lev' i', lev' ≤ 7 → needS l lev' i' ≤ f → Alk l i' (rdF l f lev') (rdN l lev') := fun lev' i' h1 h2 j b hj hjl => rdN_of l h1 hjl (by unfold needS at h2 ⊢; omega)
  show rdF l (needS l lev i) lev i bad = _
  rw [hf, rdF.eq_2]
  unfold needS at hf
  by_cases hb : bad = true
  · rw [if_pos hb, if_pos hb]
  rw [if_neg hb, if_neg hb]
  by_cases h0 : lev = 0
  · rw [if_pos h0, if_pos h0]
    subst h0
    by_cases hh : onS l i bad 1 ifT = true
    · rw [if_pos hh, if_pos hh]
      have hlt := (on_lt hh (by decide)).1
      exact branch_congr (fun i bad h => rdN_ge l 0 i bad h) hlt (alk 0 (i + 1) (by omega) (by unfold needS; omega))
    · rw [if_neg hh, if_neg hh]
      exact rdN_of l (by omega) hi (by unfold needS; omega)
  rw [if_neg h0, if_neg h0]
  by_cases h6 : lev = 6 ∧ onS l i bad 4 [45] = true
  · rw [if_pos h6, if_pos h6]
    have hlt := (on_lt h6.2 (by decide)).1
    rw [rdN_of l (by omega) hlt (by unfold needS; omega)]
  rw [if_neg h6, if_neg h6]
  by_cases h6' : 6 ≤ lev
  · rw [if_pos h6', if_pos h6']
    refine atom_congr fun j b hj hjl => ?_
    exact alk 0 (i + 1) (by omega) (by unfold needS; omega) j b hj hjl
  · rw [if_neg h6', if_neg h6']
    rw [rdN_of l (by omega) hi (by unfold needS; omega)]
    have g1 := rdN_ge l (lev + 1) i bad hi
    unfold Ge at g1
    refine loop_congr (fun i bad h => rdN_ge l (lev + 1) i bad h) _ _ _ _ g1.2 fun j b hj hjl => ?_
    exact alk (lev + 1) i (by omega) (by unfold needS; omega) j b (by omega) hjl
end Go.Proofs.YtpcgdhhndeanoaaGreatDoor
namespace Go.Proofs.YtpcgdhhndeanoaaGreatDoor
open Go Go.Dx Go.RowKit
/-! how deep -/
theorem deep_l2 (op : Int) (v : Val) (s : List UInt8) (a b : Ex) : deepS (.mk op v s [a, b]) = max (deepS a) (deepS b) + 1 := by rw [deep_eq]; simp [deepL]
theorem loop_deep {rd : Nat → Bool → RdR} {l : List Tok} {lev : Nat} {D : Nat} (hr : ∀ i bad, deepS (rd i bad).1 ≤ D) : ∀ (n : Nat) (x : Ex) (i : Nat) (bad : Bool), deepS (loopS rd l lev n x i bad).1 ≤ max (deepS x) D + n
  | 0, x, i, bad => by show deepS x ≤ _; omega
  | n + 1, x, i, bad => by
    have h1 := hr (i + 1) bad
    have h2 := deep_l2 (opS l i bad lev) v0 [] x (rd (i + 1) bad).1
    unfold loopS
    split
    · show deepS x ≤ _; omega
    split
    · have h3 := loop_deep (lev := lev) (l := l) hr n (.mk (opS l i bad lev) v0 [] [x, (rd (i + 1) bad).1]) (rd (i + 1) bad).2.1 (rd (i + 1) bad).2.2
      omega
    · show deepS (.mk (opS l i bad lev) v0 [] [x, (rd (i + 1) bad).1]) ≤ _; omega
theorem deep_0 (op : Int) (v : Val) (s : List UInt8) : deepS (.mk op v s []) = 1 := by rw [deep_eq]; rfl
theorem atom_deep {rd : Nat → Bool → RdR} {l : List Tok} {D : Nat} (h1 : 1 ≤ D) (hr : ∀ i bad, deepS (rd i bad).1 ≤ D) (i : Nat) (bad : Bool) : deepS (atomS rd l i bad).1 ≤ D := by
  unfold atomS
  split
  · exact hr _ _
  split
  · show deepS (.mk _ _ _ []) ≤ D; rw [deep_0]; exact h1
  split
  · show deepS (.mk _ _ _ []) ≤ D; rw [deep_0]; exact h1
  split
  · split
    · show deepS (.mk _ _ _ []) ≤ D; rw [deep_0]; exact h1
    split
    · show deepS (.mk _ _ _ []) ≤ D; rw [deep_0]; exact h1
    · show deepS ex0 ≤ D; exact Nat.le_trans (Nat.le_of_eq (deep_0 _ _ _)) h1
  · show deepS ex0 ≤ D; exact Nat.le_trans (Nat.le_of_eq (deep_0 _ _ _)) h1
theorem rd_deep (l : List Tok) : ∀ (f lev i : Nat) (bad : Bool), deepS (rdF l f lev i bad).1 ≤ f * (l.length + 2) + 1
  | 0, lev, i, bad => by show deepS ex0 ≤ _; rw [show deepS ex0 = 1 from deep_0 _ _ _]; omega
  | f + 1, lev, i, bad => by
    have ih := rd_deep l f
    have e : (f + 1) * (l.length + 2) + 1 = f * (l.length + 2) + 1 + (l.length + 2) := by rw [Nat.succ_mul]; omega
    rw [e]
    generalize f * (l.length + 2) + 1 = D at ih ⊢
    have e0 : deepS ex0 = 1 := deep_0 _ _ _
    have hD : 1 ≤ D := by have := ih 0 0 true; cases f with
      | zero => rw [rdF] at this; rw [show deepS (ex0, 0, true).1 = 1 from e0] at this; exact this
      | succ f => rw [rdF, if_pos rfl] at this; rw [show deepS (ex0, 0, true).1 = 1 from e0] at this; exact this
    unfold rdF
    split
    · show deepS ex0 ≤ _; omega
    split
    · split
      · have h1 := ih 0 (i + 1) bad
        have h2 := ih 0 (mustS l (rdF l f 0 (i + 1) bad).2 1 thenT).1 (mustS l (rdF l f 0 (i + 1) bad).2 1 thenT).2
        unfold branchS
        show deepS (.mk _ _ _ [_, _, _]) ≤ _
        rw [deep_eq]
        have h3 := ih 0 (mustS l (rdF l f 0 (mustS l (rdF l f 0 (i + 1) bad).2 1 thenT).1 (mustS l (rdF l f 0 (i + 1) bad).2 1 thenT).2).2 1 elseT).1 (mustS l (rdF l f 0 (mustS l (rdF l f 0 (i + 1) bad).2 1 thenT).1 (mustS l (rdF l f 0 (i + 1) bad).2 1 thenT).2).2 1 elseT).2
        simp only [ex_l, deepL]
        omega
      · have := ih 1 i bad; omega
    split
    · have := ih 6 (i + 1) bad
      show deepS (.mk _ _ _ [_]) ≤ _
      rw [deep_1 (x := .mk 3 v0 [] [(rdF l f 6 (i + 1) bad).1]) rfl]; omega
    split
    · have := atom_deep (l := l) hD (fun i bad => ih 0 i bad) i bad; omega
    · have h1 := ih (lev + 1) i bad
      have := loop_deep (rd := rdF l f (lev + 1)) (lev := lev) (l := l) (fun i bad => ih (lev + 1) i bad) (l.length + 1) (rdF l f (lev + 1) i bad).1 (rdF l f (lev + 1) i bad).2.1 (rdF l f (lev + 1) i bad).2.2
      omega
/-! what is read is right -/
def Rt (r : RdR) : Prop := r.2.2 = false → rightS r.1 = true
theorem right_b {op : Int} {a b : Ex} (h : 4 ≤ op ∧ op ≤ 15) (ha : rightS a = true) (hb : rightS b = true) : rightS (.mk op v0 [] [a, b]) = true := by
  rw [right_mk, cntS, if_neg (by omega), if_neg (by omega), if_neg (by omega), if_pos h, if_neg (by omega), if_neg (by omega)]
  simp [ha, hb]
theorem op_rng {l : List Tok} {i : Nat} {bad : Bool} {lev : Int} (h : opS l i bad lev ≠ 0) : 4 ≤ opS l i bad lev ∧ opS l i bad lev ≤ 15 := by
  obtain ⟨b, hb, _, e⟩ := op_some h
  rw [e]
  have : ∀ b ∈ binL, 4 ≤ b.1 ∧ b.1 ≤ 15 := by decide
  exact this b hb
theorem now_true (l : List Tok) (i : Nat) : nowS l i true = t0 := by unfold nowS; rw [if_pos rfl]
theorem loop_rt {rd : Nat → Bool → RdR} {l : List Tok} {lev : Nat} (hr : ∀ i, Rt (rd i false)) : ∀ (n : Nat) (x : Ex) (i : Nat) (bad : Bool), (bad = false → rightS x = true) → Rt (loopS rd l lev n x i bad)
  | 0, x, i, bad, h => h
  | n + 1, x, i, bad, h => by
    unfold loopS
    split
    · exact h
    · rename_i h0
      have hb := (op_lt h0).2
      subst hb
      have hx := h rfl
      split
      · exact loop_rt hr n _ _ _ fun hb => right_b (op_rng h0) hx (hr (i + 1) hb)
      · exact fun hb => right_b (op_rng h0) hx (hr (i + 1) hb)
theorem right_v {v : Val} (h : valOk v = true) (hn : v.k = 1 → 0 ≤ v.n) : rightS (.mk 1 v [] []) = true := by
  rw [right_mk, cntS, if_pos (.inl rfl), if_pos rfl]
  simp only [Bool.and_eq_true, decide_eq_true_eq, Bool.or_eq_true, Bool.not_eq_true', decide_eq_false_iff_not]
  refine ⟨rfl, ⟨trivial, h⟩, ?_⟩
  by_cases hk : v.k = 1
  · exact .inr (hn hk)
  · exact .inl hk
theorem right_n {s : List UInt8} (h : nameOk s = true) : rightS (.mk 2 v0 s []) = true := by
  rw [right_mk, cntS, if_pos (.inr rfl), if_neg (by decide), if_pos rfl]
  simp [h]
theorem word_ok {s : List UInt8} (h : (wordV s).isSome = true) : valOk ((wordV s).getD v0) = true ∧ ((wordV s).getD v0).k ≠ 1 := by
  unfold wordV at *
  split
  · decide
  split
  · decide
  split
  · decide
  · rename_i h1 h2 h3; rw [if_neg h1, if_neg h2, if_neg h3] at h; cases h
theorem must_rt {l : List Tok} {p : Nat × Bool} {k : Int} {s : List UInt8} (h : (mustS l p k s).2 = false) : p.2 = false := by
  unfold mustS at h
  simp only [Bool.or_eq_false_iff] at h
  exact h.1
theorem now_mem {l : List Tok} {i : Nat} {bad : Bool} (h : (nowS l i bad).k ≠ 0) : nowS l i bad ∈ l := by
  obtain ⟨h1, h2⟩ := now_lt h
  unfold nowS; rw [if_neg (by rw [h2]; decide)]; exact getD_mem l i t0 h1
theorem atom_rt {rd : Nat → Bool → RdR} {l : List Tok} (hl : ∀ t ∈ l, rightT t = true) (hr : ∀ i, Rt (rd i false)) (i : Nat) : Rt (atomS rd l i false) := by
  unfold atomS
  split
  · intro hb
    exact hr (i + 1) (must_rt hb)
  split
  · rename_i hk
    have := hl _ (now_mem (l := l) (i := i) (bad := false) (by rw [hk]; decide))
    rw [right_2 hk] at this
    simp only [Bool.and_eq_true, decide_eq_true_eq] at this
    exact fun _ => right_v (by simp [valOk]) (fun _ => this.1)
  split
  · rename_i hk
    have := hl _ (now_mem (l := l) (i := i) (bad := false) (by rw [hk]; decide))
    rw [right_3 hk] at this
    simp only [Bool.and_eq_true, decide_eq_true_eq] at this
    exact fun _ => right_v (by simp [valOk, this.2]) (fun h => by simp at h)
  split
  · split
    · rename_i hw
      have := word_ok hw
      exact fun _ => right_v this.1 (fun h => absurd h this.2)
    split
    · rename_i hn; exact fun _ => right_n hn
    · intro h; cases h
  · intro h; cases h
theorem right_if {a b c : Ex} (ha : rightS a = true) (hb : rightS b = true) (hc : rightS c = true) : rightS (.mk 16 v0 [] [a, b, c]) = true := by
  rw [right_mk]; simp [cntS, ha, hb, hc]
theorem right_neg {a : Ex} (ha : rightS a = true) : rightS (.mk 3 v0 [] [a]) = true := by
  rw [right_mk]; simp [cntS, ha]
theorem rt_false {rd : Nat → Bool → RdR} (hr : ∀ i, Rt (rd i false)) (hb : ∀ i, (rd i true).2.2 = true) (i : Nat) (bad : Bool) : Rt (rd i bad) := by
  cases bad with
  | false => exact hr i
  | true => intro h; rw [hb i] at h; cases h
theorem rd_true (l : List Tok) (f lev i : Nat) : (rdF l f lev i true).2.2 = true := by
  cases f with
  | zero => rfl
  | succ f => unfold rdF; rw [if_pos rfl]
theorem rd_rt {l : List Tok} (hl : ∀ t ∈ l, rightT t = true) : ∀ (f lev i : Nat) (bad : Bool), Rt (rdF l f lev i bad)
  | 0, lev, i, bad => by intro h; cases h
  | f + 1, lev, i, bad => by
    have ih := rd_rt hl f
    unfold rdF
    split
    · rename_i hb; intro h; rw [show (ex0, i, bad).2.2 = bad from rfl, hb] at h; cases h
    rename_i hb
    have hb : bad = false := by simpa using hb
    subst hb
    split
    · split
      · intro h
        unfold branchS at h
        have h3 := ih 0 _ _ h
        have hm : (mustS l (rdF l f 0 (mustS l (rdF l f 0 (i + 1) false).2 1 thenT).1 (mustS l (rdF l f 0 (i + 1) false).2 1 thenT).2).2 1 elseT).2 = false := by
          cases hq : (mustS l (rdF l f 0 (mustS l (rdF l f 0 (i + 1) false).2 1 thenT).1 (mustS l (rdF l f 0 (i + 1) false).2 1 thenT).2).2 1 elseT).2 with
          | false => rfl
          | true =>
            rw [hq, rd_true] at h; cases h
        have h2 := must_rt hm
        have r2 := ih 0 _ _ h2
        have hm2 : (mustS l (rdF l f 0 (i + 1) false).2 1 thenT).2 = false := by
          cases hq : (mustS l (rdF l f 0 (i + 1) false).2 1 thenT).2 with
          | false => rfl
          | true =>
            rw [hq, rd_true] at h2; cases h2
        have r1 := ih 0 _ _ (must_rt hm2)
        exact right_if r1 r2 h3
      · exact ih 1 i false
    split
    · intro h; exact right_neg (ih 6 (i + 1) false h)
    split
    · exact atom_rt hl (fun i => ih 0 i false) i
    · exact loop_rt (fun i => ih (lev + 1) i false) _ _ _ _ (ih (lev + 1) i false)
end Go.Proofs.YtpcgdhhndeanoaaGreatDoor
namespace Go.Proofs.YtpcgdhhndeanoaaGreatDoor
open Go Go.Dx Go.RowKit
def lexF (s : List UInt8) : Nat → Nat → List Tok → List Tok × Int × Int
  | 0, _, _ => ([], 0, 1)
  | f + 1, i, out => if i < s.length then (if bt s i = 32 then lexF s f (i + 1) out else match oneS (s.drop i) with
      | .err e => ([], (i : Int), e)
      | .ok t n => if 0 < n then lexF s f (i + n) (out ++ [{ t with p := (i : Int) }]) else ([], 0, 0)) else (out, 0, 0)
theorem lex_fuel (s : List UInt8) : ∀ (f i : Nat) (out : List Tok), s.length - i < f → lexF s f i out = lexG s i out
  | 0, i, out, h => by omega
  | f + 1, i, out, h => by
    rw [lexF, lexG]
    by_cases hi : i < s.length
    · rw [if_pos hi, dif_pos hi]
      by_cases h1 : bt s i = 32
      · rw [if_pos h1, if_pos h1]; exact lex_fuel s f (i + 1) out (by omega)
      · rw [if_neg h1, if_neg h1]
        cases oneS (s.drop i) with
        | err e => rfl
        | ok t n =>
          simp only
          by_cases hn : 0 < n
          · rw [if_pos hn, dif_pos hn]; exact lex_fuel s f (i + n) _ (by omega)
          · rw [if_neg hn, dif_neg hn]
    · rw [if_neg hi, dif_neg hi]
theorem lex_run (s : List UInt8) (h : s.length ≤ 200) : lexS s = lexF s 201 0 [] := by
  rw [lexS, if_neg (by omega), lex_fuel s 201 0 [] (by omega)]
/-! what comes of the tokens -/
theorem lex_facts (s : List UInt8) : TokN (lexS s).1 ∧ (∀ t ∈ (lexS s).1, t.s.length ≤ 1000000) ∧ (lexS s).1.length ≤ 999999 ∧ deepS (readT (lexS s).1 0 0).1 ≤ 1000000000 := by
  have key : ∀ l : List Tok, (∀ t ∈ l, rightT t = true ∧ I64 t.n) → l.length ≤ 200 → TokN l ∧ (∀ t ∈ l, t.s.length ≤ 1000000) ∧ l.length ≤ 999999 ∧ deepS (readT l 0 0).1 ≤ 1000000000 := fun l h hlen => by
    refine ⟨fun t ht => (h t ht).2, fun t ht => by have := right_len (h t ht).1; omega, by omega, ?_⟩
    unfold readT
    split
    · rw [show deepS (ex0, _, _).1 = 1 from deep_0 _ _ _]; decide
    · show deepS (rdF l (needS l 0 0) 0 0 false).1 ≤ _
      have h1 := rd_deep l (needS l 0 0) 0 0 false
      have h2 : needS l 0 0 ≤ 2009 := by unfold needS; omega
      have h3 : needS l 0 0 * (l.length + 2) ≤ 2009 * 202 := Nat.mul_le_mul h2 (by omega)
      omega
  have hlen : (lexS s).1.length ≤ 200 := by
    have := lexS_len s
    by_cases h : 200 < s.length
    · rw [lexS, if_pos h]; exact Nat.zero_le _
    · omega
  rcases lexS_lay s with ⟨l, e, hl⟩ | ⟨j, e, h, _, _⟩
  · rw [e] at hlen ⊢; exact key l hl.all hlen
  · rw [h]; exact key [] (fun t ht => by cases ht) (by decide)
theorem lay_p {s : List UInt8} : ∀ {e : Nat} {l : List Tok}, Lay s e l → ∀ t ∈ l, 0 ≤ t.p ∧ t.p ≤ s.length
  | _, [], _, t, ht => by cases ht
  | _, u :: r, ⟨p, h0, _, h2, _, _, _, _, _, h3⟩, t, ht => by
    rcases List.mem_cons.1 ht with rfl | ht
    · rw [h0]; omega
    · exact lay_p h3 t ht
theorem parse_inv (s : List UInt8) : ((parseT s).2 = (0, 0) ∧ rightS (parseT s).1 = true ∧ deepS (parseT s).1 ≤ 12) ∨ ((parseT s).1 = ex0 ∧ (parseT s).2.2 ≠ 0 ∧ 0 ≤ (parseT s).2.1 ∧ (parseT s).2.1 ≤ s.length) := by
  unfold parseT
  rcases lexS_lay s with ⟨l, e, hl⟩ | ⟨j, e, h, he, hj⟩
  · rw [e]
    simp only [ne_eq, not_true, if_false]
    split
    · rename_i h
      refine .inr ⟨rfl, (by show ¬ (11 : Int) = 0; decide), ?_⟩
      exact lay_p hl _ (getD_mem l _ t0 h)
    split
    · rename_i h; exact .inr ⟨rfl, h, Int.natCast_nonneg _, Int.le_refl _⟩
    split
    · exact .inr ⟨rfl, (by show ¬ (12 : Int) = 0; decide), Int.le_refl _, Int.natCast_nonneg _⟩
    · rename_i h1 h2 h3
      refine .inl ⟨rfl, ?_, by show deepS (readT l 0 0).1 ≤ 12; omega⟩
      show rightS (readT l 0 0).1 = true
      have hr := rd_rt (fun t ht => (hl.all t ht).1) (needS l 0 0) 0 0 false
      unfold readT at h2 ⊢
      split at h2
      · exact absurd (show (11 : Int) ≠ 0 by decide) h2
      · rename_i hb
        rw [if_neg hb]
        exact hr (by simpa using hb)
  · rw [h, if_pos he]
    exact .inr ⟨rfl, he, Int.natCast_nonneg _, by show (j : Int) ≤ _; omega⟩
theorem sm_right : ∀ (d : Nat) (x : Ex), deepS x ≤ d → rightS x = true → looseX d x = true
  | 0, x, h, _ => by rw [deep_eq] at h; omega
  | d + 1, x, h, hr => by
    have kid : ∀ y ∈ x.l, rightS y = true → looseX d y = true := fun y hy hry => sm_right d y (by have := deep_sub hy; omega) hry
    have e : looseX (d + 1) x = (decide (x.s.length ≤ 1000000) && decide (x.v.s.length ≤ 9223372036854775807) && decide (x.l.length ≤ 5) && x.l.all (looseX d)) := rfl
    have v00 : v0.s.length = 0 := rfl
    rw [e]
    simp only [Bool.and_eq_true, decide_eq_true_eq, List.all_eq_true]
    rcases right_parts hr with ⟨h, hl, hs, hv, _⟩ | ⟨h, hl, hv, hn⟩ | ⟨h, hv, hs, a, hl, ha⟩ | ⟨h, hv, hs, a, b, c, hl, ha, hb, hc⟩ | ⟨h, hv, hs, a, b, hl, ha, hb⟩
    · have := valOk_40 hv
      rw [hs, hl]; exact ⟨⟨⟨by simp, by omega⟩, by simp⟩, fun y hy => by cases hy⟩
    · have := name_len hn
      rw [hv, hl]; exact ⟨⟨⟨by omega, by rw [v00]; decide⟩, by simp⟩, fun y hy => by cases hy⟩
    · rw [hv, hs]; exact ⟨⟨⟨by simp, by rw [v00]; decide⟩, by rw [hl]; simp⟩, fun y hy => kid y hy (by rw [hl] at hy; simp at hy; subst hy; exact ha)⟩
    · rw [hv, hs]; exact ⟨⟨⟨by simp, by rw [v00]; decide⟩, by rw [hl]; simp⟩, fun y hy => kid y hy (by rw [hl] at hy; simp at hy; rcases hy with rfl | rfl | rfl <;> assumption)⟩
    · rw [hv, hs]; exact ⟨⟨⟨by simp, by rw [v00]; decide⟩, by rw [hl]; simp⟩, fun y hy => kid y hy (by rw [hl] at hy; simp at hy; rcases hy with rfl | rfl <;> assumption)⟩
theorem smx_right {x : Ex} (hr : rightS x = true) : SmX x := ⟨_, sm_right _ x (Nat.le_refl _) hr⟩
/-! two texts -/
def exT : List UInt8 := [97, 45, 40, 98, 45, 99, 41, 42, 50]
def exT2 : List UInt8 := [97, 32, 45, 32, 40, 98, 32, 45, 32, 99, 41, 32, 42, 32, 50]
def exT3 : List UInt8 := [97, 60, 98, 60, 99]
def nmX (b : UInt8) : Ex := .mk 2 v0 [b] []
def exX : Ex := .mk 5 v0 [] [nmX 97, .mk 6 v0 [] [.mk 5 v0 [] [nmX 98, nmX 99], .mk 1 ⟨1, 2, []⟩ [] []]]
theorem lex_1 : lexS exT = ([⟨1, [97], 0, 0⟩, ⟨4, [45], 0, 1⟩, ⟨4, [40], 0, 2⟩, ⟨1, [98], 0, 3⟩, ⟨4, [45], 0, 4⟩, ⟨1, [99], 0, 5⟩, ⟨4, [41], 0, 6⟩, ⟨4, [42], 0, 7⟩, ⟨2, [], 2, 8⟩], 0, 0) := by
  rw [lex_run exT (by decide)]; decide +kernel
theorem lex_2 : lexS exT3 = ([⟨1, [97], 0, 0⟩, ⟨4, [60], 0, 1⟩, ⟨1, [98], 0, 2⟩, ⟨4, [60], 0, 3⟩, ⟨1, [99], 0, 4⟩], 0, 0) := by
  rw [lex_run exT3 (by decide)]; decide +kernel
theorem parse_1 : parseT exT = (exX, 0, 0) := by
  unfold parseT; rw [lex_1]; kernel_rfl
theorem parse_2 : parseT exT3 = (ex0, 3, 11) := by
  unfold parseT; rw [lex_2]; kernel_rfl
theorem text_1 : textT exX = (exT2, 0) := by kernel_rfl
end Go.Proofs.YtpcgdhhndeanoaaGreatDoor
namespace Go.Proofs.YtpcgdhhndeanoaaGreatDoor
open Go Go.Dx Go.RowKit
/-- a piece of a text: a blank, a token -/
abbrev Pc := Option Tok
def pcT : Pc → List UInt8
  | none => [32]
  | some t => tkS t
def flatP (l : List Pc) : List UInt8 := (l.map pcT).flatten
def toksP : List Pc → List Tok
  | [] => []
  | none :: l => toksP l
  | some t :: l => t :: toksP l
theorem toks_app : ∀ a b : List Pc, toksP (a ++ b) = toksP a ++ toksP b
  | [], b => rfl
  | none :: a, b => toks_app a b
  | some t :: a, b => congrArg (t :: ·) (toks_app a b)
theorem flat_app (a b : List Pc) : flatP (a ++ b) = flatP a ++ flatP b := by simp [flatP]
theorem flat_cons (p : Pc) (l : List Pc) : flatP (p :: l) = pcT p ++ flatP l := by simp [flatP]
def opT : Tok := ⟨4, [40], 0, 0⟩
def clT : Tok := ⟨4, [41], 0, 0⟩
def miT : Tok := ⟨4, [45], 0, 0⟩
def wdT (s : List UInt8) : Tok := ⟨1, s, 0, 0⟩
/-- anything may follow -/
def loose (t : Tok) : Prop := t.k = 3 ∨ (t.k = 4 ∧ (t.s = [40] ∨ t.s = [41] ∨ t.s = [45]))
theorem one_mk2 {s r : List UInt8} (h : s = [40] ∨ s = [41] ∨ s = [45]) : oneS (s ++ r) = .ok ⟨4, s, 0, 0⟩ s.length := by
  have e0 : (s ++ r).getD 0 0 = s.getD 0 0 := by rcases h with rfl | rfl | rfl <;> rfl
  have k : isLet (s.getD 0 0) = false ∧ isDig (s.getD 0 0) = false ∧ ¬ bt s 0 = 34 := by rcases h with rfl | rfl | rfl <;> decide +kernel
  rw [one_mark (by rw [e0]; exact k.1) (by rw [e0]; exact k.2.1) (by unfold bt; rw [e0]; exact k.2.2)]
  rcases h with rfl | rfl | rfl <;> simp [markG, marksL, pre]
theorem one_tk2 {t : Tok} (h : rightT t = true) (hn : I64 t.n) {r : List UInt8} (hr : loose t ∨ Tail r) : oneS (tkS t ++ r) = .ok (bare t) (tkS t).length := by
  rcases hr with (h3 | ⟨h4, hs⟩) | hr
  · obtain ⟨k, s, n, p⟩ := t
    have h3 : k = 3 := h3
    subst h3
    rw [right_3 rfl] at h
    simp only [Bool.and_eq_true, decide_eq_true_eq] at h
    obtain ⟨rfl, hp⟩ := h
    exact one_text hp
  · obtain ⟨k, s, n, p⟩ := t
    have h4 : k = 4 := h4
    subst h4
    rw [right_4 rfl] at h
    simp only [Bool.and_eq_true, decide_eq_true_eq] at h
    obtain ⟨rfl, _⟩ := h
    exact one_mk2 hs
  · exact one_tk h hn hr
theorem lex_tok2 {A r : List UInt8} {t : Tok} (h : rightT t = true) (hn : I64 t.n) (hr : loose t ∨ Tail r) (out : List Tok) :
    lexG (A ++ (tkS t ++ r)) A.length out = lexG (A ++ (tkS t ++ r)) (A.length + (tkS t).length) (out ++ [{ t with p := (A.length : Int) }]) := by
  obtain ⟨b, q, e, hb⟩ := tk_first h
  have hlt : A.length < (A ++ (tkS t ++ r)).length := by rw [e]; simp
  have hd : (A ++ (tkS t ++ r)).drop A.length = tkS t ++ r := by simp
  have := lex_ok (out := out) hlt (by
    rw [e, List.cons_append, bt_at]
    intro hh; exact hb (UInt8.toNat_inj.1 (by have e : (32 : UInt8).toNat = 32 := rfl; omega))) (by rw [hd]; exact one_tk2 h hn hr) (by rw [e]; simp)
  exact this
/-- what may stand behind a token that is not loose -/
def Opn (l : List Pc) : Prop := l = [] ∨ (∃ q, l = none :: q) ∨ ∃ q, l = some clT :: q
def GoodP : List Pc → Prop
  | [] => True
  | none :: l => GoodP l
  | some t :: l => rightT t = true ∧ I64 t.n ∧ (loose t ∨ Opn l) ∧ GoodP l
theorem opn_tail {l : List Pc} (h : Opn l) : Tail (flatP l) := by
  rcases h with rfl | ⟨q, rfl⟩ | ⟨q, rfl⟩
  · exact .inl rfl
  · exact .inr (.inl ⟨_, flat_cons _ _⟩)
  · exact .inr (.inr ⟨_, flat_cons _ _⟩)
theorem good_app : ∀ {a b : List Pc}, GoodP a → GoodP b → Opn b → GoodP (a ++ b)
  | [], b, _, hb, _ => hb
  | none :: a, b, ha, hb, ho => good_app (a := a) ha hb ho
  | some t :: a, b, ⟨h1, h2, h3, h4⟩, hb, ho => ⟨h1, h2, h3.imp_right fun h => (by
      rcases h with rfl | ⟨q, rfl⟩ | ⟨q, rfl⟩
      · exact ho
      · exact .inr (.inl ⟨_, rfl⟩)
      · exact .inr (.inr ⟨_, rfl⟩) : Opn (a ++ b)), good_app (a := a) h4 hb ho⟩
theorem lex_pcs : ∀ (l : List Pc) (A : List UInt8) (out : List Tok), GoodP l → ∃ l', lexG (A ++ flatP l) A.length out = (out ++ l', 0, 0) ∧ l'.map bare = (toksP l).map bare
  | [], A, out, _ => ⟨[], by rw [lex_end (by simp [flatP]), List.append_nil], rfl⟩
  | none :: l, A, out, h => by
    obtain ⟨l', e, hk⟩ := lex_pcs l (A ++ [32]) out h
    refine ⟨l', ?_, hk⟩
    have e1 : A ++ flatP (none :: l) = A ++ 32 :: flatP l := by rw [flat_cons]; rfl
    have e2 : A ++ 32 :: flatP l = (A ++ [32]) ++ flatP l := by simp
    rw [e1, lex_sp (by simp) (by rw [bt_at]; rfl), e2]
    rw [show A.length + 1 = (A ++ [32]).length by simp]
    exact e
  | some t :: l, A, out, ⟨h1, h2, h3, h4⟩ => by
    obtain ⟨l', e, hk⟩ := lex_pcs l (A ++ tkS t) (out ++ [{ t with p := (A.length : Int) }]) h4
    refine ⟨{ t with p := (A.length : Int) } :: l', ?_, ?_⟩
    · have e1 : A ++ flatP (some t :: l) = A ++ (tkS t ++ flatP l) := by rw [flat_cons]; rfl
      have e2 : A ++ (tkS t ++ flatP l) = (A ++ tkS t) ++ flatP l := by simp
      rw [e1, lex_tok2 h1 h2 (h3.imp_right opn_tail), e2]
      rw [show A.length + (tkS t).length = (A ++ tkS t).length by simp, e]
      simp
    · rw [List.map_cons, hk]; rfl
/-! an expression, in pieces -/
def valT (v : Val) : Tok := if v.k = 1 then ⟨2, [], v.n, 0⟩ else if v.k = 2 then ⟨3, v.s, 0, 0⟩ else if v.k = 3 then wdT (boolS (decide (v.n = 1))) else wdT nullS
def sgT (op : Int) : Tok := ⟨kindB (findS op), (findS op).2.1, 0, 0⟩
def bodyP (op : Int) (v : Val) (s : List UInt8) (c : List (List Pc)) : List Pc :=
  if op = 1 then [some (valT v)] else if op = 2 then [some (wdT s)] else if op = 3 then some miT :: c.getD 0 []
  else if op = 16 then some (wdT ifT) :: none :: (c.getD 0 [] ++ none :: some (wdT thenT) :: none :: (c.getD 1 [] ++ none :: some (wdT elseT) :: none :: c.getD 2 []))
  else c.getD 0 [] ++ none :: some (sgT op) :: none :: c.getD 1 []
mutual
def pcS : Ex → Int → List Pc
  | .mk op v s l, m => if levS op < m then some opT :: (bodyP op v s (pcL l (msS op)) ++ [some clT]) else bodyP op v s (pcL l (msS op))
def pcL : List Ex → List Int → List (List Pc)
  | [], _ => []
  | _ :: _, [] => []
  | x :: l, m :: ms => pcS x m :: pcL l ms
end
def bodyXP (x : Ex) : List Pc := bodyP x.op x.v x.s (pcL x.l (msS x.op))
theorem pc_eq (x : Ex) (m : Int) : pcS x m = if levS x.op < m then some opT :: (bodyXP x ++ [some clT]) else bodyXP x := by
  cases x with
  | mk op v s l => rw [pcS]; rfl
theorem bp_1 {x : Ex} (h : x.op = 1) : bodyXP x = [some (valT x.v)] := by rw [bodyXP, bodyP, if_pos h]
theorem bp_2 {x : Ex} (h : x.op = 2) : bodyXP x = [some (wdT x.s)] := by rw [bodyXP, bodyP, if_neg (by omega), if_pos h]
theorem bp_3 {x a : Ex} (h : x.op = 3) (hl : x.l = [a]) : bodyXP x = some miT :: pcS a 6 := by rw [bodyXP, bodyP, if_neg (by omega), if_neg (by omega), if_pos h, hl, msS, if_pos h]; rfl
theorem bp_16 {x a b c : Ex} (h : x.op = 16) (hl : x.l = [a, b, c]) : bodyXP x = some (wdT ifT) :: none :: (pcS a 0 ++ none :: some (wdT thenT) :: none :: (pcS b 0 ++ none :: some (wdT elseT) :: none :: pcS c 0)) := by
  rw [bodyXP, bodyP, if_neg (by omega), if_neg (by omega), if_neg (by omega), if_pos h, hl, msS, if_neg (by omega), if_pos h]; rfl
theorem bp_b {x a b : Ex} (h : 4 ≤ x.op ∧ x.op ≤ 15) (hl : x.l = [a, b]) : bodyXP x = pcS a (if (findS x.op).2.2 = 3 then 4 else (findS x.op).2.2) ++ none :: some (sgT x.op) :: none :: pcS b ((findS x.op).2.2 + 1) := by
  rw [bodyXP, bodyP, if_neg (by omega), if_neg (by omega), if_neg (by omega), if_neg (by omega), hl, msS, if_neg (by omega), if_neg (by omega)]; rfl
theorem val_tk {v : Val} (h : valOk v = true) : tkS (valT v) = (txR v).1 := by
  rw [show txR v = (txS v, 0) by rw [txR, if_pos h]]
  show _ = txS v
  unfold valT txS
  split
  · rfl
  split
  · rfl
  split
  · rfl
  · rfl
theorem val_right {v : Val} (h : valOk v = true) (hn : v.k = 1 → 0 ≤ v.n) : rightT (valT v) = true := by
  rcases valOk_cases h with ⟨h1, _⟩ | ⟨h1, _⟩ | ⟨h1, _, hp⟩ | ⟨h1, _⟩
  · unfold valT; rw [if_neg (by omega), if_neg (by omega), if_neg (by omega)]; decide +kernel
  · unfold valT; rw [if_pos h1, right_2 rfl]; simp [hn h1]
  · unfold valT; rw [if_neg (by omega), if_pos h1, right_3 rfl]; simp [hp]
  · unfold valT; rw [if_neg (by omega), if_neg (by omega), if_pos h1]
    cases decide (v.n = 1) <;> decide +kernel
theorem val_n {v : Val} (hb : i64 v.n) : I64 (valT v).n := by
  unfold valT
  split
  · exact hb
  split
  · exact i64_0
  split
  · exact i64_0
  · exact i64_0
theorem name_right {s : List UInt8} (h : nameOk s = true) : rightT (wdT s) = true := by
  simp only [nameOk, Bool.and_eq_true, Bool.not_eq_true', decide_eq_false_iff_not, decide_eq_true_eq] at h
  rw [right_1 rfl]
  simp only [Bool.and_eq_true, decide_eq_true_eq, Bool.not_eq_true', decide_eq_false_iff_not]
  exact ⟨⟨⟨rfl, h.1⟩, h.2.1⟩, h.2.2.1⟩
theorem op_cases {op : Int} (h : 4 ≤ op ∧ op ≤ 15) {P : Int → Prop} (hp : ∀ j, j < 12 → P (binL.getD j (0, [], 0)).1) : P op := by
  have : op = 4 ∨ op = 5 ∨ op = 6 ∨ op = 7 ∨ op = 8 ∨ op = 9 ∨ op = 10 ∨ op = 11 ∨ op = 12 ∨ op = 13 ∨ op = 14 ∨ op = 15 := by omega
  rcases this with rfl | rfl | rfl | rfl | rfl | rfl | rfl | rfl | rfl | rfl | rfl | rfl
  · exact hp 0 (by decide)
  · exact hp 1 (by decide)
  · exact hp 2 (by decide)
  · exact hp 3 (by decide)
  · exact hp 4 (by decide)
  · exact hp 5 (by decide)
  · exact hp 6 (by decide)
  · exact hp 7 (by decide)
  · exact hp 8 (by decide)
  · exact hp 9 (by decide)
  · exact hp 10 (by decide)
  · exact hp 11 (by decide)
theorem sg_right {op : Int} (h : 4 ≤ op ∧ op ≤ 15) : rightT (sgT op) = true := op_cases h (P := fun op => rightT (sgT op) = true) (by decide +kernel)
theorem sg_tk (op : Int) (h : 4 ≤ op ∧ op ≤ 15) : tkS (sgT op) = (findS op).2.1 := op_cases h (P := fun op => tkS (sgT op) = (findS op).2.1) (by decide +kernel)
/-- numbers in bounds, throughout -/
inductive VB : Ex → Prop
  | mk (op : Int) (v : Val) (s : List UInt8) (l : List Ex) (h : i64 v.n) (hl : ∀ y ∈ l, VB y) : VB (.mk op v s l)
theorem VB.kid {x y : Ex} (h : VB x) (hy : y ∈ x.l) : VB y := by
  cases h with
  | mk op v s l h hl => exact hl y hy
theorem VB.n {x : Ex} (h : VB x) : i64 x.v.n := by
  cases h with
  | mk op v s l h hl => exact h
theorem RX.vb {h : View} {cs : List Value} {x : Ex} (hx : RX h cs x) : VB x := by
  induction hx with
  | mk op v s l ad cap c hb hs hc ih =>
    refine .mk op v s l hb.2.2 fun y hy => ?_
    obtain ⟨i, hi⟩ := List.mem_iff_getElem?.1 hy
    exact ih i y hi
theorem pc_good : ∀ (k : Nat) (x : Ex), SizeOf.sizeOf x < k → rightS x = true → VB x → ∀ m, GoodP (pcS x m) ∧ flatP (pcS x m) = putS x m := by
  intro k
  induction k with
  | zero => intro x h; omega
  | succ k ih =>
    intro x hk hr hb m
    have kid : ∀ y ∈ x.l, rightS y = true → ∀ m, GoodP (pcS y m) ∧ flatP (pcS y m) = putS y m := fun y hy hry m => ih y (by have := Ex.lt hy; omega) hry (hb.kid hy) m
    have body : GoodP (bodyXP x) ∧ flatP (bodyXP x) = bodyX x := by
      rcases right_parts hr with ⟨h, hl, hs, hv, hn⟩ | ⟨h, hl, hv, hn⟩ | ⟨h, hv, hs, a, hl, ha⟩ | ⟨h, hv, hs, a, b, c, hl, ha, hb', hc⟩ | ⟨h, hv, hs, a, b, hl, ha, hb'⟩
      · rw [bp_1 h, body_1 h]
        exact ⟨⟨val_right hv hn, val_n hb.n, .inr (.inl rfl), trivial⟩, by rw [flat_cons]; show tkS _ ++ [] = _; rw [List.append_nil, val_tk hv]⟩
      · rw [bp_2 h, body_2 h]
        exact ⟨⟨name_right hn, i64_0, .inr (.inl rfl), trivial⟩, by rw [flat_cons]; show x.s ++ [] = _; rw [List.append_nil]⟩
      · obtain ⟨g1, f1⟩ := kid a (by rw [hl]; simp) ha 6
        rw [bp_3 h hl, body_3 h hl]
        exact ⟨⟨by decide +kernel, i64_0, .inl (.inr ⟨rfl, .inr (.inr rfl)⟩), g1⟩, by rw [flat_cons, f1]; rfl⟩
      · obtain ⟨g1, f1⟩ := kid a (by rw [hl]; simp) ha 0
        obtain ⟨g2, f2⟩ := kid b (by rw [hl]; simp) hb' 0
        obtain ⟨g3, f3⟩ := kid c (by rw [hl]; simp) hc 0
        rw [bp_16 h hl, body_16 h hl]
        refine ⟨⟨by decide +kernel, i64_0, .inr (.inr (.inl ⟨_, rfl⟩)), good_app g1 (⟨by decide +kernel, i64_0, .inr (.inr (.inl ⟨_, rfl⟩)), good_app g2 (⟨by decide +kernel, i64_0, .inr (.inr (.inl ⟨_, rfl⟩)), g3⟩) (.inr (.inl ⟨_, rfl⟩))⟩) (.inr (.inl ⟨_, rfl⟩))⟩, ?_⟩
        simp only [flat_cons, flat_app, f1, f2, f3, List.append_assoc]
        rfl
      · obtain ⟨g1, f1⟩ := kid a (by rw [hl]; simp) ha (if (findS x.op).2.2 = 3 then 4 else (findS x.op).2.2)
        obtain ⟨g2, f2⟩ := kid b (by rw [hl]; simp) hb' ((findS x.op).2.2 + 1)
        rw [bp_b h hl, body_b h hl]
        refine ⟨good_app g1 (⟨sg_right h, i64_0, .inr (.inr (.inl ⟨_, rfl⟩)), g2⟩) (.inr (.inl ⟨_, rfl⟩)), ?_⟩
        simp only [flat_cons, flat_app, f1, f2, List.append_assoc]
        show _ ++ ([32] ++ (tkS (sgT x.op) ++ ([32] ++ _))) = _
        rw [sg_tk _ h]; simp
    rw [pc_eq, put_eq]
    by_cases hm : levS x.op < m
    · rw [if_pos hm, if_pos hm]
      refine ⟨⟨by decide +kernel, i64_0, .inl (.inr ⟨rfl, .inl rfl⟩), good_app body.1 ⟨by decide +kernel, i64_0, .inl (.inr ⟨rfl, .inr (.inl rfl)⟩), trivial⟩ (.inr (.inr ⟨_, rfl⟩))⟩, ?_⟩
      rw [flat_cons, flat_app, body.2, flat_cons]; rfl
    · rw [if_neg hm, if_neg hm]; exact body
/-- the tokens of a written expression -/
theorem lex_put {x : Ex} (hr : rightS x = true) (hb : VB x) (hlen : (putS x 0).length ≤ 200) : ∃ l, lexS (putS x 0) = (l, 0, 0) ∧ l.map bare = (toksP (pcS x 0)).map bare := by
  obtain ⟨g, f⟩ := pc_good _ x (Nat.lt_succ_self _) hr hb 0
  obtain ⟨l', e, hk⟩ := lex_pcs (pcS x 0) [] [] g
  rw [f] at e
  exact ⟨l', by rw [lexS, if_neg (by omega)]; simpa using e, hk⟩
end Go.Proofs.YtpcgdhhndeanoaaGreatDoor
namespace Go.Proofs.YtpcgdhhndeanoaaGreatDoor
open Go Go.Dx Go.RowKit
/-- these tokens stand here -/
def Seg (l : List Tok) : Nat → List Tok → Prop
  | _, [] => True
  | i, t :: T => (i < l.length ∧ bare (l.getD i t0) = bare t) ∧ Seg l (i + 1) T
theorem seg_app (l : List Tok) : ∀ (A B : List Tok) (i : Nat), Seg l i (A ++ B) ↔ Seg l i A ∧ Seg l (i + A.length) B
  | [], B, i => by simp [Seg]
  | t :: A, B, i => by
    rw [List.cons_append, Seg, Seg, seg_app l A B (i + 1), List.length_cons, show i + 1 + A.length = i + (A.length + 1) by omega]
    simp only [and_assoc]
theorem seg_len {l : List Tok} : ∀ {T : List Tok} {i : Nat}, Seg l i T → i ≤ l.length → i + T.length ≤ l.length
  | [], i, _, h => h
  | t :: T, i, h, _ => by
    have := seg_len h.2 h.1.1
    rw [List.length_cons]; omega
theorem seg_all {T : List Tok} : ∀ (l : List Tok) (P : List Tok), l.map bare = T.map bare → Seg (P ++ l) P.length T := by
  induction T with
  | nil => intro l P _; trivial
  | cons t T ih =>
    intro l P h
    match l, h with
    | u :: l, h =>
      simp only [List.map_cons, List.cons.injEq] at h
      refine ⟨⟨by simp, by rw [getD_app]; exact h.1⟩, ?_⟩
      have := ih l (P ++ [u]) h.2
      rw [List.append_assoc] at this
      simpa using this
theorem now_seg {l : List Tok} {i : Nat} {t : Tok} {T : List Tok} (h : Seg l i (t :: T)) : (nowS l i false).k = t.k ∧ (nowS l i false).s = t.s ∧ (nowS l i false).n = t.n := by
  have e := h.1.2
  have e1 : nowS l i false = l.getD i t0 := by unfold nowS; rw [if_neg (by decide)]
  rw [e1]
  have a := congrArg Tok.k e
  have b := congrArg Tok.s e
  have c := congrArg Tok.n e
  exact ⟨a, b, c⟩
theorem on_seg {l : List Tok} {i : Nat} {t : Tok} {T : List Tok} (h : Seg l i (t :: T)) (k : Int) (s : List UInt8) : onS l i false k s = (decide (t.k = k) && decide (t.s = s)) := by
  obtain ⟨h1, h2, _⟩ := now_seg h
  rw [onS, h1, h2]
/-- the op of two of a level that a token is; 0: none -/
def opK (t : Tok) (lev : Int) : Int := match binL.find? (fun b => decide (b.2.2 = lev) && (decide (t.k = kindB b) && decide (t.s = b.2.1))) with
  | some b => b.1
  | none => 0
theorem op_seg {l : List Tok} {i : Nat} {t : Tok} {T : List Tok} (h : Seg l i (t :: T)) (lev : Int) : opS l i false lev = opK t lev := by
  unfold opS opK
  rw [show hitB l i false lev = (fun b => decide (b.2.2 = lev) && (decide (t.k = kindB b) && decide (t.s = b.2.1))) from funext fun b => by rw [hitB, on_seg h]] <;> rfl
/-- no op of two of these levels here -/
def Stop (l : List Tok) (i lev : Nat) : Prop := ∀ n : Nat, lev ≤ n → opS l i false (n : Int) = 0
theorem Stop.le {l : List Tok} {i a b : Nat} (h : Stop l i a) (hab : a ≤ b) : Stop l i b := fun n hn => h n (Nat.le_trans hab hn)
theorem stop_end (l : List Tok) : Stop l l.length 0 := fun n _ => by
  by_cases h : opS l l.length false (n : Int) = 0
  · exact h
  · exact absurd (op_lt h).1 (Nat.lt_irrefl _)
theorem opK_none {t : Tok} (h : ∀ b ∈ binL, ¬ (t.k = kindB b ∧ t.s = b.2.1)) (lev : Int) : opK t lev = 0 := by
  unfold opK
  have : binL.find? (fun b => decide (b.2.2 = lev) && (decide (t.k = kindB b) && decide (t.s = b.2.1))) = none := by
    rw [List.find?_eq_none]
    intro b hb hh
    simp only [Bool.and_eq_true, decide_eq_true_eq] at hh
    exact h b hb hh.2
  rw [this]
theorem stop_tok {l : List Tok} {i : Nat} {t : Tok} {T : List Tok} (hs : Seg l i (t :: T)) (h : ∀ b ∈ binL, ¬ (t.k = kindB b ∧ t.s = b.2.1)) : Stop l i 0 := fun n _ => by rw [op_seg hs, opK_none h]
theorem sg_op {op : Int} (h : 4 ≤ op ∧ op ≤ 15) : opK (sgT op) (findS op).2.2 = op := op_cases h (P := fun op => opK (sgT op) (findS op).2.2 = op) (by decide +kernel)
theorem sg_uniq {op : Int} (h : 4 ≤ op ∧ op ≤ 15) : ∀ b ∈ binL, (sgT op).k = kindB b ∧ (sgT op).s = b.2.1 → b.2.2 = (findS op).2.2 := op_cases h (P := fun op => ∀ b ∈ binL, (sgT op).k = kindB b ∧ (sgT op).s = b.2.1 → b.2.2 = (findS op).2.2) (by decide +kernel)
theorem sg_lev {op : Int} (h : 4 ≤ op ∧ op ≤ 15) : 1 ≤ (findS op).2.2 ∧ (findS op).2.2 ≤ 5 := op_cases h (P := fun op => 1 ≤ (findS op).2.2 ∧ (findS op).2.2 ≤ 5) (by decide +kernel)
theorem sg_none {op lev : Int} (h : 4 ≤ op ∧ op ≤ 15) (hl : lev ≠ (findS op).2.2) : opK (sgT op) lev = 0 := by
  unfold opK
  have : binL.find? (fun b => decide (b.2.2 = lev) && (decide ((sgT op).k = kindB b) && decide ((sgT op).s = b.2.1))) = none := by
    rw [List.find?_eq_none]
    intro b hb hh
    simp only [Bool.and_eq_true, decide_eq_true_eq] at hh
    exact hl (hh.1 ▸ sg_uniq h b hb hh.2)
  rw [this]
theorem stop_sg {l : List Tok} {i : Nat} {op : Int} {T : List Tok} (h : 4 ≤ op ∧ op ≤ 15) (hs : Seg l i (sgT op :: T)) {L : Nat} (hL : (findS op).2.2 < (L : Int)) : Stop l i L := fun n hn => by
  rw [op_seg hs]; exact sg_none h (by omega)
theorem lev_b {op : Int} (h : 4 ≤ op ∧ op ≤ 15) : levS op = (findS op).2.2 := by
  rw [levS, if_neg (by omega), if_neg (by omega), if_neg (by omega)]
/-! the first token -/
def tks (x : Ex) (m : Int) : List Tok := toksP (pcS x m)
def tkb (x : Ex) : List Tok := toksP (bodyXP x)
theorem tks_eq (x : Ex) (m : Int) : tks x m = if levS x.op < m then opT :: (tkb x ++ [clT]) else tkb x := by
  unfold tks tkb
  rw [pc_eq]
  split
  · rw [toksP, toks_app]; rfl
  · rfl
theorem tkb_1 {x : Ex} (h : x.op = 1) : tkb x = [valT x.v] := by rw [tkb, bp_1 h]; rfl
theorem tkb_2 {x : Ex} (h : x.op = 2) : tkb x = [wdT x.s] := by rw [tkb, bp_2 h]; rfl
theorem tkb_3 {x a : Ex} (h : x.op = 3) (hl : x.l = [a]) : tkb x = miT :: tks a 6 := by rw [tkb, bp_3 h hl]; rfl
theorem tkb_16 {x a b c : Ex} (h : x.op = 16) (hl : x.l = [a, b, c]) : tkb x = wdT ifT :: (tks a 0 ++ wdT thenT :: (tks b 0 ++ wdT elseT :: tks c 0)) := by
  rw [tkb, bp_16 h hl]; simp only [toksP, toks_app]; rfl
theorem tkb_b {x a b : Ex} (h : 4 ≤ x.op ∧ x.op ≤ 15) (hl : x.l = [a, b]) : tkb x = tks a (if (findS x.op).2.2 = 3 then 4 else (findS x.op).2.2) ++ sgT x.op :: tks b ((findS x.op).2.2 + 1) := by
  rw [tkb, bp_b h hl]; simp only [toksP, toks_app]; rfl
/-- not the word `if` -/
def noIf (T : List Tok) : Prop := ∃ t r, T = t :: r ∧ ¬ (t.k = 1 ∧ t.s = ifT)
theorem noIf_app {T U : List Tok} (h : noIf T) : noIf (T ++ U) := by
  obtain ⟨t, r, rfl, h⟩ := h
  exact ⟨t, r ++ U, rfl, h⟩
theorem val_word {v : Val} (h : valOk v = true) : (valT v).k = 2 ∨ (valT v).k = 3 ∨ ((valT v).k = 1 ∧ ((valT v).s = nullS ∨ (valT v).s = trueS ∨ (valT v).s = falseS)) := by
  unfold valT
  split
  · exact .inl rfl
  split
  · exact .inr (.inl rfl)
  split
  · refine .inr (.inr ⟨rfl, .inr ?_⟩)
    unfold boolS
    split
    · exact .inl rfl
    · exact .inr rfl
  · exact .inr (.inr ⟨rfl, .inl rfl⟩)
theorem name_if {s : List UInt8} (h : nameOk s = true) : s ≠ ifT := by
  rintro rfl
  revert h; decide +kernel
theorem first_no : ∀ (k : Nat) (x : Ex), SizeOf.sizeOf x < k → rightS x = true → ∀ m, (levS x.op < m ∨ x.op ≠ 16) → noIf (tks x m) := by
  intro k
  induction k with
  | zero => intro x h; omega
  | succ k ih =>
    intro x hk hr m hm
    rw [tks_eq]
    split
    · exact ⟨_, _, rfl, fun h => absurd h.1 (by decide)⟩
    · rename_i hlt
      have h16 : x.op ≠ 16 := hm.resolve_left hlt
      rcases right_parts hr with ⟨h, hl, hs, hv, hn⟩ | ⟨h, hl, hv, hn⟩ | ⟨h, hv, hs, a, hl, ha⟩ | ⟨h, hv, hs, a, b, c, hl, ha, hb', hc⟩ | ⟨h, hv, hs, a, b, hl, ha, hb'⟩
      · rw [tkb_1 h]
        refine ⟨_, _, rfl, fun hh => ?_⟩
        rcases val_word hv with h1 | h1 | ⟨_, h1⟩
        · rw [h1] at hh; exact absurd hh.1 (by decide)
        · rw [h1] at hh; exact absurd hh.1 (by decide)
        · rw [hh.2] at h1; revert h1; decide
      · rw [tkb_2 h]; exact ⟨_, _, rfl, fun hh => name_if hn hh.2⟩
      · rw [tkb_3 h hl]; exact ⟨_, _, rfl, fun hh => absurd hh.1 (by decide)⟩
      · exact absurd h h16
      · rw [tkb_b h hl]
        refine noIf_app (ih a (by have := Ex.lt (x := x) (y := a) (by rw [hl]; simp); omega) ha _ ?_)
        have hs := sg_lev h
        by_cases ha16 : a.op = 16
        · refine .inl ?_
          rw [show levS a.op = 0 by rw [levS, if_pos ha16]]
          split <;> omega
        · exact .inr ha16
/-! reading -/
theorem rd_low (l : List Tok) (lev i : Nat) (h0 : lev ≠ 0) (h6 : lev < 6) (hi : i ≤ l.length) : rdN l lev i false = loopS (rdN l (lev + 1)) l lev (l.length + 1) (rdN l (lev + 1) i false).1 (rdN l (lev + 1) i false).2.1 (rdN l (lev + 1) i false).2.2 := by
  rw [rdN_eq l lev i false (by omega) hi, if_neg (by decide), if_neg h0, if_neg (fun h => by omega), if_neg (by omega)]
theorem loop_stop (rd : Nat → Bool → RdR) (l : List Tok) (lev n : Nat) (x : Ex) (i : Nat) (h : opS l i false lev = 0) : loopS rd l lev n x i false = (x, i, false) := by
  cases n with
  | zero => rfl
  | succ n => unfold loopS; rw [if_pos h]
/-- from a level to a looser one -/
theorem rd_down {l : List Tok} {i e : Nat} {x : Ex} {T : List Tok} (hT : Seg l i T) (hn : noIf T) (hi : i ≤ l.length) : ∀ (d lev B : Nat), B = lev + d → B ≤ 6 → rdN l B i false = (x, e, false) → Stop l e lev → rdN l lev i false = (x, e, false)
  | 0, lev, B, h, _, hr, _ => by rw [show lev = B by omega]; exact hr
  | d + 1, lev, B, h, hB, hr, hs => by
    have h1 := rd_down hT hn hi d (lev + 1) B (by omega) hB hr (hs.le (Nat.le_succ _))
    by_cases h0 : lev = 0
    · subst h0
      obtain ⟨t, r, rfl, hne⟩ := hn
      rw [rdN_eq l 0 i false (by omega) hi, if_neg (by decide), if_pos rfl, if_neg]
      · exact h1
      · rw [on_seg hT]
        simp only [Bool.and_eq_true, decide_eq_true_eq]
        exact hne
    · rw [rd_low l lev i h0 (by omega) hi, h1]
      exact loop_stop _ _ _ _ _ _ (hs lev (Nat.le_refl _))
theorem ex_eta {x : Ex} {op : Int} {v : Val} {s : List UInt8} {l : List Ex} (h1 : x.op = op) (h2 : x.v = v) (h3 : x.s = s) (h4 : x.l = l) : x = .mk op v s l := by
  cases x with
  | mk a b c d => cases h1; cases h2; cases h3; cases h4; rfl
theorem must_hit {l : List Tok} {i : Nat} {t : Tok} {T : List Tok} {k : Int} {s : List UInt8} (h : Seg l i (t :: T)) (hk : t.k = k) (hs : t.s = s) : mustS l (i, false) k s = (i + 1, false) := by
  have : onS l i false k s = true := by rw [on_seg h, decide_eq_true hk, decide_eq_true hs]; rfl
  unfold mustS
  show ((if onS l i false k s = true then i + 1 else i), (false || !onS l i false k s)) = _
  rw [if_pos this, this]; rfl
structure Rd (x : Ex) : Prop where
  put : ∀ (l : List Tok) (i lev : Nat) (m : Int), lev ≤ 7 → i ≤ l.length → (levS x.op < m ∨ (lev : Int) ≤ levS x.op) → Seg l i (tks x m) → Stop l (i + (tks x m).length) lev → rdN l lev i false = (x, i + (tks x m).length, false)
  loop : ∀ (l : List Tok) (i L : Nat) (m : Int), 1 ≤ L → L ≤ 5 → L ≠ 3 → i ≤ l.length → (levS x.op < m ∨ (L : Int) ≤ levS x.op) → Seg l i (tks x m) → Stop l (i + (tks x m).length) (L + 1) →
    ∃ n, l.length < i + (tks x m).length + n ∧ rdN l L i false = loopS (rdN l (L + 1)) l L n x (i + (tks x m).length) false
theorem cl_stop : ∀ b ∈ binL, ¬ (clT.k = kindB b ∧ clT.s = b.2.1) := by decide +kernel
theorem th_stop : ∀ b ∈ binL, ¬ ((wdT thenT).k = kindB b ∧ (wdT thenT).s = b.2.1) := by decide +kernel
theorem el_stop : ∀ b ∈ binL, ¬ ((wdT elseT).k = kindB b ∧ (wdT elseT).s = b.2.1) := by decide +kernel
/-- an atom is read at the closest levels -/
theorem rd_atom {l : List Tok} {i lev : Nat} (h6 : 6 ≤ lev) (h7 : lev ≤ 7) (hi : i ≤ l.length) (h : onS l i false 4 [45] = false) : rdN l lev i false = atomS (rdN l 0) l i false := by
  rw [rdN_eq l lev i false h7 hi, if_neg (by decide), if_neg (by omega), if_neg (fun hh => by rw [h] at hh; cases hh.2), if_pos h6]
theorem rd_back : ∀ (k : Nat) (x : Ex), SizeOf.sizeOf x < k → rightS x = true → Rd x := by
  intro k
  induction k with
  | zero => intro x h; omega
  | succ k ih =>
  intro x hk hr
  have kid : ∀ y ∈ x.l, rightS y = true → Rd y := fun y hy hry => ih y (by have := Ex.lt hy; omega) hry
  have selfL : ∀ (L : Nat), (4 ≤ x.op ∧ x.op ≤ 15) → (findS x.op).2.2 = (L : Int) → L ≠ 3 → ∀ (l : List Tok) (i : Nat), i ≤ l.length → Seg l i (tkb x) → Stop l (i + (tkb x).length) (L + 1) →
      ∃ n, l.length < i + (tkb x).length + n ∧ rdN l L i false = loopS (rdN l (L + 1)) l L n x (i + (tkb x).length) false := by
    intro L h hL h3 l i hi hs hst
    obtain ⟨a, b, hl, ha, hb, hv, hs'⟩ : ∃ a b, x.l = [a, b] ∧ rightS a = true ∧ rightS b = true ∧ x.v = v0 ∧ x.s = [] := by
      rcases right_parts hr with ⟨h', _⟩ | ⟨h', _⟩ | ⟨h', _⟩ | ⟨h', _⟩ | ⟨_, hv, hs, a, b, hl, ha, hb⟩
      · omega
      · omega
      · omega
      · omega
      · exact ⟨a, b, hl, ha, hb, hv, hs⟩
    have hsl := sg_lev h
    have ex : x = .mk x.op v0 [] [a, b] := ex_eta rfl hv hs' hl
    have et : tkb x = tks a (L : Int) ++ sgT x.op :: tks b ((L : Int) + 1) := by rw [tkb_b h hl, hL, if_neg (by omega)]
    rw [et] at hs hst ⊢
    obtain ⟨sa, ss⟩ := (seg_app l _ _ i).1 hs
    have hlt : i + (tks a (L : Int)).length < l.length := ss.1.1
    have sb : Seg l (i + (tks a (L : Int)).length + 1) (tks b ((L : Int) + 1)) := ss.2
    obtain ⟨n, hn, e⟩ := (kid a (by rw [hl]; simp) ha).loop l i L (L : Int) (by omega) (by omega) h3 hi (by omega) sa (stop_sg h ss (by omega))
    obtain ⟨n, rfl⟩ : ∃ m, n = m + 1 := ⟨n - 1, by omega⟩
    have ho : opS l (i + (tks a (L : Int)).length) false (L : Int) = x.op := by rw [op_seg ss, ← hL]; exact sg_op h
    have elen : i + (tks a (L : Int) ++ sgT x.op :: tks b ((L : Int) + 1)).length = i + (tks a (L : Int)).length + 1 + (tks b ((L : Int) + 1)).length := by
      simp only [List.length_append, List.length_cons]; omega
    rw [elen] at hst ⊢
    have hbr := (kid b (by rw [hl]; simp) hb).put l (i + (tks a (L : Int)).length + 1) (L + 1) ((L : Int) + 1) (by omega) (by omega) (by omega) sb hst
    refine ⟨n, by omega, ?_⟩
    rw [e]
    show loopS _ _ _ (n + 1) _ _ _ = _
    rw [loopS, ho, if_neg (by omega), hbr, if_pos ⟨h3, rfl⟩]
    show loopS _ _ _ n (.mk x.op v0 [] [a, b]) _ _ = _
    rw [← ex]
  have body : ∀ (l : List Tok) (i lev : Nat), lev ≤ 7 → i ≤ l.length → (lev : Int) ≤ levS x.op → Seg l i (tkb x) → Stop l (i + (tkb x).length) lev → rdN l lev i false = (x, i + (tkb x).length, false) := by
    intro l i lev h7 hi hlv hs hst
    -- a closest level, then down
    have low : ∀ (B : Nat), lev ≤ B → B ≤ 6 → noIf (tkb x) → rdN l B i false = (x, i + (tkb x).length, false) → rdN l lev i false = (x, i + (tkb x).length, false) := fun B h1 h2 hn h => rd_down hs hn hi (B - lev) lev B (by omega) h2 h hst
    have hno : x.op ≠ 16 → noIf (tkb x) := fun h16 => by
      have := first_no _ x (Nat.lt_succ_self _) hr (-1) (.inr h16)
      rw [tks_eq, if_neg (by have := lev_lo x.op; omega)] at this
      exact this
    have atom : levS x.op = 7 → x.op ≠ 16 → (∀ lev, 6 ≤ lev → lev ≤ 7 → rdN l lev i false = (x, i + (tkb x).length, false)) → rdN l lev i false = (x, i + (tkb x).length, false) := fun _ h16 h => by
      rcases Nat.lt_or_ge lev 6 with h6 | h6
      · exact low 6 (by omega) (by omega) (hno h16) (h 6 (by omega) (by omega))
      · exact h lev h6 h7
    rcases right_parts hr with ⟨h, hl, hs', hv, hn⟩ | ⟨h, hl, hv, hn⟩ | ⟨h, hv, hs', a, hl, ha⟩ | ⟨h, hv, hs', a, b, c, hl, ha, hb, hc⟩ | ⟨h, hv, hs', a, b, hl, ha, hb⟩
    · have et := tkb_1 h
      rw [et] at hs ⊢
      obtain ⟨n1, n2, n3⟩ := now_seg hs
      have k4 : (valT x.v).k ≠ 4 := by
        rcases val_word hv with h | h | ⟨h, _⟩ <;> rw [h] <;> decide
      have hon : ∀ s, onS l i false 4 s = false := fun s => by rw [on_seg hs, decide_eq_false k4]; rfl
      rw [← et]
      refine atom (by rw [levS, if_neg (by omega), if_neg (by omega), if_pos (.inl h)]) (by omega) fun lev h6 h7 => ?_
      rw [rd_atom h6 h7 hi (hon _), et]
      show _ = (x, i + 1, false)
      unfold atomS
      rw [if_neg (by rw [hon]; decide)]
      rcases valOk_cases hv with ⟨h1, h2, h3⟩ | ⟨h1, h3⟩ | ⟨h1, h2, _⟩ | ⟨h1, h3, h2⟩
      · have ev : valT x.v = wdT nullS := by unfold valT; rw [if_neg (by omega), if_neg (by omega), if_neg (by omega)]
        rw [ev] at n1 n2
        have n1 : (nowS l i false).k = 1 := n1
        have n2 : (nowS l i false).s = nullS := n2
        rw [if_neg (by rw [n1]; decide), if_neg (by rw [n1]; decide), if_pos n1, n2, if_pos (by decide)]
        rw [ex_eta h (show x.v = v0 by cases hx : x.v; rw [hx] at h1 h2 h3; cases h1; cases h2; cases h3; rfl) hs' hl]; rfl
      · have ev : valT x.v = ⟨2, [], x.v.n, 0⟩ := by unfold valT; rw [if_pos h1]
        rw [ev] at n1 n3
        have n1 : (nowS l i false).k = 2 := n1
        have n3 : (nowS l i false).n = x.v.n := n3
        rw [if_pos n1, n3]
        rw [show Ex.mk 1 ⟨1, x.v.n, []⟩ [] [] = x from (ex_eta h (show x.v = ⟨1, x.v.n, []⟩ by cases hx : x.v; rw [hx] at h1 h3; cases h1; cases h3; rfl) hs' hl).symm]
      · have ev : valT x.v = ⟨3, x.v.s, 0, 0⟩ := by unfold valT; rw [if_neg (by omega), if_pos h1]
        rw [ev] at n1 n2
        have n1 : (nowS l i false).k = 3 := n1
        have n2 : (nowS l i false).s = x.v.s := n2
        rw [if_neg (by rw [n1]; decide), if_pos n1, n2]
        rw [show Ex.mk 1 ⟨2, 0, x.v.s⟩ [] [] = x from (ex_eta h (show x.v = ⟨2, 0, x.v.s⟩ by cases hx : x.v; rw [hx] at h1 h2; cases h1; cases h2; rfl) hs' hl).symm]
      · have ev : valT x.v = wdT (boolS (decide (x.v.n = 1))) := by unfold valT; rw [if_neg (by omega), if_neg (by omega), if_pos h1]
        rw [ev] at n1 n2
        have n1 : (nowS l i false).k = 1 := n1
        have n2 : (nowS l i false).s = boolS (decide (x.v.n = 1)) := n2
        rw [if_neg (by rw [n1]; decide), if_neg (by rw [n1]; decide), if_pos n1, n2]
        rcases h2 with h2 | h2
        · rw [h2, if_pos (by decide)]
          rw [ex_eta h (show x.v = ⟨3, 0, []⟩ by cases hx : x.v; rw [hx] at h1 h2 h3; cases h1; cases h2; cases h3; rfl) hs' hl]; rfl
        · rw [h2, if_pos (by decide)]
          rw [ex_eta h (show x.v = ⟨3, 1, []⟩ by cases hx : x.v; rw [hx] at h1 h2 h3; cases h1; cases h2; cases h3; rfl) hs' hl]; rfl
    · have et := tkb_2 h
      rw [et] at hs ⊢
      obtain ⟨n1, n2, n3⟩ := now_seg hs
      have n1 : (nowS l i false).k = 1 := n1
      have n2 : (nowS l i false).s = x.s := n2
      have hon : ∀ s, onS l i false 4 s = false := fun s => by rw [on_seg hs]; rfl
      rw [← et]
      refine atom (by rw [levS, if_neg (by omega), if_neg (by omega), if_pos (.inr h)]) (by omega) fun lev h6 h7 => ?_
      rw [rd_atom h6 h7 hi (hon _), et]
      show _ = (x, i + 1, false)
      have hw : wordV x.s = none := by
        have : ∀ s ∈ [[110, 117, 108, 108], [102, 97, 108, 115, 101], [116, 114, 117, 101]], nameOk s = false := by decide +kernel
        unfold wordV
        rw [if_neg (fun e => by rw [e, this _ (by simp)] at hn; cases hn), if_neg (fun e => by rw [e, this _ (by simp)] at hn; cases hn), if_neg (fun e => by rw [e, this _ (by simp)] at hn; cases hn)]
      unfold atomS
      rw [if_neg (by rw [hon]; decide), if_neg (by rw [n1]; decide), if_neg (by rw [n1]; decide), if_pos n1, n2, hw, if_neg (by simp), if_pos hn]
      rw [show Ex.mk 2 v0 x.s [] = x from (ex_eta h hv rfl hl).symm]
    · have et := tkb_3 h hl
      have hl6 : levS x.op = 6 := by rw [levS, if_neg (by omega), if_pos h]
      refine low 6 (by omega) (by omega) (hno (by omega)) ?_
      rw [et] at hs hst ⊢
      have elen : i + (miT :: tks a 6).length = i + 1 + (tks a 6).length := by rw [List.length_cons]; omega
      rw [elen] at hst ⊢
      have hon : onS l i false 4 [45] = true := by rw [on_seg hs]; rfl
      have := (kid a (by rw [hl]; simp) ha).put l (i + 1) 6 6 (by omega) (by have := hs.1.1; omega) (by omega) hs.2 (hst.le (by omega))
      rw [rdN_eq l 6 i false (by omega) hi, if_neg (by decide), if_neg (by decide), if_pos ⟨rfl, hon⟩, this]
      rw [show Ex.mk 3 v0 [] [a] = x from (ex_eta h hv hs' hl).symm]
    · have et := tkb_16 h hl
      have hl0 : levS x.op = 0 := by rw [levS, if_pos h]
      have h0 : lev = 0 := by omega
      subst h0
      rw [et] at hs hst ⊢
      have hif : onS l i false 1 ifT = true := by rw [on_seg hs]; rfl
      obtain ⟨sa, s1⟩ := (seg_app l _ _ (i + 1)).1 hs.2
      obtain ⟨sb, s2⟩ := (seg_app l _ _ _).1 s1.2
      have sc := s2.2
      have g1 : i + 1 + (tks a 0).length < l.length := s1.1.1
      have g2 : i + 1 + (tks a 0).length + 1 + (tks b 0).length < l.length := s2.1.1
      have ra := (kid a (by rw [hl]; simp) ha).put l (i + 1) 0 0 (by omega) (by omega) (.inr (lev_lo _).1) sa (stop_tok s1 th_stop)
      have rb := (kid b (by rw [hl]; simp) hb).put l _ 0 0 (by omega) (by omega) (.inr (lev_lo _).1) sb (stop_tok s2 el_stop)
      have elen : i + (wdT ifT :: (tks a 0 ++ wdT thenT :: (tks b 0 ++ wdT elseT :: tks c 0))).length = i + 1 + (tks a 0).length + 1 + (tks b 0).length + 1 + (tks c 0).length := by
        simp only [List.length_append, List.length_cons]; omega
      rw [elen] at hst ⊢
      have rc := (kid c (by rw [hl]; simp) hc).put l _ 0 0 (by omega) (by omega) (.inr (lev_lo _).1) sc hst
      rw [rdN_eq l 0 i false (by omega) hi, if_neg (by decide), if_pos rfl, if_pos hif]
      unfold branchS
      have m1 : mustS l (i + 1 + (tks a 0).length, false) 1 thenT = (i + 1 + (tks a 0).length + 1, false) := must_hit s1 rfl rfl
      have m2 : mustS l (i + 1 + (tks a 0).length + 1 + (tks b 0).length, false) 1 elseT = (i + 1 + (tks a 0).length + 1 + (tks b 0).length + 1, false) := must_hit s2 rfl rfl
      rw [ra]
      simp only [m1]
      rw [rb]
      simp only [m2]
      rw [rc]
      rw [show Ex.mk 16 v0 [] [a, b, c] = x from (ex_eta h hv hs' hl).symm]
    · have hlb := lev_b h
      have hsl := sg_lev h
      obtain ⟨L, hL⟩ : ∃ L : Nat, (findS x.op).2.2 = (L : Int) := ⟨(findS x.op).2.2.toNat, by omega⟩
      refine low L (by omega) (by omega) (hno (by omega)) ?_
      by_cases h3 : L = 3
      · subst h3
        have et : tkb x = tks a 4 ++ sgT x.op :: tks b 4 := by rw [tkb_b h hl, hL]; rfl
        rw [et] at hs hst ⊢
        obtain ⟨sa, ss⟩ := (seg_app l _ _ i).1 hs
        have hlt : i + (tks a 4).length < l.length := ss.1.1
        have ho : opS l (i + (tks a 4).length) false ((3 : Nat) : Int) = x.op := by rw [op_seg ss, ← hL]; exact sg_op h
        have elen : i + (tks a 4 ++ sgT x.op :: tks b 4).length = i + (tks a 4).length + 1 + (tks b 4).length := by
          simp only [List.length_append, List.length_cons]; omega
        rw [elen] at hst ⊢
        have ra := (kid a (by rw [hl]; simp) ha).put l i 4 4 (by omega) hi (by omega) sa (stop_sg h ss (by omega))
        have rb := (kid b (by rw [hl]; simp) hb).put l (i + (tks a 4).length + 1) 4 4 (by omega) (by omega) (by omega) ss.2 (hst.le (by omega))
        rw [rd_low l 3 i (by omega) (by omega) hi, ra]
        show loopS _ _ _ (l.length + 1) _ _ _ = _
        rw [loopS, ho, if_neg (by omega), rb, if_neg (fun hh => hh.1 rfl)]
        rw [show Ex.mk x.op v0 [] [a, b] = x from (ex_eta rfl hv hs' hl).symm]
      · obtain ⟨n, _, e⟩ := selfL L h hL h3 l i hi hs (hst.le (by omega))
        rw [e]
        exact loop_stop _ _ _ _ _ _ (hst L (by omega))
  have put : ∀ (l : List Tok) (i lev : Nat) (m : Int), lev ≤ 7 → i ≤ l.length → (levS x.op < m ∨ (lev : Int) ≤ levS x.op) → Seg l i (tks x m) → Stop l (i + (tks x m).length) lev → rdN l lev i false = (x, i + (tks x m).length, false) := by
    intro l i lev m h7 hi hlv hs hst
    rw [tks_eq] at hs hst ⊢
    by_cases hm : levS x.op < m
    · rw [if_pos hm] at hs hst ⊢
      obtain ⟨sb, sc⟩ := (seg_app l _ _ (i + 1)).1 hs.2
      have hi1 : i + 1 ≤ l.length := hs.1.1
      have hcl : i + 1 + (tkb x).length < l.length := sc.1.1
      have r0 := body l (i + 1) 0 (by omega) hi1 (lev_lo _).1 sb (stop_tok sc cl_stop)
      have elen : i + (opT :: (tkb x ++ [clT])).length = i + 1 + (tkb x).length + 1 := by simp only [List.length_append, List.length_cons, List.length_nil]; omega
      rw [elen] at hst ⊢
      have at6 : ∀ lev, 6 ≤ lev → lev ≤ 7 → rdN l lev i false = (x, i + 1 + (tkb x).length + 1, false) := fun lev h6 h7 => by
        rw [rd_atom h6 h7 hi (by rw [on_seg hs]; rfl)]
        unfold atomS
        have m3 : mustS l (i + 1 + (tkb x).length, false) 4 [41] = (i + 1 + (tkb x).length + 1, false) := must_hit sc rfl rfl
        rw [if_pos (by rw [on_seg hs]; rfl), r0]
        simp only [m3]
      rcases Nat.lt_or_ge lev 6 with h6 | h6
      · exact rd_down hs ⟨_, _, rfl, fun h => absurd h.1 (by decide)⟩ hi (6 - lev) lev 6 (by omega) (by omega) (at6 6 (by omega) (by omega)) hst
      · exact at6 lev h6 h7
    · rw [if_neg hm] at hs hst ⊢
      exact body l i lev h7 hi (hlv.resolve_left hm) hs hst
  refine ⟨put, ?_⟩
  intro l i L m h1 h5 h3 hi hlv hs hst
  have far : (levS x.op < m ∨ ((L + 1 : Nat) : Int) ≤ levS x.op) → ∃ n, l.length < i + (tks x m).length + n ∧ rdN l L i false = loopS (rdN l (L + 1)) l L n x (i + (tks x m).length) false := fun hlv => by
    refine ⟨l.length + 1, by omega, ?_⟩
    rw [rd_low l L i (by omega) (by omega) hi, put l i (L + 1) m (by omega) hi hlv hs hst]
  by_cases hm : levS x.op < m
  · exact far (.inl hm)
  by_cases hlt : ((L + 1 : Nat) : Int) ≤ levS x.op
  · exact far (.inr hlt)
  have hL : levS x.op = (L : Int) := by have := hlv.resolve_left hm; omega
  have hop : 4 ≤ x.op ∧ x.op ≤ 15 := by
    refine cnt_op hr ?_ ?_ ?_ ?_ <;> intro h <;> rw [h] at hL
    · exact absurd hL (by show (7 : Int) ≠ _; omega)
    · exact absurd hL (by show (7 : Int) ≠ _; omega)
    · exact absurd hL (by show (6 : Int) ≠ _; omega)
    · exact absurd hL (by show (0 : Int) ≠ _; omega)
  have et : tks x m = tkb x := by rw [tks_eq, if_neg hm]
  rw [et] at hs hst ⊢
  exact selfL L hop (by rw [← lev_b hop]; exact hL) h3 l i hi hs hst
/-- **What was written is read back.** -/
theorem parse_put {x : Ex} (hr : rightS x = true) (hb : VB x) (hd : deepS x ≤ 12) (hlen : (putS x 0).length ≤ 200) : parseT (putS x 0) = (x, 0, 0) := by
  obtain ⟨l, e, hk⟩ := lex_put hr hb hlen
  have hs : Seg l 0 (tks x 0) := seg_all l [] hk
  have hll : l.length = (tks x 0).length := by have := congrArg List.length hk; simpa [tks] using this
  have r := (rd_back _ x (Nat.lt_succ_self _) hr).put l 0 0 0 (by omega) (Nat.zero_le _) (.inr (lev_lo _).1) hs (by rw [Nat.zero_add, ← hll]; exact stop_end l)
  rw [Nat.zero_add, ← hll] at r
  have r2 : readT l 0 0 = (x, l.length, 0) := by
    have : rdF l (needS l 0 0) 0 0 false = (x, l.length, false) := r
    unfold readT; rw [this]; rfl
  unfold parseT
  rw [e, r2]
  simp only [ne_eq, not_true, if_false, Nat.lt_irrefl]
  rw [if_neg (by omega)]
end Go.Proofs.YtpcgdhhndeanoaaGreatDoor
namespace Go.Proofs.YtpcgdhhndeanoaaGreatDoor
open Go Go.Dx Go.RowKit
mutual
def sameX : Ex → Ex → Bool
  | .mk o v s l, y => decide (o = y.op) && decide (v = y.v) && decide (s = y.s) && sameXL l y.l
def sameXL : List Ex → List Ex → Bool
  | [], [] => true
  | x :: l, y :: m => sameX x y && sameXL l m
  | [], _ :: _ => false
  | _ :: _, [] => false
end
theorem same_eq (x y : Ex) : sameX x y = (decide (x.op = y.op) && decide (x.v = y.v) && decide (x.s = y.s) && sameXL x.l y.l) := by
  cases x with
  | mk o v s l => rw [sameX]; rfl
theorem sameL_len : ∀ {l m : List Ex}, l.length ≠ m.length → sameXL l m = false
  | [], [], h => absurd rfl h
  | [], _ :: _, _ => rfl
  | _ :: _, [], _ => rfl
  | x :: l, y :: m, h => by rw [sameXL, sameL_len (by simpa using h), Bool.and_false]
theorem sameL_all : ∀ {l m : List Ex}, l.length = m.length → (∀ j, j < l.length → sameX (l.getD j ex0) (m.getD j ex0) = true) → sameXL l m = true
  | [], [], _, _ => rfl
  | [], _ :: _, h, _ => by simp at h
  | _ :: _, [], h, _ => by simp at h
  | x :: l, y :: m, h, hj => by
    have h0 := hj 0 (by simp)
    have hr := sameL_all (l := l) (m := m) (by simpa using h) fun j hlt => by
      have := hj (j + 1) (by simp; omega)
      simpa using this
    rw [sameXL, hr, Bool.and_true]
    simpa using h0
theorem sameL_no : ∀ {l m : List Ex} {k : Nat}, k < l.length → sameX (l.getD k ex0) (m.getD k ex0) = false → sameXL l m = false
  | [], _, _, h, _ => by simp at h
  | _ :: _, [], _, _, _ => rfl
  | x :: l, y :: m, 0, _, h => by
    have h : sameX x y = false := by simpa using h
    rw [sameXL, h, Bool.false_and]
  | x :: l, y :: m, k + 1, hk, h => by
    rw [sameXL, sameL_no (l := l) (m := m) (k := k) (by simpa using hk) (by simpa using h), Bool.and_false]
/-! names -/
theorem adds_mem : ∀ (r l : List (List UInt8)) (s : List UInt8), s ∈ l → s ∈ r.foldl addS l
  | [], l, s, h => h
  | t :: r, l, s, h => adds_mem r _ s (by
    unfold addS
    split
    · exact h
    · exact List.mem_append_left _ h)
theorem add_mem (l : List (List UInt8)) (s : List UInt8) : s ∈ addS l s := by
  unfold addS
  split
  · rename_i h; exact List.contains_iff_mem.1 h
  · simp
theorem add_old {l : List (List UInt8)} {s : List UInt8} (h : s ∈ l) : addS l s = l := by rw [addS, if_pos (List.contains_iff_mem.2 h)]
theorem adds_in : ∀ (b : List (List UInt8)) (acc : List (List UInt8)) (s : List UInt8), s ∈ b → s ∈ b.foldl addS acc
  | t :: b, acc, s, h => by
    rcases List.mem_cons.1 h with rfl | h
    · exact adds_mem b _ s (add_mem acc s)
    · exact adds_in b _ s h
theorem adds_one (acc b : List (List UInt8)) (s : List UInt8) : (addS b s).foldl addS acc = addS (b.foldl addS acc) s := by
  by_cases h : s ∈ b
  · rw [add_old h, add_old (adds_in b acc s h)]
  · rw [show addS b s = b ++ [s] by rw [addS, if_neg (fun hc => h (List.contains_iff_mem.1 hc))], List.foldl_append]; rfl
theorem adds_adds : ∀ (r b acc : List (List UInt8)), (r.foldl addS b).foldl addS acc = r.foldl addS (b.foldl addS acc)
  | [], b, acc => rfl
  | s :: r, b, acc => by
    rw [List.foldl_cons, adds_adds r (addS b s) acc, adds_one, List.foldl_cons]
/-- the document's way -/
theorem names_kids (acc : List (List UInt8)) (y : Ex) : (namesS y).foldl addS acc = (nmS y).foldl addS acc := adds_adds (nmS y) [] acc
theorem names_eq (x : Ex) : namesS x = (nmL x.l).foldl addS (if x.op = 2 then [x.s] else []) := by
  rw [namesS, nm_eq, List.foldl_append]
  congr 1
  split <;> rfl
theorem names_len (x : Ex) : (namesS x).length ≤ (nmS x).length := by
  have := adds_len (nmS x) []
  rw [namesS]; simpa using this
theorem nm_kid {x y : Ex} (h : y ∈ x.l) : (nmS y).length ≤ (nmS x).length := by
  rw [nm_eq x, List.length_append]
  obtain ⟨k, hk, rfl⟩ := List.mem_iff_getElem.1 h
  have h1 := nmL_take x.l k hk
  have h2 := nmL_drop x.l (k + 1)
  rw [h1, List.length_append, getD_lt x.l k ex0 hk] at h2
  omega
/-! how many -/
mutual
def cntX : Ex → Nat
  | .mk _ _ _ l => 1 + cntL l
def cntL : List Ex → Nat
  | [] => 0
  | x :: l => cntX x + cntL l
end
theorem cnt_eq (x : Ex) : cntX x = 1 + cntL x.l := by
  cases x with
  | mk o v s l => rw [cntX]; rfl
mutual
theorem nm_cnt : ∀ x : Ex, (nmS x).length ≤ cntX x
  | .mk o v s l => by
    have := nmL_cnt l
    rw [nmS, cntX, List.length_append]
    split <;> simp <;> omega
theorem nmL_cnt : ∀ l : List Ex, (nmL l).length ≤ cntL l
  | [] => by simp [nmL, cntL]
  | x :: l => by
    have := nm_cnt x
    have := nmL_cnt l
    rw [nmL, cntL, List.length_append]; omega
end
mutual
theorem sz_cnt : ∀ x : Ex, cntX x ≤ 9223372036854775807 → szF x = (cntX x : Nat)
  | .mk o v s l, h => by
    rw [cntX] at h
    rw [szF, cntX]
    have := szL_cnt l 1 (by omega)
    rw [show (1 : Int) = ((1 : Nat) : Int) from rfl, this]
theorem szL_cnt : ∀ (l : List Ex) (n : Nat), n + cntL l ≤ 9223372036854775807 → szL (n : Int) l = ((n + cntL l : Nat) : Int)
  | [], n, _ => by simp [szL, cntL]
  | x :: l, n, h => by
    rw [cntL] at h
    rw [szL, cntL, sz_cnt x (by omega), wrap_i64 (by omega) (by omega)]
    have := szL_cnt l (n + cntX x) (by omega)
    rw [show (n : Int) + (cntX x : Nat) = ((n + cntX x : Nat) : Int) by omega, this]
    omega
end
end Go.Proofs.YtpcgdhhndeanoaaGreatDoor
