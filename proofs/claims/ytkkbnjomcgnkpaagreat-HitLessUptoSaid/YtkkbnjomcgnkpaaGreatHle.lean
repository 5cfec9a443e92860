/- Laws of walks, and what functions of the program compute: part 5. Each with the conditions that it names. -/
import Derived.Test.YtkkbnjomcgnkpaaGreatRows
import Derived.Test.YtkkbnjomcgnkpaaGreatHld
set_option linter.unusedSimpArgs false
set_option linter.unusedVariables false
set_option maxRecDepth 100000
namespace Go.Proofs.YtkkbnjomcgnkpaaGreat
open Go Go.Dx Go.RowKit
theorem c_RColumns (a : AC) (l : List Col) (hn : ∀ c ∈ l, c.name.length ≤ 1000000) (w0 : World) (h0 : View) (hv : VLe h0 (Full w0)) (hc : SlC 61 3 (flatR colC) h0 (.slice a.1 l.length a.2) l) :
    Calls Tryz.prog 70 #[.slice a.1 l.length a.2] w0 (Ret w0 h0 fun u _ => u = .int .i64 (colsS l)) := by
  have hlm := slc_lm hc
  refine ent (args := [.slice a.1 l.length a.2]) TT_ok [] [] Tryz.func70 rfl Tryz.ntmps70 rfl rfl hv ?_
  refine cnd (fun h => ?_) (fun h => ?_)
  · exact congrArg (Value.int .i64) (if_pos (by omega)).symm
  have e0 : colsS l = colsG l 0 := if_neg (by omega)
  rw [e0]
  refine w_loop TT_ok (fun k : Nat => [(3, .v (.int .i64 k))]) 0 (fun k => k ≤ l.length ∧ colsG l 0 = colsG l k) (fun k => l.length - k) ?_
  refine And.intro ⟨⟨Nat.zero_le _, rfl⟩, gs⟩ ?_
  intro k ⟨hk, hn'⟩
  refine cnd (fun h1 => ?_) (fun h1 => ?_)
  · have hkl : k < l.length := by omega
    have hs : (l.getD k c0).name.length ≤ 1000000 := hn _ (getD_mem l k c0 hkl)
    obtain ⟨q, hq, hqk⟩ := at_le hkl
    refine ixs hc k c0 ?_
    refine cb (fun w hw => c_RName _ hs w h0 hw) ?_
    refine ixsg hc k c0 ?_ (by intros; omega)
    refine kg1 ?_
    refine cbg (fun _ w hw => c_RAt a.1 a.2 l (l.getD k c0).name w h0 hw hc) ?_
    refine cnd (fun h2 => ?_) (fun h2 => ?_)
    · have hb : badN l k := by
        rcases h2 with h2 | h2
        · exact .inl h2
        · refine .inr ?_
          rw [hq] at h2 ⊢; omega
      rw [hn', cg_name hkl hb]; exact rfl
    have hb : ¬ badN l k := by
      rintro (h3 | h3)
      · rw [h3] at h2; exact absurd h2.1 (by decide)
      · rw [hq] at h3 h2; have := h2.2; omega
    refine ixs hc k c0 ?_
    refine ixsg hc k c0 ?_ (by intros; omega)
    refine kg1 ?_
    refine cnd (fun h3 => ?_) (fun h3 => ?_)
    · rw [hn', cg_kind hkl hb (by unfold badK; omega)]; exact rfl
    · refine wi ?_
      exact ⟨k + 1, ⟨⟨hkl, by rw [hn', cg_next hkl hb (by unfold badK; omega)]⟩, by omega⟩, gs⟩
  · rw [hn', cg_over (by omega)]; exact rfl
set_option maxHeartbeats 2000000 in
theorem c_Rorder (p : CoO) (asked : Bool) (w0 : World) (h0 : View) (hv : VLe h0 (Full w0)) (hp : OrH h0 p) :
    Calls Tryz.prog 71 #[.agg (colC p.1).toArray, .bool asked] w0 (Ret w0 h0 fun u _ => u = .bool (ordOk asked p)) := by
  obtain ⟨⟨nm, kd, oa, on, oc⟩, o⟩ := p
  obtain ⟨hon, hsl, hvs⟩ := hp
  dsimp only at hon hsl hvs
  subst hon
  have hlm := slc_lm hsl
  refine ent (args := [.agg (colC ⟨nm, kd, oa, o.length, oc⟩).toArray, .bool asked]) TT_ok [] [] Tryz.func71 rfl Tryz.ntmps71 rfl rfl hv ?_
  intro b2
  have e0 : ordOk asked (⟨nm, kd, oa, o.length, oc⟩, o) = if asked = false then decide (o.length = 0) else decide ((∀ i, i < o.length → ordG kd o i) ∧ 1 ≤ o.length ∧ o.length ≤ 8) := rfl
  refine cnd (fun h => ?_) (fun h => ?_)
  · have h : asked = false := by simpa using h
    rw [e0, if_pos h]
    refine congrArg Value.bool ?_
    exact decide_eq_decide.2 ⟨fun h => by dsimp only at h; omega, fun h => by dsimp only at h ⊢; omega⟩
  have h : asked = true := by simpa using h
  rw [e0, if_neg (by rw [h]; decide)]
  clear e0
  refine w_loop TT_ok (fun k : Nat => [(5, .v (.int .i64 k))]) 0 (fun k => k ≤ o.length ∧ ∀ i, i < k → ordG kd o i) (fun k => o.length - k) ?_
  refine And.intro ⟨⟨Nat.zero_le _, fun j hj => absurd hj (Nat.not_lt_zero j)⟩, gs⟩ ?_
  intro k ⟨hk, hn⟩
  refine cnd (fun h1 => ?_) (fun h1 => ?_) <;> dsimp only at h1
  · have hkl : k < o.length := by omega
    have hbad : ¬ ordG kd o k → decide ((∀ i, i < o.length → ordG kd o i) ∧ 1 ≤ o.length ∧ o.length ≤ 8) = false := fun hh => decide_eq_false fun hm => hh (hm.1 k hkl)
    refine And.intro (by kernel_rfl) ?_
    refine ixs hsl k v0 ?_
    refine cb (fun w hw => c_RRight _ (hvs _ (getD_mem o k v0 hkl)).2 w h0 hw) ?_
    refine ixsg hsl k v0 ?_ (by intros; omega)
    refine kg1 ?_
    refine cnd (fun h2 => ?_) (fun h2 => ?_)
    · rw [hbad (fun hm => by
        rcases h2 with h2 | h2
        · rw [hm.1] at h2; cases h2
        · exact h2 hm.2.1)]
      exact rfl
    refine w_loop TT_ok (fun m : Nat => [(6, .v (.int .i64 m))]) 0 (fun m => m ≤ k ∧ ∀ j, j < m → o.getD j v0 ≠ o.getD k v0) (fun m => k - m) ?_
    refine And.intro ⟨⟨Nat.zero_le _, fun j hj => absurd hj (Nat.not_lt_zero j)⟩, gs⟩ ?_
    intro m ⟨hm, hd⟩
    refine cnd (fun h3 => ?_) (fun h3 => ?_)
    · refine And.intro (by kernel_rfl) ?_
      refine ixs hsl m v0 ?_
      refine ixs hsl k v0 ?_
      refine aq eqV (o.getD m v0) (o.getD k v0) ?_
      refine cnd (fun h4 => ?_) (fun h4 => ?_)
      · rw [hbad (fun hh => hh.2.2 m (by omega) h4)]; exact rfl
      · refine wi ?_
        exact ⟨m + 1, ⟨⟨by omega, upto_snoc hd h4⟩, by omega⟩, gs⟩
    · refine wi ?_
      exact ⟨k + 1, ⟨⟨hkl, upto_snoc hn ⟨h2.1, h2.2, fun j hj => hd j (by omega)⟩⟩, by omega⟩, gs⟩
  · refine congrArg Value.bool ?_
    have hall : ∀ i, i < o.length → ordG kd o i := fun i hi => hn i (by omega)
    by_cases h5 : 1 ≤ o.length ∧ o.length ≤ 8
    · rw [decide_eq_true (p := _ ∧ _ ∧ _) ⟨hall, h5⟩]; simp; omega
    · rw [decide_eq_false (p := _ ∧ _ ∧ _) (fun hh => h5 hh.2)]; simp; omega
theorem c_Rcolumns (a : AC) (l : List CoO) (asked : Bool) (hn : ∀ p ∈ l, p.1.name.length ≤ 1000000) (w0 : World) (h0 : View) (hv : VLe h0 (Full w0)) (hc : CoL h0 a l) :
    Calls Tryz.prog 50 #[.slice a.1 (colsO l).length a.2, .bool asked] w0 (Ret w0 h0 fun u _ => u = .int .i64 (colE l asked)) := by
  obtain ⟨hsl, hor⟩ := hc
  have hlm := slc_lm hsl
  have hcl := cols_len l
  have hn' : ∀ c ∈ colsO l, c.name.length ≤ 1000000 := fun c hm => by
    obtain ⟨p, hp, rfl⟩ := List.mem_map.1 hm
    exact hn p hp
  have e0 : colE l asked = if colsS (colsO l) ≠ 0 then colsS (colsO l) else if l.all (ordOk asked) = false ∨ l.length = 0 then 17 else 0 := rfl
  rw [e0]; clear e0
  refine ent (args := [.slice a.1 (colsO l).length a.2, .bool asked]) TT_ok [] [] Tryz.func50 rfl Tryz.ntmps50 rfl rfl hv ?_
  refine cb (fun w hw => c_RColumns a (colsO l) hn' w h0 hw hsl) ?_
  refine cnd (fun h => ?_) (fun h => ?_)
  · rw [if_pos h]; exact rfl
  rw [if_neg (fun hh => hh (by simpa using h))]
  refine w_loop TT_ok (fun k : Nat => [(6, .v (.int .i64 k))]) 0 (fun k => k ≤ l.length ∧ ∀ j, j < k → ordOk asked (l.getD j co0) = true) (fun k => l.length - k) ?_
  refine And.intro ⟨⟨Nat.zero_le _, fun j hj => absurd hj (Nat.not_lt_zero j)⟩, gs⟩ ?_
  intro k ⟨hk, hd⟩
  refine cnd (fun h1 => ?_) (fun h1 => ?_)
  · have hkl : k < l.length := by omega
    refine ixs hsl k c0 ?_ (by omega)
    rw [cols_get l k hkl]
    refine cb (fun w hw => c_Rorder (l.getD k co0) asked w h0 hw (hor _ (getD_mem l k co0 hkl))) ?_
    refine cnd (fun h2 => ?_) (fun h2 => ?_)
    · rw [if_pos (.inl (all_not co0 hkl h2))]; exact rfl
    · refine wi ?_
      exact ⟨k + 1, ⟨⟨hkl, upto_snoc hd h2⟩, by omega⟩, gs⟩
  · have hall : l.all (ordOk asked) = true := all_upto co0 (fun j hj => hd j (by omega))
    refine cnd (fun h2 => ?_) (fun h2 => ?_)
    · rw [if_pos (.inr (by omega))]; exact rfl
    · rw [if_neg (by rw [hall]; rintro (h3 | h3); exact absurd h3 (by decide); omega)]; exact rfl
theorem c_Rpolicy (t : Tab) (a : TA) (w0 : World) (h0 : View) (hv : VLe h0 (Full w0)) (hc : CoL h0 a.o t.outs) :
    Calls Tryz.prog 51 #[.agg (tabC t a).toArray] w0 (Ret w0 h0 fun u _ => u = .bool (polOk t)) := by
  obtain ⟨hsl, hor⟩ := hc
  have hcl := cols_len t.outs
  have e0 : polOk t = if t.pol < 1 ∨ 6 < t.pol then false else if t.agg = 0 then true else if t.pol ≠ 5 ∨ t.agg < 1 ∨ 4 < t.agg ∨ t.outs.length ≠ 1 then false
      else decide (t.agg = 4) || (decide ((t.outs.getD 0 co0).1.kind = 1) || (decide ((t.outs.getD 0 co0).1.kind = 2) && !decide (t.agg = 1))) := rfl
  rw [e0]; clear e0
  refine ent (args := [.agg (tabC t a).toArray]) TT_ok [] [] Tryz.func51 rfl Tryz.ntmps51 rfl rfl hv ?_
  intro b1
  refine cnd (fun h => ?_) (fun h => ?_)
  · rw [if_pos h]; exact rfl
  rw [if_neg (by omega)]
  refine cnd (fun h1 => ?_) (fun h1 => ?_)
  · rw [if_pos h1]; exact rfl
  rw [if_neg h1]
  refine cnd (fun h2 => ?_) (fun h2 => ?_)
  · rw [if_pos (by omega)]; exact rfl
  rw [if_neg (by omega)]
  refine ixs hsl 0 c0 ?_ (by omega)
  rw [cols_get t.outs 0 (by omega)]
  refine congrArg Value.bool ?_
  cases decide (t.agg = 4) <;> cases decide ((t.outs.getD 0 co0).1.kind = 1) <;> simp
structure TabB (t : Tab) : Prop where
  n : t.name.length ≤ 1000000
  i : ∀ p ∈ t.ins, p.1.name.length ≤ 1000000
  o : ∀ p ∈ t.outs, p.1.name.length ≤ 1000000
  r : ∀ r ∈ t.rules, (∀ s ∈ r.2, s.length ≤ 1000000) ∧ r.1.length ≤ 1000000 ∧ r.2.length ≤ 1000000
  k : t.rules.length ≤ 1000000
theorem c_Rframe (t : Tab) (a : TA) (hb : TabB t) (w0 : World) (h0 : View) (hv : VLe h0 (Full w0)) (hc : TabH h0 t a) :
    Calls Tryz.prog 30 #[.agg (tabC t a).toArray] w0 (Ret w0 h0 fun u _ => u = .int .i64 (frameE t)) := by
  have e0 : frameE t = if nameOk t.name = false then 13 else if colE t.ins false ≠ 0 then colE t.ins false else if colE t.outs (decide (t.pol = 3)) ≠ 0 then colE t.outs (decide (t.pol = 3))
      else if polOk t = false then 17 else if 24 < t.rules.length then 24 else 0 := rfl
  rw [e0]; clear e0
  refine ent (args := [.agg (tabC t a).toArray]) TT_ok [] [] Tryz.func30 rfl Tryz.ntmps30 rfl rfl hv ?_
  intro b1
  refine cb (fun w hw => c_RName _ hb.n w h0 hw) ?_
  refine cnd (fun h => ?_) (fun h => ?_)
  · rw [if_pos h]; exact rfl
  rw [if_neg (by rw [h]; decide)]
  refine cb (fun w hw => c_Rcolumns a.i t.ins false hb.i w h0 hw hc.i) ?_
  refine cnd (fun h1 => ?_) (fun h1 => ?_)
  · rw [if_pos h1]; exact rfl
  rw [if_neg (fun hh => hh (by simpa using h1))]
  refine cb (fun w hw => c_Rcolumns a.o t.outs (decide (t.pol = 3)) hb.o w h0 hw hc.o) ?_
  refine cnd (fun h2 => ?_) (fun h2 => ?_)
  · rw [if_pos h2]; exact rfl
  rw [if_neg (fun hh => hh (by simpa using h2))]
  refine cb (fun w hw => c_Rpolicy t a w h0 hw hc.o) ?_
  refine cnd (fun h3 => ?_) (fun h3 => ?_)
  · rw [if_pos h3]; exact rfl
  rw [if_neg (by rw [h3]; decide)]
  refine cnd (fun h4 => ?_) (fun h4 => ?_)
  · rw [if_pos (by omega)]; exact rfl
  · rw [if_neg (by omega)]; exact rfl
end Go.Proofs.YtkkbnjomcgnkpaaGreat
set_option maxRecDepth 100000
namespace Go.Proofs.YtkkbnjomcgnkpaaGreat
open Go Go.Dx Go.RowKit
theorem parseC_right {s : List UInt8} (h : (parseC s).2.2 = 0) : rightC (parseC s).1 = true := by
  revert h
  unfold parseC
  split
  · rename_i hh; intro h; exact absurd h hh
  split
  · intro _; rfl
  split
  · intro h; cases h
  split
  · intro h; cases h
  split
  · intro h; cases h
  split
  · rename_i hh; intro _; exact hh
  · intro h; cases h
theorem parseT_right {s : List UInt8} (h : (parseT s).2.2 = 0) : rightS (parseT s).1 = true := by
  rcases parse_inv s with h1 | h1
  · exact h1.2.1
  · exact absurd h h1.2.1
theorem c_RParseE {s : List UInt8} {x : Ex} {at' e : Int} (he : parseT s = (x, at', e)) (hsl : s.length ≤ 9223372036854775807) (w0 : World) (h0 : View) (hv : VLe h0 (Full w0)) :
    Calls Tryz.prog 54 #[vs s] w0 (Ret w0 h0 fun u hh => ∃ a : Option Addr × Nat, u = .tuple #[exV x a, .int .i64 at', .int .i64 e] ∧ XL hh a.1 a.2 x.l) := by
  obtain ⟨f1, f2, f3, f4⟩ := lex_facts s
  have := c_RParse s f1 f2 f3 f4 hsl w0 h0 hv
  rw [he] at this; exact this
abbrev SlH := Option Addr × Nat × Nat
def ceC (q : Cel × AC) : List Value := celC q.1 q.2.1 q.2.2
def CeF (es : List (Cel × AC)) (h : View) : Prop := ∀ q ∈ es, TL h q.2.1 q.2.2 q.1.ts
theorem cef_m (es : List (Cel × AC)) : Mono fun h => CeF es h := fun _ _ hle hx q hq => (hx q hq).mono hle
theorem cef_snoc {es : List (Cel × AC)} {q : Cel × AC} {h : View} (h1 : CeF es h) (h2 : TL h q.2.1 q.2.2 q.1.ts) : CeF (es ++ [q]) h := fun p hp => by
  rcases List.mem_append.1 hp with hp | hp
  · exact h1 p hp
  · have : p = q := by simpa using hp
    subst this; exact h2
def ce0 : Cel × AC := (cel0, none, 0)
def xeC (q : Ex × AC) : List Value := exC q.1.op q.1.v q.1.s (.slice q.2.1 q.1.l.length q.2.2)
def XeF (es : List (Ex × AC)) (h : View) : Prop := ∀ q ∈ es, XL h q.2.1 q.2.2 q.1.l
theorem xef_m (es : List (Ex × AC)) : Mono fun h => XeF es h := fun _ _ hle hx q hq => (hx q hq).mono hle
theorem xef_snoc {es : List (Ex × AC)} {q : Ex × AC} {h : View} (h1 : XeF es h) (h2 : XL h q.2.1 q.2.2 q.1.l) : XeF (es ++ [q]) h := fun p hp => by
  rcases List.mem_append.1 hp with hp | hp
  · exact h1 p hp
  · have : p = q := by simpa using hp
    subst this; exact h2
def xq0 : Ex × AC := (ex0, none, 0)
structure LpG (β : Type) where
  a : Option Addr
  n : Nat
  c : Nat
  es : List β
  k : Nat
theorem take_map {α β γ : Type} {f : α → β} {l : List α} {es : List (β × γ)} {k : Nat} (d : α) (h : es.map (·.1) = (l.take k).map f) (hk : k < l.length) (g : γ) : (es ++ [(f (l.getD k d), g)]).map (·.1) = (l.take (k + 1)).map f := by
  rw [List.map_append, h, take_snocD l k d hk, List.map_append]; rfl
theorem es_len {α β γ : Type} {f : α → β} {l : List α} {es : List (β × γ)} {k : Nat} (h : es.map (·.1) = (l.take k).map f) (hk : k ≤ l.length) : es.length = k := by
  have := congrArg List.length h
  simp only [List.length_map, List.length_take] at this
  omega
def lnC (x y : SlH) : List Value := [.slice x.1 x.2.1 x.2.2, .slice y.1 y.2.1 y.2.2]
def lnV (x y : SlH) (k e : Int) : Value := .tuple #[.agg (lnC x y).toArray, .int .i64 k, .int .i64 e]
set_option maxHeartbeats 4000000 in
theorem c_Rrule (t : Tab) (a : TA) (r : List (List UInt8) × List (List UInt8)) (p q : AC) (hl1 : r.1.length ≤ 1000000) (hl2 : r.2.length ≤ 1000000) (hsl : ∀ s ∈ r.2, s.length ≤ 1000000) (w0 : World) (h0 : View) (hv : VLe h0 (Full w0)) (hc : TabH h0 t a) (hr1 : TxL h0 p r.1) (hr2 : TxL h0 q r.2) :
    Calls Tryz.prog 31 #[.agg (tabC t a).toArray, .agg (ruC r p q).toArray] w0 (Ret w0 h0 fun u hh => ∃ z : SlH × SlH × Int, u = lnV z.1 z.2.1 z.2.2 (lineE t r) ∧
      (lineE t r = 0 → z.1.2.1 = (lineV r).cs.length ∧ z.2.1.2.1 = (lineV r).os.length ∧ LinH hh (lineV r) (z.1.1, z.1.2.2) (z.2.1.1, z.2.1.2.2))) := by
  have hci := cols_len t.ins
  have hco := cols_len t.outs
  have e0 : lineE t r = if r.1.length ≠ t.ins.length ∨ r.2.length ≠ t.outs.length then 17
      else if firstE (fun k => cellE t k (r.1.getD k [])) r.1.length ≠ 0 then firstE (fun k => cellE t k (r.1.getD k [])) r.1.length
      else firstE (fun k => outE t k (r.2.getD k [])) r.2.length := rfl
  generalize hE : lineE t r = E at e0 ⊢
  refine entA (args := [.agg (tabC t a).toArray, .agg (ruC r p q).toArray]) TT_ok [1000023, 12, 129] [10, 20, 22] Tryz.func31 rfl Tryz.ntmps31 rfl rfl hv (fun x => fun _ _ hle hx he => ⟨(hx he).1, (hx he).2.1, lin_m _ _ _ _ _ hle (hx he).2.2⟩) ?_
  intro b2 b3 b4 b7
  refine cnd (fun h => ?_) (fun h => ?_)
  · rw [if_pos (by omega)] at e0
    rw [e0]
    exact ⟨((none, 0, 0), (none, 0, 0), 0), rfl, fun v _ _ hh => absurd hh (by decide)⟩
  rw [if_neg (by omega)] at e0
  refine nilC 900 99 3 ?_
  refine w_loopF TT_ok (fun z : LpG (Cel × AC) => [(8, .v (.int .i64 z.k))]) (fun z => [(900, .e (bufE 99 3 (.slice z.a z.n z.c) (z.es.map ceC).flatten)), (7, .c b7 76 (lnC (z.a, z.n, z.c) (none, 0, 0))), (4, .c b4 76 (lnC (none, 0, 0) (none, 0, 0))), (3, .c b3 66 (ruC r p q)), (2, .c b2 27 (tabC t a))])
    (fun z v => CeF z.es v) ⟨none, 0, 0, [], 0⟩ (fun z => z.k ≤ r.1.length ∧ z.n = z.es.length ∧ z.es.map (·.1) = (r.1.take z.k).map (fun s => (parseC s).1) ∧ ∀ j, j < z.k → cellE t j (r.1.getD j []) = 0) (fun z => r.1.length - z.k) (fun z => cef_m z.es) ?_
  refine And.intro ⟨⟨Nat.zero_le _, rfl, rfl, fun j hj => absurd hj (Nat.not_lt_zero j)⟩, gs (fv := fun v _ q hq => absurd hq List.not_mem_nil)⟩ ?_
  rintro ⟨a1, n1, c1, es, k⟩ ⟨hk, hn1, hes, hz⟩
  dsimp only at hk hn1 hes hz ⊢
  refine cnd (fun h1 => ?_) (fun h1 => ?_)
  · have hkl : k < r.1.length := by omega
    have hel := es_len hes hk
    have hcE : cellE t k (r.1.getD k []) = if (parseC (r.1.getD k [])).2.2 ≠ 0 then (parseC (r.1.getD k [])).2.2 else typC (parseC (r.1.getD k [])).1 (t.ins.getD k co0).1.kind (colsO t.ins) := rfl
    have her := fir_er (f := fun k => cellE t k (r.1.getD k [])) hz
    have hpr := parseC_right (s := r.1.getD k [])
    have htm := fun g => take_map (f := fun s => (parseC s).1) (γ := AC) (g := g) [] hes hkl
    refine ixs hr1 k [] ?_
    refine cA TT_ok (fun w v h1 h2 h3 => c_RCParse (r.1.getD k []) w v h3) (fun a => tl_m a _) (fun x => ?_)
    generalize hce : cellE t k (r.1.getD k []) = ce at *
    generalize parseC (r.1.getD k []) = P at *
    obtain ⟨c, at', e⟩ := P
    dsimp only at hcE hpr htm
    intro b9
    refine w_cutB TT_ok (fun _ : Unit => [(11, .v (.int .i64 ce))]) (fun _ => [(9, .c b9 99 (celC c x.1 x.2)), (46, .k none (adB p.1) (adO p.1 + k * 1) [vs (r.1.getD k [])]), (900, .e (bufE 99 3 (.slice a1 n1 c1) (es.map ceC).flatten)), (7, .c b7 76 (lnC (a1, n1, c1) (none, 0, 0))), (4, .c b4 76 (lnC (none, 0, 0) (none, 0, 0))), (3, .c b3 66 (ruC r p q)), (2, .c b2 27 (tabC t a))]) (fun _ => True) ?_
    refine And.intro ?_ ?_
    · refine cnd (fun h2 => ?_) (fun h2 => ?_)
      · have h2 : e = 0 := h2
        rw [if_neg (fun hh => hh h2)] at hcE
        refine And.intro (by kernel_rfl) ?_
        refine ixs hc.i.1 k c0 ?_ (by omega)
        rw [cols_get t.ins k (by omega)]
        refine cf (fun w v h1 h4 h3 => c_RTyped c x.1 x.2 _ a.i.1 a.i.2 (colsO t.ins) (right_gt (hpr h2)) w v h3 h4.2 (hc.i.1.monoF h1)) ?_
        exact ⟨(), trivial, gs (by rw [hcE]; rfl)⟩
      · rw [if_pos h2] at hcE
        exact ⟨(), trivial, gs (by rw [hcE]; rfl)⟩
    intro _ _
    refine cnd (fun h2 => ?_) (fun h2 => ?_)
    · have h2 : ce ≠ 0 := h2
      have := her h2 hkl
      rw [this, if_pos h2] at e0
      rw [e0]
      exact ⟨((a1, n1, c1), (none, 0, 0), k), rfl, fun v _ _ hh => absurd hh h2⟩
    have h2 : ce = 0 := by simpa using h2
    intro b72
    refine ap TT_ok 900 (AppT.of (bytes := 32) (sz := 2) (by kernel_rfl) (by kernel_rfl) (by kernel_rfl)) rfl rfl rfl rfl rfl rfl rfl (by rw [row_flat (sz := 3) (fun _ => rfl)]; show (_ + 3) * 33 ≤ _; omega) (fun a3 n3 c3 e3 => ?_)
    have hn3 : n3 = (es ++ [(c, x)]).length := by
      rw [row_flat (sz := 3) (fun _ => rfl)] at e3
      have e3 : n3 * 3 = es.length * 3 + 3 := e3
      rw [List.length_append]; show n3 = es.length + 1; omega
    have efl : ((es ++ [(c, x)]).map ceC).flatten = (es.map ceC).flatten ++ (celC c x.1 x.2 ++ []) := by rw [List.map_append, List.flatten_append]; rfl
    refine wi ?_
    refine ⟨⟨a3, n3, c3, es ++ [(c, x)], k + 1⟩, ⟨⟨hkl, hn3, htm x, upto_snoc hz (hce.trans h2)⟩, by show r.1.length - (k + 1) < r.1.length - k; omega⟩, gs rfl (by rw [efl]; rfl) (fun v hF => cef_snoc hF.1 hF.2)⟩
  obtain rfl : k = r.1.length := by omega
  have hfz : firstE (fun k => cellE t k (r.1.getD k [])) r.1.length = 0 := fir_ok hz
  rw [hfz, if_neg (fun hh => hh rfl)] at e0
  rw [List.take_length] at hes
  refine And.intro rfl ?_
  rw [← row_map ceC ce0 es]
  refine sealW (g := fun i => ceC (es.getD i ce0)) (l := List.range es.length) 900 rfl (by simp [hn1]) ?_
  refine goW TT_ok ?_
  refine nilC 901 105 6 ?_
  refine w_loopF TT_ok (fun z : LpG (Ex × AC) => [(12, .v (.int .i64 z.k))]) (fun z => [(901, .e (bufE 105 6 (.slice z.a z.n z.c) (z.es.map xeC).flatten)), (7, .c b7 76 (lnC (a1, n1, c1) (z.a, z.n, z.c))), (4, .c b4 76 (lnC (none, 0, 0) (none, 0, 0))), (3, .c b3 66 (ruC r p q)), (2, .c b2 27 (tabC t a))])
    (fun z v => (SlC 99 3 (flatR fun i => ceC (es.getD i ce0)) v (.slice a1 n1 c1) (List.range es.length) ∧ CeF es v) ∧ XeF z.es v) ⟨none, 0, 0, [], 0⟩
    (fun z => z.k ≤ r.2.length ∧ z.n = z.es.length ∧ z.es.map (·.1) = (r.2.take z.k).map (fun s => (parseT s).1) ∧ ∀ j, j < z.k → outE t j (r.2.getD j []) = 0) (fun z => r.2.length - z.k) (fun z _ _ hle hx => ⟨⟨hx.1.1.monoF hle, cef_m es _ _ hle hx.1.2⟩, xef_m _ _ _ hle hx.2⟩) ?_
  refine And.intro ⟨⟨Nat.zero_le _, rfl, rfl, fun j hj => absurd hj (Nat.not_lt_zero j)⟩, gs (fv := fun v hF => ⟨⟨hF.2, hF.1⟩, fun q hq => absurd hq List.not_mem_nil⟩)⟩ ?_
  rintro ⟨a2, n2, c2, es2, k⟩ ⟨hk2, hn2, hes2, hz2⟩
  dsimp only at hk2 hn2 hes2 hz2 ⊢
  refine cnd (fun h1 => ?_) (fun h1 => ?_)
  · have hkl : k < r.2.length := by omega
    have hel := es_len hes2 hk2
    have hcE : outE t k (r.2.getD k []) = if (parseT (r.2.getD k [])).2.2 ≠ 0 then (parseT (r.2.getD k [])).2.2 else if (kindT (colsO t.ins) (parseT (r.2.getD k [])).1).2 ≠ 0 then (kindT (colsO t.ins) (parseT (r.2.getD k [])).1).2
      else if fitS (kindT (colsO t.ins) (parseT (r.2.getD k [])).1).1 (t.outs.getD k co0).1.kind = false then 14 else 0 := rfl
    have her := fir_er (f := fun k => outE t k (r.2.getD k [])) hz2
    have hpr := parseT_right (s := r.2.getD k [])
    have hnd := parse_nd (r.2.getD k [])
    have hs : (r.2.getD k []).length ≤ 1000000 := hsl _ (getD_mem r.2 k [] hkl)
    have htm := fun g => take_map (f := fun s => (parseT s).1) (γ := AC) (g := g) [] hes2 hkl
    refine ixs hr2 k [] ?_
    obtain ⟨x, at', e, he⟩ : ∃ x at' e, parseT (r.2.getD k []) = (x, at', e) := ⟨_, _, _, rfl⟩
    refine cA TT_ok (fun w v h1 h2 h3 => c_RParseE he (by omega) w v h3) (fun a => xl_m a _) (fun y => ?_)
    generalize hce : outE t k (r.2.getD k []) = ce at *
    rw [he] at hcE hpr hnd htm
    dsimp only at hcE hpr hnd htm
    intro b13
    obtain ⟨pk, hpk⟩ : ∃ pk, kindT (colsO t.ins) x = pk := ⟨_, rfl⟩
    rw [hpk] at hcE
    refine w_cutB TT_ok (fun _ : Unit => [(16, .v (.int .i64 (if e ≠ 0 then 0 else pk.1))), (15, .v (.int .i64 (if e ≠ 0 then e else pk.2)))]) (fun _ => [(13, .c b13 105 (xeC (x, y))), (86, .k none (adB q.1) (adO q.1 + k * 1) [vs (r.2.getD k [])]), (901, .e (bufE 105 6 (.slice a2 n2 c2) (es2.map xeC).flatten)), (7, .c b7 76 (lnC (a1, n1, c1) (a2, n2, c2))), (4, .c b4 76 (lnC (none, 0, 0) (none, 0, 0))), (3, .c b3 66 (ruC r p q)), (2, .c b2 27 (tabC t a))]) (fun _ => True) ?_
    refine And.intro ?_ ?_
    · refine cnd (fun h2 => ?_) (fun h2 => ?_)
      · have h2 : e = 0 := h2
        refine cf (fun w v h1 h4 h3 => c_RKindP (p := pk) a.i.1 a.i.2 (colsO t.ins) x y.1 y.2 hpk w v h3 ⟨h4.2, hnd.1, hnd.2, smx_right (hpr h2)⟩ (hc.i.1.monoF h1)) ?_
        exact ⟨(), trivial, gs (by rw [if_neg (fun hh => hh h2), if_neg (fun hh => hh h2)]; rfl)⟩
      · exact ⟨(), trivial, gs (by rw [if_pos h2, if_pos h2]; rfl)⟩
    intro _ _
    refine w_cutB TT_ok (fun _ : Unit => [(15, .v (.int .i64 ce))]) (fun _ => [(13, .c b13 105 (xeC (x, y))), (86, .k none (adB q.1) (adO q.1 + k * 1) [vs (r.2.getD k [])]), (901, .e (bufE 105 6 (.slice a2 n2 c2) (es2.map xeC).flatten)), (7, .c b7 76 (lnC (a1, n1, c1) (a2, n2, c2))), (4, .c b4 76 (lnC (none, 0, 0) (none, 0, 0))), (3, .c b3 66 (ruC r p q)), (2, .c b2 27 (tabC t a))]) (fun _ => True) ?_
    refine And.intro ?_ ?_
    · refine ixsg hc.o.1 k c0 ?_ (by intros; omega)
      refine kg1 ?_
      rw [cols_get t.outs k (by omega)]
      refine cbg (fun _ w hw => c_RFits _ _ w h0 hw) ?_
      refine cnd (fun h2 => ?_) (fun h2 => ?_)
      · have h14 : ce = 14 := by
          rw [hcE]
          by_cases h3 : e = 0
          · rw [if_neg (fun hh => hh h3), if_neg (fun hh => hh h3)] at h2
            rw [if_neg (fun hh => hh h3), if_neg (fun hh => hh h2.1), if_pos h2.2]
          · rw [if_pos h3] at h2
            exact absurd h2.1 h3
        exact ⟨(), trivial, gs (by rw [h14]; rfl)⟩
      · have h15 : (if e ≠ 0 then e else pk.2) = ce := by
          rw [hcE]
          by_cases h3 : e = 0
          · rw [if_neg (fun hh => hh h3), if_neg (fun hh => hh h3)] at h2
            rw [if_neg (fun hh => hh h3), if_neg (fun hh => hh h3)]
            by_cases h4 : pk.2 = 0
            · rw [if_neg (fun hh => hh h4), if_neg (by
                rcases h2 with h2 | h2
                · exact absurd h4 h2
                · rw [h2]; decide), h4]
            · rw [if_pos h4]
          · rw [if_pos h3, if_pos h3]
        exact ⟨(), trivial, gs (by rw [h15]; rfl)⟩
    intro _ _
    refine cnd (fun h2 => ?_) (fun h2 => ?_)
    · have h2 : ce ≠ 0 := h2
      have := her h2 hkl
      rw [this] at e0
      rw [e0]
      refine regPh TT_ok [([0, 1, 4, 6, 2, 3, 5], [7]), ([8, 9], [])] [4] ?_
      refine wi ?_
      refine kq ?_
      refine kq ?_
      refine kq ?_
      exact ⟨((a1, n1, c1), (a2, n2, c2), ((colsO t.ins).length : Int) + k), rfl, fun v _ _ hh => absurd hh h2⟩
    have h2 : ce = 0 := by simpa using h2
    intro b126
    refine ap TT_ok 901 (AppT.of (bytes := 80) (sz := 5) (by kernel_rfl) (by kernel_rfl) (by kernel_rfl)) rfl rfl rfl rfl rfl rfl rfl (by rw [row_flat (sz := 6) (fun _ => rfl)]; show (_ + 6) * 81 ≤ _; omega) (fun a3 n3 c3 e3 => ?_)
    have hn3 : n3 = (es2 ++ [(x, y)]).length := by
      rw [row_flat (sz := 6) (fun _ => rfl)] at e3
      have e3 : n3 * 6 = es2.length * 6 + 6 := e3
      rw [List.length_append]; show n3 = es2.length + 1; omega
    have efl : ((es2 ++ [(x, y)]).map xeC).flatten = (es2.map xeC).flatten ++ (xeC (x, y) ++ []) := by rw [List.map_append, List.flatten_append]; rfl
    refine wi ?_
    refine And.intro rfl ?_
    refine goW TT_ok ?_
    refine ⟨⟨a3, n3, c3, es2 ++ [(x, y)], k + 1⟩, ⟨⟨hkl, hn3, htm y, upto_snoc hz2 (hce.trans h2)⟩, by show r.2.length - (k + 1) < r.2.length - k; omega⟩, gs rfl (by rw [efl]; rfl) (fun v hF => ⟨hF.1.1, xef_snoc hF.1.2 hF.2⟩)⟩
  obtain rfl : k = r.2.length := by omega
  have hfz : firstE (fun k => outE t k (r.2.getD k [])) r.2.length = 0 := fir_ok hz2
  rw [hfz] at e0
  rw [List.take_length] at hes2
  refine And.intro rfl ?_
  rw [← row_map xeC xq0 es2]
  refine sealW (g := fun i => xeC (es2.getD i xq0)) (l := List.range es2.length) 901 rfl (by simp [hn2]) ?_
  refine goW TT_ok ?_
  rw [e0]
  have hl1 : n1 = (lineV r).cs.length := by rw [hn1]; have := congrArg List.length hes; simpa [lineV] using this
  have hl2 : n2 = (lineV r).os.length := by rw [hn2]; have := congrArg List.length hes2; simpa [lineV] using this
  refine ⟨((a1, n1, c1), (a2, n2, c2), 0), rfl, fun v _ hF _ => ⟨hl1, hl2, ?_, ?_⟩⟩
  · have := LR.of_row (R := CelR) (g := fun q : Cel × AC => q.1) hF.1.1.1 hn1 (fun q hq => ⟨q.2, rfl, hF.1.1.2 q hq⟩)
    rw [hes] at this; exact this
  · have := LR.of_row (R := fun h cs x => RX h cs x) (g := fun q : Ex × AC => q.1) hF.2 hn2 (fun q hq => XL.rx (hF.1.2 q hq) (by
      have hm : q.1 ∈ es2.map (·.1) := List.mem_map.2 ⟨q, hq, rfl⟩
      rw [hes2] at hm
      obtain ⟨s, _, e⟩ := List.mem_map.1 hm
      rw [← e]; exact parse_nd s))
    rw [hes2] at this; exact this
end Go.Proofs.YtkkbnjomcgnkpaaGreat
set_option maxRecDepth 100000
namespace Go.Proofs.YtkkbnjomcgnkpaaGreat
open Go Go.Dx Go.RowKit
def lqC (q : Lin × SlH × SlH) : List Value := lnC q.2.1 q.2.2
def LqH (h : View) (q : Lin × SlH × SlH) : Prop := q.2.1.2.1 = q.1.cs.length ∧ q.2.2.2.1 = q.1.os.length ∧ LinH h q.1 (q.2.1.1, q.2.1.2.2) (q.2.2.1, q.2.2.2.2)
theorem lqh_m (q : Lin × SlH × SlH) : Mono fun h => LqH h q := fun _ _ hle hx => ⟨hx.1, hx.2.1, lin_m _ _ _ _ _ hle hx.2.2⟩
def LqF (es : List (Lin × SlH × SlH)) (h : View) : Prop := ∀ q ∈ es, LqH h q
theorem lqf_m (es : List (Lin × SlH × SlH)) : Mono fun h => LqF es h := fun _ _ hle hx q hq => lqh_m _ _ _ hle (hx q hq)
theorem lqf_snoc {es : List (Lin × SlH × SlH)} {q : Lin × SlH × SlH} {h : View} (h1 : LqF es h) (h2 : LqH h q) : LqF (es ++ [q]) h := fun p hp => by
  rcases List.mem_append.1 hp with hp | hp
  · exact h1 p hp
  · have : p = q := by simpa using hp
    subst this; exact h2
def lq0 : Lin × SlH × SlH := (lin0, (none, 0, 0), (none, 0, 0))
theorem LqH.r {h : View} {q : Lin × SlH × SlH} (hx : LqH h q) : LinR h (lqC q) q.1 := by
  obtain ⟨l, ⟨a1, n1, c1⟩, ⟨a2, n2, c2⟩⟩ := q
  obtain ⟨h1, h2, h3⟩ := hx
  dsimp only at h1 h2 h3
  exact ⟨(a1, c1), (a2, c2), by rw [lqC, lnC, liC, h1, h2], h3⟩
def ta0 : TA := ⟨(none, 0), (none, 0), (none, 0)⟩
def mkV (t : Tab) (a : TA) (z : AC × Int × Int) : Value := if makeE t = 0 then .tuple #[.agg (rdyC (makeV t) a z.1).toArray, .int .i64 0, .int .i64 0, .int .i64 0] else .tuple #[.agg (rdyC rdy0 ta0 (none, 0)).toArray, .int .i64 z.2.1, .int .i64 z.2.2, .int .i64 (makeE t)]
def LzF (t : Tab) (r : List (List UInt8) × List (List UInt8)) (z : SlH × SlH × Int) (h : View) : Prop := lineE t r = 0 → z.1.2.1 = (lineV r).cs.length ∧ z.2.1.2.1 = (lineV r).os.length ∧ LinH h (lineV r) (z.1.1, z.1.2.2) (z.2.1.1, z.2.1.2.2)
theorem lzf_m (t : Tab) (r : List (List UInt8) × List (List UInt8)) (z : SlH × SlH × Int) : Mono fun h => LzF t r z h := fun _ _ hle hx he => ⟨(hx he).1, (hx he).2.1, lin_m _ _ _ _ _ hle (hx he).2.2⟩
set_option maxHeartbeats 4000000 in
theorem c_Make (t : Tab) (a : TA) (hb : TabB t) (w0 : World) (h0 : View) (hv : VLe h0 (Full w0)) (hc : TabH h0 t a) :
    Calls Tryz.prog 11 #[.agg (tabC t a).toArray] w0 (Ret w0 h0 fun u hh => ∃ z : AC × Int × Int, u = mkV t a z ∧ (makeE t = 0 → RdyH hh (makeV t) a z.1)) := by
  have e0 : makeE t = if frameE t ≠ 0 then frameE t else firstE (fun i => lineE t (t.rules.getD i ru0)) t.rules.length := rfl
  have hok : ∀ z, makeE t = 0 → mkV t a z = .tuple #[.agg (rdyC (makeV t) a z.1).toArray, .int .i64 0, .int .i64 0, .int .i64 0] := fun z h => if_pos h
  have her : ∀ z, makeE t ≠ 0 → mkV t a z = .tuple #[.agg (rdyC rdy0 ta0 (none, 0)).toArray, .int .i64 z.2.1, .int .i64 z.2.2, .int .i64 (makeE t)] := fun z h => if_neg h
  generalize mkV t a = mk at hok her ⊢
  generalize makeE t = E at e0 hok her ⊢
  refine entA (args := [.agg (tabC t a).toArray]) TT_ok [1000008, 50] [9] Tryz.func11 rfl Tryz.ntmps11 rfl rfl hv (fun x => fun _ _ hle hx he => rdy_m _ _ _ _ _ hle (hx he)) ?_
  intro b1 b2
  refine cb (fun w hw => c_Rframe t a hb w h0 hw hc) ?_
  refine cnd (fun h => ?_) (fun h => ?_)
  · have h : frameE t ≠ 0 := h
    rw [if_pos h] at e0
    subst e0
    exact ⟨((none, 0), -1, 0), (her ((none, 0), -1, 0) h).symm, fun v _ _ hh => absurd hh h⟩
  rw [if_neg (fun hh => hh (by simpa using h))] at e0
  intro b7
  refine nilC 900 76 2 ?_
  refine w_loopF TT_ok (fun z : LpG (Lin × SlH × SlH) => [(8, .v (.int .i64 z.k))]) (fun z => [(900, .e (bufE 76 2 (.slice z.a z.n z.c) (z.es.map lqC).flatten)), (7, .c b7 34 (tabC t a ++ [.slice z.a z.n z.c])), (2, .c b2 34 (rdyC rdy0 ta0 (none, 0))), (1, .c b1 27 (tabC t a))])
    (fun z v => LqF z.es v) ⟨none, 0, 0, [], 0⟩ (fun z => z.k ≤ t.rules.length ∧ z.n = z.es.length ∧ z.es.map (·.1) = (t.rules.take z.k).map lineV ∧ ∀ j, j < z.k → lineE t (t.rules.getD j ru0) = 0) (fun z => t.rules.length - z.k) (fun z => lqf_m z.es) ?_
  refine And.intro ⟨⟨Nat.zero_le _, rfl, rfl, fun j hj => absurd hj (Nat.not_lt_zero j)⟩, gs (fv := fun v _ q hq => absurd hq List.not_mem_nil)⟩ ?_
  rintro ⟨a1, n1, c1, es, k⟩ ⟨hk, hn1, hes, hz⟩
  dsimp only at hk hn1 hes hz ⊢
  have hlk := hb.k
  refine cnd (fun h1 => ?_) (fun h1 => ?_)
  · have hkl : k < t.rules.length := by omega
    have hel := es_len hes hk
    have hfe := fir_er (f := fun i => lineE t (t.rules.getD i ru0)) hz
    have htm := fun g => take_map (f := lineV) (γ := SlH × SlH) (g := g) ru0 hes hkl
    have hbr := hb.r _ (getD_mem t.rules k ru0 hkl)
    obtain ⟨r, hr⟩ : ∃ r, t.rules.getD k ru0 = r := ⟨_, rfl⟩
    rw [hr] at htm hbr hfe
    refine w_cutF TT_ok (fun y : Nat × SlH × SlH × Int => [(9, .o 9 0), (10, .v (.int .i64 y.2.2.2)), (11, .v (.int .i64 (lineE t r)))]) (fun y => [(9, .c y.1 76 (lnC y.2.1 y.2.2.1)), (900, .e (bufE 76 2 (.slice a1 n1 c1) (es.map lqC).flatten)), (7, .c b7 34 (tabC t a ++ [.slice a1 n1 c1])), (2, .c b2 34 (rdyC rdy0 ta0 (none, 0))), (1, .c b1 27 (tabC t a))])
      (fun y v => LqF es v ∧ LzF t r y.2 v) (fun _ => True) (fun y _ _ hle hx => ⟨lqf_m _ _ _ hle hx.1, lzf_m _ _ _ _ _ hle hx.2⟩) ?_
    refine And.intro ?_ ?_
    · refine regPt TT_ok (.m [0,1,3,2,4,5] (.n 6 (.m [7,8,9,10] (.n 11 (.n 12 (.m [13,14] .e) .z) .z)) (.n 11 (.n 6 (.m [7,8,9,10] (.n 12 (.m [13,14] .e) .z)) .z) .z))) [9] ?_
      refine ixL (R := RuR) hc.r k ru0 (fun cs hcs => ?_)
      rw [hr] at hcs
      obtain ⟨pa, pb, rfl, g1, g2⟩ := hcs
      refine kq ⟨?_, ?_⟩
      · refine cA TT_ok (fun w v h1 h2 h3 => c_Rrule t a r pa pb hbr.2.1 hbr.2.2 hbr.1 w v h3 (tab_m _ _ _ _ h1 hc) (txtl_m _ _ _ _ h1 g1) (txtl_m _ _ _ _ h1 g2)) (fun y => lzf_m t r y) (fun y => ?_)
        refine kq ?_
        refine kq ?_
        intro b9
        refine kq ?_
        refine kq ?_
        refine kq ?_
        exact ⟨(b9, y), trivial, gsJ ⟨rfl, rfl, rfl, rfl, rfl, trivial⟩⟩
      · intro b9
        refine kq ?_
        refine cA TT_ok (fun w v h1 h2 h3 => c_Rrule t a r pa pb hbr.2.1 hbr.2.2 hbr.1 w v h3 (tab_m _ _ _ _ h1 hc) (txtl_m _ _ _ _ h1 g1) (txtl_m _ _ _ _ h1 g2)) (fun y => lzf_m t r y) (fun y => ?_)
        refine kq ?_
        refine kq ?_
        refine kq ?_
        refine kq ?_
        exact ⟨(b9, y), trivial, gsJ ⟨rfl, rfl, rfl, rfl, rfl, trivial⟩⟩
    rintro ⟨b9, y1, y2, yk⟩ _
    dsimp only
    refine cnd (fun h2 => ?_) (fun h2 => ?_)
    · have h2 : lineE t r ≠ 0 := h2
      have := hfe h2 hkl
      rw [this] at e0
      subst e0
      exact ⟨((none, 0), k, yk), (her ((none, 0), k, yk) h2).symm, fun v _ _ hh => absurd hh h2⟩
    have h2 : lineE t r = 0 := by simpa using h2
    intro b47
    refine ap TT_ok 900 (AppT.of (bytes := 48) (sz := 1) (by kernel_rfl) (by kernel_rfl) (by kernel_rfl)) rfl rfl rfl rfl rfl rfl rfl (by rw [row_flat (sz := 2) (fun _ => rfl)]; show (_ + 2) * 49 ≤ _; omega) (fun a3 n3 c3 e3 => ?_)
    have hn3 : n3 = (es ++ [(lineV r, y1, y2)]).length := by
      rw [row_flat (sz := 2) (fun _ => rfl)] at e3
      have e3 : n3 * 2 = es.length * 2 + 2 := e3
      rw [List.length_append]; show n3 = es.length + 1; omega
    have efl : ((es ++ [(lineV r, y1, y2)]).map lqC).flatten = (es.map lqC).flatten ++ (lnC y1 y2 ++ []) := by rw [List.map_append, List.flatten_append]; rfl
    refine wi ?_
    refine ⟨⟨a3, n3, c3, es ++ [(lineV r, y1, y2)], k + 1⟩, ⟨⟨hkl, hn3, htm (y1, y2), upto_snoc hz (by rw [hr]; exact h2)⟩, by show t.rules.length - (k + 1) < t.rules.length - k; omega⟩, gs rfl (by rw [efl]; rfl) (fun v hF => lqf_snoc hF.1 (hF.2 h2))⟩
  obtain rfl : k = t.rules.length := by omega
  rw [show firstE (fun i => lineE t (t.rules.getD i ru0)) t.rules.length = 0 from fir_ok hz] at e0
  rw [List.take_length] at hes
  refine And.intro rfl ?_
  rw [← row_map lqC lq0 es]
  refine sealW (g := fun i => lqC (es.getD i lq0)) (l := List.range es.length) 900 rfl (by simp [hn1]) ?_
  refine goW TT_ok ?_
  subst e0
  have hl1 : n1 = (makeV t).ls.length := by rw [hn1]; have := congrArg List.length hes; simpa [makeV] using this
  have hfin := (hok ((a1, c1), 0, 0) rfl).symm
  rw [rdyC, ← hl1] at hfin
  refine ⟨((a1, c1), 0, 0), hfin, fun v hle hF _ => ⟨tab_m _ _ _ _ hle hc, ?_⟩⟩
  · have := LR.of_row (R := LinR) (g := fun q : Lin × SlH × SlH => q.1) hF.2 hn1 (fun q hq => (hF.1 q hq).r)
    rw [hes] at this; exact this
end Go.Proofs.YtkkbnjomcgnkpaaGreat
set_option maxRecDepth 100000
namespace Go.Proofs.YtkkbnjomcgnkpaaGreat
open Go Go.Dx Go.RowKit
structure RdyB (r : Rdy) : Prop where
  ins : r.t.ins.length ≤ 1000000
  ls : r.ls.length ≤ 1000000
  l : ∀ l ∈ r.ls, l.cs.length = r.t.ins.length ∧ l.os.length ≤ 1000000 ∧ (∀ c ∈ l.cs, ∀ t ∈ c.ts, GT t) ∧ (∀ x ∈ l.os, Nd x ∧ SmX x)
  no : ∀ l ∈ r.ls, 1 ≤ l.os.length
theorem c_Input (r : Rdy) (a : TA) (x b : AC) (row : List Val) (hvb : ∀ v ∈ row, valB v) (w0 : World) (h0 : View) (hv : VLe h0 (Full w0)) (hr : RdyH h0 r a x) (hrow : SlC 57 3 (flatR valC) h0 (.slice b.1 row.length b.2) row) :
    Calls Tryz.prog 18 #[.agg (rdyC r a x).toArray, .slice b.1 row.length b.2] w0 (Ret w0 h0 fun u _ => u = .int .i64 (inputE r row)) := by
  have hlm := slc_lm hrow
  have hci := cols_len r.t.ins
  have e21 : ¬ (row.length = r.t.ins.length ∧ ∀ i, i < row.length → inG r row i) → inputE r row = 21 := fun h => if_neg h
  have e00 : (row.length = r.t.ins.length ∧ ∀ i, i < row.length → inG r row i) → inputE r row = 0 := fun h => if_pos h
  generalize inputE r row = E at e21 e00 ⊢
  refine ent (args := [.agg (rdyC r a x).toArray, .slice b.1 row.length b.2]) TT_ok [] [] Tryz.func18 rfl Tryz.ntmps18 rfl rfl hv ?_
  intro b2
  refine cnd (fun h => ?_) (fun h => ?_)
  · rw [e21 (fun hh => by omega)]; exact rfl
  have hlen : row.length = r.t.ins.length := by omega
  refine w_loop TT_ok (fun k : Nat => [(16, .v (.int .i64 k))]) 0 (fun k => k ≤ row.length ∧ ∀ i, i < k → inG r row i) (fun k => row.length - k) ?_
  refine And.intro ⟨⟨Nat.zero_le _, fun j hj => absurd hj (Nat.not_lt_zero j)⟩, gs⟩ ?_
  intro k ⟨hk, hn⟩
  refine cnd (fun h1 => ?_) (fun h1 => ?_)
  · have hkl : k < row.length := by omega
    refine ixs hrow k v0 ?_
    intro b6
    refine And.intro (by kernel_rfl) ?_
    refine cb (fun w hw => c_VCheck _ (hvb _ (getD_mem row k v0 hkl)) w h0 hw) ?_
    refine ixsg hr.t.i.1 k c0 ?_ (by intros; omega)
    refine kg1 ?_
    refine cbg (fun _ w hw => c_Fits _ _ w h0 hw) ?_
    refine cnd (fun h2 => ?_) (fun h2 => ?_)
    · rw [e21 (fun hh => by
        have hg := hh.2 k hkl
        rcases h2 with h2 | h2
        · rw [if_pos hg.1] at h2; exact h2 rfl
        · rw [hg.2] at h2; cases h2)]
      exact rfl
    · refine wi ?_
      refine ⟨k + 1, ⟨⟨hkl, upto_snoc hn ⟨?_, h2.2⟩⟩, by omega⟩, gs⟩
      have h3 := h2.1
      split at h3
      · assumption
      · exact absurd h3 (by decide)
  · rw [e00 ⟨hlen, fun i hi => hn i (by omega)⟩]; exact rfl
theorem getD_line {r : Rdy} (hb : RdyB r) {i : Nat} (hi : i < r.ls.length) : (r.ls.getD i lin0).cs.length = r.t.ins.length ∧ (r.ls.getD i lin0).os.length ≤ 1000000 ∧ (∀ c ∈ (r.ls.getD i lin0).cs, ∀ t ∈ c.ts, GT t) ∧ (∀ x ∈ (r.ls.getD i lin0).os, Nd x ∧ SmX x) := hb.l _ (getD_mem r.ls i lin0 hi)
set_option maxHeartbeats 2000000 in
theorem c_holdsH (r : Rdy) (a : TA) (x b : AC) (row : List Val) (i : Nat) (hb : RdyB r) (hi : i < r.ls.length) (hl : row.length = r.t.ins.length) (hvb : ∀ v ∈ row, valB v) (w0 : World) (h0 : View) (hv : VLe h0 (Full w0)) (hr : RdyH h0 r a x) (hrow : SlC 57 3 (flatR valC) h0 (.slice b.1 row.length b.2) row) :
    Calls Tryz.prog 38 #[.agg (rdyC r a x).toArray, .int .i64 (i : Nat), .slice b.1 row.length b.2] w0 (Ret w0 h0 fun u _ => u = kbR2 (ruleS r row i)) := by
  have hlm := slc_lm hrow
  have hci := cols_len r.t.ins
  have hg := getD_line hb hi
  have hbi := hb.ins
  have e0 : ruleS r row i = allS (cellH r row i) (r.ls.getD i lin0).cs.length := rfl
  rw [e0]; clear e0
  have eC : ∀ k, cellH r row i k = holdsC ((r.ls.getD i lin0).cs.getD k cel0) (row.getD k v0) (colsO r.t.ins) row := fun _ => rfl
  refine ent (args := [.agg (rdyC r a x).toArray, .int .i64 (i : Nat), .slice b.1 row.length b.2]) TT_ok [] [] Tryz.func38 rfl Tryz.ntmps38 rfl rfl hv ?_
  intro b3
  refine ixL (R := LinR) hr.l i lin0 (fun cs hcs => ?_)
  generalize r.ls.getD i lin0 = ln at hg eC hcs ⊢
  obtain ⟨la, lb, rfl, hlin⟩ := hcs
  refine w_loop TT_ok (fun k : Nat => [(19, .v (.int .i64 k))]) 0 (fun k => k ≤ ln.cs.length ∧ ∀ j, j < k → cellH r row i j = (true, 0)) (fun k => ln.cs.length - k) ?_
  refine And.intro ⟨⟨Nat.zero_le _, fun j hj => absurd hj (Nat.not_lt_zero j)⟩, gs⟩ ?_
  intro k ⟨hk, hn⟩
  refine cnd (fun h1 => ?_) (fun h1 => ?_)
  · have hkl : k < ln.cs.length := by omega
    have hgt := hg.2.2.1 _ (getD_mem ln.cs k cel0 hkl)
    have hec := eC k
    refine ixL (R := CelR) hlin.1 k cel0 (fun cs hcs => ?_)
    generalize ln.cs.getD k cel0 = c at hgt hec hcs ⊢
    obtain ⟨y, rfl, ht⟩ := hcs
    intro b9
    refine And.intro (by kernel_rfl) ?_
    refine ixs hrow k v0 ?_ (by omega)
    refine cb (fun w hw => c_CHoldsK hec.symm y.1 y.2 a.i.1 a.i.2 b.1 b.2 hgt (hvb _ (getD_mem row k v0 (by omega))) (by omega) hvb w h0 hw ht hr.t.i.1 hrow) ?_
    generalize hp : cellH r row i k = p at *
    refine cnd (fun h2 => ?_) (fun h2 => ?_)
    · have hne : cellH r row i k ≠ (true, 0) := fun hh => by
        rw [hp] at hh; subst hh
        rcases h2 with h2 | h2
        · exact h2 rfl
        · cases h2
      rw [alls_er hn hne hkl, hp]; exact rfl
    · refine wi ?_
      refine ⟨k + 1, ⟨⟨hkl, upto_snoc hn ?_⟩, by omega⟩, gs⟩
      rw [hp]
      obtain ⟨p1, p2⟩ := p
      have h3 : p2 = 0 := by simpa using h2.1
      have h4 : p1 = true := by simpa using h2.2
      rw [h3, h4]
  · rw [alls_ok fun j hj => hn j (by omega)]; exact rfl
end Go.Proofs.YtkkbnjomcgnkpaaGreat
set_option maxRecDepth 100000
namespace Go.Proofs.YtkkbnjomcgnkpaaGreat
open Go Go.Dx Go.RowKit
def nC (i : Nat) : List Value := [.int .i64 (i : Int)]
theorem nsl {h : View} {a : Option Addr} {n cp : Nat} {l : List Nat} (hs : SlC 3 1 (flatR nC) h (.slice a n cp) l) : SlC 3 1 (flatR iC) h (.slice a n cp) (ints l) :=
  SlC.reidx hs (by simp [ints]) (fun i x y hi hj => by
    rw [ints, List.getElem?_map, hi] at hj
    cases hj; rfl)
def ruV (q : List Nat × Nat × Int) (z : AC) : Value := .tuple #[.slice z.1 q.1.length z.2, .int .i64 (q.2.1 : Int), .int .i64 q.2.2]
set_option maxHeartbeats 4000000 in
theorem c_HRules (r : Rdy) (a : TA) (x b : AC) (row : List Val) (hb : RdyB r) (hvb : ∀ v ∈ row, valB v) (w0 : World) (h0 : View) (hv : VLe h0 (Full w0)) (hr : RdyH h0 r a x) (hrow : SlC 57 3 (flatR valC) h0 (.slice b.1 row.length b.2) row) :
    Calls Tryz.prog 14 #[.agg (rdyC r a x).toArray, .slice b.1 row.length b.2] w0 (Ret w0 h0 fun u hh => ∃ z : AC, u = ruV (rulesR r row) z ∧ SlC 3 1 (flatR nC) hh (.slice z.1 (rulesR r row).1.length z.2) (rulesR r row).1) := by
  have hbl := hb.ls
  have eI : inputE r row ≠ 0 → rulesR r row = ([], 0, inputE r row) := fun h => if_pos h
  have eR : inputE r row = 0 → rulesR r row = rulesS r.t.pol (ruleS r row) r.ls.length := fun h => if_neg (fun hh => hh h)
  have hin : inputE r row = 0 → row.length = r.t.ins.length := fun h => by
    unfold inputE at h
    split at h
    · rename_i hh; exact hh.1
    · exact absurd h (by decide)
  generalize rulesR r row = q at eI eR ⊢
  refine entA (args := [.agg (rdyC r a x).toArray, .slice b.1 row.length b.2]) TT_ok [4] [] Tryz.func14 rfl Tryz.ntmps14 rfl rfl hv (fun _ => Mono.slF) ?_
  intro b2
  refine And.intro rfl ?_
  refine goW TT_ok ?_
  refine cb (fun w hw => c_Input r a x b row hvb w h0 hw hr hrow) ?_
  refine cnd (fun h => ?_) (fun h => ?_)
  · have h : inputE r row ≠ 0 := h
    refine And.intro rfl ?_
    refine goW TT_ok ?_
    rw [eI h]
    exact ⟨(none, 0), rfl, fun v _ _ => SlC.nil (by simp [maxLen])⟩
  have h : inputE r row = 0 := by simpa using h
  rw [eR h]
  have hl := hin h
  clear eI eR hin
  have hS : ∀ j, stopR r.t.pol (ruleS r row) j = (decide ((ruleS r row j).2 ≠ 0) || ((ruleS r row j).1 && decide (r.t.pol = 2))) := fun j => rfl
  refine nilC 900 3 1 ?_
  refine w_loopF TT_ok (fun z : (Option Addr × Nat × Nat) × Nat => [(21, .v (.int .i64 z.2)), (8, .v (.slice z.1.1 z.1.2.1 z.1.2.2))]) (fun z => [(900, .e (bufE 3 1 (.slice z.1.1 z.1.2.1 z.1.2.2) ((heldR (ruleS r row) z.2).map nC).flatten)), (2, .c b2 34 (rdyC r a x))])
    (fun z v => True) ((none, 0, 0), 0) (fun z => z.2 ≤ r.ls.length ∧ z.1.2.1 = (heldR (ruleS r row) z.2).length ∧ ∀ j, j < z.2 → stopR r.t.pol (ruleS r row) j = false) (fun z => r.ls.length - z.2) (fun z _ _ _ _ => trivial) ?_
  refine And.intro ⟨⟨Nat.zero_le _, rfl, fun j hj => absurd hj (Nat.not_lt_zero j)⟩, gs (fv := fun v _ => trivial)⟩ ?_
  rintro ⟨⟨a1, n1, c1⟩, k⟩ ⟨hk, hn1, hz⟩
  dsimp only at hk hn1 hz ⊢
  have hle : (heldR (ruleS r row) k).length ≤ k := by
    have := List.length_filter_le (fun i => (ruleS r row i).1) (List.range k)
    rw [List.length_range] at this; exact this
  refine cnd (fun h1 => ?_) (fun h1 => ?_)
  · have hkl : k < r.ls.length := by omega
    refine cb (fun w hw => c_holdsH r a x b row k hb hkl hl hvb w h0 hw hr hrow) ?_
    have hsn := held_snoc (ruleS r row) k
    have hsk := hS k
    have hrs := rules_some (pol := r.t.pol) (f := ruleS r row) (n := r.ls.length) (k := k) hz
    generalize hp : ruleS r row k = p at hsn hsk hrs ⊢
    obtain ⟨p1, p2⟩ := p
    dsimp only at hsn hsk hrs
    refine cnd (fun h2 => ?_) (fun h2 => ?_)
    · have h2 : p2 ≠ 0 := h2
      refine And.intro rfl ?_
      refine goW TT_ok ?_
      rw [hrs (by rw [hsk, decide_eq_true h2, Bool.true_or]) hkl, if_pos h2]
      exact ⟨(none, 0), rfl, fun v _ _ => SlC.nil (by simp [maxLen])⟩
    have h2 : p2 = 0 := by simpa using h2
    subst h2
    have hd : decide ((0 : Int) ≠ 0) = false := by decide
    rw [hd, Bool.false_or] at hsk
    refine cnd (fun h3 => ?_) (fun h3 => ?_)
    · obtain ⟨h3, h4⟩ : p1 = true ∧ r.t.pol = 2 := h3
      subst h3
      rw [hrs (by rw [hsk, h4]; rfl) hkl, if_neg (by decide)]
      intro b45
      refine And.intro rfl ?_
      refine shutW 45 (row_sl (g := nC) (l := [k]) (sz := 1) (n := 1) (cp := 1) rfl) ?_ Mono.slF
      refine goW TT_ok ?_
      exact ⟨(some ⟨b45, 0, none⟩, 1), rfl, fun v _ hF => hF.2⟩
    have h5 : stopR r.t.pol (ruleS r row) k = false := by
      rw [hsk]
      rcases h3 with h3 | h3
      · have h3 : p1 = false := h3
        rw [h3]; rfl
      · rw [decide_eq_false h3]; simp
    refine cnd (fun h4 => ?_) (fun h4 => ?_)
    · have h4 : p1 = true := h4
      rw [if_pos h4] at hsn
      intro b50
      refine ap TT_ok 900 (AppT.of (bytes := 8) (sz := 0) (by kernel_rfl) (by kernel_rfl) (by kernel_rfl)) rfl rfl rfl rfl rfl rfl rfl (by rw [row_flat (sz := 1) (fun _ => rfl)]; show (_ + 1) * 9 ≤ _; omega) (fun a3 n3 c3 e3 => ?_)
      refine wi ?_
      have hn3 : n3 = (heldR (ruleS r row) (k + 1)).length := by
        rw [row_flat (sz := 1) (fun _ => rfl)] at e3
        have e3 : n3 * 1 = (heldR (ruleS r row) k).length * 1 + 1 := e3
        rw [hsn, List.length_append]; show n3 = _ + 1; omega
      refine ⟨((a3, n3, c3), k + 1), ⟨⟨hkl, hn3, upto_snoc hz h5⟩, by show r.ls.length - (k + 1) < r.ls.length - k; omega⟩, gs rfl (by rw [hsn, List.map_append, List.flatten_append]; rfl) (fun v _ => trivial)⟩
    · have h4 : p1 = false := by simpa using h4
      rw [if_neg (by rw [h4]; decide)] at hsn
      refine wi ?_
      refine ⟨((a1, n1, c1), k + 1), ⟨⟨hkl, by rw [hsn]; exact hn1, upto_snoc hz h5⟩, by show r.ls.length - (k + 1) < r.ls.length - k; omega⟩, gs rfl (by rw [hsn]; rfl) (fun v _ => trivial)⟩
  · obtain rfl : k = r.ls.length := by omega
    rw [rules_none hz]
    refine And.intro rfl ?_
    refine sealW (g := nC) (l := heldR (ruleS r row) r.ls.length) 900 rfl (by simp [hn1]) ?_
    refine goW TT_ok ?_
    refine ⟨(a1, c1), ?_, fun v _ hF => ?_⟩
    · rw [ruV]; show _ = Value.tuple #[.slice a1 (heldR (ruleS r row) r.ls.length).length c1, _, _]
      rw [← hn1]; rfl
    · show SlC _ _ _ _ (.slice a1 (heldR (ruleS r row) r.ls.length).length c1) _
      rw [← hn1]; exact hF.2
end Go.Proofs.YtkkbnjomcgnkpaaGreat
set_option maxRecDepth 100000
namespace Go.Proofs.YtkkbnjomcgnkpaaGreat
open Go Go.Dx Go.RowKit
abbrev RwQ := List Val × AC
def rwC (q : RwQ) : List Value := [.slice q.2.1 q.1.length q.2.2]
def RwF (es : List RwQ) (h : View) : Prop := ∀ q ∈ es, SlC 57 3 (flatR valC) h (.slice q.2.1 q.1.length q.2.2) q.1
theorem rwf_m (es : List RwQ) : Mono fun h => RwF es h := fun _ _ hle hx q hq => (hx q hq).monoF hle
theorem rwf_snoc {es : List RwQ} {q : RwQ} {h : View} (h1 : RwF es h) (h2 : SlC 57 3 (flatR valC) h (.slice q.2.1 q.1.length q.2.2) q.1) : RwF (es ++ [q]) h := fun p hp => by
  rcases List.mem_append.1 hp with hp | hp
  · exact h1 p hp
  · have : p = q := by simpa using hp
    subst this; exact h2
def rw0 : RwQ := ([], none, 0)
noncomputable def toldS (r : Rdy) (row : List Val) (rules : List Nat) : List (List Val) × Int × Int :=
  match rules.find? (badT r row) with
  | some i => ([], (i : Int), tellE r row i)
  | none => (rules.map (tellV r row), 0, 0)
theorem told_none {r : Rdy} {row : List Val} {rules : List Nat} (h : ∀ j, j < rules.length → badT r row (rules.getD j 0) = false) : rules.find? (badT r row) = none := by
  rw [List.find?_eq_none]
  intro x hx
  obtain ⟨j, hj, rfl⟩ := List.mem_iff_getElem.1 hx
  have := h j hj
  rw [show rules.getD j 0 = rules[j] by simp [List.getD, hj]] at this
  rw [this]; decide
theorem told_some {r : Rdy} {row : List Val} : ∀ {rules : List Nat} {k : Nat}, (∀ j, j < k → badT r row (rules.getD j 0) = false) → k < rules.length → badT r row (rules.getD k 0) = true → rules.find? (badT r row) = some (rules.getD k 0)
  | [], k, _, h, _ => absurd h (Nat.not_lt_zero _)
  | i :: l, 0, _, _, h => by
    have h : badT r row i = true := h
    rw [List.find?_cons_of_pos (h := h)]; rfl
  | i :: l, k + 1, hz, hk, h => by
    have h0 : badT r row i = false := hz 0 (by omega)
    rw [List.find?_cons_of_neg (h := by rw [h0]; decide)]
    exact told_some (rules := l) (k := k) (fun j hj => hz (j + 1) (by omega)) (by simpa using hk) h
def tlV (q : List (List Val) × Int × Int) (z : AC) : Value := .tuple #[.slice z.1 q.1.length z.2, .int .i64 q.2.1, .int .i64 q.2.2]
set_option maxHeartbeats 4000000 in
theorem c_told (r : Rdy) (a : TA) (x b c : AC) (row : List Val) (rules : List Nat) (hb : RdyB r) (hrl : rules.length ≤ 1000001) (hri : ∀ i ∈ rules, i < r.ls.length) (hvb : ∀ v ∈ row, valB v) (w0 : World) (h0 : View) (hv : VLe h0 (Full w0)) (hr : RdyH h0 r a x)
    (hrow : SlC 57 3 (flatR valC) h0 (.slice b.1 row.length b.2) row) (hru : SlC 3 1 (flatR nC) h0 (.slice c.1 rules.length c.2) rules) :
    Calls Tryz.prog 32 #[.agg (rdyC r a x).toArray, .slice c.1 rules.length c.2, .slice b.1 row.length b.2] w0 (Ret w0 h0 fun u hh => ∃ z : AC, u = tlV (toldS r row rules) z ∧ LR 28 1 RwR hh z.1 z.2 (toldS r row rules).1) := by
  have hbl := hb.ls
  have hci := cols_len r.t.ins
  have hbi := hb.ins
  have eB : ∀ i, rules.find? (badT r row) = some i → toldS r row rules = ([], (i : Int), tellE r row i) := fun i h => by unfold toldS; rw [h]
  have eO : rules.find? (badT r row) = none → toldS r row rules = (rules.map (tellV r row), 0, 0) := fun h => by unfold toldS; rw [h]
  generalize toldS r row rules = q at eB eO ⊢
  refine entA (args := [.agg (rdyC r a x).toArray, .slice c.1 rules.length c.2, .slice b.1 row.length b.2]) TT_ok [6, 53] [] Tryz.func32 rfl Tryz.ntmps32 rfl rfl hv (fun z => LR.m (R := RwR) rwR_m z _) ?_
  intro b3
  refine And.intro rfl ?_
  refine goW TT_ok ?_
  refine nilC 900 28 1 ?_
  refine w_loopF TT_ok (fun z : LpG RwQ => [(19, .v (.int .i64 z.k)), (9, .v (.slice z.a z.n z.c))]) (fun z => [(900, .e (bufE 28 1 (.slice z.a z.n z.c) (z.es.map rwC).flatten)), (3, .c b3 34 (rdyC r a x))])
    (fun z v => RwF z.es v) ⟨none, 0, 0, [], 0⟩ (fun z => z.k ≤ rules.length ∧ z.n = z.es.length ∧ z.es.map (·.1) = (rules.take z.k).map (tellV r row) ∧ ∀ j, j < z.k → badT r row (rules.getD j 0) = false) (fun z => rules.length - z.k) (fun z => rwf_m z.es) ?_
  refine And.intro ⟨⟨Nat.zero_le _, rfl, rfl, fun j hj => absurd hj (Nat.not_lt_zero j)⟩, gs (fv := fun v _ q hq => absurd hq List.not_mem_nil)⟩ ?_
  rintro ⟨a1, n1, c1, es, k⟩ ⟨hk, hn1, hes, hz⟩
  dsimp only at hk hn1 hes hz ⊢
  refine cnd (fun h1 => ?_) (fun h1 => ?_)
  · have hkl : k < rules.length := by omega
    have hel := es_len hes hk
    have htm := fun g => take_map (f := tellV r row) (γ := AC) (g := g) 0 hes hkl
    have hts := told_some hz hkl
    have hil := hri _ (getD_mem rules k 0 hkl)
    refine ixs hru k 0 ?_
    have hkk : badT r row (rules.getD k 0) = false → ∀ j, j < k + 1 → badT r row (rules.getD j 0) = false := fun h => upto_snoc hz h
    generalize rules.getD k 0 = i at htm hts hil hkk ⊢
    have hg := getD_line hb hil
    have hE : tellE r row i = firstE (fun k => (evalS (colsO r.t.ins) row ((r.ls.getD i lin0).os.getD k ex0)).2) (r.ls.getD i lin0).os.length := rfl
    have hV : tellV r row i = (r.ls.getD i lin0).os.map fun x => (evalS (colsO r.t.ins) row x).1 := rfl
    have hB : badT r row i = decide (tellE r row i ≠ 0) := rfl
    refine ixL (R := LinR) hr.l i lin0 (fun cs hcs => ?_)
    generalize r.ls.getD i lin0 = ln at hg hE hV hcs
    obtain ⟨la, lb, rfl, hlin⟩ := hcs
    have hos := hg.2.1
    refine nilC 901 57 3 ?_
    refine w_loopF TT_ok (fun z : (Option Addr × Nat × Nat) × Nat => [(30, .v (.int .i64 z.2)), (12, .v (.slice z.1.1 z.1.2.1 z.1.2.2))]) (fun z => [(901, .e (bufE 57 3 (.slice z.1.1 z.1.2.1 z.1.2.2) (((ln.os.take z.2).map fun x => (evalS (colsO r.t.ins) row x).1).map valC).flatten)), (26, .k none (adB x.1) (adO x.1 + i * 2) (liC ln la lb)), (21, .k none (adB c.1) (adO c.1 + k * 1) (nC i)), (900, .e (bufE 28 1 (.slice a1 n1 c1) (es.map rwC).flatten)), (3, .c b3 34 (rdyC r a x))])
      (fun z v => RwF es v) ((none, 0, 0), 0) (fun z => z.2 ≤ ln.os.length ∧ z.1.2.1 = z.2 ∧ ∀ j, j < z.2 → (evalS (colsO r.t.ins) row (ln.os.getD j ex0)).2 = 0) (fun z => ln.os.length - z.2) (fun z => rwf_m es) ?_
    refine And.intro ⟨⟨Nat.zero_le _, rfl, fun j hj => absurd hj (Nat.not_lt_zero j)⟩, gs⟩ ?_
    rintro ⟨⟨a2, n2, c2⟩, m⟩ ⟨hm, hn2, hy⟩
    dsimp only at hm hn2 hy ⊢
    refine cnd (fun h2 => ?_) (fun h2 => ?_)
    · have hml : m < ln.os.length := by omega
      have hgx := hg.2.2.2 _ (getD_mem ln.os m ex0 hml)
      have her := fir_er (f := fun k => (evalS (colsO r.t.ins) row (ln.os.getD k ex0)).2) hy
      have htk := take_snocD ln.os m ex0 hml
      have hyy : (evalS (colsO r.t.ins) row (ln.os.getD m ex0)).2 = 0 → ∀ j, j < m + 1 → (evalS (colsO r.t.ins) row (ln.os.getD j ex0)).2 = 0 := fun h => upto_snoc hy h
      refine ixE hlin.2 m (fun a4 c4 g1 g2 g3 => ?_)
      generalize ln.os.getD m ex0 = xe at hgx her htk hyy g1 g2 g3 ⊢
      intro b14
      obtain ⟨p, hp⟩ : ∃ p, evalS (colsO r.t.ins) row xe = p := ⟨_, rfl⟩
      refine cb (fun w hw => c_EvalK (p := p) xe a4 c4 a.i.1 a.i.2 (colsO r.t.ins) b.1 b.2 row hp (by omega) hvb w h0 hw ⟨g1, g2, g3, hgx.2⟩ hr.t.i.1 hrow) ?_
      rw [hp] at her hyy
      intro b15
      refine cnd (fun h3 => ?_) (fun h3 => ?_)
      · have h3 : p.2 ≠ 0 := h3
        have he := her h3 hml
        rw [← hE] at he
        have hq := eB i (hts (by rw [hB, he]; exact decide_eq_true h3))
        rw [he] at hq
        refine And.intro rfl ?_
        refine goW TT_ok ?_
        rw [hq]
        exact ⟨(none, 0), rfl, fun v _ _ => LR.nil v⟩
      have h3 : p.2 = 0 := by simpa using h3
      have hfl : ((ln.os.take (m + 1)).map fun x => (evalS (colsO r.t.ins) row x).1) = ((ln.os.take m).map fun x => (evalS (colsO r.t.ins) row x).1) ++ [p.1] := by rw [htk, List.map_append]; show _ ++ [(evalS (colsO r.t.ins) row xe).1] = _; rw [hp]
      have hml2 : ((ln.os.take m).map fun x => (evalS (colsO r.t.ins) row x).1).length = m := by rw [List.length_map, List.length_take]; omega
      intro b49
      refine ap TT_ok 901 (AppT.of (bytes := 32) (sz := 2) (by kernel_rfl) (by kernel_rfl) (by kernel_rfl)) rfl rfl rfl rfl rfl rfl rfl (by rw [row_flat (sz := 3) (fun _ => rfl), hml2]; show (_ + 3) * 33 ≤ _; omega) (fun a3 n3 c3 e3 => ?_)
      have hn3 : n3 = m + 1 := by
        rw [row_flat (sz := 3) (fun _ => rfl), hml2] at e3
        have e3 : n3 * 3 = m * 3 + 3 := e3
        omega
      refine wi ?_
      exact ⟨((a3, n3, c3), m + 1), ⟨⟨hml, hn3, hyy h3⟩, by show ln.os.length - (m + 1) < ln.os.length - m; omega⟩, gs rfl (by rw [hfl, List.map_append, List.flatten_append]; rfl)⟩
    · obtain rfl : m = ln.os.length := by omega
      have h0E : tellE r row i = 0 := by rw [hE]; exact fir_ok hy
      have hbf : badT r row i = false := by rw [hB, h0E]; rfl
      rw [List.take_length, ← hV]
      obtain rfl : n2 = (tellV r row i).length := by rw [hn2, hV, List.length_map]
      refine And.intro rfl ?_
      refine sealW (g := valC) (l := tellV r row i) 901 rfl rfl ?_
      refine goW TT_ok ?_
      intro b54
      refine ap TT_ok 900 (AppT.of (bytes := 24) (sz := 0) (by kernel_rfl) (by kernel_rfl) (by kernel_rfl)) rfl rfl rfl rfl rfl rfl rfl (by rw [row_flat (sz := 1) (fun _ => rfl)]; show (_ + 1) * 25 ≤ _; omega) (fun a3 n3 c3 e3 => ?_)
      have hn3 : n3 = (es ++ [(tellV r row i, a2, c2)]).length := by
        rw [row_flat (sz := 1) (fun _ => rfl)] at e3
        have e3 : n3 * 1 = es.length * 1 + 1 := e3
        rw [List.length_append]; show n3 = es.length + 1; omega
      have efl : ((es ++ [(tellV r row i, a2, c2)]).map rwC).flatten = (es.map rwC).flatten ++ [.slice a2 (tellV r row i).length c2] := by rw [List.map_append, List.flatten_append]; rfl
      refine wi ?_
      exact ⟨⟨a3, n3, c3, es ++ [(tellV r row i, a2, c2)], k + 1⟩, ⟨⟨hkl, hn3, htm (a2, c2), hkk hbf⟩, by show rules.length - (k + 1) < rules.length - k; omega⟩, gs rfl (by rw [efl]; rfl) (fun v hF => rwf_snoc hF.1 hF.2)⟩
  · obtain rfl : k = rules.length := by omega
    rw [List.take_length] at hes
    refine And.intro rfl ?_
    rw [← row_map rwC rw0 es]
    refine sealW (g := fun i => rwC (es.getD i rw0)) (l := List.range es.length) 900 rfl (by simp [hn1]) ?_
    refine goW TT_ok ?_
    rw [eO (told_none hz), ← hes]
    refine ⟨(a1, c1), ?_, fun v _ hF => ?_⟩
    · rw [tlV]; show _ = Value.tuple #[.slice a1 (es.map (·.1)).length c1, _, _]
      rw [List.length_map, ← hn1]; rfl
    · exact LR.of_row (R := RwR) (g := fun q : RwQ => q.1) hF.2 hn1 (fun q hq => ⟨q.2, rfl, hF.1 q hq⟩)
end Go.Proofs.YtkkbnjomcgnkpaaGreat
set_option maxRecDepth 100000
namespace Go.Proofs.YtkkbnjomcgnkpaaGreat
open Go Go.Dx Go.RowKit
theorem sumS_cons (n : Int) (v : Int) (l : List Int) : sumS n (v :: l) = if (ovr (n + v)).2 ≠ 0 then (0, (ovr (n + v)).2) else sumS (n + v) l := rfl
theorem ovr_ok {n : Int} (h : (ovr n).2 = 0) : (ovr n).1 = n ∧ i64 n := by
  unfold ovr at h ⊢
  split at h
  · rename_i hh; rw [if_pos hh]; exact ⟨rfl, hh⟩
  · exact absurd h (by decide)
theorem drop_getD {α : Type} (l : List α) (k : Nat) (d : α) (h : k < l.length) : l.drop k = l.getD k d :: l.drop (k + 1) := by
  rw [List.drop_eq_getElem_cons h]; simp [List.getD, h]
set_option maxHeartbeats 2000000 in
theorem c_hsum (l : List Val) (b : AC) (hvb : ∀ v ∈ l, valB v) (w0 : World) (h0 : View) (hv : VLe h0 (Full w0)) (hs : SlC 57 3 (flatR valC) h0 (.slice b.1 l.length b.2) l) :
    Calls Tryz.prog 123 #[.slice b.1 l.length b.2] w0 (Ret w0 h0 fun u _ => u = evR (sumV l)) := by
  have hlm := slc_lm hs
  have e1 : l = [] → sumV l = (v0, 0) := fun h => if_pos h
  have e2 : l ≠ [] → (sumS 0 (l.map (·.n))).2 ≠ 0 → sumV l = (v0, (sumS 0 (l.map (·.n))).2) := fun h h2 => by rw [sumV, if_neg h, if_pos h2]
  have e3 : l ≠ [] → (sumS 0 (l.map (·.n))).2 = 0 → sumV l = (⟨1, (sumS 0 (l.map (·.n))).1, []⟩, 0) := fun h h2 => by rw [sumV, if_neg h, if_neg (fun hh => hh h2)]
  generalize sumV l = q at e1 e2 e3 ⊢
  refine ent (args := [.slice b.1 l.length b.2]) TT_ok [] [] Tryz.func123 rfl Tryz.ntmps123 rfl rfl hv ?_
  intro b2
  refine cnd (fun h => ?_) (fun h => ?_)
  · rw [e1 (List.eq_nil_of_length_eq_zero (by omega))]; exact rfl
  have hne : l ≠ [] := fun hh => by rw [hh] at h; exact h rfl
  refine w_loopB TT_ok (fun z : Int × Nat => [(14, .v (.int .i64 z.2)), (4, .v (.int .i64 z.1))]) (fun z => [(2, .c b2 57 (valC v0))]) (0, 0) (fun z => z.2 ≤ l.length ∧ i64 z.1 ∧ sumS z.1 ((l.drop z.2).map (·.n)) = sumS 0 (l.map (·.n))) (fun z => l.length - z.2) ?_
  refine And.intro ⟨⟨Nat.zero_le _, by unfold i64; dsimp only; omega, rfl⟩, gs⟩ ?_
  rintro ⟨n, k⟩ ⟨hk, hn, hS⟩
  dsimp only at hk hn hS ⊢
  refine cnd (fun h1 => ?_) (fun h1 => ?_)
  · have hkl : k < l.length := by omega
    have hvk := hvb _ (getD_mem l k v0 hkl)
    rw [drop_getD l k v0 hkl, List.map_cons, sumS_cons] at hS
    refine ixs hs k v0 ?_
    generalize l.getD k v0 = v at hvk hS ⊢
    intro b6
    refine cb (fun w hw => c_EAdd n v.n hn hvk.2 w h0 hw) ?_
    refine cnd (fun h2 => ?_) (fun h2 => ?_)
    · have h2 : (ovr (n + v.n)).2 ≠ 0 := h2
      rw [if_pos h2] at hS
      rw [e2 hne (by rw [← hS]; exact h2), ← hS]; exact rfl
    have h2 : (ovr (n + v.n)).2 = 0 := by simpa using h2
    rw [if_neg (fun hh => hh h2)] at hS
    obtain ⟨o1, o2⟩ := ovr_ok h2
    rw [o1]
    refine wi ?_
    exact ⟨(n + v.n, k + 1), ⟨⟨hkl, o2, hS⟩, by show l.length - (k + 1) < l.length - k; omega⟩, gs⟩
  · have hkl : l.drop k = [] := List.drop_eq_nil_of_le (by omega)
    rw [hkl] at hS
    have hS : (n, (0 : Int)) = sumS 0 (l.map (·.n)) := hS
    rw [e3 hne (by rw [← hS]), ← hS]; exact rfl
theorem kept_snoc (rows : List (List Val)) (k : Nat) (h : k < rows.length) : keptV (rows.take (k + 1)) = if ((rows.getD k []).getD 0 v0).k ≠ 0 then keptV (rows.take k) ++ [(rows.getD k []).getD 0 v0] else keptV (rows.take k) := by
  unfold keptV
  rw [take_snocD rows k [] h, List.map_append, List.filter_append]
  show _ ++ List.filter _ [(rows.getD k []).getD 0 v0] = _
  by_cases hh : ((rows.getD k []).getD 0 v0).k ≠ 0
  · rw [if_pos hh, List.filter_cons_of_pos (by exact decide_eq_true hh)]; rfl
  · rw [if_neg hh, List.filter_cons_of_neg (by simpa using hh)]; simp
theorem kept_le (rows : List (List Val)) (k : Nat) : (keptV (rows.take k)).length ≤ k := by
  unfold keptV
  refine Nat.le_trans (List.length_filter_le ..) ?_
  rw [List.length_map, List.length_take]; omega
theorem kept_vb {rows : List (List Val)} (h : ∀ r ∈ rows, ∀ v ∈ r, valB v) : ∀ v ∈ keptV rows, valB v := by
  intro v hv
  obtain ⟨r, hr, e⟩ := List.mem_map.1 (List.mem_filter.1 hv).1
  rw [← e]
  cases r with
  | nil => exact vb0
  | cons x l => exact h _ hr x (by simp)
set_option maxHeartbeats 2000000 in
theorem c_hmade1 (rows : List (List Val)) (b : AC) (hrl : rows.length ≤ 1000001) (hvb : ∀ r ∈ rows, ∀ v ∈ r, valB v) (hr1 : ∀ r ∈ rows, 1 ≤ r.length) (w0 : World) (h0 : View) (hv : VLe h0 (Full w0)) (hs : LR 28 1 RwR h0 b.1 b.2 rows) :
    Calls Tryz.prog 89 #[.int .i64 1, .slice b.1 rows.length b.2] w0 (Ret w0 h0 fun u _ => u = evR (sumV (keptV rows))) := by
  refine ent (args := [.int .i64 1, .slice b.1 rows.length b.2]) TT_ok [36] [] Tryz.func89 rfl Tryz.ntmps89 rfl rfl hv ?_
  intro b4
  refine nilC 900 57 3 ?_
  refine w_loopB TT_ok (fun z : (Option Addr × Nat × Nat) × Nat => [(11, .v (.int .i64 z.2)), (6, .v (.slice z.1.1 z.1.2.1 z.1.2.2))]) (fun z => [(900, .e (bufE 57 3 (.slice z.1.1 z.1.2.1 z.1.2.2) ((keptV (rows.take z.2)).map valC).flatten)), (4, .c b4 57 (valC v0))]) ((none, 0, 0), 0) (fun z => z.2 ≤ rows.length ∧ z.1.2.1 = (keptV (rows.take z.2)).length) (fun z => rows.length - z.2) ?_
  refine And.intro ⟨⟨Nat.zero_le _, rfl⟩, gs⟩ ?_
  rintro ⟨⟨a1, n1, c1⟩, k⟩ ⟨hk, hn1⟩
  dsimp only at hk hn1 ⊢
  refine cnd (fun h1 => ?_) (fun h1 => ?_)
  · have hkl : k < rows.length := by omega
    have hks := kept_snoc rows k hkl
    have hkb := kept_le rows k
    have hr := hr1 _ (getD_mem rows k [] hkl)
    refine ixL (R := RwR) hs k [] (fun cs hcs => ?_)
    generalize rows.getD k [] = r at hks hr hcs ⊢
    obtain ⟨y, rfl, hy⟩ := hcs
    refine ixs hy 0 v0 ?_ (by omega)
    refine cnd (fun h2 => ?_) (fun h2 => ?_)
    · have h2 : (r.getD 0 v0).k ≠ 0 := h2
      rw [if_pos h2] at hks
      refine ixs hy 0 v0 ?_ (by omega)
      intro b24
      refine ap TT_ok 900 (AppT.of (bytes := 32) (sz := 2) (by kernel_rfl) (by kernel_rfl) (by kernel_rfl)) rfl rfl rfl rfl rfl rfl rfl (by rw [row_flat (sz := 3) (fun _ => rfl)]; show (_ + 3) * 33 ≤ _; omega) (fun a3 n3 c3 e3 => ?_)
      have hn3 : n3 = (keptV (rows.take (k + 1))).length := by
        rw [row_flat (sz := 3) (fun _ => rfl)] at e3
        have e3 : n3 * 3 = (keptV (rows.take k)).length * 3 + 3 := e3
        rw [hks, List.length_append]; show n3 = _ + 1; omega
      refine wi ?_
      exact ⟨((a3, n3, c3), k + 1), ⟨⟨hkl, hn3⟩, by show rows.length - (k + 1) < rows.length - k; omega⟩, gs rfl (by rw [hks, List.map_append, List.flatten_append]; rfl)⟩
    · have h2 : (r.getD 0 v0).k = 0 := by simpa using h2
      rw [if_neg (fun hh => hh h2)] at hks
      refine wi ?_
      exact ⟨((a1, n1, c1), k + 1), ⟨⟨hkl, by rw [hks]; exact hn1⟩, by show rows.length - (k + 1) < rows.length - k; omega⟩, gs rfl (by rw [hks]; rfl)⟩
  · obtain rfl : k = rows.length := by omega
    rw [List.take_length] at hn1 ⊢
    subst hn1
    refine cnd (fun h2 => absurd h2 (by decide)) (fun _ => ?_)
    refine cnd (fun _ => ?_) (fun h2 => absurd rfl h2)
    refine And.intro rfl ?_
    refine sealW (g := valC) (l := keptV rows) 900 rfl rfl ?_
    refine goW TT_ok ?_
    refine cf (fun w v h1 h2 h3 => c_hsum (keptV rows) (a1, c1) (kept_vb hvb) w v h3 h2.2) ?_
    exact rfl
end Go.Proofs.YtkkbnjomcgnkpaaGreat
set_option maxRecDepth 100000
namespace Go.Proofs.YtkkbnjomcgnkpaaGreat
open Go Go.Dx Go.RowKit
theorem lr_one {α β : Type} {T sz cap : Nat} {R : View → List Value → α → Prop} {f : β → List Value} {q : β} {x : α} {h : View} {a : Option Addr} (hs : SlC T sz (flatR f) h (.slice a 1 cap) [q]) (hR : R h (f q) x) : LR T sz R h a cap [x] :=
  LR.one (cs := f q) (SlC.reidx hs rfl (fun i x y hi hj => by
    have : i = 0 := by have := (List.getElem?_eq_some_iff.1 hi).1; simpa using this
    subst this; cases hi; cases hj; rfl)) hR
theorem ints_len (l : List Nat) : (ints l).length = l.length := List.length_map ..
theorem nslL {h : View} {a : Option Addr} {cp : Nat} {l : List Nat} (hs : SlC 3 1 (flatR nC) h (.slice a l.length cp) l) : SlC 3 1 (flatR iC) h (.slice a (ints l).length cp) (ints l) := by
  have := nsl hs
  rwa [← ints_len l] at this
theorem ouC_ints (e : Int) (l : List Nat) (rows : List (List Val)) (a b : AC) : ouC ⟨e, ints l, rows⟩ a b = [.int .i64 e, .slice a.1 l.length a.2, .slice b.1 rows.length b.2] := by
  show [_, Value.slice a.1 (ints l).length a.2, _] = _
  rw [ints_len]
def ouV (o : Outc) (z : AC × AC) : Value := .agg (ouC o z.1 z.2).toArray
set_option maxHeartbeats 2000000 in
theorem c_hcollect1 (ag : Int) (hag : ag = 1) (rules : List Nat) (rows : List (List Val)) (ar aw : AC) (hrl : rows.length ≤ 1000001) (hvb : ∀ r ∈ rows, ∀ v ∈ r, valB v) (hr1 : ∀ r ∈ rows, 1 ≤ r.length) (w0 : World) (h0 : View) (hv : VLe h0 (Full w0))
    (hru : SlC 3 1 (flatR nC) h0 (.slice ar.1 rules.length ar.2) rules) (hrw : LR 28 1 RwR h0 aw.1 aw.2 rows) :
    Calls Tryz.prog 57 #[.int .i64 ag, .slice ar.1 rules.length ar.2, .slice aw.1 rows.length aw.2] w0 (Ret w0 h0 fun u hh => ∃ z : AC × AC, u = ouV (sumO rules rows) z ∧ OutH hh (sumO rules rows) z.1 z.2) := by
  subst hag
  have e1 : (sumV (keptV rows)).2 ≠ 0 → sumO rules rows = ⟨(sumV (keptV rows)).2, ints rules, []⟩ := fun h => if_pos h
  have e2 : (sumV (keptV rows)).2 = 0 → sumO rules rows = ⟨0, ints rules, [[(sumV (keptV rows)).1]]⟩ := fun h => if_neg (fun hh => hh h)
  generalize sumO rules rows = o at e1 e2 ⊢
  refine entA (args := [.int .i64 1, .slice ar.1 rules.length ar.2, .slice aw.1 rows.length aw.2]) TT_ok [30, 31] [] Tryz.func57 rfl Tryz.ntmps57 rfl rfl hv (fun z => out_m _ _ _) ?_
  intro b6
  refine cnd (fun h2 => absurd h2 (by decide)) (fun _ => ?_)
  refine cb (fun w hw => c_hmade1 rows aw hrl hvb hr1 w h0 hw hrw) ?_
  generalize sumV (keptV rows) = p at e1 e2 ⊢
  intro b7
  refine cnd (fun h => ?_) (fun h => ?_)
  · have h : p.2 ≠ 0 := h
    rw [e1 h]
    exact ⟨(ar, none, 0), by rw [ouV, ouC_ints]; rfl, fun v hle _ => ⟨nslL (hru.monoF hle), LR.nil v⟩⟩
  have h : p.2 = 0 := by simpa using h
  rw [e2 h]
  intro b29
  refine And.intro rfl ?_
  refine shutW 29 (row_sl (g := valC) (l := [p.1]) (sz := 3) (n := 1) (cp := 1) rfl) ?_ Mono.slF
  refine goW TT_ok ?_
  intro b30
  refine And.intro rfl ?_
  refine shutW 30 (row_sl (g := rwC) (l := [(([p.1], some ⟨b29, 0, none⟩, 1) : RwQ)]) (sz := 1) (n := 1) (cp := 1) rfl) ?_ Mono.slF
  refine goW TT_ok ?_
  exact ⟨(ar, some ⟨b30, 0, none⟩, 1), by rw [ouV, ouC_ints]; rfl, fun v hle hF => ⟨nslL (hru.monoF hle), lr_one hF.2 ⟨(some ⟨b29, 0, none⟩, 1), rfl, hF.1.2⟩⟩⟩
def PolE (t : Tab) : Prop := t.pol = 1 ∨ t.pol = 2 ∨ t.pol = 6 ∨ (t.pol = 5 ∧ t.agg = 1)
set_option maxHeartbeats 4000000 in
theorem c_choose1 (t : Tab) (a : TA) (ar aw : AC) (rules : List Nat) (rows : List (List Val)) (hpol : PolE t) (hlen : rules.length = rows.length) (hrl : rows.length ≤ 1000001) (hr1 : t.pol = 5 → ∀ r ∈ rows, 1 ≤ r.length) (hvb : ∀ r ∈ rows, ∀ v ∈ r, valB v) (w0 : World) (h0 : View) (hv : VLe h0 (Full w0))
    (hru : SlC 3 1 (flatR nC) h0 (.slice ar.1 rules.length ar.2) rules) (hrw : LR 28 1 RwR h0 aw.1 aw.2 rows) :
    Calls Tryz.prog 33 #[.agg (tabC t a).toArray, .slice ar.1 rules.length ar.2, .slice aw.1 rows.length aw.2] w0 (Ret w0 h0 fun u hh => ∃ z : AC × AC, u = ouV (chooseS t rules rows) z ∧ OutH hh (chooseS t rules rows) z.1 z.2) := by
  have e5 : t.pol = 5 → chooseS t rules rows = sumO rules rows := fun h => if_pos h
  have e6 : t.pol = 6 → chooseS t rules rows = ⟨0, ints rules, rows⟩ := fun h => by rw [chooseS, if_neg (by omega), if_pos h]
  have e1 : t.pol ≠ 5 → t.pol ≠ 6 → chooseS t rules rows = oneO rules rows 0 := fun h h' => by rw [chooseS, if_neg h, if_neg h']
  have hcr : rules.length ≤ ar.2 := by
    obtain ⟨_, _, e, hh, _⟩ := hru.parts
    cases e; exact hh
  have hcw : rows.length ≤ aw.2 := by
    obtain ⟨_, hs, _⟩ := hrw
    obtain ⟨_, _, e, hh, _⟩ := hs.parts
    rw [List.length_range] at e hh
    cases e; exact hh
  have hmw : ∀ v, VLe h0 v → LR 28 1 RwR v aw.1 aw.2 rows := fun v hle => LR.mono (R := RwR) rwR_m hle hrw
  generalize chooseS t rules rows = o at e5 e6 e1 ⊢
  refine entA (args := [.agg (tabC t a).toArray, .slice ar.1 rules.length ar.2, .slice aw.1 rows.length aw.2]) TT_ok [1000015] [] Tryz.func33 rfl Tryz.ntmps33 rfl rfl hv (fun z => out_m _ _ _) ?_
  intro b3 b6
  refine cnd (fun h => ?_) (fun h => ?_)
  · have h : t.pol = 5 := h
    have ha : t.agg = 1 := by rcases hpol with h1 | h1 | h1 | h1 <;> omega
    rw [e5 h]
    refine cA TT_ok (fun w v h1 h2 h3 => c_hcollect1 t.agg ha rules rows ar aw hrl hvb (hr1 h) w v h3 (hru.monoF h1) (hmw v h1)) (fun z => out_m _ _ _) (fun z => ?_)
    exact ⟨z, rfl, fun v _ hF => hF.2⟩
  have h5 : t.pol ≠ 5 := h
  refine cnd (fun h => ?_) (fun h => ?_)
  · exfalso
    have h : t.pol = 4 := h
    rcases hpol with h1 | h1 | h1 | h1 <;> omega
  refine cnd (fun h => ?_) (fun h => ?_)
  · have h : t.pol = 6 := h
    rw [e6 h]
    exact ⟨(ar, aw), by rw [ouV, ouC_ints]; rfl, fun v hle _ => ⟨nslL (hru.monoF hle), hmw v hle⟩⟩
  have h6 : t.pol ≠ 6 := h
  rw [e1 h5 h6]
  refine cnd (fun h => ?_) (fun h => ?_)
  · exfalso
    have h : t.pol = 3 := h
    rcases hpol with h1 | h1 | h1 | h1 <;> omega
  refine cnd (fun h => ?_) (fun h => ?_)
  · rw [oneO, if_pos (List.eq_nil_of_length_eq_zero (by omega))]
    exact ⟨((none, 0), (none, 0)), rfl, fun v _ _ => ⟨SlC.nil (by simp [maxLen]), LR.nil v⟩⟩
  have hne : 0 < rules.length := by omega
  have hone : oneO rules rows 0 = ⟨0, ints ((rules.drop 0).take 1), (rows.drop 0).take 1⟩ := if_neg (fun hh => by rw [hh] at hne; exact absurd hne (by decide))
  have hl1 : ((rules.drop 0).take 1).length = 1 := by rw [List.length_take, List.length_drop]; omega
  have hl2 : ((rows.drop 0).take 1).length = 1 := by rw [List.length_take, List.length_drop]; omega
  rw [hone]
  refine regPh TT_ok [([0, 1, 2, 5, 6, 7, 3, 8, 4, 9, 10], [11])] [6] ?_
  refine wi ?_
  refine wi ?_
  refine sl2 0 1 ?_
  refine sl2 0 1 ?_
  refine kq ?_
  refine kq ?_
  have h1 : ∀ v, VLe h0 v → SlC 3 1 (flatR nC) v (.slice (if ar.2 = 0 then ar.1 else ar.1.map (·.add (0 * 1))) ((rules.drop 0).take 1).length (ar.2 - 0)) ((rules.drop 0).take 1) := fun v hle => by
    rw [hl1]; exact ((hru.monoF hle).drop (k := 0) (by omega)).take (k := 1) (by rw [List.length_drop]; omega)
  refine ⟨((if ar.2 = 0 then ar.1 else ar.1.map (·.add (0 * 1)), ar.2 - 0), (if aw.2 = 0 then aw.1 else aw.1.map (·.add (0 * 1)), aw.2 - 0)), ?_, fun v hle _ => ⟨nslL (h1 v hle), LR.take (n := 0) (k := 1) ((hmw v hle).drop (k := 0) (by omega)) (by rw [List.length_drop]; omega)⟩⟩
  rw [ouV, ouC_ints, hl1, hl2]; rfl
end Go.Proofs.YtkkbnjomcgnkpaaGreat
set_option maxRecDepth 100000
namespace Go.Proofs.YtkkbnjomcgnkpaaGreat
open Go Go.Dx Go.RowKit
theorem told_cases (ch : List Nat → List (List Val) → Outc) (r : Rdy) (row : List Val) (rules : List Nat) :
    (∃ i, rules.find? (badT r row) = some i ∧ toldS r row rules = ([], (i : Int), tellE r row i) ∧ tellE r row i ≠ 0 ∧ tolds r row rules ch = ⟨tellE r row i, [(i : Int)], []⟩) ∨
    (rules.find? (badT r row) = none ∧ toldS r row rules = (rules.map (tellV r row), 0, 0) ∧ tolds r row rules ch = ch rules (rules.map (tellV r row))) := by
  unfold toldS tolds
  cases h : rules.find? (badT r row) with
  | none => exact .inr ⟨rfl, rfl, rfl⟩
  | some i =>
    refine .inl ⟨i, rfl, rfl, ?_, rfl⟩
    have := List.find?_some h
    exact of_decide_eq_true this
theorem evS_ok {h : View} {l : List Col} {row : List Val} (hrow : ∀ w ∈ row, okV w) {x : Ex} {cs : List Value} (hx : RX h cs x) : okV (evalS l row x).1 := by
  have z : okV v0 := ⟨by decide, vb0⟩
  by_cases hc : rightS x = true ∧ l.length = row.length ∧ row.all valOk = true
  · have he : evalS l row x = match evX l row (SizeOf.sizeOf x + 1) x with
      | .ok v => (v, 0)
      | .error e => (v0, e) := if_pos hc
    rw [he]
    cases hv : evX l row (SizeOf.sizeOf x + 1) x with
    | ok v => exact evX_good hrow _ x cs v hx hc.1 hv
    | error e => exact z
  · rw [evalS_not hc]; exact z
theorem inp_ok {r : Rdy} {row : List Val} (h : inputE r row = 0) : row.length = r.t.ins.length ∧ ∀ i, i < row.length → inG r row i := by
  unfold inputE at h
  split at h
  · assumption
  · exact absurd h (by decide)
theorem in_okV {r : Rdy} {row : List Val} (h : inputE r row = 0) (hvb : ∀ v ∈ row, valB v) : ∀ w ∈ row, okV w := fun w hw => by
  obtain ⟨i, hi, rfl⟩ := List.mem_iff_getElem.1 hw
  have := ((inp_ok h).2 i hi).1
  rw [show row.getD i v0 = row[i] by simp [List.getD, hi]] at this
  exact ⟨this, hvb _ hw⟩
theorem tell_okV {h : View} {r : Rdy} {a : TA} {x : AC} {row : List Val} (hr : RdyH h r a x) (hin : inputE r row = 0) (hvb : ∀ v ∈ row, valB v) {i : Nat} (hi : i < r.ls.length) : ∀ v ∈ tellV r row i, okV v := by
  intro v hv
  obtain ⟨y, hy, rfl⟩ := List.mem_map.1 hv
  obtain ⟨cs, a1, b1, _, h2⟩ := hr.l.all _ (getD_mem r.ls i lin0 hi)
  obtain ⟨j, hj⟩ := List.mem_iff_getElem?.1 hy
  obtain ⟨c, _, h3⟩ := h2.2
  exact evS_ok (in_okV hin hvb) (h3 j y hj)
theorem ru_in {r : Rdy} {row : List Val} (h : (rulesR r row).2.2 = 0) : inputE r row = 0 := by
  unfold rulesR at h
  split at h
  · rename_i hh; exact absurd h hh
  · rename_i hh; simpa using hh
theorem ru_lt {r : Rdy} {row : List Val} : (rulesR r row).1.length ≤ r.ls.length + 1 ∧ ∀ i ∈ (rulesR r row).1, i < r.ls.length := by
  unfold rulesR
  split
  · exact ⟨by simp, fun i hi => by cases hi⟩
  · exact ⟨rules_len, rules_lt⟩
set_option maxHeartbeats 4000000 in
theorem c_HDecide (ch : List Nat → List (List Val) → Outc) (r : Rdy) (a : TA) (x b : AC) (row : List Val) (hb : RdyB r) (hvb : ∀ v ∈ row, valB v) (w0 : World) (h0 : View) (hv : VLe h0 (Full w0)) (hr : RdyH h0 r a x) (hrow : SlC 57 3 (flatR valC) h0 (.slice b.1 row.length b.2) row)
    (hch : inputE r row = 0 → ∀ (rules : List Nat) (ar aw : AC) (n : Nat), rules = (rulesR r row).1 → n = (rules.map (tellV r row)).length → ∀ (w : World) (h : View), VLe h (Full w) → VLe h0 h → SlC 3 1 (flatR nC) h (.slice ar.1 rules.length ar.2) rules → LR 28 1 RwR h aw.1 aw.2 (rules.map (tellV r row)) →
      Calls Tryz.prog 33 #[.agg (tabC r.t a).toArray, .slice ar.1 rules.length ar.2, .slice aw.1 n aw.2] w (Ret w h fun u hh => ∃ z : AC × AC, u = ouV (ch rules (rules.map (tellV r row))) z ∧ OutH hh (ch rules (rules.map (tellV r row))) z.1 z.2)) :
    Calls Tryz.prog 12 #[.agg (rdyC r a x).toArray, .slice b.1 row.length b.2] w0 (Ret w0 h0 fun u hh => ∃ z : AC × AC, u = .tuple #[ouV (decS ch r row).1 z, .int .i64 (decS ch r row).2] ∧ OutH hh (decS ch r row).1 z.1 z.2) := by
  have hbl := hb.ls
  have hci := @ru_in r row
  obtain ⟨hlt1, hlt2⟩ := @ru_lt r row
  have e1 : (rulesR r row).2.2 = 21 → decS ch r row = (out0, 21) := fun h => if_pos h
  have e2 : (rulesR r row).2.2 ≠ 21 → (rulesR r row).2.2 ≠ 0 → decS ch r row = (⟨(rulesR r row).2.2, [((rulesR r row).2.1 : Int)], []⟩, 0) := fun h h2 => by rw [decS, if_neg h, if_pos h2]
  have e3 : (rulesR r row).2.2 = 0 → (r.t.pol = 1 ∧ 1 < (rulesR r row).1.length) → decS ch r row = (⟨19, ints (rulesR r row).1, []⟩, 0) := fun h h2 => by rw [decS, h, if_neg (by decide), if_neg (fun hh => hh rfl), if_pos h2]
  have e4 : (rulesR r row).2.2 = 0 → ¬ (r.t.pol = 1 ∧ 1 < (rulesR r row).1.length) → decS ch r row = (tolds r row (rulesR r row).1 ch, 0) := fun h h2 => by rw [decS, h, if_neg (by decide), if_neg (fun hh => hh rfl), if_neg h2]
  generalize decS ch r row = d at e1 e2 e3 e4 ⊢
  refine entA (args := [.agg (rdyC r a x).toArray, .slice b.1 row.length b.2]) TT_ok [28, 54] [] Tryz.func12 rfl Tryz.ntmps12 rfl rfl hv (fun z => out_m _ _ _) ?_
  intro b2 b4
  refine cA TT_ok (fun w v h1 h2 h3 => c_HRules r a x b row hb hvb w v h3 (rdy_m _ _ _ _ _ h1 hr) (hrow.monoF h1)) (fun _ => Mono.slF) (fun zr => ?_)
  generalize rulesR r row = q at hci hlt1 hlt2 e1 e2 e3 e4 hch ⊢
  obtain ⟨q, qa, qe⟩ := q
  dsimp only at hci hlt1 hlt2 e1 e2 e3 e4 hch
  refine cnd (fun h => ?_) (fun h => ?_)
  · have h : qe = 21 := h
    rw [e1 h, h]
    exact ⟨((none, 0), (none, 0)), rfl, fun v _ _ => ⟨SlC.nil (by simp [maxLen]), LR.nil v⟩⟩
  have h : qe ≠ 21 := h
  refine cnd (fun h2 => ?_) (fun h2 => ?_)
  · have h2 : qe ≠ 0 := h2
    rw [e2 h h2]
    intro b27
    refine And.intro rfl ?_
    refine shutW 27 (row_sl (g := iC) (l := [(qa : Int)]) (sz := 1) (n := 1) (cp := 1) rfl) ?_ Mono.slF
    refine goW TT_ok ?_
    exact ⟨((some ⟨b27, 0, none⟩, 1), (none, 0)), rfl, fun v _ hF => ⟨hF.2, LR.nil v⟩⟩
  have h2 : qe = 0 := by simpa using h2
  subst h2
  have hin := hci rfl
  refine cnd (fun h3 => ?_) (fun h3 => ?_)
  · rw [e3 rfl ⟨h3.1, by have h5 : (1 : Int) < (q.length : Int) := h3.2; omega⟩]
    exact ⟨(zr, (none, 0)), by rw [ouV, ouC_ints]; rfl, fun v _ hF => ⟨nslL hF.2, LR.nil v⟩⟩
  rw [e4 rfl (fun hh => by
    rcases h3 with h3 | h3
    · exact h3 hh.1
    · exact h3 (by show (1 : Int) < (q.length : Int); have := hh.2; omega))]
  refine cA TT_ok (fun w v h1 h2 h3 => c_told r a x b zr row q hb (by omega) hlt2 hvb w v h3 (rdy_m _ _ _ _ _ h1 hr) (hrow.monoF h1) h2.2) (fun z => LR.m (R := RwR) rwR_m z _) (fun zt => ?_)
  rcases told_cases ch r row q with ⟨i, f1, f2, f3, f4⟩ | ⟨f1, f2, f4⟩
  · rw [f2, f4]
    refine cnd (fun h4 => ?_) (fun h4 => absurd h4 (by simpa using f3))
    intro b53
    refine And.intro rfl ?_
    refine shutW 53 (row_sl (g := iC) (l := [(i : Int)]) (sz := 1) (n := 1) (cp := 1) rfl) ?_ Mono.slF
    refine goW TT_ok ?_
    exact ⟨((some ⟨b53, 0, none⟩, 1), (none, 0)), rfl, fun v _ hF => ⟨hF.2, LR.nil v⟩⟩
  · rw [f2, f4]
    refine cnd (fun h4 => absurd rfl h4) (fun _ => ?_)
    refine cA TT_ok (fun w v h1 h2 h3 => hch hin q zr zt _ rfl rfl w v h3 h1 h2.1.2 h2.2) (fun z => out_m _ _ _) (fun z => ?_)
    exact ⟨z, rfl, fun v _ hF => hF.2⟩
end Go.Proofs.YtkkbnjomcgnkpaaGreat
set_option maxRecDepth 100000
namespace Go.Proofs.YtkkbnjomcgnkpaaGreat
open Go Go.Dx Go.RowKit
theorem ext_getD {α : Type} {l m : List α} (d : α) (h : l.length = m.length) (he : ∀ j, j < l.length → l.getD j d = m.getD j d) : l = m := by
  refine List.ext_getElem h fun j h1 h2 => ?_
  have := he j h1
  simpa [List.getD, h1, h2] using this
theorem c_RSameRow12 (l m : List Val) (a b : AC) (w0 : World) (h0 : View) (hv : VLe h0 (Full w0)) (hl : SlC 57 3 (flatR valC) h0 (.slice a.1 l.length a.2) l) (hm : SlC 57 3 (flatR valC) h0 (.slice b.1 m.length b.2) m) :
    Calls Tryz.prog 43 #[.slice a.1 l.length a.2, .slice b.1 m.length b.2] w0 (Ret w0 h0 fun u _ => u = .bool (decide (l = m))) := by
  have hlm := slc_lm hl
  refine ent (args := [.slice a.1 l.length a.2, .slice b.1 m.length b.2]) TT_ok [] [] Tryz.func43 rfl Tryz.ntmps43 rfl rfl hv ?_
  refine cnd (fun h => ?_) (fun h => ?_)
  · rw [decide_eq_false (p := l = m) (fun hh => by subst hh; exact h rfl)]; exact rfl
  have hn : l.length = m.length := by omega
  refine w_loop TT_ok (fun k : Nat => [(5, .v (.int .i64 k))]) 0 (fun k => k ≤ l.length ∧ ∀ j, j < k → l.getD j v0 = m.getD j v0) (fun k => l.length - k) ?_
  refine And.intro ⟨⟨Nat.zero_le _, fun j hj => absurd hj (Nat.not_lt_zero j)⟩, gs⟩ ?_
  intro k ⟨hk, hd⟩
  refine cnd (fun h1 => ?_) (fun h1 => ?_)
  · refine And.intro (by kernel_rfl) ?_
    refine ixs hl k v0 ?_
    refine ixs hm k v0 ?_
    refine aq eqV (l.getD k v0) (m.getD k v0) ?_
    refine cnd (fun h2 => ?_) (fun h2 => ?_)
    · rw [decide_eq_false (p := l = m) (fun hh => by subst hh; exact h2 rfl)]; exact rfl
    · refine wi ?_
      exact ⟨k + 1, ⟨⟨by omega, upto_snoc hd h2⟩, by omega⟩, gs⟩
  · rw [decide_eq_true (p := l = m) (ext_getD v0 hn fun j hj => hd j (by omega))]; exact rfl
theorem c_RSameInts (l m : List Int) (a b : AC) (w0 : World) (h0 : View) (hv : VLe h0 (Full w0)) (hl : SlC 3 1 (flatR iC) h0 (.slice a.1 l.length a.2) l) (hm : SlC 3 1 (flatR iC) h0 (.slice b.1 m.length b.2) m) :
    Calls Tryz.prog 17 #[.slice a.1 l.length a.2, .slice b.1 m.length b.2] w0 (Ret w0 h0 fun u _ => u = .bool (decide (l = m))) := by
  have hlm := slc_lm hl
  refine ent (args := [.slice a.1 l.length a.2, .slice b.1 m.length b.2]) TT_ok [] [] Tryz.func17 rfl Tryz.ntmps17 rfl rfl hv ?_
  refine cnd (fun h => ?_) (fun h => ?_)
  · rw [decide_eq_false (p := l = m) (fun hh => by subst hh; exact h rfl)]; exact rfl
  have hn : l.length = m.length := by omega
  refine w_loop TT_ok (fun k : Nat => [(5, .v (.int .i64 k))]) 0 (fun k => k ≤ l.length ∧ ∀ j, j < k → l.getD j 0 = m.getD j 0) (fun k => l.length - k) ?_
  refine And.intro ⟨⟨Nat.zero_le _, fun j hj => absurd hj (Nat.not_lt_zero j)⟩, gs⟩ ?_
  intro k ⟨hk, hd⟩
  refine cnd (fun h1 => ?_) (fun h1 => ?_)
  · refine And.intro (by kernel_rfl) ?_
    refine ixs hl k 0 ?_
    refine ixs hm k 0 ?_
    refine cnd (fun h2 => ?_) (fun h2 => ?_)
    · have h2 : ¬ l.getD k 0 = m.getD k 0 := h2
      rw [decide_eq_false (p := l = m) (fun hh => by subst hh; exact h2 rfl)]; exact rfl
    · refine wi ?_
      exact ⟨k + 1, ⟨⟨by omega, upto_snoc hd h2⟩, by omega⟩, gs⟩
  · rw [decide_eq_true (p := l = m) (ext_getD 0 hn fun j hj => hd j (by omega))]; exact rfl
theorem c_RSameRows (l m : List (List Val)) (a b : AC) (w0 : World) (h0 : View) (hv : VLe h0 (Full w0)) (hl : LR 28 1 RwR h0 a.1 a.2 l) (hm : LR 28 1 RwR h0 b.1 b.2 m) :
    Calls Tryz.prog 24 #[.slice a.1 l.length a.2, .slice b.1 m.length b.2] w0 (Ret w0 h0 fun u _ => u = .bool (decide (l = m))) := by
  have hlm := hl.lm
  refine ent (args := [.slice a.1 l.length a.2, .slice b.1 m.length b.2]) TT_ok [] [] Tryz.func24 rfl Tryz.ntmps24 rfl rfl hv ?_
  refine cnd (fun h => ?_) (fun h => ?_)
  · rw [decide_eq_false (p := l = m) (fun hh => by subst hh; exact h rfl)]; exact rfl
  have hn : l.length = m.length := by omega
  refine w_loop TT_ok (fun k : Nat => [(5, .v (.int .i64 k))]) 0 (fun k => k ≤ l.length ∧ ∀ j, j < k → l.getD j [] = m.getD j []) (fun k => l.length - k) ?_
  refine And.intro ⟨⟨Nat.zero_le _, fun j hj => absurd hj (Nat.not_lt_zero j)⟩, gs⟩ ?_
  intro k ⟨hk, hd⟩
  refine cnd (fun h1 => ?_) (fun h1 => ?_)
  · refine And.intro (by kernel_rfl) ?_
    have hdk : l.getD k [] = m.getD k [] → ∀ j, j < k + 1 → l.getD j [] = m.getD j [] := fun h => upto_snoc hd h
    have hlx : l.getD k [] ≠ m.getD k [] → ¬ l = m := fun h hh => by subst hh; exact h rfl
    refine ixL (R := RwR) hl k [] (fun cs hcs => ?_)
    generalize l.getD k [] = r1 at hcs hdk hlx
    obtain ⟨y1, rfl, g1⟩ := hcs
    refine ixL (R := RwR) hm k [] (fun cs2 hcs2 => ?_)
    generalize m.getD k [] = r2 at hcs2 hdk hlx
    obtain ⟨y2, rfl, g2⟩ := hcs2
    refine cb (fun w hw => c_RSameRow12 r1 r2 y1 y2 w h0 hw g1 g2) ?_
    refine cnd (fun h2 => ?_) (fun h2 => ?_)
    · rw [decide_eq_false (p := l = m) (hlx (by simpa using h2))]; exact rfl
    · refine wi ?_
      exact ⟨k + 1, ⟨⟨by omega, hdk (by simpa using h2)⟩, by omega⟩, gs⟩
  · rw [decide_eq_true (p := l = m) (ext_getD [] hn fun j hj => hd j (by omega))]; exact rfl
def sameO (o p : Outc) : Bool := decide (o.err = p.err) && (decide (o.rules = p.rules) && decide (o.rows = p.rows))
theorem sameO_refl (o : Outc) : sameO o o = true := by simp [sameO]
theorem c_RSame20 (o p : Outc) (a b c d : AC) (w0 : World) (h0 : View) (hv : VLe h0 (Full w0)) (hl : OutH h0 o a b) (hm : OutH h0 p c d) :
    Calls Tryz.prog 16 #[ouV o (a, b), ouV p (c, d)] w0 (Ret w0 h0 fun u _ => u = .bool (sameO o p)) := by
  refine ent (args := [ouV o (a, b), ouV p (c, d)]) TT_ok [] [] Tryz.func16 rfl Tryz.ntmps16 rfl rfl hv ?_
  intro b2 b3
  refine cbg (fun _ w hw => c_RSameInts o.rules p.rules a c w h0 hw hl.r hm.r) ?_
  refine cbg (fun _ w hw => c_RSameRows o.rows p.rows b d w h0 hw hl.w hm.w) ?_
  refine congrArg Value.bool ?_
  unfold sameO
  cases decide (o.err = p.err) <;> cases decide (o.rules = p.rules) <;> rfl
end Go.Proofs.YtkkbnjomcgnkpaaGreat
namespace Go.Proofs.YtkkbnjomcgnkpaaGreat
open Go Go.Dx Go.RowKit Go.ChangeShapes Go.WideShapes Go.ChangeAt
section
variable {H : Type} {enc : TypeId × Value → H} {W : World}
theorem sl_cell {t e fuel : Nat} {cs : List Value} {x : DataW H × List MemPlace} (ht : Tryz.prog.underlying t = some (.slice e)) (h : DataW.trod enc Tryz.prog W 0 (fun _ => true) true fuel t cs = some x) : ∃ v, cs = [v] := by
  rcases DataW.trod_slice ht h with ⟨hcs, _⟩ | ⟨a, len, cap, elems, rest, n, _, hcs, _⟩
  · exact ⟨_, hcs⟩
  · exact ⟨_, hcs⟩
theorem open_valsC {fuel : Nat} {cs : List Value} {x : DataW H × List MemPlace} (h : DataW.trod enc Tryz.prog W 0 (fun _ => true) true fuel 28 cs = some x) :
    ∃ (a : AC) (l : List Val), cs = [.slice a.1 l.length a.2] ∧ SlC 57 3 (flatR valC) (Full W) (.slice a.1 l.length a.2) l ∧ ∀ v ∈ l, valB v ∧ v.s.length ≤ 9223372036854775807 := by
  obtain ⟨v, rfl⟩ := sl_cell (e := 57) (by kernel_rfl) h
  obtain ⟨ad, cap, n, cc, rfl, hs, hk⟩ := open_sl (sz := 3) (e := 57) (by kernel_rfl) (by kernel_rfl) (by decide) h
  have : Inhabited Val := ⟨v0⟩
  obtain ⟨g, hg⟩ := Go.Deep.choose_lt (fun i hi => by
    obtain ⟨m, z, _, hz⟩ := hk i hi
    exact open_valC hz : ∀ i, i < n → ∃ x : Val, cc i = valC x ∧ valB x ∧ x.s.length ≤ 9223372036854775807)
  have h1 := sl_map hs (fun i hi => (hg i hi).1)
  refine ⟨(ad, cap), (List.range n).map g, by simp, ?_, fun x hx => ?_⟩
  · simp only [List.length_range, List.length_map] at h1 ⊢
    exact h1
  · obtain ⟨i, hi, rfl⟩ := List.mem_map.1 hx
    exact (hg i (List.mem_range.1 hi)).2
end
section
variable {H : Type} {enc : TypeId × Value → H} {W : World}
theorem open_txsC {fuel : Nat} {cs : List Value} {x : DataW H × List MemPlace} (h : DataW.trod enc Tryz.prog W 0 (fun _ => true) true fuel 64 cs = some x) :
    ∃ (a : AC) (l : List (List UInt8)), cs = [.slice a.1 l.length a.2] ∧ TxL (Full W) a l := by
  obtain ⟨v, rfl⟩ := sl_cell (e := 9) (by kernel_rfl) h
  obtain ⟨ad, cap, n, cc, rfl, hs, hk⟩ := open_sl (sz := 1) (e := 9) (by kernel_rfl) (by kernel_rfl) (by decide) h
  have : Inhabited (List UInt8) := ⟨[]⟩
  obtain ⟨g, hg⟩ := Go.Deep.choose_lt (fun i hi => by
    obtain ⟨m, z, _, hz⟩ := hk i hi
    obtain ⟨s, e, _⟩ := trod_s (by kernel_rfl) hz
    exact ⟨s, e⟩ : ∀ i, i < n → ∃ x : List UInt8, cc i = [vs x])
  have h1 := sl_map (f := fun s : List UInt8 => [vs s]) hs hg
  refine ⟨(ad, cap), (List.range n).map g, by simp, ?_⟩
  show SlC _ _ _ _ _ _
  simp only [List.length_range, List.length_map] at h1 ⊢
  exact h1
theorem open_coC {fuel : Nat} {cs : List Value} {x : DataW H × List MemPlace} (h : DataW.trod enc Tryz.prog W 0 (fun _ => true) true fuel 61 cs = some x) : ∃ p : CoO, cs = colC p.1 ∧ OrH (Full W) p := by
  obtain ⟨hl, n0, y0, _, h0⟩ := trod_at (FldIs.of (P := Tryz.prog) (t := 61) (i := 0) (off := 0) (ty := 9) (sz := 1) (by kernel_rfl)) h
  obtain ⟨_, n1, y1, _, h1⟩ := trod_at (FldIs.of (P := Tryz.prog) (t := 61) (i := 1) (off := 1) (ty := 55) (sz := 1) (by kernel_rfl)) h
  obtain ⟨_, n2, y2, _, h2⟩ := trod_at (FldIs.of (P := Tryz.prog) (t := 61) (i := 2) (off := 2) (ty := 28) (sz := 1) (by kernel_rfl)) h
  have hl' : cs.length = 3 := hl.trans (by kernel_rfl)
  match cs, hl' with
  | [a, b, c], _ =>
    obtain ⟨s, e0, _⟩ := trod_s (by kernel_rfl) h0
    obtain ⟨k, e1, _⟩ := trod_i (by kernel_rfl) h1
    obtain ⟨q, l, e2, s2, hv⟩ := open_valsC h2
    simp at e0 e1 e2
    subst e0 e1 e2
    exact ⟨(⟨s, k, q.1, l.length, q.2⟩, l), rfl, rfl, s2, hv⟩
theorem open_cosC {fuel : Nat} {cs : List Value} {x : DataW H × List MemPlace} (h : DataW.trod enc Tryz.prog W 0 (fun _ => true) true fuel 22 cs = some x) :
    ∃ (a : AC) (l : List CoO), cs = [.slice a.1 (colsO l).length a.2] ∧ CoL (Full W) a l := by
  obtain ⟨v, rfl⟩ := sl_cell (e := 61) (by kernel_rfl) h
  obtain ⟨ad, cap, n, cc, rfl, hs, hk⟩ := open_sl (sz := 3) (e := 61) (by kernel_rfl) (by kernel_rfl) (by decide) h
  have : Inhabited CoO := ⟨co0⟩
  obtain ⟨g, hg⟩ := Go.Deep.choose_lt (fun i hi => by
    obtain ⟨m, z, _, hz⟩ := hk i hi
    exact open_coC hz : ∀ i, i < n → ∃ x : CoO, cc i = colC x.1 ∧ OrH (Full W) x)
  have h1 := sl_map (f := colC) (g := fun i => (g i).1) hs (fun i hi => (hg i hi).1)
  have e : colsO ((List.range n).map g) = (List.range n).map fun i => (g i).1 := by simp [colsO]
  refine ⟨(ad, cap), (List.range n).map g, by simp [e], ?_, fun p hp => ?_⟩
  · rw [e]
    simp only [List.length_range, List.length_map] at h1 ⊢
    exact h1
  · obtain ⟨i, hi, rfl⟩ := List.mem_map.1 hp
    exact (hg i (List.mem_range.1 hi)).2
theorem open_ruC {fuel : Nat} {cs : List Value} {x : DataW H × List MemPlace} (h : DataW.trod enc Tryz.prog W 0 (fun _ => true) true fuel 66 cs = some x) : ∃ r, RuR (Full W) cs r := by
  obtain ⟨hl, n0, y0, _, h0⟩ := trod_at (FldIs.of (P := Tryz.prog) (t := 66) (i := 0) (off := 0) (ty := 64) (sz := 1) (by kernel_rfl)) h
  obtain ⟨_, n1, y1, _, h1⟩ := trod_at (FldIs.of (P := Tryz.prog) (t := 66) (i := 1) (off := 1) (ty := 64) (sz := 1) (by kernel_rfl)) h
  have hl' : cs.length = 2 := hl.trans (by kernel_rfl)
  match cs, hl' with
  | [a, b], _ =>
    obtain ⟨p, l, e0, s0⟩ := open_txsC h0
    obtain ⟨q, m, e1, s1⟩ := open_txsC h1
    simp at e0 e1
    subst e0 e1
    exact ⟨(l, m), p, q, rfl, s0, s1⟩
theorem open_rusC {fuel : Nat} {cs : List Value} {x : DataW H × List MemPlace} (h : DataW.trod enc Tryz.prog W 0 (fun _ => true) true fuel 25 cs = some x) :
    ∃ (a : AC) (l : List (List (List UInt8) × List (List UInt8))), cs = [.slice a.1 l.length a.2] ∧ LR 66 2 RuR (Full W) a.1 a.2 l := by
  obtain ⟨v, rfl⟩ := sl_cell (e := 66) (by kernel_rfl) h
  obtain ⟨ad, cap, l, rfl, hl⟩ := open_lr (R := RuR) (sz := 2) (e := 66) ru0 (by kernel_rfl) (by kernel_rfl) (by decide) (fun n cs y hy => open_ruC hy) h
  exact ⟨(ad, cap), l, rfl, hl⟩
theorem open_tabC {fuel : Nat} {cs : List Value} {x : DataW H × List MemPlace} (h : DataW.trod enc Tryz.prog W 0 (fun _ => true) true fuel 27 cs = some x) : ∃ (t : Tab) (a : TA), cs = tabC t a ∧ TabH (Full W) t a := by
  obtain ⟨hl, n0, y0, _, h0⟩ := trod_at (FldIs.of (P := Tryz.prog) (t := 27) (i := 0) (off := 0) (ty := 9) (sz := 1) (by kernel_rfl)) h
  obtain ⟨_, n1, y1, _, h1⟩ := trod_at (FldIs.of (P := Tryz.prog) (t := 27) (i := 1) (off := 1) (ty := 22) (sz := 1) (by kernel_rfl)) h
  obtain ⟨_, n2, y2, _, h2⟩ := trod_at (FldIs.of (P := Tryz.prog) (t := 27) (i := 2) (off := 2) (ty := 22) (sz := 1) (by kernel_rfl)) h
  obtain ⟨_, n3, y3, _, h3⟩ := trod_at (FldIs.of (P := Tryz.prog) (t := 27) (i := 3) (off := 3) (ty := 23) (sz := 1) (by kernel_rfl)) h
  obtain ⟨_, n4, y4, _, h4⟩ := trod_at (FldIs.of (P := Tryz.prog) (t := 27) (i := 4) (off := 4) (ty := 24) (sz := 1) (by kernel_rfl)) h
  obtain ⟨_, n5, y5, _, h5⟩ := trod_at (FldIs.of (P := Tryz.prog) (t := 27) (i := 5) (off := 5) (ty := 25) (sz := 1) (by kernel_rfl)) h
  have hl' : cs.length = 6 := hl.trans (by kernel_rfl)
  match cs, hl' with
  | [a, b, c, d, e, f], _ =>
    obtain ⟨s, e0, _⟩ := trod_s (by kernel_rfl) h0
    obtain ⟨ai, li, e1, s1⟩ := open_cosC h1
    obtain ⟨ao, lo, e2, s2⟩ := open_cosC h2
    obtain ⟨p, e3, _⟩ := trod_i (by kernel_rfl) h3
    obtain ⟨q, e4, _⟩ := trod_i (by kernel_rfl) h4
    obtain ⟨ar, lr, e5, s5⟩ := open_rusC h5
    simp at e0 e1 e2 e3 e4 e5
    subst e0 e1 e2 e3 e4 e5
    exact ⟨⟨s, li, lo, p, q, lr⟩, ⟨ai, ao, ar⟩, rfl, s1, s2, s5⟩
set_option maxRecDepth 100000 in
theorem open_tab {v : Value} {d : DataW H} {ps : List MemPlace} {b0 : Nat} (hok : Value.okWide Tryz.prog W .any b0 27 v) (h : DataW.Trod enc Tryz.prog W 0 (fun _ => true) true 27 v d ps) :
    ∃ (t : Tab) (a : TA), v = .agg (tabC t a).toArray ∧ TabH (Full W) t a := by
  obtain ⟨fs, _, hu, _⟩ := (FldIs.of (P := Tryz.prog) (t := 27) (i := 0) (off := 0) (ty := 9) (sz := 1) (by kernel_rfl))
  obtain ⟨cs, rfl, _⟩ := okWide_struct (P := Tryz.prog) (t := 27) hu hok
  obtain ⟨fuel, h⟩ := h
  obtain ⟨t, a, e, h1⟩ := open_tabC h
  refine ⟨t, a, ?_, h1⟩
  congr 1
  apply Array.toList_inj.1; simpa [Value.cells] using e
set_option maxRecDepth 100000 in
theorem open_rul {v : Value} {d : DataW H} {ps : List MemPlace} {b0 : Nat} (hok : Value.okWide Tryz.prog W .any b0 66 v) (h : DataW.Trod enc Tryz.prog W 0 (fun _ => true) true 66 v d ps) :
    ∃ (r : List (List UInt8) × List (List UInt8)) (a b : AC), v = .agg (ruC r a b).toArray ∧ TxL (Full W) a r.1 ∧ TxL (Full W) b r.2 := by
  obtain ⟨fs, _, hu, _⟩ := (FldIs.of (P := Tryz.prog) (t := 66) (i := 0) (off := 0) (ty := 64) (sz := 1) (by kernel_rfl))
  obtain ⟨cs, rfl, _⟩ := okWide_struct (P := Tryz.prog) (t := 66) hu hok
  obtain ⟨fuel, h⟩ := h
  obtain ⟨r, a, b, e, h1, h2⟩ := open_ruC h
  refine ⟨r, a, b, ?_, h1, h2⟩
  congr 1
  apply Array.toList_inj.1; simpa [Value.cells] using e
end
end Go.Proofs.YtkkbnjomcgnkpaaGreat
set_option maxRecDepth 100000
namespace Go.Proofs.YtkkbnjomcgnkpaaGreat
open Go Go.Dx Go.RowKit Go.ChangeShapes Go.WideShapes Go.ChangeAt
section
variable {H : Type} {enc : TypeId × Value → H} {W : World}
mutual
theorem bk_le {H : Type} : ∀ d : DataW H, bkD d ≤ Rows.uptoBulk d
  | .lit l => by cases l <;> simp [bkD, Rows.uptoBulk]
  | .nil => by simp [bkD, Rows.uptoBulk]
  | .ptr d => by simp [bkD, Rows.uptoBulk]
  | .slice e s => by have := bkL_le e; simp only [bkD, Rows.uptoBulk]; omega
  | .agg p => by have := bkL_le p; simp only [bkD, Rows.uptoBulk]; omega
  | .iface _ _ => by simp [bkD, Rows.uptoBulk]
  | .map _ => by simp [bkD, Rows.uptoBulk]
  | .held _ => by simp [bkD, Rows.uptoBulk]
theorem bkL_le {H : Type} : ∀ l : List (DataW H), bkL l ≤ Rows.uptoBulkAll l
  | [] => by simp [bkL, Rows.uptoBulkAll]
  | d :: r => by have := bk_le d; have := bkL_le r; simp only [bkL, Rows.uptoBulkAll]; omega
end
theorem bulk_of {H : Type} {l : List (DataW H)} (hk : Rows.uptoSmall H l = true) : bkL l ≤ 1048576 :=
  Nat.le_trans (bkL_le l) (of_decide_eq_true hk)
end
end Go.Proofs.YtkkbnjomcgnkpaaGreat
set_option maxRecDepth 100000
namespace Go.Proofs.YtkkbnjomcgnkpaaGreat
open Go Go.Dx Go.RowKit Go.ChangeShapes Go.WideShapes Go.ChangeAt
section
variable {H : Type} {enc : TypeId × Value → H} {W : World}
set_option maxRecDepth 100000 in
theorem open_tabU {v : Value} {d : DataW H} {ps : List MemPlace} {b0 : Nat} (hok : Value.okWide Tryz.prog W .any b0 27 v) (h : DataW.Trod enc Tryz.prog W 0 (fun _ => true) true 27 v d ps) :
    ∃ (t : Tab) (a : TA), v = .agg (tabC t a).toArray ∧ TabH (Full W) t a ∧ t.rules.length ≤ bkD d := by
  obtain ⟨t, a, rfl, h1⟩ := open_tab hok h
  refine ⟨t, a, rfl, h1, ?_⟩
  obtain ⟨fuel, h⟩ := h
  have h : DataW.trod enc Tryz.prog W 0 (fun _ => true) true fuel 27 (tabC t a) = some (d, ps) := by simpa [Value.cells] using h
  obtain ⟨_, n5, y5, _, h5, k5⟩ := trod_bk (FldIs.of (P := Tryz.prog) (t := 27) (i := 5) (off := 5) (ty := 25) (sz := 1) (by kernel_rfl)) h
  have k5 : bkAt 5 d = bkD y5.1 := k5
  have h5 : DataW.trod enc Tryz.prog W 0 (fun _ => true) true n5 25 [.slice a.r.1 t.rules.length a.r.2] = some y5 := h5
  obtain ⟨ad, cap, n, cc, gb, e, _, hk, hb⟩ := open_slB (sz := 2) (e := 66) (by kernel_rfl) (by kernel_rfl) (by decide) h5
  have hb : bkD y5.1 = ((List.range n).map gb).sum + 1 := hb
  have hn : n = t.rules.length := by simpa using (Value.slice.inj e).2.1.symm
  have hle : n ≤ ((List.range n).map gb).sum := by
    have : ∀ m, m ≤ n → m ≤ ((List.range m).map gb).sum := by
      intro m
      induction m with
      | zero => intro _; exact Nat.zero_le _
      | succ m ih =>
        intro hm
        have := ih (by omega)
        obtain ⟨_, y, _, _, hy⟩ := hk m (by omega)
        have := bk_pos y.1
        rw [List.range_succ, List.map_append, List.sum_append]
        simp only [List.map_cons, List.map_nil, List.sum_cons, List.sum_nil]
        omega
    exact this n (Nat.le_refl _)
  have hs : bkAt 5 d ≤ bkD d := by
    obtain ⟨fs, f, hu, _⟩ := (FldIs.of (P := Tryz.prog) (t := 27) (i := 0) (off := 0) (ty := 9) (sz := 1) (by kernel_rfl))
    have hs := trod_sum hu h
    have hfs : fs.size = 6 := by
      have hb : (match Tryz.prog.underlying 27 with | some (.struct fs) => fs.size | _ => 0) = 6 := by kernel_rfl
      rw [hu] at hb; exact hb
    rw [hfs] at hs
    simp only [List.range_succ, List.range_zero, List.map_append, List.map_cons, List.map_nil, List.sum_append, List.sum_cons, List.sum_nil, List.nil_append] at hs
    omega
  omega
end
end Go.Proofs.YtkkbnjomcgnkpaaGreat
set_option maxRecDepth 100000
namespace Go.Proofs.YtkkbnjomcgnkpaaGreat
open Go Go.Dx Go.RowKit
def exTb (p a : Int) : Tab := ⟨[116], [(⟨[97], 1, none, 0, 0⟩, [])], [(⟨[111], 1, none, 0, 0⟩, [])], p, a, [([[60, 32, 53]], [[49]]), ([[60, 32, 57]], [[50]])]⟩
def tLt (n : Int) : Tst := ⟨2, numX n, ex0, false, false⟩
def cLt (n : Int) : Cel := ⟨false, false, [tLt n]⟩
def v3 : Val := ⟨1, 3, []⟩
theorem hlex_5 : lexS [60, 32, 53] = ([⟨4, [60], 0, 0⟩, ⟨2, [], 5, 2⟩], 0, 0) := by rw [lex_run _ (by decide)]; decide +kernel
theorem hlex_9 : lexS [60, 32, 57] = ([⟨4, [60], 0, 0⟩, ⟨2, [], 9, 2⟩], 0, 0) := by rw [lex_run _ (by decide)]; decide +kernel
theorem hlex_1 : lexS [49] = ([⟨2, [], 1, 0⟩], 0, 0) := by rw [lex_run _ (by decide)]; decide +kernel
theorem hlex_2 : lexS [50] = ([⟨2, [], 2, 0⟩], 0, 0) := by rw [lex_run _ (by decide)]; decide +kernel
theorem hparse_5 : parseC [60, 32, 53] = (cLt 5, 0, 0) := by unfold parseC; rw [hlex_5]; kernel_rfl
theorem hparse_9 : parseC [60, 32, 57] = (cLt 9, 0, 0) := by unfold parseC; rw [hlex_9]; kernel_rfl
theorem hparse_1 : parseT [49] = (numX 1, 0, 0) := by unfold parseT; rw [hlex_1]; kernel_rfl
theorem hparse_2 : parseT [50] = (numX 2, 0, 0) := by unfold parseT; rw [hlex_2]; kernel_rfl
theorem cols_1 {c : Col} (hn : nameOk c.name = true) (hk : c.kind = 1) : colsS [c] = 0 := by
  have hb : ¬ badN [c] 0 := by
    have e : ([c].getD 0 c0) = c := rfl
    unfold badN
    rw [e, hn]
    obtain ⟨k, h1, h2⟩ := at_le (l := [c]) (i := 0) Nat.one_pos
    rw [e] at h1
    rintro (h | h)
    · cases h
    · apply h; rw [h1]; omega
  have hk : ¬ badK (([c].getD 0 c0).kind) := by
    have e : ([c].getD 0 c0) = c := rfl
    rw [e]; unfold badK; omega
  rw [colsS, if_neg (show ¬ 6 < [c].length from (by decide : ¬ 6 < 1)), cg_next (show 0 < [c].length from Nat.one_pos) hb hk, cg_over (show ¬ 0 + 1 < [c].length from (by decide : ¬ 1 < 1))]
def exR (p a : Int) : Rdy := ⟨exTb p a, [⟨[cLt 5], [numX 1]⟩, ⟨[cLt 9], [numX 2]⟩]⟩
theorem make_v (p a : Int) : makeV (exTb p a) = exR p a := by
  show Rdy.mk (exTb p a) [⟨[(parseC [60, 32, 53]).1], [(parseT [49]).1]⟩, ⟨[(parseC [60, 32, 57]).1], [(parseT [50]).1]⟩] = _
  rw [hparse_5, hparse_9, hparse_1, hparse_2]; rfl
theorem typ_lt (n : Int) (h : 0 ≤ n) (hd : deepS (numX n) ≤ 12) : typC (cLt n) 1 [⟨[97], 1, none, 0, 0⟩] = 0 := by
  have hr : rightS (numX n) = true := right_num h
  have hk : kindT [⟨[97], 1, none, 0, 0⟩] (numX n) = (1, 0) := by
    rw [kindT, if_pos hr]; unfold numX KX; rw [kindS]; rfl
  have hc : rightC (cLt n) = true := by
    have e : rightC (cLt n) = (decide (1 ≤ 1) && decide (1 ≤ 12) && [tLt n].all soundT) := rfl
    rw [e]
    have hs : soundT (tLt n) = true := by
      show (partX (numX n) && (sameX ex0 ex0 && (!false && !false))) = true
      rw [partX, hr, decide_eq_true hd]; kernel_rfl
    rw [List.all_cons, hs]; rfl
  rw [typC, if_neg (by rw [hc]; decide)]
  show typTL 1 _ [tLt n] = 0
  have h1 : typT1 (tLt n) 1 [⟨[97], 1, none, 0, 0⟩] = 0 := by
    have hk' : kindT [⟨[97], 1, none, 0, 0⟩] (tLt n).a = (1, 0) := hk
    rw [typT1, hk', if_neg (by decide), if_neg (show ¬ (tLt n).k = 6 from (by decide : ¬ (2 : Int) = 6)), if_pos (by rfl)]
  rw [typTL, h1, if_neg (by decide), typTL]
theorem right_lt (n : Int) (h : 0 ≤ n) (hd : deepS (numX n) ≤ 12) : rightC (cLt n) = true := by
  rcases Bool.eq_false_or_eq_true (rightC (cLt n)) with e | e
  · exact e
  · have := typ_lt n h hd
    rw [typC, if_pos e] at this; exact absurd this (by decide)
theorem kind_num (n : Int) (h : 0 ≤ n) (l : List Col) : kindT l (numX n) = (1, 0) := by
  rw [kindT, if_pos (right_num h)]; unfold numX KX; rw [kindS]; rfl
theorem make_e {p a : Int} (hp : p ≠ 3) (ho : polOk (exTb p a) = true) : makeE (exTb p a) = 0 := by
  have hf : frameE (exTb p a) = 0 := by
    have c1 : colE (exTb p a).ins false = 0 := by
      show (if colsS [⟨[97], 1, none, 0, 0⟩] ≠ 0 then colsS [⟨[97], 1, none, 0, 0⟩] else _) = _
      rw [cols_1 (by decide) rfl]; rfl
    have c2 : colE (exTb p a).outs (decide (p = 3)) = 0 := by
      rw [decide_eq_false hp]
      show (if colsS [⟨[111], 1, none, 0, 0⟩] ≠ 0 then colsS [⟨[111], 1, none, 0, 0⟩] else _) = _
      rw [cols_1 (by decide) rfl]; rfl
    have c2 : colE (exTb p a).outs (decide ((exTb p a).pol = 3)) = 0 := c2
    rw [frameE, c1, c2, ho, if_neg (show ¬ nameOk (exTb p a).name = false from (by decide : ¬ nameOk [116] = false)), if_neg (by decide), if_neg (by decide), if_neg (by decide), if_neg (show ¬ 24 < (exTb p a).rules.length from (by decide : ¬ 24 < 2))]
  rw [makeE, hf, if_neg (by decide)]
  refine fir_ok fun j hj => ?_
  have hl : ∀ (s t : List UInt8) (n m : Int), 0 ≤ n → deepS (numX n) ≤ 12 → 0 ≤ m → parseC s = (cLt n, 0, 0) → parseT t = (numX m, 0, 0) → lineE (exTb p a) ([s], [t]) = 0 := by
    intro s t n m hn hd hm h1 h2
    have e1 : cellE (exTb p a) 0 s = 0 := by
      rw [cellE, h1]
      show (if (0 : Int) ≠ 0 then (0 : Int) else typC (cLt n) 1 [⟨[97], 1, none, 0, 0⟩]) = 0
      rw [typ_lt n hn hd]; rfl
    have e2 : outE (exTb p a) 0 t = 0 := by
      rw [outE, h2]
      show (if (0 : Int) ≠ 0 then (0 : Int) else if (kindT [⟨[97], 1, none, 0, 0⟩] (numX m)).2 ≠ 0 then _ else if fitS (kindT [⟨[97], 1, none, 0, 0⟩] (numX m)).1 1 = false then (14 : Int) else 0) = 0
      rw [kind_num m hm]; rfl
    rw [lineE, if_neg (by show ¬ ((1 : Nat) ≠ 1 ∨ (1 : Nat) ≠ 1); omega)]
    have g1 : firstE (fun k => cellE (exTb p a) k ([s].getD k [])) 1 = 0 := fir_ok fun j hj => by
      have : j = 0 := by omega
      subst this; exact e1
    have g2 : firstE (fun k => outE (exTb p a) k ([t].getD k [])) 1 = 0 := fir_ok fun j hj => by
      have : j = 0 := by omega
      subst this; exact e2
    show (if firstE (fun k => cellE (exTb p a) k ([s].getD k [])) 1 ≠ 0 then firstE (fun k => cellE (exTb p a) k ([s].getD k [])) 1 else firstE (fun k => outE (exTb p a) k ([t].getD k [])) 1) = 0
    rw [g1, g2]; rfl
  have hj : j = 0 ∨ j = 1 := by have : j < 2 := hj; omega
  rcases hj with rfl | rfl
  · exact hl _ _ 5 1 (by decide) (by decide +kernel) (by decide) hparse_5 hparse_1
  · exact hl _ _ 9 2 (by decide) (by decide +kernel) (by decide) hparse_9 hparse_2
theorem ask_lt (n : Int) (h : 0 ≤ n) : askT (tLt n) v3 [⟨[97], 1, none, 0, 0⟩] [v3] = (passT (tLt n) v3 [⟨1, n, []⟩], 0) := by
  rw [ask_one (p := (⟨1, n, []⟩, 0)) (by show ¬ (2 : Int) = 6; decide) (es_num 3 n h), if_neg (show ¬ (0 : Int) ≠ 0 by decide), if_pos (by rfl)]
theorem hold_lt (n : Int) (h : 0 ≤ n) (hd : deepS (numX n) ≤ 12) (hp : passT (tLt n) v3 [⟨1, n, []⟩] = true) : holdsC (cLt n) v3 [⟨[97], 1, none, 0, 0⟩] [v3] = (true, 0) := by
  have hm : mayC (cLt n) v3 [⟨[97], 1, none, 0, 0⟩] [v3] = true := by
    unfold mayC
    rw [right_lt n h hd]; rfl
  rw [holdsC, if_pos hm]
  show holdL false false v3 _ [v3] [tLt n] = _
  rw [holdL, ask_lt n h, hp, if_neg (by decide), if_pos (by rfl)]; rfl
theorem rule_ex (p a : Int) : ∀ i, i < 2 → ruleS (exR p a) [v3] i = (true, 0) := by
  intro i hi
  have hi : i = 0 ∨ i = 1 := by omega
  rcases hi with rfl | rfl
  · refine alls_ok fun j hj => ?_
    have : j = 0 := by have : j < 1 := hj; omega
    subst this
    exact hold_lt 5 (by decide) (by decide +kernel) (by kernel_rfl)
  · refine alls_ok fun j hj => ?_
    have : j = 0 := by have : j < 1 := hj; omega
    subst this
    exact hold_lt 9 (by decide) (by decide +kernel) (by kernel_rfl)
theorem input_ex (p a : Int) : inputE (exR p a) [v3] = 0 := if_pos ⟨rfl, fun i hi => by
  have : i = 0 := by have : i < 1 := hi; omega
  subst this; exact ⟨by kernel_rfl, by rfl⟩⟩
theorem rules_ex {p : Int} (a : Int) (hp : p ≠ 2) : rulesR (exR p a) [v3] = ([0, 1], 0, 0) := by
  rw [rulesR, input_ex, if_neg (by decide)]
  show rulesS p (ruleS (exR p a) [v3]) 2 = _
  have r0 := rule_ex p a 0 (by decide)
  have r1 := rule_ex p a 1 (by decide)
  rw [rules_none (fun j hj => by unfold stopR; rw [rule_ex p a j hj, decide_eq_false hp]; rfl), held_snoc, r1, held_snoc, r0]
  rfl
theorem tell_ex (p a : Int) : tellV (exR p a) [v3] 0 = [⟨1, 1, []⟩] ∧ tellV (exR p a) [v3] 1 = [⟨1, 2, []⟩] ∧ badT (exR p a) [v3] 0 = false ∧ badT (exR p a) [v3] 1 = false := by
  have e1 : evalS [⟨[97], 1, none, 0, 0⟩] [v3] (numX 1) = (⟨1, 1, []⟩, 0) := es_num 3 1 (by decide)
  have e2 : evalS [⟨[97], 1, none, 0, 0⟩] [v3] (numX 2) = (⟨1, 2, []⟩, 0) := es_num 3 2 (by decide)
  refine ⟨?_, ?_, ?_, ?_⟩
  · show [(evalS [⟨[97], 1, none, 0, 0⟩] [v3] (numX 1)).1] = _; rw [e1]
  · show [(evalS [⟨[97], 1, none, 0, 0⟩] [v3] (numX 2)).1] = _; rw [e2]
  · unfold badT
    rw [show tellE (exR p a) [v3] 0 = 0 from fir_ok fun j hj => by
      have : j = 0 := by have : j < 1 := hj; omega
      subst this
      show (evalS [⟨[97], 1, none, 0, 0⟩] [v3] (numX 1)).2 = 0
      rw [e1]]; rfl
  · unfold badT
    rw [show tellE (exR p a) [v3] 1 = 0 from fir_ok fun j hj => by
      have : j = 0 := by have : j < 1 := hj; omega
      subst this
      show (evalS [⟨[97], 1, none, 0, 0⟩] [v3] (numX 2)).2 = 0
      rw [e2]]; rfl
theorem dec_ex {p a : Int} (hp : p ≠ 2) (h1 : p ≠ 1) : decS (chooseS (exTb p a)) (exR p a) [v3] = (chooseS (exTb p a) [0, 1] [[⟨1, 1, []⟩], [⟨1, 2, []⟩]], 0) := by
  obtain ⟨t0, t1, b0, b1⟩ := tell_ex p a
  rw [decS, rules_ex a hp, if_neg (by decide), if_neg (by decide), if_neg (fun hh => h1 hh.1)]
  show (tolds (exR p a) [v3] [0, 1] (chooseS (exTb p a)), (0 : Int)) = _
  rw [tolds, show [0, 1].find? (badT (exR p a) [v3]) = none by rw [List.find?_cons_of_neg (by rw [b0]; decide), List.find?_cons_of_neg (by rw [b1]; decide)]; rfl]
  show (chooseS (exTb p a) [0, 1] [tellV (exR p a) [v3] 0, tellV (exR p a) [v3] 1], (0 : Int)) = _
  rw [t0, t1]
theorem dec_6 : decS (chooseS (exTb 6 0)) (exR 6 0) [v3] = (⟨0, [0, 1], [[⟨1, 1, []⟩], [⟨1, 2, []⟩]]⟩, 0) := by rw [dec_ex (by decide) (by decide)]; rfl
theorem dec_5 : decS (chooseS (exTb 5 1)) (exR 5 1) [v3] = (⟨0, [0, 1], [[⟨1, 3, []⟩]]⟩, 0) := by rw [dec_ex (by decide) (by decide)]; kernel_rfl
theorem dec_1 : decS (chooseS (exTb 1 0)) (exR 1 0) [v3] = (⟨19, [0, 1], []⟩, 0) := by
  rw [decS, rules_ex 0 (by decide), if_neg (by decide), if_neg (by decide), if_pos ⟨rfl, by decide⟩]; rfl
end Go.Proofs.YtkkbnjomcgnkpaaGreat
set_option maxRecDepth 100000
namespace Go.Proofs.YtkkbnjomcgnkpaaGreat
open Go Go.Dx Go.RowKit
theorem LR.of_rows {α β : Type} {T sz : Nat} {R : View → List Value → α → Prop} {f : β → List Value} {g : β → α} {d : β} {es : List β} {h : View} {ad : Option Addr} {n cap : Nat} (hs : SlC T sz (flatR f) h (.slice ad n cap) es) (hn : n = es.length) (hR : ∀ q ∈ es, R h (f q) (g q)) : LR T sz R h ad cap (es.map g) :=
  LR.of_row (d := d) (SlC.reidx hs (by simp) (fun i x y hi hj => by
    have h1 := (List.getElem?_eq_some_iff.1 hj)
    obtain ⟨h1, h2⟩ := h1
    simp at h2; subst h2
    simp [List.getD, hi])) hn hR
theorem ru_len {r : Rdy} {row : List Val} : (rulesR r row).1.length ≤ r.ls.length + 1 := (@ru_lt r row).1
theorem c_HDecide1 (r : Rdy) (a : TA) (x b : AC) (row : List Val) (hpol : PolE r.t) (hb : RdyB r) (hvb : ∀ v ∈ row, valB v) {d : Outc × Int} (hd : decS (chooseS r.t) r row = d) (w0 : World) (h0 : View) (hv : VLe h0 (Full w0)) (hr : RdyH h0 r a x) (hrow : SlC 57 3 (flatR valC) h0 (.slice b.1 row.length b.2) row) :
    Calls Tryz.prog 12 #[.agg (rdyC r a x).toArray, .slice b.1 row.length b.2] w0 (Ret w0 h0 fun u hh => ∃ z : AC × AC, u = .tuple #[ouV d.1 z, .int .i64 d.2] ∧ OutH hh d.1 z.1 z.2) := by
  subst hd
  refine c_HDecide (chooseS r.t) r a x b row hb hvb w0 h0 hv hr hrow fun hin rules ar aw n hru hn w h hw hle hs hl => ?_
  subst hn
  have hlt : ∀ i ∈ rules, i < r.ls.length := by rw [hru]; exact (@ru_lt r row).2
  have hln : rules.length ≤ r.ls.length + 1 := by rw [hru]; exact ru_len
  have hbl := hb.ls
  refine c_choose1 r.t a ar aw rules (rules.map (tellV r row)) hpol (by rw [List.length_map]) (by rw [List.length_map]; omega) (fun _ q hq => ?_) (fun q hq v hv => ?_) w h hw hs hl
  · obtain ⟨i, hi, rfl⟩ := List.mem_map.1 hq
    have := hb.no _ (getD_mem r.ls i lin0 (hlt i hi))
    rw [tellV, List.length_map]; exact this
  · obtain ⟨i, hi, rfl⟩ := List.mem_map.1 hq
    exact (tell_okV hr hin hvb (hlt i hi) v hv).2
theorem c_MakeK {t : Tab} {r : Rdy} (he : makeE t = 0) (hr : makeV t = r) (a : TA) (hb : TabB t) (w0 : World) (h0 : View) (hv : VLe h0 (Full w0)) (hc : TabH h0 t a) :
    Calls Tryz.prog 11 #[.agg (tabC t a).toArray] w0 (Ret w0 h0 fun u hh => ∃ z : AC, u = .tuple #[.agg (rdyC r a z).toArray, .int .i64 0, .int .i64 0, .int .i64 0] ∧ RdyH hh r a z) := by
  subst hr
  exact (c_Make t a hb w0 h0 hv hc).mono (Ret.mono fun u hh ⟨z, e, h⟩ => ⟨z.1, by rw [e, mkV, if_pos he], h he⟩)
theorem c_num20 (n : Int) (w0 : World) (h0 : View) (hv : VLe h0 (Full w0)) : Calls Tryz.prog 28 #[.int .i64 n] w0 (Ret w0 h0 fun u _ => u = .agg (valC ⟨1, n, []⟩).toArray) := by
  refine ent (args := [.int .i64 n]) TT_ok [] [] Tryz.func28 rfl Tryz.ntmps28 rfl rfl hv ?_
  intro b2
  exact rfl
def ruS (s t : List UInt8) : List (List UInt8) × List (List UInt8) := ([s], [t])
abbrev RuQ := (List (List UInt8) × List (List UInt8)) × AC × AC
def rqC (q : RuQ) : List Value := ruC q.1 q.2.1 q.2.2
theorem tabB_ex (p a : Int) : TabB (exTb p a) := by
  refine ⟨by show 1 ≤ 1000000; decide, ?_, ?_, ?_, by show 2 ≤ 1000000; decide⟩
  · intro q hq; have : q = (⟨[97], 1, none, 0, 0⟩, []) := by simpa [exTb] using hq
    subst this; show 1 ≤ 1000000; decide
  · intro q hq; have : q = (⟨[111], 1, none, 0, 0⟩, []) := by simpa [exTb] using hq
    subst this; show 1 ≤ 1000000; decide
  · intro r hr
    have : r = ([[60, 32, 53]], [[49]]) ∨ r = ([[60, 32, 57]], [[50]]) := by simpa [exTb] using hr
    rcases this with rfl | rfl
    · exact ⟨fun s hs => by have : s = [49] := by simpa using hs
                            subst this; decide, by decide, by decide⟩
    · exact ⟨fun s hs => by have : s = [50] := by simpa using hs
                            subst this; decide, by decide, by decide⟩
theorem rdyB_ex (p a : Int) : RdyB (exR p a) := by
  have hn : ∀ n : Int, 0 ≤ n → n ≤ 9 → Nd (numX n) ∧ SmX (numX n) := fun n h h9 => ⟨⟨show i64 1 by unfold i64; omega, show i64 1 by unfold i64; omega, show i64 n by unfold i64; omega⟩, gt_num n h⟩
  have hl : ∀ l ∈ (exR p a).ls, ∃ n m : Int, 0 ≤ n ∧ deepS (numX n) ≤ 12 ∧ 0 ≤ m ∧ m ≤ 9 ∧ l = ⟨[cLt n], [numX m]⟩ := by
    intro l hl
    have : l = ⟨[cLt 5], [numX 1]⟩ ∨ l = ⟨[cLt 9], [numX 2]⟩ := by simpa [exR] using hl
    rcases this with rfl | rfl
    · exact ⟨5, 1, by decide, by decide +kernel, by decide, by decide, rfl⟩
    · exact ⟨9, 2, by decide, by decide +kernel, by decide, by decide, rfl⟩
  refine ⟨by show 1 ≤ 1000000; decide, by show 2 ≤ 1000000; decide, fun l h => ?_, fun l h => ?_⟩
  · obtain ⟨n, m, h1, h2, h3, h4, rfl⟩ := hl l h
    refine ⟨rfl, by show 1 ≤ 1000000; decide, fun c hc => ?_, fun x hx => ?_⟩
    · have : c = cLt n := by simpa using hc
      subst this; exact right_gt (right_lt n h1 h2)
    · have : x = numX m := by simpa using hx
      subst this; exact hn m h3 h4
  · obtain ⟨n, m, h1, h2, h3, h4, rfl⟩ := hl l h
    show 1 ≤ 1; decide
theorem tabH_ex (p a : Int) {v : View} {b11 b13 b16 b17 b19 b20 b22 : Nat} (s11 : SlC 61 3 (flatR colC) v (.slice (some ⟨b11, 0, none⟩) 1 1) [⟨[97], 1, none, 0, 0⟩]) (s13 : SlC 61 3 (flatR colC) v (.slice (some ⟨b13, 0, none⟩) 1 1) [⟨[111], 1, none, 0, 0⟩])
    (s16 : TxL v (some ⟨b16, 0, none⟩, 1) [[60, 32, 53]]) (s17 : TxL v (some ⟨b17, 0, none⟩, 1) [[49]]) (s19 : TxL v (some ⟨b19, 0, none⟩, 1) [[60, 32, 57]]) (s20 : TxL v (some ⟨b20, 0, none⟩, 1) [[50]])
    (s22 : SlC 66 2 (flatR rqC) v (.slice (some ⟨b22, 0, none⟩) 2 2) [((ruS [60, 32, 53] [49], (some ⟨b16, 0, none⟩, 1), (some ⟨b17, 0, none⟩, 1)) : RuQ), (ruS [60, 32, 57] [50], (some ⟨b19, 0, none⟩, 1), (some ⟨b20, 0, none⟩, 1))]) :
    TabH v (exTb p a) ⟨(some ⟨b11, 0, none⟩, 1), (some ⟨b13, 0, none⟩, 1), (some ⟨b22, 0, none⟩, 2)⟩ := by
  refine ⟨⟨s11, fun q hq => ?_⟩, ⟨s13, fun q hq => ?_⟩, ?_⟩
  · have : q = (⟨[97], 1, none, 0, 0⟩, []) := by simpa [exTb] using hq
    subst this; exact ⟨rfl, SlC.nil (by simp [maxLen]), fun v h => by cases h⟩
  · have : q = (⟨[111], 1, none, 0, 0⟩, []) := by simpa [exTb] using hq
    subst this; exact ⟨rfl, SlC.nil (by simp [maxLen]), fun v h => by cases h⟩
  · refine LR.of_rows (R := RuR) (g := fun q : RuQ => q.1) (d := (ru0, (none, 0), (none, 0))) s22 rfl (fun q hq => ?_)
    have : q = (ruS [60, 32, 53] [49], (some ⟨b16, 0, none⟩, 1), (some ⟨b17, 0, none⟩, 1)) ∨ q = (ruS [60, 32, 57] [50], (some ⟨b19, 0, none⟩, 1), (some ⟨b20, 0, none⟩, 1)) := by simpa using hq
    rcases this with rfl | rfl
    · exact ⟨_, _, rfl, s16, s17⟩
    · exact ⟨_, _, rfl, s19, s20⟩
set_option maxHeartbeats 4000000 in
theorem c_example20 (p a : Int) (hp : p ≠ 3) (ho : polOk (exTb p a) = true) (w0 : World) (h0 : View) (hv : VLe h0 (Full w0)) :
    Calls Tryz.prog 29 #[.int .i64 p, .int .i64 a] w0 (Ret w0 h0 fun u hh => ∃ z : TA × AC, u = .agg (rdyC (exR p a) z.1 z.2).toArray ∧ RdyH hh (exR p a) z.1 z.2) := by
  refine entA (args := [.int .i64 p, .int .i64 a]) TT_ok [24] [] Tryz.func29 rfl Tryz.ntmps29 rfl rfl hv (fun z => rdy_m _ _ _) ?_
  intro b4 b11 b13 b16 b17 b19 b20 b22
  refine And.intro rfl ?_
  refine shutW 11 (row_sl (g := colC) (l := [⟨[97], 1, none, 0, 0⟩]) (sz := 3) (n := 1) (cp := 1) rfl) ?_ Mono.slF
  refine shutW 13 (row_sl (g := colC) (l := [⟨[111], 1, none, 0, 0⟩]) (sz := 3) (n := 1) (cp := 1) rfl) ?_ Mono.slF
  refine shutW 16 (row_sl (g := fun s : List UInt8 => [vs s]) (l := [[60, 32, 53]]) (sz := 1) (n := 1) (cp := 1) rfl) ?_ Mono.slF
  refine shutW 17 (row_sl (g := fun s : List UInt8 => [vs s]) (l := [[49]]) (sz := 1) (n := 1) (cp := 1) rfl) ?_ Mono.slF
  refine shutW 19 (row_sl (g := fun s : List UInt8 => [vs s]) (l := [[60, 32, 57]]) (sz := 1) (n := 1) (cp := 1) rfl) ?_ Mono.slF
  refine shutW 20 (row_sl (g := fun s : List UInt8 => [vs s]) (l := [[50]]) (sz := 1) (n := 1) (cp := 1) rfl) ?_ Mono.slF
  refine shutW 22 (row_sl (g := rqC) (l := [((ruS [60, 32, 53] [49], (some ⟨b16, 0, none⟩, 1), (some ⟨b17, 0, none⟩, 1)) : RuQ), (ruS [60, 32, 57] [50], (some ⟨b19, 0, none⟩, 1), (some ⟨b20, 0, none⟩, 1))]) (sz := 2) (n := 2) (cp := 2) rfl) ?_ Mono.slF
  refine goW TT_ok ?_
  refine cA TT_ok (fun w v h1 h2 h3 => c_MakeK (make_e hp ho) (make_v p a) ⟨(some ⟨b11, 0, none⟩, 1), (some ⟨b13, 0, none⟩, 1), (some ⟨b22, 0, none⟩, 2)⟩ (tabB_ex p a) w v h3 (tabH_ex p a h2.1.1.1.1.1.1.2 h2.1.1.1.1.1.2 h2.1.1.1.1.2 h2.1.1.1.2 h2.1.1.2 h2.1.2 h2.2)) (fun z => rdy_m _ _ _) (fun z => ?_)
  intro b5
  exact ⟨(⟨(some ⟨b11, 0, none⟩, 1), (some ⟨b13, 0, none⟩, 1), (some ⟨b22, 0, none⟩, 2)⟩, z), rfl, fun v _ hF => hF.2⟩
end Go.Proofs.YtkkbnjomcgnkpaaGreat
set_option maxRecDepth 100000
namespace Go.Proofs.YtkkbnjomcgnkpaaGreat
open Go Go.Dx Go.RowKit
theorem c_RSame20T (o p : Outc) (ho : o = p) (a b c d : AC) (w0 : World) (h0 : View) (hv : VLe h0 (Full w0)) (hl : OutH h0 o a b) (hm : OutH h0 p c d) :
    Calls Tryz.prog 16 #[ouV o (a, b), ouV p (c, d)] w0 (Ret w0 h0 fun u _ => u = .bool true) := by
  have := c_RSame20 o p a b c d w0 h0 hv hl hm
  subst ho
  rw [sameO_refl] at this; exact this
def o6 : Outc := ⟨0, [0, 1], [[⟨1, 1, []⟩], [⟨1, 2, []⟩]]⟩
theorem rows_two {v : View} {a b1 b2 : AC} {x y : List Val} (s1 : SlC 57 3 (flatR valC) v (.slice b1.1 x.length b1.2) x) (s2 : SlC 57 3 (flatR valC) v (.slice b2.1 y.length b2.2) y)
    (s : SlC 28 1 (flatR rwC) v (.slice a.1 2 a.2) [(x, b1), (y, b2)]) : LR 28 1 RwR v a.1 a.2 [x, y] :=
  LR.of_rows (R := RwR) (g := fun q : RwQ => q.1) (d := rw0) s rfl (fun q hq => by
    have : q = (x, b1) ∨ q = (y, b2) := by simpa using hq
    rcases this with rfl | rfl
    · exact ⟨b1, rfl, s1⟩
    · exact ⟨b2, rfl, s2⟩)
set_option maxHeartbeats 40000000 in
theorem c_lives20 (w0 : World) (h0 : View) (hv : VLe h0 (Full w0)) : Calls Tryz.prog 10 #[] w0 (Ret w0 h0 fun u _ => u = .bool true) := by
  have hvb : ∀ v ∈ [v3], valB v := fun v hv => by
    have : v = v3 := by simpa using hv
    subst this; exact ⟨show i64 1 by unfold i64; omega, show i64 3 by unfold i64; omega⟩
  refine ent (args := []) TT_ok [1, 1000005, 36, 45, 58, 2000043, 2000044, 2000045, 2000053, 2000054, 2000055, 2000056, 2000057, 2000058] [] Tryz.func10 rfl Tryz.ntmps10 rfl rfl hv ?_
  refine cl (c_num20 3) ?_
  intro b9
  refine And.intro rfl ?_
  refine shutW 9 (row_sl (g := valC) (l := [v3]) (sz := 3) (n := 1) (cp := 1) rfl) ?_ Mono.slF
  refine goW TT_ok ?_
  refine cA TT_ok (fun w v h1 h2 h3 => c_example20 6 0 (by decide) (by decide) w v h3) (fun z => rdy_m _ _ _) (fun z1 => ?_)
  refine cA TT_ok (fun w v h1 h2 h3 => c_HDecide1 (exR 6 0) z1.1 z1.2 (some ⟨b9, 0, none⟩, 1) [v3] (.inr (.inr (.inl rfl))) (rdyB_ex 6 0) hvb dec_6 w v h3 h2.2 h2.1.2) (fun z => out_m _ _ _) (fun q1 => ?_)
  intro b2
  refine cA TT_ok (fun w v h1 h2 h3 => c_example20 1 0 (by decide) (by decide) w v h3) (fun z => rdy_m _ _ _) (fun z2 => ?_)
  refine cA TT_ok (fun w v h1 h2 h3 => c_HDecide1 (exR 1 0) z2.1 z2.2 (some ⟨b9, 0, none⟩, 1) [v3] (.inl rfl) (rdyB_ex 1 0) hvb dec_1 w v h3 h2.2 h2.1.1.1.2) (fun z => out_m _ _ _) (fun q2 => ?_)
  intro b4
  refine cA TT_ok (fun w v h1 h2 h3 => c_example20 5 1 (by decide) (by decide) w v h3) (fun z => rdy_m _ _ _) (fun z3 => ?_)
  refine cA TT_ok (fun w v h1 h2 h3 => c_HDecide1 (exR 5 1) z3.1 z3.2 (some ⟨b9, 0, none⟩, 1) [v3] (.inr (.inr (.inr ⟨rfl, rfl⟩))) (rdyB_ex 5 1) hvb dec_5 w v h3 h2.2 h2.1.1.1.1.1.2) (fun z => out_m _ _ _) (fun q3 => ?_)
  intro b6
  refine regP2 TT_ok [0] (.n 1 (.n 2 (.n 3 (.n 4 (.n 5 (.n 6 (.n 7 (.n 8 .e .z) .z) .z) .z) .z) (.n 4 (.n 3 (.n 5 (.n 6 (.n 7 (.n 8 .e .z) .z) .z) .z) (.n 5 (.n 3 (.n 6 (.n 7 (.n 8 .e .z) .z) .z) .z) .z)) .z)) .z) (.n 2 (.n 1 (.n 3 (.n 4 (.n 5 (.n 6 (.n 7 (.n 8 .e .z) .z) .z) .z) .z) (.n 4 (.n 3 (.n 5 (.n 6 (.n 7 (.n 8 .e .z) .z) .z) .z) (.n 5 (.n 3 (.n 6 (.n 7 (.n 8 .e .z) .z) .z) .z) .z)) .z)) (.n 3 (.n 1 (.n 4 (.n 5 (.n 6 (.n 7 (.n 8 .e .z) .z) .z) .z) .z) (.n 4 (.n 1 (.n 5 (.n 6 (.n 7 (.n 8 .e .z) .z) .z) .z) (.n 5 (.n 1 (.n 6 (.n 7 (.n 8 .e .z) .z) .z) (.n 6 (.n 1 (.n 7 (.n 8 .e .z) .z) .z) .z)) .z)) .z)) (.n 4 (.n 1 (.n 3 (.n 5 (.n 6 (.n 7 (.n 8 .e .z) .z) .z) .z) (.n 5 (.n 3 (.n 6 (.n 7 (.n 8 .e .z) .z) .z) .z) .z)) (.n 3 (.n 1 (.n 5 (.n 6 (.n 7 (.n 8 .e .z) .z) .z) .z) (.n 5 (.n 1 (.n 6 (.n 7 (.n 8 .e .z) .z) .z) (.n 6 (.n 1 (.n 7 (.n 8 .e .z) .z) .z) .z)) .z)) (.n 5 (.n 1 (.n 3 (.n 6 (.n 7 (.n 8 .e .z) .z) .z) .z) (.n 3 (.n 1 (.n 6 (.n 7 (.n 8 .e .z) .z) .z) (.n 6 (.n 1 (.n 7 (.n 8 .e .z) .z) .z) .z)) .z)) .z))) .z))) .z)) (.m [9, 10, 11] (.n 12 (.m [13, 14] (.n 15 (.n 16 (.n 17 (.n 18 (.m [19, 20, 21] (.n 22 (.m [23, 24] (.n 25 (.n 26 (.n 27 (.n 28 (.n 29 (.n 30 (.n 31 (.m [32, 33, 34] (.n 35 (.m [36] .e) .z)) .z) .z) .z) .z) .z) .z) (.n 26 (.n 25 (.n 27 (.n 28 (.n 29 (.n 30 (.n 31 (.m [32, 33, 34] (.n 35 (.m [36] .e) .z)) .z) .z) .z) .z) .z) (.n 27 (.n 25 (.n 28 (.n 29 (.n 30 (.n 31 (.m [32, 33, 34] (.n 35 (.m [36] .e) .z)) .z) .z) .z) .z) (.n 28 (.n 25 (.n 29 (.n 30 (.n 31 (.m [32, 33, 34] (.n 35 (.m [36] .e) .z)) .z) .z) .z) .z) .z)) .z)) .z))) .z)) .z) .z) .z) .z)) .z)) [29, 31, 33, 34, 43, 53, 55, 56] [(36, .v (.bool true))] ?_
  refine And.intro ?_ ?_
  · refine kq ?_
    repeat' (first
      | exact ⟨rfl, gs rfl rfl (fun _ h => h.1.1.1.1) (.inr rfl)⟩
      | refine And.intro rfl (shutW 29 (row_sl (g := iC) (l := [0, 1]) (sz := 1) (n := 2) (cp := 2) rfl) (shutW 31 (row_sl (g := valC) (l := [⟨1, 1, []⟩]) (sz := 3) (n := 1) (cp := 1) rfl) (shutW 33 (row_sl (g := valC) (l := [⟨1, 2, []⟩]) (sz := 3) (n := 1) (cp := 1) rfl) (shutW 34 (row_sl (g := rwC) (l := [(([⟨1, 1, []⟩], some ⟨_, 0, none⟩, 1) : RwQ), ([⟨1, 2, []⟩], some ⟨_, 0, none⟩, 1)]) (sz := 1) (n := 2) (cp := 2) rfl)
          (goW TT_ok (cf (fun w v h1 h2 h3 => c_RSame20T o6 o6 rfl q1.1 q1.2 (some ⟨_, 0, none⟩, 2) (some ⟨_, 0, none⟩, 2) w v h3 h2.1.1.1.1.1.1.1.1.2 ⟨h2.1.1.1.2, rows_two h2.1.1.2 h2.1.2 h2.2⟩) (kq ?_ (fun _ h => h.1.1.1.1)))) Mono.slF) Mono.slF) Mono.slF) Mono.slF)
      | refine cl (c_num20 1) ?_
      | refine cl (c_num20 2) ?_
      | refine kq ?_
      | refine And.intro ?_ ?_
      | intro bq
      | fail)
  · refine cndT rfl (cndT rfl (kq ?_))
    refine kq ?_
    refine cndT rfl (kq ?_)
    refine And.intro (rfl : true = true) ?_
    intro b43
    refine kq ?_
    refine And.intro (rfl : true = true) ?_
    refine kq ?_
    refine And.intro (rfl : true = true) (And.intro rfl ?_)
    refine shutW 43 (row_sl (g := iC) (l := [0, 1]) (sz := 1) (n := 2) (cp := 2) rfl) ?_ Mono.slF
    refine goW TT_ok ?_
    refine cf (fun w v h1 h2 h3 => c_RSame20T ⟨19, [0, 1], []⟩ ⟨19, [0, 1], []⟩ rfl q2.1 q2.2 (some ⟨b43, 0, none⟩, 2) (none, 0) w v h3 h2.1.1.1.2 ⟨h2.2, LR.nil v⟩) ?_
    refine kq ?_
    refine kq ?_
    refine cndT rfl (cndT rfl (kq ?_))
    refine kq ?_
    refine cndT rfl (kq ?_)
    repeat' (first
      | exact rfl
      | refine And.intro (rfl : true = true) (And.intro rfl (shutW 53 (row_sl (g := iC) (l := [0, 1]) (sz := 1) (n := 2) (cp := 2) rfl) (shutW 55 (row_sl (g := valC) (l := [⟨1, 3, []⟩]) (sz := 3) (n := 1) (cp := 1) rfl) (shutW 56 (row_sl (g := rwC) (l := [(([⟨1, 3, []⟩], some ⟨_, 0, none⟩, 1) : RwQ)]) (sz := 1) (n := 1) (cp := 1) rfl)
          (goW TT_ok (cf (fun w v h1 h2 h3 => c_RSame20T ⟨0, [0, 1], [[⟨1, 3, []⟩]]⟩ ⟨0, [0, 1], [[⟨1, 3, []⟩]]⟩ rfl q3.1 q3.2 (some ⟨_, 0, none⟩, 2) (some ⟨_, 0, none⟩, 1) w v h3 h2.1.1.1.1.2 ⟨h2.1.1.2, lr_one h2.2 ⟨_, rfl, h2.1.2⟩⟩) (kq ?_))) Mono.slF) Mono.slF) Mono.slF))
      | refine cl (c_num20 3) ?_
      | refine cndT rfl (cndT rfl (kq ?_))
      | refine And.intro (rfl : true = true) ?_
      | refine kq ?_
      | refine And.intro ?_ ?_
      | intro bq
      | fail)
end Go.Proofs.YtkkbnjomcgnkpaaGreat
set_option maxRecDepth 100000
namespace Go.Proofs.YtkkbnjomcgnkpaaGreat
open Go Go.Dx Go.RowKit
end Go.Proofs.YtkkbnjomcgnkpaaGreat
namespace Go.Proofs.YtkkbnjomcgnkpaaGreat
open Go Go.Dx Go.RowKit
def asC (c : Col) : Col := ⟨c.name, c.kind, none, 0, 0⟩
def asO (q : CoO) : CoO := (asC q.1, [])
def asT (t : Tab) (p : Int) : Tab := ⟨t.name, t.ins, t.outs.map asO, p, 0, t.rules⟩
theorem colsO_as (l : List CoO) : colsO (l.map asO) = (colsO l).map asC := by
  simp only [colsO, List.map_map]; rfl
theorem idx_map {α β : Type} (f : α → β) (p : β → Bool) (l : List α) : idxS p (l.map f) = idxS (fun x => p (f x)) l := by
  unfold idxS; rw [List.findIdx?_map]; rfl
theorem atS_as (l : List Col) (s : List UInt8) : atS (l.map asC) s = atS l s := idx_map asC _ l
theorem getD_as (l : List Col) (i : Nat) (h : i < l.length) : (l.map asC).getD i c0 = asC (l.getD i c0) := by
  simp [List.getD, h]
theorem badN_as {l : List Col} {i : Nat} (h : i < l.length) : badN (l.map asC) i ↔ badN l i := by
  unfold badN; rw [getD_as l i h, atS_as]; exact Iff.rfl
theorem colsG_as (l : List Col) : ∀ (n i : Nat), l.length - i ≤ n → colsG (l.map asC) i = colsG l i := by
  intro n
  induction n with
  | zero => intro i hn; rw [cg_over (l := l) (by omega), cg_over (by simp; omega)]
  | succ n ih =>
    intro i hn
    by_cases h : i < l.length
    · have h' : i < (l.map asC).length := by simpa using h
      have hb := badN_as h
      by_cases h1 : badN l i
      · rw [cg_name h h1, cg_name h' (hb.2 h1)]
      by_cases h2 : badK (l.getD i c0).kind
      · rw [cg_kind h h1 h2, cg_kind h' (fun x => h1 (hb.1 x)) (by rw [getD_as l i h]; exact h2)]
      · rw [cg_next h h1 h2, cg_next h' (fun x => h1 (hb.1 x)) (by rw [getD_as l i h]; exact h2)]
        exact ih (i + 1) (by omega)
    · rw [cg_over h, cg_over (by simp; omega)]
theorem colsS_as (l : List Col) : colsS (l.map asC) = colsS l := by
  unfold colsS; rw [colsG_as l l.length 0 (by omega), List.length_map]
theorem col_ok {l : List CoO} {k : Bool} (h : colE l k = 0) : colsS (colsO l) = 0 ∧ l.length ≠ 0 ∧ l.length ≤ 6 := by
  unfold colE at h
  split at h
  · rename_i hh; exact absurd h hh
  rename_i hh
  have hh : colsS (colsO l) = 0 := by simpa using hh
  split at h
  · cases h
  rename_i h2
  refine ⟨hh, fun h3 => h2 (.inr h3), ?_⟩
  unfold colsS at hh
  split at hh
  · cases hh
  · rename_i h4; simp only [colsO, List.length_map] at h4; omega
theorem col_as {l : List CoO} {k : Bool} (h : colE l k = 0) : colE (l.map asO) false = 0 := by
  obtain ⟨h1, h2, _⟩ := col_ok h
  unfold colE
  rw [colsO_as, colsS_as, if_neg (by rw [h1]; decide), if_neg]
  rintro (h3 | h3)
  · have : (l.map asO).all (ordOk false) = true := by
      rw [List.all_eq_true]
      intro q hq
      obtain ⟨y, _, rfl⟩ := List.mem_map.1 hq
      rfl
    rw [this] at h3; cases h3
  · rw [List.length_map] at h3; exact h2 h3
theorem frame_inv {t : Tab} (h : frameE t = 0) : nameOk t.name = true ∧ colE t.ins false = 0 ∧ colE t.outs (decide (t.pol = 3)) = 0 ∧ polOk t = true ∧ t.rules.length ≤ 24 := by
  unfold frameE at h
  split at h
  · cases h
  rename_i h1
  split at h
  · rename_i h2; exact absurd h h2
  rename_i h2
  split at h
  · rename_i h3; exact absurd h h3
  rename_i h3
  split at h
  · cases h
  rename_i h4
  split at h
  · cases h
  rename_i h5
  exact ⟨by simpa using h1, by simpa using h2, by simpa using h3, by simpa using h4, by omega⟩
theorem frame_as {t : Tab} {p : Int} (h : frameE t = 0) (h1 : 1 ≤ p) (h6 : p ≤ 6) (h3 : p ≠ 3) : frameE (asT t p) = 0 := by
  obtain ⟨f1, f2, f3, _, f5⟩ := frame_inv h
  unfold frameE
  rw [show (asT t p).name = t.name from rfl, show (asT t p).ins = t.ins from rfl, show (asT t p).outs = t.outs.map asO from rfl, show (asT t p).pol = p from rfl, show (asT t p).rules = t.rules from rfl,
    if_neg (by rw [f1]; decide), if_neg (by rw [f2]; decide), decide_eq_false h3, if_neg (by rw [col_as f3]; decide), if_neg, if_neg (by omega)]
  have : polOk (asT t p) = true := by
    unfold polOk
    rw [show (asT t p).pol = p from rfl, show (asT t p).agg = 0 from rfl, if_neg (by omega), if_pos rfl]
  rw [this]; decide
theorem kind_as (l : List CoO) (k : Nat) : ((l.map asO).getD k co0).1.kind = (l.getD k co0).1.kind := by
  by_cases h : k < l.length
  · simp [List.getD, h, asO, asC]
  · simp [List.getD, h]
theorem line_as (t : Tab) (p : Int) (r : List (List UInt8) × List (List UInt8)) : lineE (asT t p) r = lineE t r := by
  unfold lineE
  have e : (fun k => outE (asT t p) k (r.2.getD k [])) = fun k => outE t k (r.2.getD k []) := by
    funext k
    unfold outE
    rw [show (asT t p).outs = t.outs.map asO from rfl, kind_as]; rfl
  rw [e, show (asT t p).outs.length = t.outs.length from List.length_map ..]; rfl
theorem make_as {t : Tab} {p : Int} (h : makeE t = 0) (h1 : 1 ≤ p) (h6 : p ≤ 6) (h3 : p ≠ 3) : makeE (asT t p) = 0 := by
  unfold makeE at h ⊢
  split at h
  · rename_i hh; exact absurd h hh
  rename_i hh
  rw [if_neg (by rw [frame_as (by simpa using hh) h1 h6 h3]; decide)]
  have e : (fun i => lineE (asT t p) ((asT t p).rules.getD i ru0)) = fun i => lineE t (t.rules.getD i ru0) := by
    funext i; rw [line_as]; rfl
  rw [e]; exact h
theorem make_inv {t : Tab} (h : makeE t = 0) : frameE t = 0 ∧ ∀ r ∈ t.rules, lineE t r = 0 := by
  unfold makeE at h
  split at h
  · rename_i hh; exact absurd h hh
  rename_i hh
  refine ⟨by simpa using hh, fun r hr => ?_⟩
  obtain ⟨i, hi, rfl⟩ := List.mem_iff_getElem.1 hr
  have := fir_inv h i hi
  simpa [List.getD, hi] using this
theorem line_inv {t : Tab} {r : List (List UInt8) × List (List UInt8)} (h : lineE t r = 0) : r.1.length = t.ins.length ∧ r.2.length = t.outs.length ∧ (∀ s ∈ r.1, (parseC s).2.2 = 0) ∧ ∀ s ∈ r.2, (parseT s).2.2 = 0 := by
  unfold lineE at h
  split at h
  · cases h
  rename_i h1
  split at h
  · rename_i h2; exact absurd h h2
  rename_i h2
  have h2 : firstE (fun k => cellE t k (r.1.getD k [])) r.1.length = 0 := by simpa using h2
  refine ⟨by omega, by omega, fun s hs => ?_, fun s hs => ?_⟩
  · obtain ⟨i, hi, rfl⟩ := List.mem_iff_getElem.1 hs
    have := fir_inv h2 i hi
    simp only [List.getD, hi, List.getElem?_eq_getElem, Option.getD_some] at this
    unfold cellE at this
    split at this
    · rename_i hh; exact absurd this hh
    · rename_i hh; simpa using hh
  · obtain ⟨i, hi, rfl⟩ := List.mem_iff_getElem.1 hs
    have := fir_inv h i hi
    simp only [List.getD, hi, List.getElem?_eq_getElem, Option.getD_some] at this
    unfold outE at this
    split at this
    · rename_i hh; exact absurd this hh
    · rename_i hh; simpa using hh
def N21 {α : Type} (r : Except Int α) : Prop := ∀ e, r = .error e → e ≠ 21
theorem n21_ok {α : Type} (v : α) : N21 (.ok v : Except Int α) := fun e h => by cases h
theorem n21_er {α : Type} {x : Int} (hx : x ≠ 21) : N21 (.error x : Except Int α) := fun e h => by cases h; exact hx
theorem n21_of (k : Int) : ∀ (l : List Val) (b : Bool), N21 (ofG k l b)
  | [], b => n21_ok b
  | v :: l, b => by
    rw [ofG]
    split
    · exact n21_of k l b
    split
    · exact n21_of k l true
    · exact n21_er (by decide)
theorem n21_num (r : Int × Int) (h : r.2 ≠ 21) : N21 (numR r) := by
  unfold numR; split
  · exact n21_ok _
  · exact n21_er h
theorem ovr_21 (n : Int) : (ovr n).2 ≠ 21 := by unfold ovr; split <;> simp
theorem divR_21 (a b : Int) : (divR a b).2 ≠ 21 := by
  unfold divR; split
  · simp
  · exact ovr_21 _
theorem n21_name (s : List UInt8) : ∀ (l : List Col) (r : List Val), N21 (nameG s l r)
  | c :: l, v :: r => by
    rw [nameG]; split
    · exact n21_ok _
    · exact n21_name s l r
  | [], _ => by simp only [nameG]; exact n21_er (by decide)
  | _ :: _, [] => by simp only [nameG]; exact n21_er (by decide)
theorem n21_sums (op : Int) (a b : Val) : N21 (sumsE op a b) := by
  unfold sumsE
  have := n21_of (sumK op a b) [a, b] false
  split
  · rename_i x h; exact n21_er (this x h)
  · exact n21_ok _
  · split
    · unfold joinE; split
      · exact n21_er (by decide)
      · exact n21_ok _
    · unfold reckE
      refine n21_num _ ?_
      unfold reckR
      split
      · exact ovr_21 _
      split
      · exact ovr_21 _
      split
      · exact ovr_21 _
      · exact divR_21 _ _
theorem n21_trus (op : Int) (a b : Val) : N21 (trusE op a b) := by
  unfold trusE
  have := n21_of 3 [a, b] false
  split
  · rename_i x h; exact n21_er (this x h)
  · split
    · exact n21_ok _
    split
    · exact n21_ok _
    · exact n21_ok _
theorem n21_cmp (op : Int) (a b : Val) : N21 (cmpE op a b) := by
  unfold cmpE
  have := n21_of (kinK a b) [a, b] false
  split
  · rename_i x h; exact n21_er (this x h)
  · split
    · exact n21_ok _
    split
    · exact n21_ok _
    split
    · exact n21_er (by decide)
    split
    · exact n21_ok _
    split
    · exact n21_ok _
    split
    · exact n21_ok _
    split
    · exact n21_ok _
    · exact n21_ok _
theorem n21_evX (l : List Col) (row : List Val) : ∀ (k : Nat) (x : Ex), N21 (evX l row k x)
  | 0, x => by rw [evX]; exact n21_er (by decide)
  | k + 1, x => by
    have ih := n21_evX l row k
    rw [evX]
    split
    · exact n21_ok _
    split
    · exact n21_name _ _ _
    split
    · rename_i e h; exact n21_er (ih _ e h)
    split
    · split
      · rename_i e h; exact n21_er (n21_of _ _ _ e h)
      · exact n21_ok _
      · exact n21_num _ (ovr_21 _)
    split
    · split
      · rename_i e h; exact n21_er (n21_of _ _ _ e h)
      · split
        · exact ih _
        · exact ih _
    split
    · rename_i e h; exact n21_er (ih _ e h)
    split
    · exact n21_sums _ _ _
    split
    · exact n21_trus _ _ _
    · exact n21_cmp _ _ _
theorem evalS_21 (l : List Col) (row : List Val) (x : Ex) : (evalS l row x).2 ≠ 21 := by
  unfold evalS
  split
  · split
    · simp
    · rename_i e h; exact n21_evX _ _ _ _ e h
  · simp
theorem told_21 (col : List Col) (row : List Val) : ∀ l, (toldL col row l).2 ≠ 21
  | [] => by simp [toldL]
  | x :: l => by
    rw [toldL]
    split
    · exact evalS_21 _ _ _
    · exact told_21 col row l
theorem ask_21 (t : Tst) (v : Val) (col : List Col) (row : List Val) : (askT t v col row).2 ≠ 21 := by
  unfold askT
  split
  · exact told_21 _ _ _
  split <;> simp
theorem hold_21 (any neg : Bool) (v : Val) (col : List Col) (row : List Val) : ∀ l, (holdL any neg v col row l).2 ≠ 21
  | [] => by simp [holdL]
  | t :: l => by
    rw [holdL]
    split
    · exact ask_21 _ _ _ _
    split
    · simp
    · exact hold_21 any neg v col row l
theorem holds_21 (c : Cel) (v : Val) (col : List Col) (row : List Val) : (holdsC c v col row).2 ≠ 21 := by
  unfold holdsC
  split
  · exact hold_21 _ _ _ _ _ _
  · simp
theorem all_21 {f : Nat → Bool × Int} (hf : ∀ i, (f i).2 ≠ 21) : ∀ n, (allS f n).2 ≠ 21
  | 0 => by simp [allS]
  | n + 1 => by
    rw [allS]
    split
    · exact all_21 hf n
    split
    · simp
    · exact hf n
theorem rule_21 (r : Rdy) (row : List Val) (i : Nat) : (ruleS r row i).2 ≠ 21 := all_21 (fun k => holds_21 _ _ _ _) _
structure Mo (r s : Rdy) (l : Lin) : Prop where
  i : s.t.ins = r.t.ins
  p : s.t.pol = r.t.pol
  l : s.ls = r.ls ++ [l]
theorem Mo.get {r s : Rdy} {l : Lin} (h : Mo r s l) {i : Nat} (hi : i < r.ls.length) : s.ls.getD i lin0 = r.ls.getD i lin0 := by
  rw [h.l]; simp [List.getD, hi, List.getElem?_append_left]
theorem Mo.len {r s : Rdy} {l : Lin} (h : Mo r s l) : s.ls.length = r.ls.length + 1 := by rw [h.l]; simp
theorem Mo.inp {r s : Rdy} {l : Lin} (h : Mo r s l) (row : List Val) : inputE s row = inputE r row := by
  have e : (row.length = s.t.ins.length ∧ ∀ i, i < row.length → inG s row i) ↔ (row.length = r.t.ins.length ∧ ∀ i, i < row.length → inG r row i) := by
    unfold inG; rw [h.i]
  unfold inputE
  by_cases hh : row.length = r.t.ins.length ∧ ∀ i, i < row.length → inG r row i
  · rw [if_pos hh, if_pos (e.2 hh)]
  · rw [if_neg hh, if_neg (fun x => hh (e.1 x))]
theorem Mo.rule {r s : Rdy} {l : Lin} (h : Mo r s l) (row : List Val) {i : Nat} (hi : i < r.ls.length) : ruleS s row i = ruleS r row i := by
  unfold ruleS cellH; rw [h.get hi, h.i]
theorem Mo.tell {r s : Rdy} {l : Lin} (h : Mo r s l) (row : List Val) {i : Nat} (hi : i < r.ls.length) : tellE s row i = tellE r row i ∧ tellV s row i = tellV r row i := by
  unfold tellE tellV; rw [h.get hi, h.i]; exact ⟨rfl, rfl⟩
theorem fst_cases (p : Nat → Bool) : ∀ n, (∀ j, j < n → p j = false) ∨ ∃ k, k < n ∧ p k = true ∧ ∀ j, j < k → p j = false
  | 0 => .inl fun j hj => absurd hj (Nat.not_lt_zero j)
  | n + 1 => by
    rcases fst_cases p n with h | ⟨k, h1, h2, h3⟩
    · cases hp : p n
      · refine .inl fun j hj => ?_
        by_cases hjn : j = n
        · rw [hjn]; exact hp
        · exact h j (by omega)
      · exact .inr ⟨n, by omega, hp, h⟩
    · exact .inr ⟨k, by omega, h2, h3⟩
theorem stop_congr {pol : Int} {f g : Nat → Bool × Int} {j : Nat} (h : f j = g j) : stopR pol f j = stopR pol g j := by unfold stopR; rw [h]
theorem held_congr {f g : Nat → Bool × Int} {n : Nat} (h : ∀ j, j < n → g j = f j) : heldR g n = heldR f n := by
  unfold heldR
  refine List.filter_congr fun x hx => ?_
  rw [h x (List.mem_range.1 hx)]
theorem rules_mo {pol : Int} {f g : Nat → Bool × Int} {n : Nat} (h : ∀ j, j < n → g j = f j) :
    (rulesS pol g (n + 1) = rulesS pol f n ∧ (rulesS pol f n).2.2 = (rulesS pol g (n + 1)).2.2) ∨
    ((∀ j, j < n → stopR pol f j = false) ∧ rulesS pol f n = (heldR f n, 0, 0) ∧ ((g n).2 ≠ 0 ∧ rulesS pol g (n + 1) = ([], n, (g n).2) ∨ (g n).2 = 0 ∧ (g n).1 = true ∧ pol = 2 ∧ rulesS pol g (n + 1) = ([n], 0, 0) ∨ (g n).2 = 0 ∧ (g n).1 = true ∧ rulesS pol g (n + 1) = (heldR f n ++ [n], 0, 0))) := by
  rcases fst_cases (stopR pol f) n with h1 | ⟨k, h1, h2, h3⟩
  · have hn := rules_none (pol := pol) h1
    have hz : ∀ j, j < n → stopR pol g j = false := fun j hj => by rw [stop_congr (h j hj)]; exact h1 j hj
    cases hs : stopR pol g n
    · have hz' : ∀ j, j < n + 1 → stopR pol g j = false := fun j hj => by
        by_cases hjn : j = n
        · rw [hjn]; exact hs
        · exact hz j (by omega)
      have e := rules_none (pol := pol) hz'
      rw [held_snoc, held_congr h] at e
      have h0 : (g n).2 = 0 := by
        unfold stopR at hs; simp at hs; exact hs.1
      cases hg : (g n).1
      · rw [hg] at e
        exact .inl ⟨by rw [e, hn]; rfl, by rw [e, hn]⟩
      · rw [hg] at e
        exact .inr ⟨h1, hn, .inr (.inr ⟨h0, rfl, e⟩)⟩
    · have e := rules_some hz hs (Nat.lt_succ_self n)
      refine .inr ⟨h1, hn, ?_⟩
      by_cases h0 : (g n).2 = 0
      · rw [if_neg (fun hh => hh h0)] at e
        unfold stopR at hs
        simp [h0] at hs
        exact .inr (.inl ⟨h0, hs.1, hs.2, e⟩)
      · rw [if_pos h0] at e
        exact .inl ⟨h0, e⟩
  · have e1 := rules_some h3 h2 h1
    have e2 := rules_some (pol := pol) (f := g) (n := n + 1) (k := k) (fun j hj => by rw [stop_congr (h j (by omega))]; exact h3 j hj) (by rw [stop_congr (h k h1)]; exact h2) (by omega)
    rw [h k h1] at e2
    exact .inl ⟨by rw [e1, e2], by rw [e1, e2]⟩
theorem rulesS_21 {pol : Int} {f : Nat → Bool × Int} (hf : ∀ i, (f i).2 ≠ 21) (n : Nat) : (rulesS pol f n).2.2 ≠ 21 := by
  unfold rulesS
  split
  · simp
  · split
    · exact hf _
    · simp
theorem decS_2 (ch : List Nat → List (List Val) → Outc) (r : Rdy) (row : List Val) : (decS ch r row).2 = inputE r row := by
  have hi : inputE r row = 0 ∨ inputE r row = 21 := by unfold inputE; split <;> simp
  unfold decS
  by_cases h : inputE r row = 0
  · have h21 : (rulesR r row).2.2 ≠ 21 := by
      unfold rulesR; rw [if_neg (fun hh => hh h)]
      exact rulesS_21 (rule_21 r row) _
    rw [if_neg h21, h]
    split
    · rfl
    split <;> rfl
  · have : (rulesR r row).2.2 = 21 := by unfold rulesR; rw [if_pos h]; rcases hi with hi | hi; exact absurd hi h; exact hi
    rw [if_pos this]; rcases hi with hi | hi; exact absurd hi h; exact hi.symm
theorem tolds_mo {r s : Rdy} {l : Lin} (h : Mo r s l) (row : List Val) {rules : List Nat} (hr : ∀ i ∈ rules, i < r.ls.length) (ch : List Nat → List (List Val) → Outc) : tolds s row rules ch = tolds r row rules ch := by
  have e1 : rules.find? (badT s row) = rules.find? (badT r row) := by
    induction rules with
    | nil => rfl
    | cons a rs ih =>
      rw [List.find?_cons, List.find?_cons, ih fun i hi => hr i (List.mem_cons_of_mem _ hi)]
      have : badT s row a = badT r row a := by unfold badT; rw [(h.tell row (hr a List.mem_cons_self)).1]
      rw [this]
  have e2 : rules.map (tellV s row) = rules.map (tellV r row) := List.map_congr_left fun i hi => (h.tell row (hr i hi)).2
  unfold tolds
  rw [e1, e2]
  split
  · rename_i i hi; rw [(h.tell row (hr i (List.mem_of_find?_eq_some hi))).1]
  · rfl
theorem choose_mo {r s : Rdy} {l : Lin} (h : Mo r s l) : chooseS s.t = chooseS r.t := by
  funext a b; unfold chooseS; rw [h.p]
theorem Mo.ru {r s : Rdy} {l : Lin} (h : Mo r s l) (row : List Val) : (inputE r row = 0 → rulesR r row = rulesS r.t.pol (ruleS r row) r.ls.length ∧ rulesR s row = rulesS r.t.pol (ruleS s row) (r.ls.length + 1)) ∧
    (inputE r row ≠ 0 → rulesR s row = rulesR r row ∧ (rulesR r row).1 = []) := by
  refine ⟨fun hi => ⟨?_, ?_⟩, fun hi => ?_⟩
  · unfold rulesR; rw [if_neg (fun hh => hh hi)]
  · unfold rulesR; rw [h.inp, if_neg (fun hh => hh hi), h.p, h.len]
  · unfold rulesR; rw [h.inp, if_pos hi, if_pos hi]; exact ⟨rfl, rfl⟩
theorem Mo.dec {r s : Rdy} {l : Lin} (h : Mo r s l) (row : List Val) (e : rulesR s row = rulesR r row) (hlt : ∀ i ∈ (rulesR r row).1, i < r.ls.length) : decS (chooseS s.t) s row = decS (chooseS r.t) r row := by
  unfold decS
  rw [e, choose_mo h, h.p, tolds_mo h row hlt]
theorem first_mo {r s : Rdy} {l : Lin} (h : Mo r s l) (hp : r.t.pol = 2) (row : List Val) (hx : (decS (chooseS r.t) r row).1.rules ≠ []) : decS (chooseS s.t) s row = decS (chooseS r.t) r row := by
  have hlt := @rules_lt r.t.pol (ruleS r row) r.ls.length
  have hmo := rules_mo (pol := r.t.pol) (f := ruleS r row) (g := ruleS s row) (fun j hj => h.rule row hj)
  obtain ⟨r1, r2⟩ := h.ru row
  by_cases hin : inputE r row = 0
  · obtain ⟨r1, r3⟩ := r1 hin
    rcases hmo with ⟨e, _⟩ | ⟨hz, e, _⟩
    · exact h.dec row (by rw [r1, r3, e]) (by rw [r1]; exact hlt)
    · exfalso; apply hx
      rw [held_none hp hz] at e
      rw [e] at r1
      unfold decS
      rw [r1, if_neg (by decide), if_neg (by decide), if_neg (by simp)]
      unfold tolds
      simp only [List.find?_nil, List.map_nil]
      unfold chooseS oneO
      rw [if_neg (by omega), if_neg (by omega), if_pos rfl]; rfl
  · exact h.dec row (r2 hin).1 (by rw [(r2 hin).2]; intro i hi; cases hi)
theorem rule_mo {r s : Rdy} {l : Lin} (h : Mo r s l) (hp : r.t.pol = 6) (row : List Val) (hx : (decS (chooseS r.t) r row).1.err = 0) (hy : (decS (chooseS s.t) s row).1.err = 0) :
    ∃ m, (decS (chooseS s.t) s row).1.rows = (decS (chooseS r.t) r row).1.rows ++ m ∧ m.length ≤ 1 := by
  have hlt := @rules_lt r.t.pol (ruleS r row) r.ls.length
  have hmo := rules_mo (pol := r.t.pol) (f := ruleS r row) (g := ruleS s row) (fun j hj => h.rule row hj)
  obtain ⟨r1, r2⟩ := h.ru row
  by_cases hin : inputE r row = 0
  · obtain ⟨r1, r3⟩ := r1 hin
    rcases hmo with ⟨e, _⟩ | ⟨hz, e, hc⟩
    · rw [h.dec row (by rw [r1, r3, e]) (by rw [r1]; exact hlt)]
      exact ⟨[], by simp, by simp⟩
    · rw [e] at hlt r1
      have hch : ∀ a b, chooseS r.t a b = ⟨0, ints a, b⟩ := fun a b => by unfold chooseS; rw [if_neg (by omega), if_pos hp]
      have d1 : decS (chooseS r.t) r row = (tolds s row (heldR (ruleS r row) r.ls.length) (chooseS r.t), 0) := by
        unfold decS; rw [r1, if_neg (by simp), if_neg (by simp), if_neg (by omega), tolds_mo h row hlt]
      rw [d1] at hx ⊢
      rw [choose_mo h] at hy ⊢
      rcases hc with ⟨hc, ec⟩ | ⟨_, _, h2, _⟩ | ⟨_, _, ec⟩
      · have d2 : decS (chooseS r.t) s row = (⟨(ruleS s row r.ls.length).2, [(r.ls.length : Int)], []⟩, 0) := by
          unfold decS; rw [r3, ec, if_neg (rule_21 s row _), if_pos hc]
        rw [d2] at hy; exact absurd hy hc
      · omega
      · have d2 : decS (chooseS r.t) s row = (tolds s row (heldR (ruleS r row) r.ls.length ++ [r.ls.length]) (chooseS r.t), 0) := by
          unfold decS; rw [r3, ec, if_neg (by simp), if_neg (by simp), h.p, if_neg (by omega)]
        rw [d2] at hy ⊢
        clear d1 d2 ec r1 r3 e
        generalize heldR (ruleS r row) r.ls.length = q at *
        unfold tolds at hx hy ⊢
        rw [List.find?_append] at hy ⊢
        cases h1 : q.find? (badT s row) with
        | some i =>
          rw [h1] at hx
          have := List.find?_some h1
          exact absurd hx (of_decide_eq_true this)
        | none =>
          rw [h1] at hy
          cases h2 : [r.ls.length].find? (badT s row) with
          | some i =>
            rw [h2] at hy
            have := List.find?_some h2
            exact absurd hy (of_decide_eq_true this)
          | none =>
            simp only [Option.none_or, hch, List.map_append]
            exact ⟨_, rfl, by simp⟩
  · rw [h.dec row (r2 hin).1 (by rw [(r2 hin).2]; intro i hi; cases hi)]
    exact ⟨[], by simp, by simp⟩
def lon (t : Tab) (m : List (List UInt8) × List (List UInt8)) : Tab := ⟨t.name, t.ins, t.outs, t.pol, t.agg, t.rules ++ [m]⟩
theorem lon_mo (t : Tab) (m : List (List UInt8) × List (List UInt8)) (p : Int) : Mo (makeV (asT t p)) (makeV (asT (lon t m) p)) (lineV m) :=
  ⟨rfl, rfl, by simp [makeV, asT, lon]⟩
end Go.Proofs.YtkkbnjomcgnkpaaGreat
set_option maxRecDepth 100000
namespace Go.Proofs.YtkkbnjomcgnkpaaGreat
open Go Go.Dx Go.RowKit
def ordF (p : CoO) : Bool := decide (p.2.length ≤ 12) && p.2.all fun v => decide (v.s.length ≤ 300)
def ordFew (l : List CoO) : Bool := fewS (colsO l) && l.all ordF
def txFew (l : List (List UInt8)) : Bool := decide (l.length ≤ 10) && l.all fun s => decide (s.length ≤ 300)
def ruFew (r : List (List UInt8) × List (List UInt8)) : Bool := txFew r.1 && txFew r.2
def smallT (t : Tab) : Bool := decide (t.name.length ≤ 300) && (decide (t.rules.length ≤ 26) && (ordFew t.ins && (ordFew t.outs && t.rules.all ruFew)))
theorem c_texts18 (l : List (List UInt8)) (a : AC) (w0 : World) (h0 : View) (hv : VLe h0 (Full w0)) (hl : TxL h0 a l) :
    Calls Tryz.prog 27 #[.slice a.1 l.length a.2] w0 (Ret w0 h0 fun u _ => u = .bool (txFew l)) := by
  have hl : SlC 9 1 (flatR fun s => [vs s]) h0 (.slice a.1 l.length a.2) l := hl
  have hlm := slc_lm hl
  refine ent (args := [.slice a.1 l.length a.2]) TT_ok [] [] Tryz.func27 rfl Tryz.ntmps27 rfl rfl hv ?_
  refine cnd (fun h => ?_) (fun h => ?_)
  · exact congrArg Value.bool (by rw [txFew, decide_eq_false (by omega), Bool.false_and])
  refine w_loop TT_ok (fun k : Nat => [(3, .v (.int .i64 k))]) 0 (fun k => k ≤ l.length ∧ ∀ j, j < k → (l.getD j []).length ≤ 300) (fun k => l.length - k) ?_
  refine And.intro ⟨⟨Nat.zero_le _, fun j hj => absurd hj (Nat.not_lt_zero j)⟩, gs⟩ ?_
  intro k ⟨hk, hn⟩
  refine cnd (fun h1 => ?_) (fun h1 => ?_)
  · refine ixs hl k [] ?_
    refine cnd (fun h2 => ?_) (fun h2 => ?_)
    · exact congrArg Value.bool (by rw [txFew, all_not [] (k := k) (p := fun s => decide (s.length ≤ 300)) (by omega) (by simp only [decide_eq_false_iff_not]; omega), Bool.and_false])
    · refine wi ?_
      exact ⟨k + 1, ⟨⟨by omega, upto_snoc hn (by omega)⟩, by omega⟩, gs⟩
  · exact congrArg Value.bool (by rw [txFew, all_upto [] (p := fun s => decide (s.length ≤ 300)) (fun j hj => decide_eq_true (hn j (by omega))), Bool.and_true, decide_eq_true (by omega)])
set_option maxHeartbeats 1000000 in
theorem c_order18 (l : List CoO) (a : AC) (w0 : World) (h0 : View) (hv : VLe h0 (Full w0)) (hl : CoL h0 a l) :
    Calls Tryz.prog 26 #[.slice a.1 (colsO l).length a.2] w0 (Ret w0 h0 fun u _ => u = .bool (ordFew l)) := by
  obtain ⟨hsl, hor⟩ := hl
  have hlm := slc_lm hsl
  have hcl := cols_len l
  refine ent (args := [.slice a.1 (colsO l).length a.2]) TT_ok [] [] Tryz.func26 rfl Tryz.ntmps26 rfl rfl hv ?_
  refine cb (fun w hw => c_Few a.1 a.2 (colsO l) w h0 hw hsl) ?_
  refine cnd (fun h => ?_) (fun h => ?_)
  · exact congrArg Value.bool (by rw [ordFew, h, Bool.false_and])
  have hfew : fewS (colsO l) = true := by simpa using h
  have hbad : ∀ k, k < l.length → ordF (l.getD k co0) = false → ordFew l = false := fun k hk h => by rw [ordFew, all_not co0 hk h, Bool.and_false]
  refine w_loop TT_ok (fun k : Nat => [(3, .v (.int .i64 k))]) 0 (fun k => k ≤ l.length ∧ ∀ j, j < k → ordF (l.getD j co0) = true) (fun k => l.length - k) ?_
  refine And.intro ⟨⟨Nat.zero_le _, fun j hj => absurd hj (Nat.not_lt_zero j)⟩, gs⟩ ?_
  intro k ⟨hk, hn⟩
  refine cnd (fun h1 => ?_) (fun h1 => ?_)
  · have hkl : k < l.length := by omega
    have hg := cols_get l k hkl
    have hok := hor _ (getD_mem l k co0 hkl)
    have hbk := hbad k hkl
    obtain ⟨p, hp⟩ : ∃ p, l.getD k co0 = p := ⟨_, rfl⟩
    rw [hp] at hg hok hbk
    obtain ⟨⟨nm, kd, oa, on, oc⟩, o⟩ := p
    obtain ⟨hon, hos, hov⟩ := hok
    dsimp only at hon hos hov hg
    subst hon
    have hom := slc_lm hos
    refine ixs hsl k c0 ?_ (by omega)
    rw [hg]
    refine cnd (fun h2 => ?_) (fun h2 => ?_)
    · rw [hbk (by rw [ordF, decide_eq_false (by dsimp only at h2 ⊢; omega), Bool.false_and])]; exact rfl
    refine w_loop TT_ok (fun m : Nat => [(4, .v (.int .i64 m))]) 0 (fun m => m ≤ o.length ∧ ∀ j, j < m → (o.getD j v0).s.length ≤ 300) (fun m => o.length - m) ?_
    refine And.intro ⟨⟨Nat.zero_le _, fun j hj => absurd hj (Nat.not_lt_zero j)⟩, gs⟩ ?_
    intro m ⟨hm, hmn⟩
    refine ixs hsl k c0 ?_ (by omega)
    rw [hg]
    refine cnd (fun h3 => ?_) (fun h3 => ?_)
    · have hmo : m < o.length := by dsimp only at h3; omega
      refine ixs hsl k c0 ?_ (by omega)
      rw [hg]
      refine ixs hos m v0 ?_ (by omega)
      refine cnd (fun h4 => ?_) (fun h4 => ?_)
      · rw [hbk (by rw [ordF, all_not v0 (k := m) (p := fun v => decide (v.s.length ≤ 300)) hmo (by simp only [decide_eq_false_iff_not]; omega), Bool.and_false])]; exact rfl
      · refine wi ?_
        exact ⟨m + 1, ⟨⟨by omega, upto_snoc hmn (by omega)⟩, by omega⟩, gs⟩
    · refine wi ?_
      refine ⟨k + 1, ⟨⟨by omega, upto_snoc hn ?_⟩, by omega⟩, gs⟩
      rw [hp, ordF, all_upto v0 (p := fun v => decide (v.s.length ≤ 300)) (fun j hj => decide_eq_true (hmn j (by dsimp only at h3 hj ⊢; omega))), Bool.and_true]
      exact decide_eq_true (by dsimp only at h2 ⊢; omega)
  · exact congrArg Value.bool (by rw [ordFew, hfew, all_upto co0 (fun j hj => hn j (by omega)), Bool.and_true])
set_option maxHeartbeats 2000000 in
theorem c_TSmall (t : Tab) (a : TA) (w0 : World) (h0 : View) (hv : VLe h0 (Full w0)) (hc : TabH h0 t a) :
    Calls Tryz.prog 8 #[.agg (tabC t a).toArray] w0 (Ret w0 h0 fun u _ => u = .bool (smallT t)) := by
  have hlm := hc.r.lm
  have e0 : smallT t = (decide (t.name.length ≤ 300) && (decide (t.rules.length ≤ 26) && (ordFew t.ins && (ordFew t.outs && t.rules.all ruFew)))) := rfl
  rw [e0]; clear e0
  refine ent (args := [.agg (tabC t a).toArray]) TT_ok [] [] Tryz.func8 rfl Tryz.ntmps8 rfl rfl hv ?_
  intro b1
  refine cbg (fun _ w hw => c_order18 t.ins a.i w h0 hw hc.i) ?_
  refine cbg (fun _ w hw => c_order18 t.outs a.o w h0 hw hc.o) ?_
  generalize ordFew t.ins = o1
  generalize ordFew t.outs = o2
  refine cnd (fun h => ?_) (fun h => ?_)
  · refine congrArg Value.bool ?_
    rcases h with ((h | h) | h) | h
    · rw [decide_eq_false (by omega), Bool.false_and]
    · rw [decide_eq_false (p := t.rules.length ≤ 26) (by omega), Bool.false_and, Bool.and_false]
    · rw [h]; simp
    · rw [h]; simp
  have h4 : o2 = true := by have := h.2; simpa using this
  have h3 : o1 = true := by have := h.1.2; simpa using this
  have h2 : t.rules.length ≤ 26 := by have := h.1.1.2; omega
  have h1 : t.name.length ≤ 300 := by have := h.1.1.1; omega
  rw [h4, h3, decide_eq_true h2, decide_eq_true h1, Bool.true_and, Bool.true_and, Bool.true_and, Bool.true_and]
  clear h
  refine w_loop TT_ok (fun k : Nat => [(3, .v (.int .i64 k))]) 0 (fun k => k ≤ t.rules.length ∧ ∀ j, j < k → ruFew (t.rules.getD j ru0) = true) (fun k => t.rules.length - k) ?_
  refine And.intro ⟨⟨Nat.zero_le _, fun j hj => absurd hj (Nat.not_lt_zero j)⟩, gs⟩ ?_
  intro k ⟨hk, hn⟩
  refine cnd (fun h1 => ?_) (fun h1 => ?_)
  · have hkl : k < t.rules.length := by omega
    have hbk : ruFew (t.rules.getD k ru0) = false → t.rules.all ruFew = false := fun h => all_not ru0 hkl h
    have hnk : ruFew (t.rules.getD k ru0) = true → ∀ j, j < k + 1 → ruFew (t.rules.getD j ru0) = true := fun h => upto_snoc hn h
    refine ixL (R := RuR) hc.r k ru0 (fun cs hcs => ?_)
    generalize hr : t.rules.getD k ru0 = r at hcs hbk hnk
    obtain ⟨pa, pb, rfl, g1, g2⟩ := hcs
    refine cb (fun w hw => c_texts18 r.1 pa w h0 hw g1) ?_
    refine ixLg (R := RuR) hc.r k ru0 hkl (fun cs hcs => ?_)
    rw [hr] at hcs
    obtain ⟨qa, qb, rfl, g3, g4⟩ := hcs
    refine kg1 ?_
    refine cbg (fun _ w hw => c_texts18 _ qb w h0 hw g4) ?_
    refine cnd (fun h2 => ?_) (fun h2 => ?_)
    · rw [hbk (by
        rw [ruFew]
        rcases h2 with h2 | h2
        · have h2 : txFew r.1 = false := by simpa using h2
          rw [h2, Bool.false_and]
        · have h2 : txFew r.2 = false := by simpa using h2
          rw [h2, Bool.and_false])]
      exact rfl
    · refine wi ?_
      refine ⟨k + 1, ⟨⟨by omega, hnk ?_⟩, by omega⟩, gs⟩
      rw [ruFew, Bool.and_eq_true]
      exact ⟨by simpa using h2.1, by simpa using h2.2⟩
  · rw [all_upto ru0 (fun j hj => hn j (by omega))]; exact rfl
end Go.Proofs.YtkkbnjomcgnkpaaGreat
set_option maxRecDepth 100000
namespace Go.Proofs.YtkkbnjomcgnkpaaGreat
open Go Go.Dx Go.RowKit
def asI (l : List Col) (i : Nat) : List Col := (l.take i).map asC ++ l.drop i
theorem asI_len (l : List Col) (i : Nat) : (asI l i).length = l.length := by simp [asI]; omega
theorem asI_get (l : List Col) (i : Nat) (h : i < l.length) : (asI l i).getD i c0 = l.getD i c0 := by
  have e : (List.map asC (List.take i l)).length = i := by simp; omega
  unfold asI
  rw [List.getD, List.getElem?_append_right (by omega), e, Nat.sub_self, List.getElem?_drop]
  simp [List.getD, h]
theorem asI_set (l : List Col) (i : Nat) (h : i < l.length) : (asI l i).set i (asC (l.getD i c0)) = asI l (i + 1) := by
  have e : (List.map asC (List.take i l)).length = i := by simp; omega
  unfold asI
  rw [List.set_append_right _ _ (by omega), e, Nat.sub_self, List.drop_eq_getElem_cons h, List.set_cons_zero, List.take_succ_eq_append_getElem h, List.map_append, List.append_assoc]
  simp [List.getD, h]
theorem asI_0 (l : List Col) : asI l 0 = l := by simp [asI]
theorem asI_end (l : List Col) : asI l l.length = l.map asC := by simp [asI]
theorem asI_fld (l : List Col) (i : Nat) (h : i < l.length) : (((asI l i).map colC).flatten.take (i * 3 + 2) ++ [Value.slice none 0 0] ++ ((asI l i).map colC).flatten.drop (i * 3 + 2 + [Value.slice none 0 0].length)) = ((asI l (i + 1)).map colC).flatten := by
  rw [← asI_set l i h, flat_set (g := colC) (sz := 3) (fun _ => rfl) _ _ _ (by rw [asI_len]; exact h)]
  have ha := flat_at (g := colC) (sz := 3) (fun _ => rfl) (asI l i) i c0 (by rw [asI_len]; exact h)
  rw [asI_get l i h] at ha
  generalize ((asI l i).map colC).flatten = xs at ha ⊢
  have h2 : (xs.drop (i * 3)).take 2 = [vs (l.getD i c0).name, .int .i64 (l.getD i c0).kind] := by
    have : ((xs.drop (i * 3)).take 3).take 2 = (colC (l.getD i c0)).take 2 := by rw [ha]
    rw [List.take_take] at this
    exact this
  rw [List.take_add, h2]
  simp [colC, asC]
theorem fls (l : List Col) : (l.map colC).flatten.length = l.length * 3 := row_flat (sz := 3) (fun _ => rfl) l
theorem col_one (v : Col) : ∀ u ∈ colC v, u.oneCell' = true := by
  intro u hu
  simp [colC] at hu
  rcases hu with rfl | rfl | rfl <;> rfl
theorem colsO_len_as (l : List CoO) : (colsO (l.map asO)).length = l.length := by simp [colsO]
theorem orh_as (h : View) (l : List CoO) : ∀ q ∈ l.map asO, OrH h q := by
  intro q hq
  obtain ⟨y, _, rfl⟩ := List.mem_map.1 hq
  exact ⟨rfl, SlC.nil (by show 0 ≤ _; simp [maxLen]), fun v hv => by cases hv⟩
set_option maxHeartbeats 4000000 in
theorem c_As (r : Rdy) (a : TA) (x : AC) (p : Int) (he : makeE (asT r.t p) = 0) (hb : TabB (asT r.t p)) (hol : r.t.outs.length ≤ 1000000) (w0 : World) (h0 : View) (hv : VLe h0 (Full w0)) (hr : RdyH h0 r a x) :
    Calls Tryz.prog 22 #[.agg (rdyC r a x).toArray, .int .i64 p] w0 (Ret w0 h0 fun u hh => ∃ z : TA × AC, u = .agg (rdyC (makeV (asT r.t p)) z.1 z.2).toArray ∧ RdyH hh (makeV (asT r.t p)) z.1 z.2) := by
  have hcl := cols_len r.t.outs
  refine entA (args := [.agg (rdyC r a x).toArray, .int .i64 p]) TT_ok [16, 33, 38] [] Tryz.func22 rfl Tryz.ntmps22 rfl rfl hv (fun z => rdy_m _ _ _) ?_
  intro b2 b4 b15
  refine ⟨rfl, rowE (k := 15) (n := 0) (cp := 0) (sz := 3) 901 rfl rfl rfl (by decide) (Nat.le_refl _) ?_⟩
  refine ⟨rfl, ?_⟩
  refine goW TT_ok ?_
  refine ⟨rfl, apF TT_ok (g := colC) (l := colsO r.t.outs) 901 (AppT.of (bytes := 48) (sz := 2) (by kernel_rfl) (by kernel_rfl) (by kernel_rfl)) (fun v h1 _ => Mono.slF _ _ h1 hr.t.o.1) (fun _ _ => rfl) (fun v _ => col_one v) rfl rfl rfl rfl (by rw [fls]; show (0 + (colsO r.t.outs).length * 3) * 49 ≤ 140737488355328; omega) (fun a1 n1 c1 hn1 => ?_)⟩
  have hn1 : n1 * 3 = 0 + ((colsO r.t.outs).map colC).flatten.length := hn1
  rw [fls] at hn1
  have hn1 : n1 = (colsO (r.t.outs.map asO)).length := by rw [colsO_len_as]; omega
  subst hn1
  have hno : (colsO (r.t.outs.map asO)).length = (colsO r.t.outs).length := by rw [colsO_len_as, hcl]
  rw [List.nil_append]
  refine w_loopB TT_ok (fun i : Nat => [(26, .v (.int .i64 i))]) (fun i => [(901, .e (bufE 61 3 (.slice a1 (colsO (r.t.outs.map asO)).length c1) ((asI (colsO r.t.outs) i).map colC).flatten)), (4, .c b4 34 (rdyC rdy0 ta0 (none, 0))), (2, .c b2 34 [vs r.t.name, .slice a.i.1 (colsO r.t.ins).length a.i.2, .slice a1 (colsO (r.t.outs.map asO)).length c1, .int .i64 p, .int .i64 0, .slice a.r.1 r.t.rules.length a.r.2, .slice x.1 r.ls.length x.2])]) 0 (fun i => i ≤ (colsO r.t.outs).length) (fun i => (colsO r.t.outs).length - i) ?_
  refine And.intro ⟨Nat.zero_le _, gs rfl (by rw [asI_0]; rfl)⟩ ?_
  intro i hi
  refine cnd (fun h3 => ?_) (fun h3 => ?_)
  · have hil : i < (colsO r.t.outs).length := by rw [← hno]; omega
    refine ⟨rfl, ixBnW TT_ok (T := 61) (e := 61) (sz := 3) (m := i) 901 rfl ⟨by kernel_rfl, SzIs.of (by kernel_rfl)⟩ rfl rfl rfl (by omega) (fun bb oo hab => ?_)⟩
    cases hab
    refine goW1 TT_ok ⟨rfl, ?_⟩
    refine stW TT_ok (p := i * 3 + 2) (new := [.slice none 0 0]) 901 rfl rfl (by omega) rfl rfl rfl (by show i * 3 + 2 + 1 ≤ _; omega) (SzIs.of (by kernel_rfl)) rfl ?_
    rw [asI_fld _ _ hil]
    refine goR TT_ok ?_
    refine wi ?_
    exact ⟨i + 1, ⟨hil, by omega⟩, gs⟩
  have hie : i = (colsO r.t.outs).length := by omega
  subst hie
  rw [asI_end]
  have hce : (colsO r.t.outs).map asC = colsO (r.t.outs.map asO) := (colsO_as r.t.outs).symm
  rw [hce]
  refine And.intro rfl ?_
  refine sealW (g := colC) (l := colsO (r.t.outs.map asO)) 901 rfl rfl ?_
  refine goW TT_ok ?_
  refine cA TT_ok (fun w v h1 h2 h3 => c_MakeK (r := makeV (asT r.t p)) he rfl ⟨a.i, (a1, c1), a.r⟩ hb w v h3 ⟨col_m _ _ _ _ h1 hr.t.i, ⟨h2.2, orh_as v _⟩, LR.mono (R := RuR) ruR_m h1 hr.t.r⟩) (fun z => rdy_m _ _ _) (fun z => ?_)
  intro b6
  exact ⟨(⟨a.i, (a1, c1), a.r⟩, z), rfl, fun v _ hF => hF.2⟩
end Go.Proofs.YtkkbnjomcgnkpaaGreat
set_option maxRecDepth 100000
namespace Go.Proofs.YtkkbnjomcgnkpaaGreat
open Go Go.Dx Go.RowKit
theorem small_inv {t : Tab} (h : smallT t = true) : t.name.length ≤ 300 ∧ t.rules.length ≤ 26 ∧ ordFew t.ins = true ∧ ordFew t.outs = true ∧ ∀ r ∈ t.rules, ruFew r = true := by
  unfold smallT at h
  simp only [Bool.and_eq_true, decide_eq_true_eq, List.all_eq_true] at h
  exact ⟨h.1, h.2.1, h.2.2.1, h.2.2.2.1, h.2.2.2.2⟩
theorem ord_inv {l : List CoO} (h : ordFew l = true) : l.length ≤ 12 ∧ ∀ p ∈ l, p.1.name.length ≤ 300 ∧ p.2.length ≤ 12 ∧ ∀ v ∈ p.2, v.s.length ≤ 300 := by
  unfold ordFew fewS at h
  simp only [Bool.and_eq_true, decide_eq_true_eq, List.all_eq_true] at h
  obtain ⟨⟨h1, h2⟩, h3⟩ := h
  rw [cols_len] at h1
  refine ⟨h1, fun p hp => ⟨h2 _ (List.mem_map.2 ⟨p, hp, rfl⟩), ?_⟩⟩
  have := h3 p hp
  unfold ordF at this
  simp only [Bool.and_eq_true, decide_eq_true_eq, List.all_eq_true] at this
  exact this
theorem tx_inv {l : List (List UInt8)} (h : txFew l = true) : l.length ≤ 10 ∧ ∀ s ∈ l, s.length ≤ 300 := by
  unfold txFew at h
  simp only [Bool.and_eq_true, decide_eq_true_eq, List.all_eq_true] at h
  exact h
theorem small_tabB {t : Tab} (h : smallT t = true) : TabB t := by
  obtain ⟨h1, h2, h3, h4, h5⟩ := small_inv h
  refine ⟨by omega, fun p hp => by have := ((ord_inv h3).2 p hp).1; omega, fun p hp => by have := ((ord_inv h4).2 p hp).1; omega, fun r hr => ?_, by omega⟩
  have := h5 r hr
  unfold ruFew at this
  simp only [Bool.and_eq_true] at this
  have k1 := tx_inv this.1
  have k2 := tx_inv this.2
  exact ⟨fun s hs => by have := k2.2 s hs; omega, by omega, by omega⟩
theorem tabB_as {t : Tab} (h : TabB t) (p : Int) : TabB (asT t p) := by
  refine ⟨h.n, h.i, fun q hq => ?_, h.r, h.k⟩
  obtain ⟨y, hy, rfl⟩ := List.mem_map.1 hq
  exact h.o y hy
theorem small_less {t : Tab} {m : List (List UInt8) × List (List UInt8)} (h : smallT (lon t m) = true) : smallT t = true := by
  obtain ⟨h1, h2, h3, h4, h5⟩ := small_inv h
  have h2 : (t.rules ++ [m]).length ≤ 26 := h2
  rw [List.length_append] at h2
  unfold smallT
  simp only [Bool.and_eq_true, decide_eq_true_eq, List.all_eq_true]
  exact ⟨h1, by omega, h3, h4, fun r hr => h5 r (List.mem_append_left _ hr)⟩
theorem make_rdyB {t : Tab} (h : makeE t = 0) : RdyB (makeV t) := by
  obtain ⟨hf, hr⟩ := make_inv h
  obtain ⟨_, f2, f3, _, f5⟩ := frame_inv hf
  obtain ⟨_, _, i6⟩ := col_ok f2
  obtain ⟨_, o0, o6⟩ := col_ok f3
  have hl : ∀ l ∈ (makeV t).ls, ∃ r ∈ t.rules, lineV r = l := fun l hl => List.mem_map.1 hl
  refine ⟨by show t.ins.length ≤ _; omega, by show (t.rules.map lineV).length ≤ _; rw [List.length_map]; omega, fun l hm => ?_, fun l hm => ?_⟩
  · obtain ⟨r, hrm, rfl⟩ := hl l hm
    obtain ⟨k1, k2, k3, k4⟩ := line_inv (hr r hrm)
    refine ⟨by show (r.1.map _).length = _; rw [List.length_map]; exact k1, by show (r.2.map _).length ≤ _; rw [List.length_map]; omega, fun c hc => ?_, fun x hx => ?_⟩
    · obtain ⟨s, hs, rfl⟩ := List.mem_map.1 hc
      exact right_gt (parseC_right (k3 s hs))
    · obtain ⟨s, hs, rfl⟩ := List.mem_map.1 hx
      exact ⟨parse_nd s, smx_right (parseT_right (k4 s hs))⟩
  · obtain ⟨r, hrm, rfl⟩ := hl l hm
    obtain ⟨k1, k2, k3, k4⟩ := line_inv (hr r hrm)
    show 1 ≤ (r.2.map _).length
    rw [List.length_map]; omega
theorem c_MakeN {t : Tab} {e : Int} (he : makeE t = e) (hn : e ≠ 0) (a : TA) (hb : TabB t) (w0 : World) (h0 : View) (hv : VLe h0 (Full w0)) (hc : TabH h0 t a) :
    Calls Tryz.prog 11 #[.agg (tabC t a).toArray] w0 (Ret w0 h0 fun u hh => ∃ z : Int × Int, u = .tuple #[.agg (rdyC rdy0 ta0 (none, 0)).toArray, .int .i64 z.1, .int .i64 z.2, .int .i64 e] ∧ True) := by
  subst he
  exact (c_Make t a hb w0 h0 hv hc).mono (Ret.mono fun u hh ⟨z, e, h⟩ => ⟨(z.2.1, z.2.2), by rw [e, mkV, if_neg hn], trivial⟩)
theorem ru_one (m : List (List UInt8) × List (List UInt8)) (a b : AC) : ∀ u ∈ ruC m a b, u.oneCell' = true := by
  intro u hu
  simp [ruC] at hu
  rcases hu with rfl | rfl <;> rfl
def moC (c : Nat → List Value) (n : Nat) (x : List Value) (i : Nat) : List Value := if i < n then c i else x
theorem mo_flat (c : Nat → List Value) (n : Nat) (x : List Value) : ((List.range (n + 1)).map (moC c n x)).flatten = ((List.range n).map c).flatten ++ x := by
  rw [List.range_succ, List.map_append, List.flatten_append]
  congr 1
  · congr 1
    refine List.map_congr_left fun i hi => ?_
    rw [moC, if_pos (List.mem_range.1 hi)]
  · simp [moC]
theorem fl2 (c : Nat → List Value) (n : Nat) (hc : ∀ i, i < n → (c i).length = 2) : ((List.range n).map c).flatten.length = n * 2 := by
  induction n with
  | zero => rfl
  | succ n ih =>
    rw [List.range_succ, List.map_append, List.flatten_append, List.length_append, ih fun i hi => hc i (by omega)]
    simp [hc n (by omega)]; omega
theorem lr_mo {h : View} {c : Nat → List Value} {l : List (List (List UInt8) × List (List UInt8))} {m : List (List UInt8) × List (List UInt8)} {pa pb : AC} {a1 : Option Addr} {n c1 : Nat} (hn : n = l.length + 1) (hs : SlC 66 2 (flatR (moC c l.length (ruC m pa pb))) h (.slice a1 n c1) (List.range (l.length + 1)))
    (hc : ∀ i x, l[i]? = some x → RuR h (c i) x) (h1 : TxL h pa m.1) (h2 : TxL h pb m.2) : LR 66 2 RuR h a1 c1 (l ++ [m]) := by
  subst hn
  refine ⟨moC c l.length (ruC m pa pb), ?_, fun i x hi => ?_⟩
  · rw [List.length_append]; exact hs
  · rcases Nat.lt_or_ge i l.length with hl | hl
    · rw [List.getElem?_append_left hl] at hi
      rw [moC, if_pos hl]; exact hc i x hi
    · rw [List.getElem?_append_right hl] at hi
      have h0 : i - l.length = 0 := by have := (List.getElem?_eq_some_iff.1 hi).1; simp at this; omega
      rw [h0] at hi
      cases hi
      rw [moC, if_neg (by omega)]; exact ⟨pa, pb, rfl, h1, h2⟩
end Go.Proofs.YtkkbnjomcgnkpaaGreat
set_option maxRecDepth 100000
namespace Go.Proofs.YtkkbnjomcgnkpaaGreat
open Go Go.Dx Go.RowKit
theorem dec_len6 {r : Rdy} (row : List Val) (hp : r.t.pol = 6) : (decS (chooseS r.t) r row).1.rows.length ≤ r.ls.length + 1 := by
  have hl : (rulesR r row).1.length ≤ r.ls.length + 1 := (@ru_lt r row).1
  unfold decS
  split
  · exact Nat.zero_le _
  split
  · exact Nat.zero_le _
  split
  · exact Nat.zero_le _
  · show (tolds r row (rulesR r row).1 (chooseS r.t)).rows.length ≤ _
    unfold tolds
    split
    · exact Nat.zero_le _
    · unfold chooseS
      rw [if_neg (by omega), if_pos hp]
      show (List.map _ _).length ≤ _
      rw [List.length_map]; exact hl
theorem lr_cap {α : Type} {T sz : Nat} {R : View → List Value → α → Prop} {h : View} {a : Option Addr} {cap : Nat} {l : List α} (hx : LR T sz R h a cap l) : l.length ≤ cap := by
  obtain ⟨_, hs, _⟩ := hx
  obtain ⟨_, _, e, hh, _⟩ := hs.parts
  rw [List.length_range] at e hh
  cases e; exact hh
set_option maxHeartbeats 40000000 in
theorem c_HitLess (t : Tab) (a : TA) (m : List (List UInt8) × List (List UInt8)) (pa pb : AC) (ad : Option Addr) (cap : Nat) (row : List Val) (hk : t.rules.length ≤ 1048576) (w0 : World) (h0 : View) (hv : VLe h0 (Full w0)) (hc : TabH h0 t a) (hma : TxL h0 pa m.1) (hmb : TxL h0 pb m.2) (hrow : SlC 57 3 (flatR valC) h0 (.slice ad row.length cap) row) (hvb : ∀ v ∈ row, valB v) :
    Calls Tryz.prog 6 #[.agg (tabC t a).toArray, .agg (ruC m pa pb).toArray, .slice ad row.length cap] w0 (Ret w0 h0 fun u _ => u = .bool true) := by
  obtain ⟨c, hcs, hcr⟩ := hc.r
  have hc2 : ∀ i, i < t.rules.length → (c i).length = 2 := fun i hi => by
    obtain ⟨_, _, e, _⟩ := hcr i _ (List.getElem?_eq_getElem hi)
    rw [e]; rfl
  have hc1 : ∀ i, i < t.rules.length → ∀ u ∈ c i, u.oneCell' = true := fun i hi => by
    obtain ⟨x, y, e, _⟩ := hcr i _ (List.getElem?_eq_getElem hi)
    rw [e]; exact ru_one _ x y
  have hm2 : ∀ x ∈ List.range (t.rules.length + 1), (moC c t.rules.length (ruC m pa pb) x).length = 2 := fun x hx => by
    unfold moC; split
    · rename_i hh; exact hc2 x hh
    · rfl
  have hT2 : ∀ (y : AC) (v : View), VLe h0 v → SlC 66 2 (flatR (moC c t.rules.length (ruC m pa pb))) v (.slice y.1 (t.rules ++ [m]).length y.2) (List.range (t.rules.length + 1)) → TabH v (lon t m) ⟨a.i, a.o, y⟩ := fun y v h1 hs =>
    ⟨col_m _ _ _ _ h1 hc.i, col_m _ _ _ _ h1 hc.o, lr_mo (by simp) hs (fun i x hi => ruR_m h1 (hcr i x hi)) (txtl_m _ _ _ _ h1 hma) (txtl_m _ _ _ _ h1 hmb)⟩
  refine ent (args := [.agg (tabC t a).toArray, .agg (ruC m pa pb).toArray, .slice ad row.length cap]) TT_ok [1000002, 35, 1000020, 2000142, 2000145] [3] Tryz.func6 rfl Tryz.ntmps6 rfl rfl hv ?_
  intro b3 b4 b7
  refine w_cutF TT_ok (fun _ : AC => []) (fun y => [(901, .e (bufE 66 2 (.slice y.1 (t.rules ++ [m]).length y.2) ((List.range (t.rules.length + 1)).map (moC c t.rules.length (ruC m pa pb))).flatten)), (7, .c b7 27 [vs t.name, .slice a.i.1 (colsO t.ins).length a.i.2, .slice a.o.1 (colsO t.outs).length a.o.2, .int .i64 t.pol, .int .i64 t.agg, .slice y.1 (t.rules ++ [m]).length y.2]), (4, .c b4 66 (ruC m pa pb)), (3, .c b3 27 (tabC t a))])
    (fun _ _ => True) (fun _ => True) (fun _ => Mono.tru) ?_
  refine And.intro ?_ ?_
  · refine regPt TT_ok (.m [1, 4, 2] (.n 0 (.n 3 (.n 5 (.n 6 (.m [7] (.n 8 .e .z)) .z) .z) (.n 5 (.n 3 (.n 6 (.m [7] (.n 8 .e .z)) .z) .z) .z)) (.n 5 (.n 0 (.n 3 (.n 6 (.m [7] (.n 8 .e .z)) .z) .z) .z) .z))) [7, 26, 31] ?_
    refine kq ⟨?_, ?_⟩
    · intro b26
      refine kq ⟨?_, ?_⟩
      · refine ⟨rfl, rowE (k := 26) (n := 0) (cp := 0) (sz := 2) 901 rfl rfl rfl (by decide) (Nat.le_refl _) ?_⟩
        refine ⟨rfl, ?_⟩
        refine apF TT_ok (g := c) (l := List.range t.rules.length) 901 (AppT.of (bytes := 48) (sz := 1) (by kernel_rfl) (by kernel_rfl) (by kernel_rfl)) (fun v h1 _ => Mono.slF _ _ h1 hcs) (fun x hx => hc2 x (List.mem_range.1 hx)) (fun x hx => hc1 x (List.mem_range.1 hx)) rfl rfl rfl rfl (by rw [fl2 c _ hc2]; show (0 + t.rules.length * 2) * 49 ≤ 140737488355328; omega) (fun a1 n1 c1 hn1 => ?_)
        have hn1 : n1 * 2 = 0 + ((List.range t.rules.length).map c).flatten.length := hn1
        rw [fl2 c _ hc2] at hn1
        rw [List.nil_append]
        refine kq ?_
        intro b31
        refine kq ?_
        refine ap TT_ok 901 (AppT.of (bytes := 48) (sz := 1) (by kernel_rfl) (by kernel_rfl) (by kernel_rfl)) rfl rfl rfl rfl rfl rfl rfl (by rw [fl2 c _ hc2]; show (t.rules.length * 2 + 2) * 49 ≤ _; omega) (fun a3 n3 c3 e3 => ?_)
        have e3 : n3 * 2 = ((List.range t.rules.length).map c).flatten.length + 2 := e3
        rw [fl2 c _ hc2] at e3
        have hn3 : n3 = (t.rules ++ [m]).length := by rw [List.length_append]; show n3 = _ + 1; omega
        subst hn3
        refine kq ?_
        refine kq ?_
        refine kq ?_
        exact ⟨(a3, c3), trivial, gsJ ⟨by rw [mo_flat]; rfl, rfl, rfl, rfl, trivial⟩⟩
      · intro b31
        refine kq ?_
        refine ⟨rfl, rowE (k := 26) (n := 0) (cp := 0) (sz := 2) 901 rfl rfl rfl (by decide) (Nat.le_refl _) ?_⟩
        refine ⟨rfl, ?_⟩
        refine apF TT_ok (g := c) (l := List.range t.rules.length) 901 (AppT.of (bytes := 48) (sz := 1) (by kernel_rfl) (by kernel_rfl) (by kernel_rfl)) (fun v h1 _ => Mono.slF _ _ h1 hcs) (fun x hx => hc2 x (List.mem_range.1 hx)) (fun x hx => hc1 x (List.mem_range.1 hx)) rfl rfl rfl rfl (by rw [fl2 c _ hc2]; show (0 + t.rules.length * 2) * 49 ≤ 140737488355328; omega) (fun a1 n1 c1 hn1 => ?_)
        have hn1 : n1 * 2 = 0 + ((List.range t.rules.length).map c).flatten.length := hn1
        rw [fl2 c _ hc2] at hn1
        rw [List.nil_append]
        refine kq ?_
        refine ap TT_ok 901 (AppT.of (bytes := 48) (sz := 1) (by kernel_rfl) (by kernel_rfl) (by kernel_rfl)) rfl rfl rfl rfl rfl rfl rfl (by rw [fl2 c _ hc2]; show (t.rules.length * 2 + 2) * 49 ≤ _; omega) (fun a3 n3 c3 e3 => ?_)
        have e3 : n3 * 2 = ((List.range t.rules.length).map c).flatten.length + 2 := e3
        rw [fl2 c _ hc2] at e3
        have hn3 : n3 = (t.rules ++ [m]).length := by rw [List.length_append]; show n3 = _ + 1; omega
        subst hn3
        refine kq ?_
        refine kq ?_
        refine kq ?_
        exact ⟨(a3, c3), trivial, gsJ ⟨by rw [mo_flat]; rfl, rfl, rfl, rfl, trivial⟩⟩
    · intro b31
      refine kq ?_
      intro b26
      refine kq ?_
      refine ⟨rfl, rowE (k := 26) (n := 0) (cp := 0) (sz := 2) 901 rfl rfl rfl (by decide) (Nat.le_refl _) ?_⟩
      refine ⟨rfl, ?_⟩
      refine apF TT_ok (g := c) (l := List.range t.rules.length) 901 (AppT.of (bytes := 48) (sz := 1) (by kernel_rfl) (by kernel_rfl) (by kernel_rfl)) (fun v h1 _ => Mono.slF _ _ h1 hcs) (fun x hx => hc2 x (List.mem_range.1 hx)) (fun x hx => hc1 x (List.mem_range.1 hx)) rfl rfl rfl rfl (by rw [fl2 c _ hc2]; show (0 + t.rules.length * 2) * 49 ≤ 140737488355328; omega) (fun a1 n1 c1 hn1 => ?_)
      have hn1 : n1 * 2 = 0 + ((List.range t.rules.length).map c).flatten.length := hn1
      rw [fl2 c _ hc2] at hn1
      rw [List.nil_append]
      refine kq ?_
      refine ap TT_ok 901 (AppT.of (bytes := 48) (sz := 1) (by kernel_rfl) (by kernel_rfl) (by kernel_rfl)) rfl rfl rfl rfl rfl rfl rfl (by rw [fl2 c _ hc2]; show (t.rules.length * 2 + 2) * 49 ≤ _; omega) (fun a3 n3 c3 e3 => ?_)
      have e3 : n3 * 2 = ((List.range t.rules.length).map c).flatten.length + 2 := e3
      rw [fl2 c _ hc2] at e3
      have hn3 : n3 = (t.rules ++ [m]).length := by rw [List.length_append]; show n3 = _ + 1; omega
      subst hn3
      refine kq ?_
      refine kq ?_
      refine kq ?_
      exact ⟨(a3, c3), trivial, gsJ ⟨by rw [mo_flat]; rfl, rfl, rfl, rfl, trivial⟩⟩
  rintro y _
  refine And.intro rfl ?_
  refine sealW (g := moC c t.rules.length (ruC m pa pb)) (l := List.range (t.rules.length + 1)) 901 rfl (by simp) ?_ (hg := hm2)
  refine goW TT_ok ?_
  refine cf (fun w v h1 h2 h3 => c_TSmall (lon t m) ⟨a.i, a.o, y⟩ w v h3 (hT2 y v h1 h2.2)) ?_
  refine cbg (fun _ w hw => c_RowFew ad cap row w h0 hw hrow) ?_
  refine cnd (fun h => ?_) (fun h => ?_)
  · refine cb (fun w hw => c_lives20 w h0 hw) ?_
    exact rfl
  have hsm : smallT (lon t m) = true := by simpa using h.1
  have htb2 := small_tabB hsm
  have htb := small_tabB (small_less hsm)
  clear h hsm
  by_cases he : makeE t = 0
  · by_cases he2 : makeE (lon t m) = 0
    · refine cA TT_ok (fun w v h1 h2 h3 => c_MakeK (r := makeV t) he rfl a htb w v h3 (tab_m _ _ _ _ h1 hc)) (fun z => rdy_m _ _ _) (fun z1 => ?_)
      intro b8
      refine cA TT_ok (fun w v h1 h2 h3 => c_MakeK (r := makeV (lon t m)) he2 rfl ⟨a.i, a.o, y⟩ htb2 w v h3 (hT2 y v h1 h2.1.2)) (fun z => rdy_m _ _ _) (fun z2 => ?_)
      intro b12
      refine cnd (fun h => ?_) (fun _ => ?_)
      · exfalso; omega
      have ho1 : t.outs.length ≤ 6 := (col_ok (frame_inv (make_inv he).1).2.2.1).2.2
      have m2 := make_as (p := 2) he (by decide) (by decide) (by decide)
      have n2 := make_as (p := 2) he2 (by decide) (by decide) (by decide)
      have m6 := make_as (p := 6) he (by decide) (by decide) (by decide)
      have n6 := make_as (p := 6) he2 (by decide) (by decide) (by decide)
      obtain ⟨d1, hd1⟩ : ∃ d, decS (chooseS (makeV (asT t 2)).t) (makeV (asT t 2)) row = d := ⟨_, rfl⟩
      obtain ⟨d2, hd2⟩ : ∃ d, decS (chooseS (makeV (asT (lon t m) 2)).t) (makeV (asT (lon t m) 2)) row = d := ⟨_, rfl⟩
      obtain ⟨d3, hd3⟩ : ∃ d, decS (chooseS (makeV (asT t 6)).t) (makeV (asT t 6)) row = d := ⟨_, rfl⟩
      obtain ⟨d4, hd4⟩ : ∃ d, decS (chooseS (makeV (asT (lon t m) 6)).t) (makeV (asT (lon t m) 6)) row = d := ⟨_, rfl⟩
      have e12 : d1.2 = d2.2 := by rw [← hd1, ← hd2, decS_2, decS_2, (lon_mo t m 2).inp]
      have s12 : d1.1.rules ≠ [] → d1 = d2 := fun hne => by
        have := first_mo (lon_mo t m 2) rfl row (by rw [hd1]; exact hne)
        rw [← hd1, ← hd2]; exact this.symm
      have e34 : d3.2 = d4.2 := by rw [← hd3, ← hd4, decS_2, decS_2, (lon_mo t m 6).inp]
      have s34 : d3.1.err = 0 → d4.1.err = 0 → ∃ k, d4.1.rows = d3.1.rows ++ k ∧ k.length ≤ 1 := fun h1 h2 => by
        have := rule_mo (lon_mo t m 6) rfl row (by rw [hd3]; exact h1) (by rw [hd4]; exact h2)
        rw [hd3, hd4] at this; exact this
      have l3 : d3.1.rows.length ≤ 1048577 := by
        have := dec_len6 (r := makeV (asT t 6)) row rfl
        rw [hd3] at this
        have e : (makeV (asT t 6)).ls.length = t.rules.length := List.length_map ..
        omega
      refine cA TT_ok (fun w v h1 h2 h3 => c_As (makeV t) a z1 2 m2 (tabB_as htb 2) (by show t.outs.length ≤ _; omega) w v h3 h2.1.2) (fun z => rdy_m _ _ _) (fun q1 => ?_)
      refine cA TT_ok (fun w v h1 h2 h3 => c_HDecide1 (makeV (asT t 2)) q1.1 q1.2 (ad, cap) row (.inr (.inl rfl)) (make_rdyB m2) hvb hd1 w v h3 h2.2 (hrow.monoF h1)) (fun z => out_m _ _ _) (fun o1 => ?_)
      intro b16
      refine cA TT_ok (fun w v h1 h2 h3 => c_As (makeV (lon t m)) ⟨a.i, a.o, y⟩ z2 2 n2 (tabB_as htb2 2) (by show t.outs.length ≤ _; omega) w v h3 h2.1.1.2) (fun z => rdy_m _ _ _) (fun q2 => ?_)
      refine cA TT_ok (fun w v h1 h2 h3 => c_HDecide1 (makeV (asT (lon t m) 2)) q2.1 q2.2 (ad, cap) row (.inr (.inl rfl)) (make_rdyB n2) hvb hd2 w v h3 h2.2 (hrow.monoF h1)) (fun z => out_m _ _ _) (fun o2 => ?_)
      intro b18
      refine cfg (fun _ w v h1 h2 h3 => c_RSame20 d1.1 d2.1 o1.1 o1.2 o2.1 o2.2 w v h3 h2.1.1.2 h2.2) ?_
      refine cnd (fun h => ?_) (fun _ => ?_)
      · exfalso
        rcases h with h | ⟨h, h'⟩
        · exact h e12
        · have hne : d1.1.rules ≠ [] := fun hh => by rw [hh] at h; exact absurd h (by decide)
          rw [← s12 hne, sameO_refl] at h'
          exact absurd h' (by decide)
      refine cA TT_ok (fun w v h1 h2 h3 => c_As (makeV t) a z1 6 m6 (tabB_as htb 6) (by show t.outs.length ≤ _; omega) w v h3 h2.1.1.1.1.1.2) (fun z => rdy_m _ _ _) (fun q3 => ?_)
      refine cA TT_ok (fun w v h1 h2 h3 => c_HDecide1 (makeV (asT t 6)) q3.1 q3.2 (ad, cap) row (.inr (.inr (.inl rfl))) (make_rdyB m6) hvb hd3 w v h3 h2.2 (hrow.monoF h1)) (fun z => out_m _ _ _) (fun o3 => ?_)
      intro b20
      refine cA TT_ok (fun w v h1 h2 h3 => c_As (makeV (lon t m)) ⟨a.i, a.o, y⟩ z2 6 n6 (tabB_as htb2 6) (by show t.outs.length ≤ _; omega) w v h3 h2.1.1.1.1.1.1.2) (fun z => rdy_m _ _ _) (fun q4 => ?_)
      refine cA TT_ok (fun w v h1 h2 h3 => c_HDecide1 (makeV (asT (lon t m) 6)) q4.1 q4.2 (ad, cap) row (.inr (.inr (.inl rfl))) (make_rdyB n6) hvb hd4 w v h3 h2.2 (hrow.monoF h1)) (fun z => out_m _ _ _) (fun o4 => ?_)
      intro b22
      refine cnd (fun h => ?_) (fun _ => ?_)
      · exact absurd e34 h
      refine cnd (fun h => ?_) (fun h => ?_)
      · refine cb (fun w hw => c_lives20 w h0 hw) ?_
        exact rfl
      have h31 : d3.1.err = 0 := by simpa using h.1
      have h41 : d4.1.err = 0 := by simpa using h.2
      obtain ⟨k, hk4, hk1⟩ := s34 h31 h41
      have hl4 : d4.1.rows.length = d3.1.rows.length + k.length := by rw [hk4, List.length_append]
      have htk : d4.1.rows.take d3.1.rows.length = d3.1.rows := by rw [hk4, List.take_left]
      refine pureC (X := d4.1.rows.length ≤ o4.2.2) (fun v _ hF => lr_cap (R := RwR) hF.2.w) (fun hcap => ?_)
      refine regPh TT_ok [([0, 3, 1, 2, 4, 5, 6, 9, 7, 10, 8, 11], [12]), ([13, 14, 16, 18, 15, 17, 19], [20, 21]), ([22], [23, 24]), ([25], [])] [] ?_
      have g1 : bq true (decide ((d3.1.rows.length : Int) ≤ (d4.1.rows.length : Int))) = true := decide_eq_true (by omega)
      refine cndT g1 (cndT g1 (cndT g1 (cndT g1 ?_)))
      refine wi ?_ (by omega)
      refine cndT g1 (cndT g1 ?_)
      refine kq ?_
      refine kq ?_
      have g2 : bq true (decide ((d3.1.rows.length : Int) ≤ (d4.1.rows.length : Int)) && decide ((d4.1.rows.length : Int) ≤ (d3.1.rows.length : Int) + 1)) = true := by
        show (_ && _) = true
        rw [decide_eq_true (by omega), decide_eq_true (by omega)]; rfl
      refine cndT g2 (cndT g2 (cndT g2 (cndT g2 (cndT g2 (cndT g2 ?_)))))
      refine ⟨d3.1.rows.length, ⟨rfl, by omega⟩, ?_⟩
      refine kq ?_
      refine ⟨g2, ?_⟩
      refine cf (fun w v h1 h2 h3 => c_RSameRows d3.1.rows d3.1.rows o3.2 o4.2 w v h3 h2.1.1.2.w (by
        have := LR.take (n := 0) (k := d3.1.rows.length) h2.2.w (by omega)
        rw [htk] at this; exact this)) ?_
      refine kq ?_
      refine kq ?_
      refine kq ?_
      refine ⟨by show (_ && _) = true; rw [decide_eq_true (p := (d3.1.rows.length : Int) ≤ (d4.1.rows.length : Int)) (by omega), decide_eq_true (p := (d4.1.rows.length : Int) ≤ (d3.1.rows.length : Int) + 1) (by omega)]; simp, ?_⟩
      refine cb (fun w hw => c_lives20 w h0 hw) ?_
      refine kq ?_
      refine kq ?_
      refine kq ?_
      refine congrArg Value.bool ?_
      rw [decide_eq_true (p := (d3.1.rows.length : Int) ≤ (d4.1.rows.length : Int)) (by omega), decide_eq_true (p := (d4.1.rows.length : Int) ≤ (d3.1.rows.length : Int) + 1) (by omega)]
      simp
    · refine cA TT_ok (fun w v h1 h2 h3 => c_MakeK (r := makeV t) he rfl a htb w v h3 (tab_m _ _ _ _ h1 hc)) (fun z => rdy_m _ _ _) (fun z1 => ?_)
      intro b8
      refine cA TT_ok (fun w v h1 h2 h3 => c_MakeN (t := lon t m) rfl he2 ⟨a.i, a.o, y⟩ htb2 w v h3 (hT2 y v h1 h2.1.2)) (fun _ => Mono.tru) (fun z2 => ?_)
      intro b12
      refine cnd (fun _ => ?_) (fun h => ?_)
      · refine cb (fun w hw => c_lives20 w h0 hw) ?_
        exact rfl
      · exact absurd h.2 he2
  · refine cA TT_ok (fun w v h1 h2 h3 => c_MakeN (t := t) rfl he a htb w v h3 (tab_m _ _ _ _ h1 hc)) (fun _ => Mono.tru) (fun z1 => ?_)
    intro b8
    by_cases he2 : makeE (lon t m) = 0
    · refine cA TT_ok (fun w v h1 h2 h3 => c_MakeK (r := makeV (lon t m)) he2 rfl ⟨a.i, a.o, y⟩ htb2 w v h3 (hT2 y v h1 h2.1.2)) (fun z => rdy_m _ _ _) (fun z2 => ?_)
      intro b12
      refine cnd (fun _ => ?_) (fun h => ?_)
      · refine cb (fun w hw => c_lives20 w h0 hw) ?_
        exact rfl
      · exact absurd h.1 he
    · refine cA TT_ok (fun w v h1 h2 h3 => c_MakeN (t := lon t m) rfl he2 ⟨a.i, a.o, y⟩ htb2 w v h3 (hT2 y v h1 h2.1.2)) (fun _ => Mono.tru) (fun z2 => ?_)
      intro b12
      refine cnd (fun _ => ?_) (fun h => ?_)
      · refine cb (fun w hw => c_lives20 w h0 hw) ?_
        exact rfl
      · exact absurd h.1 he
end Go.Proofs.YtkkbnjomcgnkpaaGreat
