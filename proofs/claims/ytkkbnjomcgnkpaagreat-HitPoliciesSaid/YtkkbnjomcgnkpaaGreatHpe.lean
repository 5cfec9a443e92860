/- Laws of walks, and what functions of the program compute: part 5. Each with the conditions that it names. -/
import Derived.Test.YtkkbnjomcgnkpaaGreatRows
import Derived.Test.YtkkbnjomcgnkpaaGreatHpd
set_option linter.unusedSimpArgs false
set_option linter.unusedVariables false
set_option maxRecDepth 100000
namespace Go.Proofs.YtkkbnjomcgnkpaaGreat
open Go Go.Dx Go.RowKit
theorem parseC_right {s : List UInt8} (h : (parseC s).2.2 = 0) : rightC (parseC s).1 = true := by
 revert h
 unfold parseC
 split
 ·rename_i hh; intro h; exact absurd h hh
 split
 ·intro _; rfl
 split
 ·intro h; cases h
 split
 ·intro h; cases h
 split
 ·intro h; cases h
 split
 ·rename_i hh; intro _; exact hh
 ·intro h; cases h
theorem parseT_right {s : List UInt8} (h : (parseT s).2.2 = 0) : rightS (parseT s).1 = true := by
 rcases parse_inv s with h1 | h1
 ·exact h1.2.1
 ·exact absurd h h1.2.1
theorem c_RParseE {s : List UInt8} {x : Ex} {at' e : Int} (he : parseT s = (x, at', e)) (hsl : s.length ≤ 9223372036854775807) (w0 : World) (h0 : View) (hv : VLe h0 (Full w0)) :
  Calls Tryz.prog 54 #[vs s] w0 (Ret w0 h0 fun u hh => ∃ a : Option Addr × Nat, u = .tuple #[exV x a, .int .i64 at', .int .i64 e] ∧ XL hh a.1 a.2 x.l) := by
 obtain ⟨f1, f2, f3, f4⟩ := lex_facts s
 have := c_RParse s f1 f2 f3 f4 hsl w0 h0 hv
 rw [he] at this; exact this
abbrev SlH := Option Addr × Nat × Nat
def ceC (q : Cel × AC) : List Value := celC q.1 q.2.1 q.2.2
def CeF (es : List (Cel × AC)) (h : View) : Prop := ∀ q ∈ es, TL h q.2.1 q.2.2 q.1.ts
theorem cef_m (es : List (Cel × AC)) : Mono fun h => CeF es h := fun _ _ hle hx q hq => (hx q hq).mono hle
theorem cef_snoc {es : List (Cel × AC)} {q : Cel × AC} {h : View} (h1 : CeF es h) (h2 : TL h q.2.1 q.2.2 q.1.ts) : CeF (es ++ [q]) h := fun p hp => by
 rcases List.mem_append.1 hp with hp | hp
 ·exact h1 p hp
 ·have : p = q := by simpa using hp
  subst this; exact h2
def ce0 : Cel × AC := (cel0, none, 0)
def xeC (q : Ex × AC) : List Value := exC q.1.op q.1.v q.1.s (.slice q.2.1 q.1.l.length q.2.2)
def XeF (es : List (Ex × AC)) (h : View) : Prop := ∀ q ∈ es, XL h q.2.1 q.2.2 q.1.l
theorem xef_m (es : List (Ex × AC)) : Mono fun h => XeF es h := fun _ _ hle hx q hq => (hx q hq).mono hle
theorem xef_snoc {es : List (Ex × AC)} {q : Ex × AC} {h : View} (h1 : XeF es h) (h2 : XL h q.2.1 q.2.2 q.1.l) : XeF (es ++ [q]) h := fun p hp => by
 rcases List.mem_append.1 hp with hp | hp
 ·exact h1 p hp
 ·have : p = q := by simpa using hp
  subst this; exact h2
def xq0 : Ex × AC := (ex0, none, 0)
structure LpG (β : Type) where
 a : Option Addr
 n : Nat
 c : Nat
 es : List β
 k : Nat
theorem take_map {α β γ : Type} {f : α → β} {l : List α} {es : List (β × γ)} {k : Nat} (d : α) (h : es.map (·.1) = (l.take k).map f) (hk : k < l.length) (g : γ) : (es ++ [(f (l.getD k d), g)]).map (·.1) = (l.take (k + 1)).map f := by
 rw [List.map_append, h, take_snocD l k d hk, List.map_append]; rfl
theorem es_len {α β γ : Type} {f : α → β} {l : List α} {es : List (β × γ)} {k : Nat} (h : es.map (·.1) = (l.take k).map f) (hk : k ≤ l.length) : es.length = k := by
 have := congrArg List.length h
 simp only [List.length_map, List.length_take] at this
 omega
def lnC (x y : SlH) : List Value := [.slice x.1 x.2.1 x.2.2, .slice y.1 y.2.1 y.2.2]
def lnV (x y : SlH) (k e : Int) : Value := .tuple #[.agg (lnC x y).toArray, .int .i64 k, .int .i64 e]
set_option maxHeartbeats 4000000 in
theorem c_Rrule (t : Tab) (a : TA) (r : List (List UInt8) × List (List UInt8)) (p q : AC) (hl1 : r.1.length ≤ 1000000) (hl2 : r.2.length ≤ 1000000) (hsl : ∀ s ∈ r.2, s.length ≤ 1000000) (w0 : World) (h0 : View) (hv : VLe h0 (Full w0)) (hc : TabH h0 t a) (hr1 : TxL h0 p r.1) (hr2 : TxL h0 q r.2) :
  Calls Tryz.prog 31 #[.agg (tabC t a).toArray, .agg (ruC r p q).toArray] w0 (Ret w0 h0 fun u hh => ∃ z : SlH × SlH × Int, u = lnV z.1 z.2.1 z.2.2 (lineE t r) ∧
   (lineE t r = 0 → z.1.2.1 = (lineV r).cs.length ∧ z.2.1.2.1 = (lineV r).os.length ∧ LinH hh (lineV r) (z.1.1, z.1.2.2) (z.2.1.1, z.2.1.2.2))) := by
 have hci := cols_len t.ins
 have hco := cols_len t.outs
 have e0 : lineE t r = if r.1.length ≠ t.ins.length ∨ r.2.length ≠ t.outs.length then 17
   else if firstE (fun k => cellE t k (r.1.getD k [])) r.1.length ≠ 0 then firstE (fun k => cellE t k (r.1.getD k [])) r.1.length
   else firstE (fun k => outE t k (r.2.getD k [])) r.2.length := rfl
 generalize hE : lineE t r = E at e0 ⊢
 refine entA (args := [.agg (tabC t a).toArray, .agg (ruC r p q).toArray]) TT_ok [1000023, 12, 129] [10, 20, 22] Tryz.func31 rfl Tryz.ntmps31 rfl rfl hv (fun x => fun _ _ hle hx he => ⟨(hx he).1, (hx he).2.1, lin_m _ _ _ _ _ hle (hx he).2.2⟩) ?_
 intro b2 b3 b4 b7
 refine cnd (fun h => ?_) (fun h => ?_)
 ·rw [if_pos (by omega)] at e0
  rw [e0]
  exact ⟨((none, 0, 0), (none, 0, 0), 0), rfl, fun v _ _ hh => absurd hh (by decide)⟩
 rw [if_neg (by omega)] at e0
 refine nilC 900 99 3 ?_
 refine w_loopF TT_ok (fun z : LpG (Cel × AC) => [(8, .v (.int .i64 z.k))]) (fun z => [(900, .e (bufE 99 3 (.slice z.a z.n z.c) (z.es.map ceC).flatten)), (7, .c b7 76 (lnC (z.a, z.n, z.c) (none, 0, 0))), (4, .c b4 76 (lnC (none, 0, 0) (none, 0, 0))), (3, .c b3 66 (ruC r p q)), (2, .c b2 27 (tabC t a))])
  (fun z v => CeF z.es v) ⟨none, 0, 0, [], 0⟩ (fun z => z.k ≤ r.1.length ∧ z.n = z.es.length ∧ z.es.map (·.1) = (r.1.take z.k).map (fun s => (parseC s).1) ∧ ∀ j, j < z.k → cellE t j (r.1.getD j []) = 0) (fun z => r.1.length - z.k) (fun z => cef_m z.es) ?_
 refine And.intro ⟨⟨Nat.zero_le _, rfl, rfl, fun j hj => absurd hj (Nat.not_lt_zero j)⟩, gs (fv := fun v _ q hq => absurd hq List.not_mem_nil)⟩ ?_
 rintro ⟨a1, n1, c1, es, k⟩ ⟨hk, hn1, hes, hz⟩
 dsimp only at hk hn1 hes hz ⊢
 refine cnd (fun h1 => ?_) (fun h1 => ?_)
 ·have hkl : k < r.1.length := by omega
  have hel := es_len hes hk
  have hcE : cellE t k (r.1.getD k []) = if (parseC (r.1.getD k [])).2.2 ≠ 0 then (parseC (r.1.getD k [])).2.2 else typC (parseC (r.1.getD k [])).1 (t.ins.getD k co0).1.kind (colsO t.ins) := rfl
  have her := fir_er (f := fun k => cellE t k (r.1.getD k [])) hz
  have hpr := parseC_right (s := r.1.getD k [])
  have htm := fun g => take_map (f := fun s => (parseC s).1) (γ := AC) (g := g) [] hes hkl
  refine ixs hr1 k [] ?_
  refine cA TT_ok (fun w v h1 h2 h3 => c_RCParse (r.1.getD k []) w v h3) (fun a => tl_m a _) (fun x => ?_)
  generalize hce : cellE t k (r.1.getD k []) = ce at *
  generalize parseC (r.1.getD k []) = P at *
  obtain ⟨c, at', e⟩ := P
  dsimp only at hcE hpr htm
  intro b9
  refine w_cutB TT_ok (fun _ : Unit => [(11, .v (.int .i64 ce))]) (fun _ => [(9, .c b9 99 (celC c x.1 x.2)), (46, .k none (adB p.1) (adO p.1 + k * 1) [vs (r.1.getD k [])]), (900, .e (bufE 99 3 (.slice a1 n1 c1) (es.map ceC).flatten)), (7, .c b7 76 (lnC (a1, n1, c1) (none, 0, 0))), (4, .c b4 76 (lnC (none, 0, 0) (none, 0, 0))), (3, .c b3 66 (ruC r p q)), (2, .c b2 27 (tabC t a))]) (fun _ => True) ?_
  refine And.intro ?_ ?_
  ·refine cnd (fun h2 => ?_) (fun h2 => ?_)
   ·have h2 : e = 0 := h2
    rw [if_neg (fun hh => hh h2)] at hcE
    refine And.intro (by kernel_rfl) ?_
    refine ixs hc.i.1 k c0 ?_ (by omega)
    rw [cols_get t.ins k (by omega)]
    refine cf (fun w v h1 h4 h3 => c_RTyped c x.1 x.2 _ a.i.1 a.i.2 (colsO t.ins) (right_gt (hpr h2)) w v h3 h4.2 (hc.i.1.monoF h1)) ?_
    exact ⟨(), trivial, gs (by rw [hcE]; rfl)⟩
   ·rw [if_pos h2] at hcE
    exact ⟨(), trivial, gs (by rw [hcE]; rfl)⟩
  intro _ _
  refine cnd (fun h2 => ?_) (fun h2 => ?_)
  ·have h2 : ce ≠ 0 := h2
   have := her h2 hkl
   rw [this, if_pos h2] at e0
   rw [e0]
   exact ⟨((a1, n1, c1), (none, 0, 0), k), rfl, fun v _ _ hh => absurd hh h2⟩
  have h2 : ce = 0 := by simpa using h2
  intro b72
  refine ap TT_ok 900 (AppT.of (bytes := 32) (sz := 2) (by kernel_rfl) (by kernel_rfl) (by kernel_rfl)) rfl rfl rfl rfl rfl rfl rfl (by rw [row_flat (sz := 3) (fun _ => rfl)]; show (_ + 3) * 33 ≤ _; omega) (fun a3 n3 c3 e3 => ?_)
  have hn3 : n3 = (es ++ [(c, x)]).length := by
   rw [row_flat (sz := 3) (fun _ => rfl)] at e3
   have e3 : n3 * 3 = es.length * 3 + 3 := e3
   rw [List.length_append]; show n3 = es.length + 1; omega
  have efl : ((es ++ [(c, x)]).map ceC).flatten = (es.map ceC).flatten ++ (celC c x.1 x.2 ++ []) := by rw [List.map_append, List.flatten_append]; rfl
  refine wi ?_
  refine ⟨⟨a3, n3, c3, es ++ [(c, x)], k + 1⟩, ⟨⟨hkl, hn3, htm x, upto_snoc hz (hce.trans h2)⟩, by show r.1.length - (k + 1) < r.1.length - k; omega⟩, gs rfl (by rw [efl]; rfl) (fun v hF => cef_snoc hF.1 hF.2)⟩
 obtain rfl : k = r.1.length := by omega
 have hfz : firstE (fun k => cellE t k (r.1.getD k [])) r.1.length = 0 := fir_ok hz
 rw [hfz, if_neg (fun hh => hh rfl)] at e0
 rw [List.take_length] at hes
 refine And.intro rfl ?_
 rw [← row_map ceC ce0 es]
 refine sealW (g := fun i => ceC (es.getD i ce0)) (l := List.range es.length) 900 rfl (by simp [hn1]) ?_
 refine goW TT_ok ?_
 refine nilC 901 105 6 ?_
 refine w_loopF TT_ok (fun z : LpG (Ex × AC) => [(12, .v (.int .i64 z.k))]) (fun z => [(901, .e (bufE 105 6 (.slice z.a z.n z.c) (z.es.map xeC).flatten)), (7, .c b7 76 (lnC (a1, n1, c1) (z.a, z.n, z.c))), (4, .c b4 76 (lnC (none, 0, 0) (none, 0, 0))), (3, .c b3 66 (ruC r p q)), (2, .c b2 27 (tabC t a))])
  (fun z v => (SlC 99 3 (flatR fun i => ceC (es.getD i ce0)) v (.slice a1 n1 c1) (List.range es.length) ∧ CeF es v) ∧ XeF z.es v) ⟨none, 0, 0, [], 0⟩
  (fun z => z.k ≤ r.2.length ∧ z.n = z.es.length ∧ z.es.map (·.1) = (r.2.take z.k).map (fun s => (parseT s).1) ∧ ∀ j, j < z.k → outE t j (r.2.getD j []) = 0) (fun z => r.2.length - z.k) (fun z _ _ hle hx => ⟨⟨hx.1.1.monoF hle, cef_m es _ _ hle hx.1.2⟩, xef_m _ _ _ hle hx.2⟩) ?_
 refine And.intro ⟨⟨Nat.zero_le _, rfl, rfl, fun j hj => absurd hj (Nat.not_lt_zero j)⟩, gs (fv := fun v hF => ⟨⟨hF.2, hF.1⟩, fun q hq => absurd hq List.not_mem_nil⟩)⟩ ?_
 rintro ⟨a2, n2, c2, es2, k⟩ ⟨hk2, hn2, hes2, hz2⟩
 dsimp only at hk2 hn2 hes2 hz2 ⊢
 refine cnd (fun h1 => ?_) (fun h1 => ?_)
 ·have hkl : k < r.2.length := by omega
  have hel := es_len hes2 hk2
  have hcE : outE t k (r.2.getD k []) = if (parseT (r.2.getD k [])).2.2 ≠ 0 then (parseT (r.2.getD k [])).2.2 else if (kindT (colsO t.ins) (parseT (r.2.getD k [])).1).2 ≠ 0 then (kindT (colsO t.ins) (parseT (r.2.getD k [])).1).2
   else if fitS (kindT (colsO t.ins) (parseT (r.2.getD k [])).1).1 (t.outs.getD k co0).1.kind = false then 14 else 0 := rfl
  have her := fir_er (f := fun k => outE t k (r.2.getD k [])) hz2
  have hpr := parseT_right (s := r.2.getD k [])
  have hnd := parse_nd (r.2.getD k [])
  have hs : (r.2.getD k []).length ≤ 1000000 := hsl _ (getD_mem r.2 k [] hkl)
  have htm := fun g => take_map (f := fun s => (parseT s).1) (γ := AC) (g := g) [] hes2 hkl
  refine ixs hr2 k [] ?_
  obtain ⟨x, at', e, he⟩ : ∃ x at' e, parseT (r.2.getD k []) = (x, at', e) := ⟨_, _, _, rfl⟩
  refine cA TT_ok (fun w v h1 h2 h3 => c_RParseE he (by omega) w v h3) (fun a => xl_m a _) (fun y => ?_)
  generalize hce : outE t k (r.2.getD k []) = ce at *
  rw [he] at hcE hpr hnd htm
  dsimp only at hcE hpr hnd htm
  intro b13
  obtain ⟨pk, hpk⟩ : ∃ pk, kindT (colsO t.ins) x = pk := ⟨_, rfl⟩
  rw [hpk] at hcE
  refine w_cutB TT_ok (fun _ : Unit => [(16, .v (.int .i64 (if e ≠ 0 then 0 else pk.1))), (15, .v (.int .i64 (if e ≠ 0 then e else pk.2)))]) (fun _ => [(13, .c b13 105 (xeC (x, y))), (86, .k none (adB q.1) (adO q.1 + k * 1) [vs (r.2.getD k [])]), (901, .e (bufE 105 6 (.slice a2 n2 c2) (es2.map xeC).flatten)), (7, .c b7 76 (lnC (a1, n1, c1) (a2, n2, c2))), (4, .c b4 76 (lnC (none, 0, 0) (none, 0, 0))), (3, .c b3 66 (ruC r p q)), (2, .c b2 27 (tabC t a))]) (fun _ => True) ?_
  refine And.intro ?_ ?_
  ·refine cnd (fun h2 => ?_) (fun h2 => ?_)
   ·have h2 : e = 0 := h2
    refine cf (fun w v h1 h4 h3 => c_RKindP (p := pk) a.i.1 a.i.2 (colsO t.ins) x y.1 y.2 hpk w v h3 ⟨h4.2, hnd.1, hnd.2, smx_right (hpr h2)⟩ (hc.i.1.monoF h1)) ?_
    exact ⟨(), trivial, gs (by rw [if_neg (fun hh => hh h2), if_neg (fun hh => hh h2)]; rfl)⟩
   ·exact ⟨(), trivial, gs (by rw [if_pos h2, if_pos h2]; rfl)⟩
  intro _ _
  refine w_cutB TT_ok (fun _ : Unit => [(15, .v (.int .i64 ce))]) (fun _ => [(13, .c b13 105 (xeC (x, y))), (86, .k none (adB q.1) (adO q.1 + k * 1) [vs (r.2.getD k [])]), (901, .e (bufE 105 6 (.slice a2 n2 c2) (es2.map xeC).flatten)), (7, .c b7 76 (lnC (a1, n1, c1) (a2, n2, c2))), (4, .c b4 76 (lnC (none, 0, 0) (none, 0, 0))), (3, .c b3 66 (ruC r p q)), (2, .c b2 27 (tabC t a))]) (fun _ => True) ?_
  refine And.intro ?_ ?_
  ·refine ixsg hc.o.1 k c0 ?_ (by intros; omega)
   refine kg1 ?_
   rw [cols_get t.outs k (by omega)]
   refine cbg (fun _ w hw => c_RFits _ _ w h0 hw) ?_
   refine cnd (fun h2 => ?_) (fun h2 => ?_)
   ·have h14 : ce = 14 := by
     rw [hcE]
     by_cases h3 : e = 0
     ·rw [if_neg (fun hh => hh h3), if_neg (fun hh => hh h3)] at h2
      rw [if_neg (fun hh => hh h3), if_neg (fun hh => hh h2.1), if_pos h2.2]
     ·rw [if_pos h3] at h2
      exact absurd h2.1 h3
    exact ⟨(), trivial, gs (by rw [h14]; rfl)⟩
   ·have h15 : (if e ≠ 0 then e else pk.2) = ce := by
     rw [hcE]
     by_cases h3 : e = 0
     ·rw [if_neg (fun hh => hh h3), if_neg (fun hh => hh h3)] at h2
      rw [if_neg (fun hh => hh h3), if_neg (fun hh => hh h3)]
      by_cases h4 : pk.2 = 0
      ·rw [if_neg (fun hh => hh h4), if_neg (by
        rcases h2 with h2 | h2
        ·exact absurd h4 h2
        ·rw [h2]; decide), h4]
      ·rw [if_pos h4]
     ·rw [if_pos h3, if_pos h3]
    exact ⟨(), trivial, gs (by rw [h15]; rfl)⟩
  intro _ _
  refine cnd (fun h2 => ?_) (fun h2 => ?_)
  ·have h2 : ce ≠ 0 := h2
   have := her h2 hkl
   rw [this] at e0
   rw [e0]
   refine regPh TT_ok [([0, 1, 4, 6, 2, 3, 5], [7]), ([8, 9], [])] [4] ?_
   refine wi ?_
   refine kq ?_
   refine kq ?_
   refine kq ?_
   exact ⟨((a1, n1, c1), (a2, n2, c2), ((colsO t.ins).length : Int) + k), rfl, fun v _ _ hh => absurd hh h2⟩
  have h2 : ce = 0 := by simpa using h2
  intro b126
  refine ap TT_ok 901 (AppT.of (bytes := 80) (sz := 5) (by kernel_rfl) (by kernel_rfl) (by kernel_rfl)) rfl rfl rfl rfl rfl rfl rfl (by rw [row_flat (sz := 6) (fun _ => rfl)]; show (_ + 6) * 81 ≤ _; omega) (fun a3 n3 c3 e3 => ?_)
  have hn3 : n3 = (es2 ++ [(x, y)]).length := by
   rw [row_flat (sz := 6) (fun _ => rfl)] at e3
   have e3 : n3 * 6 = es2.length * 6 + 6 := e3
   rw [List.length_append]; show n3 = es2.length + 1; omega
  have efl : ((es2 ++ [(x, y)]).map xeC).flatten = (es2.map xeC).flatten ++ (xeC (x, y) ++ []) := by rw [List.map_append, List.flatten_append]; rfl
  refine wi ?_
  refine And.intro rfl ?_
  refine goW TT_ok ?_
  refine ⟨⟨a3, n3, c3, es2 ++ [(x, y)], k + 1⟩, ⟨⟨hkl, hn3, htm y, upto_snoc hz2 (hce.trans h2)⟩, by show r.2.length - (k + 1) < r.2.length - k; omega⟩, gs rfl (by rw [efl]; rfl) (fun v hF => ⟨hF.1.1, xef_snoc hF.1.2 hF.2⟩)⟩
 obtain rfl : k = r.2.length := by omega
 have hfz : firstE (fun k => outE t k (r.2.getD k [])) r.2.length = 0 := fir_ok hz2
 rw [hfz] at e0
 rw [List.take_length] at hes2
 refine And.intro rfl ?_
 rw [← row_map xeC xq0 es2]
 refine sealW (g := fun i => xeC (es2.getD i xq0)) (l := List.range es2.length) 901 rfl (by simp [hn2]) ?_
 refine goW TT_ok ?_
 rw [e0]
 have hl1 : n1 = (lineV r).cs.length := by rw [hn1]; have := congrArg List.length hes; simpa [lineV] using this
 have hl2 : n2 = (lineV r).os.length := by rw [hn2]; have := congrArg List.length hes2; simpa [lineV] using this
 refine ⟨((a1, n1, c1), (a2, n2, c2), 0), rfl, fun v _ hF _ => ⟨hl1, hl2, ?_, ?_⟩⟩
 ·have := LR.of_row (R := CelR) (g := fun q : Cel × AC => q.1) hF.1.1.1 hn1 (fun q hq => ⟨q.2, rfl, hF.1.1.2 q hq⟩)
  rw [hes] at this; exact this
 ·have := LR.of_row (R := fun h cs x => RX h cs x) (g := fun q : Ex × AC => q.1) hF.2 hn2 (fun q hq => XL.rx (hF.1.2 q hq) (by
   have hm : q.1 ∈ es2.map (·.1) := List.mem_map.2 ⟨q, hq, rfl⟩
   rw [hes2] at hm
   obtain ⟨s, _, e⟩ := List.mem_map.1 hm
   rw [← e]; exact parse_nd s))
  rw [hes2] at this; exact this
end Go.Proofs.YtkkbnjomcgnkpaaGreat
set_option maxRecDepth 100000
namespace Go.Proofs.YtkkbnjomcgnkpaaGreat
open Go Go.Dx Go.RowKit
def lqC (q : Lin × SlH × SlH) : List Value := lnC q.2.1 q.2.2
def LqH (h : View) (q : Lin × SlH × SlH) : Prop := q.2.1.2.1 = q.1.cs.length ∧ q.2.2.2.1 = q.1.os.length ∧ LinH h q.1 (q.2.1.1, q.2.1.2.2) (q.2.2.1, q.2.2.2.2)
theorem lqh_m (q : Lin × SlH × SlH) : Mono fun h => LqH h q := fun _ _ hle hx => ⟨hx.1, hx.2.1, lin_m _ _ _ _ _ hle hx.2.2⟩
def LqF (es : List (Lin × SlH × SlH)) (h : View) : Prop := ∀ q ∈ es, LqH h q
theorem lqf_m (es : List (Lin × SlH × SlH)) : Mono fun h => LqF es h := fun _ _ hle hx q hq => lqh_m _ _ _ hle (hx q hq)
theorem lqf_snoc {es : List (Lin × SlH × SlH)} {q : Lin × SlH × SlH} {h : View} (h1 : LqF es h) (h2 : LqH h q) : LqF (es ++ [q]) h := fun p hp => by
 rcases List.mem_append.1 hp with hp | hp
 ·exact h1 p hp
 ·have : p = q := by simpa using hp
  subst this; exact h2
def lq0 : Lin × SlH × SlH := (lin0, (none, 0, 0), (none, 0, 0))
theorem LqH.r {h : View} {q : Lin × SlH × SlH} (hx : LqH h q) : LinR h (lqC q) q.1 := by
 obtain ⟨l, ⟨a1, n1, c1⟩, ⟨a2, n2, c2⟩⟩ := q
 obtain ⟨h1, h2, h3⟩ := hx
 dsimp only at h1 h2 h3
 exact ⟨(a1, c1), (a2, c2), by rw [lqC, lnC, liC, h1, h2], h3⟩
def ta0 : TA := ⟨(none, 0), (none, 0), (none, 0)⟩
def mkV (t : Tab) (a : TA) (z : AC × Int × Int) : Value := if makeE t = 0 then .tuple #[.agg (rdyC (makeV t) a z.1).toArray, .int .i64 0, .int .i64 0, .int .i64 0] else .tuple #[.agg (rdyC rdy0 ta0 (none, 0)).toArray, .int .i64 z.2.1, .int .i64 z.2.2, .int .i64 (makeE t)]
def LzF (t : Tab) (r : List (List UInt8) × List (List UInt8)) (z : SlH × SlH × Int) (h : View) : Prop := lineE t r = 0 → z.1.2.1 = (lineV r).cs.length ∧ z.2.1.2.1 = (lineV r).os.length ∧ LinH h (lineV r) (z.1.1, z.1.2.2) (z.2.1.1, z.2.1.2.2)
theorem lzf_m (t : Tab) (r : List (List UInt8) × List (List UInt8)) (z : SlH × SlH × Int) : Mono fun h => LzF t r z h := fun _ _ hle hx he => ⟨(hx he).1, (hx he).2.1, lin_m _ _ _ _ _ hle (hx he).2.2⟩
set_option maxHeartbeats 4000000 in
theorem c_Make (t : Tab) (a : TA) (hb : TabB t) (w0 : World) (h0 : View) (hv : VLe h0 (Full w0)) (hc : TabH h0 t a) :
  Calls Tryz.prog 11 #[.agg (tabC t a).toArray] w0 (Ret w0 h0 fun u hh => ∃ z : AC × Int × Int, u = mkV t a z ∧ (makeE t = 0 → RdyH hh (makeV t) a z.1)) := by
 have e0 : makeE t = if frameE t ≠ 0 then frameE t else firstE (fun i => lineE t (t.rules.getD i ru0)) t.rules.length := rfl
 have hok : ∀ z, makeE t = 0 → mkV t a z = .tuple #[.agg (rdyC (makeV t) a z.1).toArray, .int .i64 0, .int .i64 0, .int .i64 0] := fun z h => if_pos h
 have her : ∀ z, makeE t ≠ 0 → mkV t a z = .tuple #[.agg (rdyC rdy0 ta0 (none, 0)).toArray, .int .i64 z.2.1, .int .i64 z.2.2, .int .i64 (makeE t)] := fun z h => if_neg h
 generalize mkV t a = mk at hok her ⊢
 generalize makeE t = E at e0 hok her ⊢
 refine entA (args := [.agg (tabC t a).toArray]) TT_ok [1000008, 50] [9] Tryz.func11 rfl Tryz.ntmps11 rfl rfl hv (fun x => fun _ _ hle hx he => rdy_m _ _ _ _ _ hle (hx he)) ?_
 intro b1 b2
 refine cb (fun w hw => c_Rframe t a hb w h0 hw hc) ?_
 refine cnd (fun h => ?_) (fun h => ?_)
 ·have h : frameE t ≠ 0 := h
  rw [if_pos h] at e0
  subst e0
  exact ⟨((none, 0), -1, 0), (her ((none, 0), -1, 0) h).symm, fun v _ _ hh => absurd hh h⟩
 rw [if_neg (fun hh => hh (by simpa using h))] at e0
 intro b7
 refine nilC 900 76 2 ?_
 refine w_loopF TT_ok (fun z : LpG (Lin × SlH × SlH) => [(8, .v (.int .i64 z.k))]) (fun z => [(900, .e (bufE 76 2 (.slice z.a z.n z.c) (z.es.map lqC).flatten)), (7, .c b7 34 (tabC t a ++ [.slice z.a z.n z.c])), (2, .c b2 34 (rdyC rdy0 ta0 (none, 0))), (1, .c b1 27 (tabC t a))])
  (fun z v => LqF z.es v) ⟨none, 0, 0, [], 0⟩ (fun z => z.k ≤ t.rules.length ∧ z.n = z.es.length ∧ z.es.map (·.1) = (t.rules.take z.k).map lineV ∧ ∀ j, j < z.k → lineE t (t.rules.getD j ru0) = 0) (fun z => t.rules.length - z.k) (fun z => lqf_m z.es) ?_
 refine And.intro ⟨⟨Nat.zero_le _, rfl, rfl, fun j hj => absurd hj (Nat.not_lt_zero j)⟩, gs (fv := fun v _ q hq => absurd hq List.not_mem_nil)⟩ ?_
 rintro ⟨a1, n1, c1, es, k⟩ ⟨hk, hn1, hes, hz⟩
 dsimp only at hk hn1 hes hz ⊢
 have hlk := hb.k
 refine cnd (fun h1 => ?_) (fun h1 => ?_)
 ·have hkl : k < t.rules.length := by omega
  have hel := es_len hes hk
  have hfe := fir_er (f := fun i => lineE t (t.rules.getD i ru0)) hz
  have htm := fun g => take_map (f := lineV) (γ := SlH × SlH) (g := g) ru0 hes hkl
  have hbr := hb.r _ (getD_mem t.rules k ru0 hkl)
  obtain ⟨r, hr⟩ : ∃ r, t.rules.getD k ru0 = r := ⟨_, rfl⟩
  rw [hr] at htm hbr hfe
  refine w_cutF TT_ok (fun y : Nat × SlH × SlH × Int => [(9, .o 9 0), (10, .v (.int .i64 y.2.2.2)), (11, .v (.int .i64 (lineE t r)))]) (fun y => [(9, .c y.1 76 (lnC y.2.1 y.2.2.1)), (900, .e (bufE 76 2 (.slice a1 n1 c1) (es.map lqC).flatten)), (7, .c b7 34 (tabC t a ++ [.slice a1 n1 c1])), (2, .c b2 34 (rdyC rdy0 ta0 (none, 0))), (1, .c b1 27 (tabC t a))])
   (fun y v => LqF es v ∧ LzF t r y.2 v) (fun _ => True) (fun y _ _ hle hx => ⟨lqf_m _ _ _ hle hx.1, lzf_m _ _ _ _ _ hle hx.2⟩) ?_
  refine And.intro ?_ ?_
  ·refine regPt TT_ok (.m [0,1,3,2,4,5] (.n 6 (.m [7,8,9,10] (.n 11 (.n 12 (.m [13,14] .e) .z) .z)) (.n 11 (.n 6 (.m [7,8,9,10] (.n 12 (.m [13,14] .e) .z)) .z) .z))) [9] ?_
   refine ixL (R := RuR) hc.r k ru0 (fun cs hcs => ?_)
   rw [hr] at hcs
   obtain ⟨pa, pb, rfl, g1, g2⟩ := hcs
   refine kq ⟨?_, ?_⟩
   ·refine cA TT_ok (fun w v h1 h2 h3 => c_Rrule t a r pa pb hbr.2.1 hbr.2.2 hbr.1 w v h3 (tab_m _ _ _ _ h1 hc) (txtl_m _ _ _ _ h1 g1) (txtl_m _ _ _ _ h1 g2)) (fun y => lzf_m t r y) (fun y => ?_)
    refine kq ?_
    refine kq ?_
    intro b9
    refine kq ?_
    refine kq ?_
    refine kq ?_
    exact ⟨(b9, y), trivial, gsJ ⟨rfl, rfl, rfl, rfl, rfl, trivial⟩⟩
   ·intro b9
    refine kq ?_
    refine cA TT_ok (fun w v h1 h2 h3 => c_Rrule t a r pa pb hbr.2.1 hbr.2.2 hbr.1 w v h3 (tab_m _ _ _ _ h1 hc) (txtl_m _ _ _ _ h1 g1) (txtl_m _ _ _ _ h1 g2)) (fun y => lzf_m t r y) (fun y => ?_)
    refine kq ?_
    refine kq ?_
    refine kq ?_
    refine kq ?_
    exact ⟨(b9, y), trivial, gsJ ⟨rfl, rfl, rfl, rfl, rfl, trivial⟩⟩
  rintro ⟨b9, y1, y2, yk⟩ _
  dsimp only
  refine cnd (fun h2 => ?_) (fun h2 => ?_)
  ·have h2 : lineE t r ≠ 0 := h2
   have := hfe h2 hkl
   rw [this] at e0
   subst e0
   exact ⟨((none, 0), k, yk), (her ((none, 0), k, yk) h2).symm, fun v _ _ hh => absurd hh h2⟩
  have h2 : lineE t r = 0 := by simpa using h2
  intro b47
  refine ap TT_ok 900 (AppT.of (bytes := 48) (sz := 1) (by kernel_rfl) (by kernel_rfl) (by kernel_rfl)) rfl rfl rfl rfl rfl rfl rfl (by rw [row_flat (sz := 2) (fun _ => rfl)]; show (_ + 2) * 49 ≤ _; omega) (fun a3 n3 c3 e3 => ?_)
  have hn3 : n3 = (es ++ [(lineV r, y1, y2)]).length := by
   rw [row_flat (sz := 2) (fun _ => rfl)] at e3
   have e3 : n3 * 2 = es.length * 2 + 2 := e3
   rw [List.length_append]; show n3 = es.length + 1; omega
  have efl : ((es ++ [(lineV r, y1, y2)]).map lqC).flatten = (es.map lqC).flatten ++ (lnC y1 y2 ++ []) := by rw [List.map_append, List.flatten_append]; rfl
  refine wi ?_
  refine ⟨⟨a3, n3, c3, es ++ [(lineV r, y1, y2)], k + 1⟩, ⟨⟨hkl, hn3, htm (y1, y2), upto_snoc hz (by rw [hr]; exact h2)⟩, by show t.rules.length - (k + 1) < t.rules.length - k; omega⟩, gs rfl (by rw [efl]; rfl) (fun v hF => lqf_snoc hF.1 (hF.2 h2))⟩
 obtain rfl : k = t.rules.length := by omega
 rw [show firstE (fun i => lineE t (t.rules.getD i ru0)) t.rules.length = 0 from fir_ok hz] at e0
 rw [List.take_length] at hes
 refine And.intro rfl ?_
 rw [← row_map lqC lq0 es]
 refine sealW (g := fun i => lqC (es.getD i lq0)) (l := List.range es.length) 900 rfl (by simp [hn1]) ?_
 refine goW TT_ok ?_
 subst e0
 have hl1 : n1 = (makeV t).ls.length := by rw [hn1]; have := congrArg List.length hes; simpa [makeV] using this
 have hfin := (hok ((a1, c1), 0, 0) rfl).symm
 rw [rdyC, ← hl1] at hfin
 refine ⟨((a1, c1), 0, 0), hfin, fun v hle hF _ => ⟨tab_m _ _ _ _ hle hc, ?_⟩⟩
 ·have := LR.of_row (R := LinR) (g := fun q : Lin × SlH × SlH => q.1) hF.2 hn1 (fun q hq => (hF.1 q hq).r)
  rw [hes] at this; exact this
end Go.Proofs.YtkkbnjomcgnkpaaGreat
set_option maxRecDepth 100000
namespace Go.Proofs.YtkkbnjomcgnkpaaGreat
open Go Go.Dx Go.RowKit
structure RdyB (r : Rdy) : Prop where
 ins : r.t.ins.length ≤ 1000000
 ls : r.ls.length ≤ 1000000
 l : ∀ l ∈ r.ls, l.cs.length = r.t.ins.length ∧ l.os.length ≤ 1000000 ∧ (∀ c ∈ l.cs, ∀ t ∈ c.ts, GT t) ∧ (∀ x ∈ l.os, Nd x ∧ SmX x)
 no : ∀ l ∈ r.ls, 1 ≤ l.os.length
theorem c_Input (r : Rdy) (a : TA) (x b : AC) (row : List Val) (hvb : ∀ v ∈ row, valB v) (w0 : World) (h0 : View) (hv : VLe h0 (Full w0)) (hr : RdyH h0 r a x) (hrow : SlC 57 3 (flatR valC) h0 (.slice b.1 row.length b.2) row) :
  Calls Tryz.prog 18 #[.agg (rdyC r a x).toArray, .slice b.1 row.length b.2] w0 (Ret w0 h0 fun u _ => u = .int .i64 (inputE r row)) := by
 have hlm := slc_lm hrow
 have hci := cols_len r.t.ins
 have e21 : ¬ (row.length = r.t.ins.length ∧ ∀ i, i < row.length → inG r row i) → inputE r row = 21 := fun h => if_neg h
 have e00 : (row.length = r.t.ins.length ∧ ∀ i, i < row.length → inG r row i) → inputE r row = 0 := fun h => if_pos h
 generalize inputE r row = E at e21 e00 ⊢
 refine ent (args := [.agg (rdyC r a x).toArray, .slice b.1 row.length b.2]) TT_ok [] [] Tryz.func18 rfl Tryz.ntmps18 rfl rfl hv ?_
 intro b2
 refine cnd (fun h => ?_) (fun h => ?_)
 ·rw [e21 (fun hh => by omega)]; exact rfl
 have hlen : row.length = r.t.ins.length := by omega
 refine w_loop TT_ok (fun k : Nat => [(16, .v (.int .i64 k))]) 0 (fun k => k ≤ row.length ∧ ∀ i, i < k → inG r row i) (fun k => row.length - k) ?_
 refine And.intro ⟨⟨Nat.zero_le _, fun j hj => absurd hj (Nat.not_lt_zero j)⟩, gs⟩ ?_
 intro k ⟨hk, hn⟩
 refine cnd (fun h1 => ?_) (fun h1 => ?_)
 ·have hkl : k < row.length := by omega
  refine ixs hrow k v0 ?_
  intro b6
  refine And.intro (by kernel_rfl) ?_
  refine cb (fun w hw => c_VCheck _ (hvb _ (getD_mem row k v0 hkl)) w h0 hw) ?_
  refine ixsg hr.t.i.1 k c0 ?_ (by intros; omega)
  refine kg1 ?_
  refine cbg (fun _ w hw => c_Fits _ _ w h0 hw) ?_
  refine cnd (fun h2 => ?_) (fun h2 => ?_)
  ·rw [e21 (fun hh => by
    have hg := hh.2 k hkl
    rcases h2 with h2 | h2
    ·rw [if_pos hg.1] at h2; exact h2 rfl
    ·rw [hg.2] at h2; cases h2)]
   exact rfl
  ·refine wi ?_
   refine ⟨k + 1, ⟨⟨hkl, upto_snoc hn ⟨?_, h2.2⟩⟩, by omega⟩, gs⟩
   have h3 := h2.1
   split at h3
   ·assumption
   ·exact absurd h3 (by decide)
 ·rw [e00 ⟨hlen, fun i hi => hn i (by omega)⟩]; exact rfl
theorem getD_line {r : Rdy} (hb : RdyB r) {i : Nat} (hi : i < r.ls.length) : (r.ls.getD i lin0).cs.length = r.t.ins.length ∧ (r.ls.getD i lin0).os.length ≤ 1000000 ∧ (∀ c ∈ (r.ls.getD i lin0).cs, ∀ t ∈ c.ts, GT t) ∧ (∀ x ∈ (r.ls.getD i lin0).os, Nd x ∧ SmX x) := hb.l _ (getD_mem r.ls i lin0 hi)
set_option maxHeartbeats 2000000 in
theorem c_holdsH (r : Rdy) (a : TA) (x b : AC) (row : List Val) (i : Nat) (hb : RdyB r) (hi : i < r.ls.length) (hl : row.length = r.t.ins.length) (hvb : ∀ v ∈ row, valB v) (w0 : World) (h0 : View) (hv : VLe h0 (Full w0)) (hr : RdyH h0 r a x) (hrow : SlC 57 3 (flatR valC) h0 (.slice b.1 row.length b.2) row) :
  Calls Tryz.prog 38 #[.agg (rdyC r a x).toArray, .int .i64 (i : Nat), .slice b.1 row.length b.2] w0 (Ret w0 h0 fun u _ => u = kbR2 (ruleS r row i)) := by
 have hlm := slc_lm hrow
 have hci := cols_len r.t.ins
 have hg := getD_line hb hi
 have hbi := hb.ins
 have e0 : ruleS r row i = allS (cellH r row i) (r.ls.getD i lin0).cs.length := rfl
 rw [e0]; clear e0
 have eC : ∀ k, cellH r row i k = holdsC ((r.ls.getD i lin0).cs.getD k cel0) (row.getD k v0) (colsO r.t.ins) row := fun _ => rfl
 refine ent (args := [.agg (rdyC r a x).toArray, .int .i64 (i : Nat), .slice b.1 row.length b.2]) TT_ok [] [] Tryz.func38 rfl Tryz.ntmps38 rfl rfl hv ?_
 intro b3
 refine ixL (R := LinR) hr.l i lin0 (fun cs hcs => ?_)
 generalize r.ls.getD i lin0 = ln at hg eC hcs ⊢
 obtain ⟨la, lb, rfl, hlin⟩ := hcs
 refine w_loop TT_ok (fun k : Nat => [(19, .v (.int .i64 k))]) 0 (fun k => k ≤ ln.cs.length ∧ ∀ j, j < k → cellH r row i j = (true, 0)) (fun k => ln.cs.length - k) ?_
 refine And.intro ⟨⟨Nat.zero_le _, fun j hj => absurd hj (Nat.not_lt_zero j)⟩, gs⟩ ?_
 intro k ⟨hk, hn⟩
 refine cnd (fun h1 => ?_) (fun h1 => ?_)
 ·have hkl : k < ln.cs.length := by omega
  have hgt := hg.2.2.1 _ (getD_mem ln.cs k cel0 hkl)
  have hec := eC k
  refine ixL (R := CelR) hlin.1 k cel0 (fun cs hcs => ?_)
  generalize ln.cs.getD k cel0 = c at hgt hec hcs ⊢
  obtain ⟨y, rfl, ht⟩ := hcs
  intro b9
  refine And.intro (by kernel_rfl) ?_
  refine ixs hrow k v0 ?_ (by omega)
  refine cb (fun w hw => c_CHoldsK hec.symm y.1 y.2 a.i.1 a.i.2 b.1 b.2 hgt (hvb _ (getD_mem row k v0 (by omega))) (by omega) hvb w h0 hw ht hr.t.i.1 hrow) ?_
  generalize hp : cellH r row i k = p at *
  refine cnd (fun h2 => ?_) (fun h2 => ?_)
  ·have hne : cellH r row i k ≠ (true, 0) := fun hh => by
    rw [hp] at hh; subst hh
    rcases h2 with h2 | h2
    ·exact h2 rfl
    ·cases h2
   rw [alls_er hn hne hkl, hp]; exact rfl
  ·refine wi ?_
   refine ⟨k + 1, ⟨⟨hkl, upto_snoc hn ?_⟩, by omega⟩, gs⟩
   rw [hp]
   obtain ⟨p1, p2⟩ := p
   have h3 : p2 = 0 := by simpa using h2.1
   have h4 : p1 = true := by simpa using h2.2
   rw [h3, h4]
 ·rw [alls_ok fun j hj => hn j (by omega)]; exact rfl
end Go.Proofs.YtkkbnjomcgnkpaaGreat
set_option maxRecDepth 100000
namespace Go.Proofs.YtkkbnjomcgnkpaaGreat
open Go Go.Dx Go.RowKit
def nC (i : Nat) : List Value := [.int .i64 (i : Int)]
theorem nsl {h : View} {a : Option Addr} {n cp : Nat} {l : List Nat} (hs : SlC 3 1 (flatR nC) h (.slice a n cp) l) : SlC 3 1 (flatR iC) h (.slice a n cp) (ints l) :=
 SlC.reidx hs (by simp [ints]) (fun i x y hi hj => by
  rw [ints, List.getElem?_map, hi] at hj
  cases hj; rfl)
def ruV (q : List Nat × Nat × Int) (z : AC) : Value := .tuple #[.slice z.1 q.1.length z.2, .int .i64 (q.2.1 : Int), .int .i64 q.2.2]
set_option maxHeartbeats 4000000 in
theorem c_HRules (r : Rdy) (a : TA) (x b : AC) (row : List Val) (hb : RdyB r) (hvb : ∀ v ∈ row, valB v) (w0 : World) (h0 : View) (hv : VLe h0 (Full w0)) (hr : RdyH h0 r a x) (hrow : SlC 57 3 (flatR valC) h0 (.slice b.1 row.length b.2) row) :
  Calls Tryz.prog 14 #[.agg (rdyC r a x).toArray, .slice b.1 row.length b.2] w0 (Ret w0 h0 fun u hh => ∃ z : AC, u = ruV (rulesR r row) z ∧ SlC 3 1 (flatR nC) hh (.slice z.1 (rulesR r row).1.length z.2) (rulesR r row).1) := by
 have hbl := hb.ls
 have eI : inputE r row ≠ 0 → rulesR r row = ([], 0, inputE r row) := fun h => if_pos h
 have eR : inputE r row = 0 → rulesR r row = rulesS r.t.pol (ruleS r row) r.ls.length := fun h => if_neg (fun hh => hh h)
 have hin : inputE r row = 0 → row.length = r.t.ins.length := fun h => by
  unfold inputE at h
  split at h
  ·rename_i hh; exact hh.1
  ·exact absurd h (by decide)
 generalize rulesR r row = q at eI eR ⊢
 refine entA (args := [.agg (rdyC r a x).toArray, .slice b.1 row.length b.2]) TT_ok [4] [] Tryz.func14 rfl Tryz.ntmps14 rfl rfl hv (fun _ => Mono.slF) ?_
 intro b2
 refine And.intro rfl ?_
 refine goW TT_ok ?_
 refine cb (fun w hw => c_Input r a x b row hvb w h0 hw hr hrow) ?_
 refine cnd (fun h => ?_) (fun h => ?_)
 ·have h : inputE r row ≠ 0 := h
  refine And.intro rfl ?_
  refine goW TT_ok ?_
  rw [eI h]
  exact ⟨(none, 0), rfl, fun v _ _ => SlC.nil (by simp [maxLen])⟩
 have h : inputE r row = 0 := by simpa using h
 rw [eR h]
 have hl := hin h
 clear eI eR hin
 have hS : ∀ j, stopR r.t.pol (ruleS r row) j = (decide ((ruleS r row j).2 ≠ 0) || ((ruleS r row j).1 && decide (r.t.pol = 2))) := fun j => rfl
 refine nilC 900 3 1 ?_
 refine w_loopF TT_ok (fun z : (Option Addr × Nat × Nat) × Nat => [(21, .v (.int .i64 z.2)), (8, .v (.slice z.1.1 z.1.2.1 z.1.2.2))]) (fun z => [(900, .e (bufE 3 1 (.slice z.1.1 z.1.2.1 z.1.2.2) ((heldR (ruleS r row) z.2).map nC).flatten)), (2, .c b2 34 (rdyC r a x))])
  (fun z v => True) ((none, 0, 0), 0) (fun z => z.2 ≤ r.ls.length ∧ z.1.2.1 = (heldR (ruleS r row) z.2).length ∧ ∀ j, j < z.2 → stopR r.t.pol (ruleS r row) j = false) (fun z => r.ls.length - z.2) (fun z _ _ _ _ => trivial) ?_
 refine And.intro ⟨⟨Nat.zero_le _, rfl, fun j hj => absurd hj (Nat.not_lt_zero j)⟩, gs (fv := fun v _ => trivial)⟩ ?_
 rintro ⟨⟨a1, n1, c1⟩, k⟩ ⟨hk, hn1, hz⟩
 dsimp only at hk hn1 hz ⊢
 have hle : (heldR (ruleS r row) k).length ≤ k := by
  have := List.length_filter_le (fun i => (ruleS r row i).1) (List.range k)
  rw [List.length_range] at this; exact this
 refine cnd (fun h1 => ?_) (fun h1 => ?_)
 ·have hkl : k < r.ls.length := by omega
  refine cb (fun w hw => c_holdsH r a x b row k hb hkl hl hvb w h0 hw hr hrow) ?_
  have hsn := held_snoc (ruleS r row) k
  have hsk := hS k
  have hrs := rules_some (pol := r.t.pol) (f := ruleS r row) (n := r.ls.length) (k := k) hz
  generalize hp : ruleS r row k = p at hsn hsk hrs ⊢
  obtain ⟨p1, p2⟩ := p
  dsimp only at hsn hsk hrs
  refine cnd (fun h2 => ?_) (fun h2 => ?_)
  ·have h2 : p2 ≠ 0 := h2
   refine And.intro rfl ?_
   refine goW TT_ok ?_
   rw [hrs (by rw [hsk, decide_eq_true h2, Bool.true_or]) hkl, if_pos h2]
   exact ⟨(none, 0), rfl, fun v _ _ => SlC.nil (by simp [maxLen])⟩
  have h2 : p2 = 0 := by simpa using h2
  subst h2
  have hd : decide ((0 : Int) ≠ 0) = false := by decide
  rw [hd, Bool.false_or] at hsk
  refine cnd (fun h3 => ?_) (fun h3 => ?_)
  ·obtain ⟨h3, h4⟩ : p1 = true ∧ r.t.pol = 2 := h3
   subst h3
   rw [hrs (by rw [hsk, h4]; rfl) hkl, if_neg (by decide)]
   intro b45
   refine And.intro rfl ?_
   refine shutW 45 (row_sl (g := nC) (l := [k]) (sz := 1) (n := 1) (cp := 1) rfl) ?_ Mono.slF
   refine goW TT_ok ?_
   exact ⟨(some ⟨b45, 0, none⟩, 1), rfl, fun v _ hF => hF.2⟩
  have h5 : stopR r.t.pol (ruleS r row) k = false := by
   rw [hsk]
   rcases h3 with h3 | h3
   ·have h3 : p1 = false := h3
    rw [h3]; rfl
   ·rw [decide_eq_false h3]; simp
  refine cnd (fun h4 => ?_) (fun h4 => ?_)
  ·have h4 : p1 = true := h4
   rw [if_pos h4] at hsn
   intro b50
   refine ap TT_ok 900 (AppT.of (bytes := 8) (sz := 0) (by kernel_rfl) (by kernel_rfl) (by kernel_rfl)) rfl rfl rfl rfl rfl rfl rfl (by rw [row_flat (sz := 1) (fun _ => rfl)]; show (_ + 1) * 9 ≤ _; omega) (fun a3 n3 c3 e3 => ?_)
   refine wi ?_
   have hn3 : n3 = (heldR (ruleS r row) (k + 1)).length := by
    rw [row_flat (sz := 1) (fun _ => rfl)] at e3
    have e3 : n3 * 1 = (heldR (ruleS r row) k).length * 1 + 1 := e3
    rw [hsn, List.length_append]; show n3 = _ + 1; omega
   refine ⟨((a3, n3, c3), k + 1), ⟨⟨hkl, hn3, upto_snoc hz h5⟩, by show r.ls.length - (k + 1) < r.ls.length - k; omega⟩, gs rfl (by rw [hsn, List.map_append, List.flatten_append]; rfl) (fun v _ => trivial)⟩
  ·have h4 : p1 = false := by simpa using h4
   rw [if_neg (by rw [h4]; decide)] at hsn
   refine wi ?_
   refine ⟨((a1, n1, c1), k + 1), ⟨⟨hkl, by rw [hsn]; exact hn1, upto_snoc hz h5⟩, by show r.ls.length - (k + 1) < r.ls.length - k; omega⟩, gs rfl (by rw [hsn]; rfl) (fun v _ => trivial)⟩
 ·obtain rfl : k = r.ls.length := by omega
  rw [rules_none hz]
  refine And.intro rfl ?_
  refine sealW (g := nC) (l := heldR (ruleS r row) r.ls.length) 900 rfl (by simp [hn1]) ?_
  refine goW TT_ok ?_
  refine ⟨(a1, c1), ?_, fun v _ hF => ?_⟩
  ·rw [ruV]; show _ = Value.tuple #[.slice a1 (heldR (ruleS r row) r.ls.length).length c1, _, _]
   rw [← hn1]; rfl
  ·show SlC _ _ _ _ (.slice a1 (heldR (ruleS r row) r.ls.length).length c1) _
   rw [← hn1]; exact hF.2
end Go.Proofs.YtkkbnjomcgnkpaaGreat
set_option maxRecDepth 100000
namespace Go.Proofs.YtkkbnjomcgnkpaaGreat
open Go Go.Dx Go.RowKit
abbrev RwQ := List Val × AC
def rwC (q : RwQ) : List Value := [.slice q.2.1 q.1.length q.2.2]
def RwF (es : List RwQ) (h : View) : Prop := ∀ q ∈ es, SlC 57 3 (flatR valC) h (.slice q.2.1 q.1.length q.2.2) q.1
theorem rwf_m (es : List RwQ) : Mono fun h => RwF es h := fun _ _ hle hx q hq => (hx q hq).monoF hle
theorem rwf_snoc {es : List RwQ} {q : RwQ} {h : View} (h1 : RwF es h) (h2 : SlC 57 3 (flatR valC) h (.slice q.2.1 q.1.length q.2.2) q.1) : RwF (es ++ [q]) h := fun p hp => by
 rcases List.mem_append.1 hp with hp | hp
 ·exact h1 p hp
 ·have : p = q := by simpa using hp
  subst this; exact h2
def rw0 : RwQ := ([], none, 0)
noncomputable def toldS (r : Rdy) (row : List Val) (rules : List Nat) : List (List Val) × Int × Int :=
 match rules.find? (badT r row) with
 | some i => ([], (i : Int), tellE r row i)
 | none => (rules.map (tellV r row), 0, 0)
theorem told_none {r : Rdy} {row : List Val} {rules : List Nat} (h : ∀ j, j < rules.length → badT r row (rules.getD j 0) = false) : rules.find? (badT r row) = none := by
 rw [List.find?_eq_none]
 intro x hx
 obtain ⟨j, hj, rfl⟩ := List.mem_iff_getElem.1 hx
 have := h j hj
 rw [show rules.getD j 0 = rules[j] by simp [List.getD, hj]] at this
 rw [this]; decide
theorem told_some {r : Rdy} {row : List Val} : ∀ {rules : List Nat} {k : Nat}, (∀ j, j < k → badT r row (rules.getD j 0) = false) → k < rules.length → badT r row (rules.getD k 0) = true → rules.find? (badT r row) = some (rules.getD k 0)
 | [], k, _, h, _ => absurd h (Nat.not_lt_zero _)
 | i :: l, 0, _, _, h => by
  have h : badT r row i = true := h
  rw [List.find?_cons_of_pos (h := h)]; rfl
 | i :: l, k + 1, hz, hk, h => by
  have h0 : badT r row i = false := hz 0 (by omega)
  rw [List.find?_cons_of_neg (h := by rw [h0]; decide)]
  exact told_some (rules := l) (k := k) (fun j hj => hz (j + 1) (by omega)) (by simpa using hk) h
def tlV (q : List (List Val) × Int × Int) (z : AC) : Value := .tuple #[.slice z.1 q.1.length z.2, .int .i64 q.2.1, .int .i64 q.2.2]
set_option maxHeartbeats 4000000 in
theorem c_told (r : Rdy) (a : TA) (x b c : AC) (row : List Val) (rules : List Nat) (hb : RdyB r) (hrl : rules.length ≤ 1000001) (hri : ∀ i ∈ rules, i < r.ls.length) (hvb : ∀ v ∈ row, valB v) (w0 : World) (h0 : View) (hv : VLe h0 (Full w0)) (hr : RdyH h0 r a x)
  (hrow : SlC 57 3 (flatR valC) h0 (.slice b.1 row.length b.2) row) (hru : SlC 3 1 (flatR nC) h0 (.slice c.1 rules.length c.2) rules) :
  Calls Tryz.prog 32 #[.agg (rdyC r a x).toArray, .slice c.1 rules.length c.2, .slice b.1 row.length b.2] w0 (Ret w0 h0 fun u hh => ∃ z : AC, u = tlV (toldS r row rules) z ∧ LR 28 1 RwR hh z.1 z.2 (toldS r row rules).1) := by
 have hbl := hb.ls
 have hci := cols_len r.t.ins
 have hbi := hb.ins
 have eB : ∀ i, rules.find? (badT r row) = some i → toldS r row rules = ([], (i : Int), tellE r row i) := fun i h => by unfold toldS; rw [h]
 have eO : rules.find? (badT r row) = none → toldS r row rules = (rules.map (tellV r row), 0, 0) := fun h => by unfold toldS; rw [h]
 generalize toldS r row rules = q at eB eO ⊢
 refine entA (args := [.agg (rdyC r a x).toArray, .slice c.1 rules.length c.2, .slice b.1 row.length b.2]) TT_ok [6, 53] [] Tryz.func32 rfl Tryz.ntmps32 rfl rfl hv (fun z => LR.m (R := RwR) rwR_m z _) ?_
 intro b3
 refine And.intro rfl ?_
 refine goW TT_ok ?_
 refine nilC 900 28 1 ?_
 refine w_loopF TT_ok (fun z : LpG RwQ => [(19, .v (.int .i64 z.k)), (9, .v (.slice z.a z.n z.c))]) (fun z => [(900, .e (bufE 28 1 (.slice z.a z.n z.c) (z.es.map rwC).flatten)), (3, .c b3 34 (rdyC r a x))])
  (fun z v => RwF z.es v) ⟨none, 0, 0, [], 0⟩ (fun z => z.k ≤ rules.length ∧ z.n = z.es.length ∧ z.es.map (·.1) = (rules.take z.k).map (tellV r row) ∧ ∀ j, j < z.k → badT r row (rules.getD j 0) = false) (fun z => rules.length - z.k) (fun z => rwf_m z.es) ?_
 refine And.intro ⟨⟨Nat.zero_le _, rfl, rfl, fun j hj => absurd hj (Nat.not_lt_zero j)⟩, gs (fv := fun v _ q hq => absurd hq List.not_mem_nil)⟩ ?_
 rintro ⟨a1, n1, c1, es, k⟩ ⟨hk, hn1, hes, hz⟩
 dsimp only at hk hn1 hes hz ⊢
 refine cnd (fun h1 => ?_) (fun h1 => ?_)
 ·have hkl : k < rules.length := by omega
  have hel := es_len hes hk
  have htm := fun g => take_map (f := tellV r row) (γ := AC) (g := g) 0 hes hkl
  have hts := told_some hz hkl
  have hil := hri _ (getD_mem rules k 0 hkl)
  refine ixs hru k 0 ?_
  have hkk : badT r row (rules.getD k 0) = false → ∀ j, j < k + 1 → badT r row (rules.getD j 0) = false := fun h => upto_snoc hz h
  generalize rules.getD k 0 = i at htm hts hil hkk ⊢
  have hg := getD_line hb hil
  have hE : tellE r row i = firstE (fun k => (evalS (colsO r.t.ins) row ((r.ls.getD i lin0).os.getD k ex0)).2) (r.ls.getD i lin0).os.length := rfl
  have hV : tellV r row i = (r.ls.getD i lin0).os.map fun x => (evalS (colsO r.t.ins) row x).1 := rfl
  have hB : badT r row i = decide (tellE r row i ≠ 0) := rfl
  refine ixL (R := LinR) hr.l i lin0 (fun cs hcs => ?_)
  generalize r.ls.getD i lin0 = ln at hg hE hV hcs
  obtain ⟨la, lb, rfl, hlin⟩ := hcs
  have hos := hg.2.1
  refine nilC 901 57 3 ?_
  refine w_loopF TT_ok (fun z : (Option Addr × Nat × Nat) × Nat => [(30, .v (.int .i64 z.2)), (12, .v (.slice z.1.1 z.1.2.1 z.1.2.2))]) (fun z => [(901, .e (bufE 57 3 (.slice z.1.1 z.1.2.1 z.1.2.2) (((ln.os.take z.2).map fun x => (evalS (colsO r.t.ins) row x).1).map valC).flatten)), (26, .k none (adB x.1) (adO x.1 + i * 2) (liC ln la lb)), (21, .k none (adB c.1) (adO c.1 + k * 1) (nC i)), (900, .e (bufE 28 1 (.slice a1 n1 c1) (es.map rwC).flatten)), (3, .c b3 34 (rdyC r a x))])
   (fun z v => RwF es v) ((none, 0, 0), 0) (fun z => z.2 ≤ ln.os.length ∧ z.1.2.1 = z.2 ∧ ∀ j, j < z.2 → (evalS (colsO r.t.ins) row (ln.os.getD j ex0)).2 = 0) (fun z => ln.os.length - z.2) (fun z => rwf_m es) ?_
  refine And.intro ⟨⟨Nat.zero_le _, rfl, fun j hj => absurd hj (Nat.not_lt_zero j)⟩, gs⟩ ?_
  rintro ⟨⟨a2, n2, c2⟩, m⟩ ⟨hm, hn2, hy⟩
  dsimp only at hm hn2 hy ⊢
  refine cnd (fun h2 => ?_) (fun h2 => ?_)
  ·have hml : m < ln.os.length := by omega
   have hgx := hg.2.2.2 _ (getD_mem ln.os m ex0 hml)
   have her := fir_er (f := fun k => (evalS (colsO r.t.ins) row (ln.os.getD k ex0)).2) hy
   have htk := take_snocD ln.os m ex0 hml
   have hyy : (evalS (colsO r.t.ins) row (ln.os.getD m ex0)).2 = 0 → ∀ j, j < m + 1 → (evalS (colsO r.t.ins) row (ln.os.getD j ex0)).2 = 0 := fun h => upto_snoc hy h
   refine ixE hlin.2 m (fun a4 c4 g1 g2 g3 => ?_)
   generalize ln.os.getD m ex0 = xe at hgx her htk hyy g1 g2 g3 ⊢
   intro b14
   obtain ⟨p, hp⟩ : ∃ p, evalS (colsO r.t.ins) row xe = p := ⟨_, rfl⟩
   refine cb (fun w hw => c_EvalK (p := p) xe a4 c4 a.i.1 a.i.2 (colsO r.t.ins) b.1 b.2 row hp (by omega) hvb w h0 hw ⟨g1, g2, g3, hgx.2⟩ hr.t.i.1 hrow) ?_
   rw [hp] at her hyy
   intro b15
   refine cnd (fun h3 => ?_) (fun h3 => ?_)
   ·have h3 : p.2 ≠ 0 := h3
    have he := her h3 hml
    rw [← hE] at he
    have hq := eB i (hts (by rw [hB, he]; exact decide_eq_true h3))
    rw [he] at hq
    refine And.intro rfl ?_
    refine goW TT_ok ?_
    rw [hq]
    exact ⟨(none, 0), rfl, fun v _ _ => LR.nil v⟩
   have h3 : p.2 = 0 := by simpa using h3
   have hfl : ((ln.os.take (m + 1)).map fun x => (evalS (colsO r.t.ins) row x).1) = ((ln.os.take m).map fun x => (evalS (colsO r.t.ins) row x).1) ++ [p.1] := by rw [htk, List.map_append]; show _ ++ [(evalS (colsO r.t.ins) row xe).1] = _; rw [hp]
   have hml2 : ((ln.os.take m).map fun x => (evalS (colsO r.t.ins) row x).1).length = m := by rw [List.length_map, List.length_take]; omega
   intro b49
   refine ap TT_ok 901 (AppT.of (bytes := 32) (sz := 2) (by kernel_rfl) (by kernel_rfl) (by kernel_rfl)) rfl rfl rfl rfl rfl rfl rfl (by rw [row_flat (sz := 3) (fun _ => rfl), hml2]; show (_ + 3) * 33 ≤ _; omega) (fun a3 n3 c3 e3 => ?_)
   have hn3 : n3 = m + 1 := by
    rw [row_flat (sz := 3) (fun _ => rfl), hml2] at e3
    have e3 : n3 * 3 = m * 3 + 3 := e3
    omega
   refine wi ?_
   exact ⟨((a3, n3, c3), m + 1), ⟨⟨hml, hn3, hyy h3⟩, by show ln.os.length - (m + 1) < ln.os.length - m; omega⟩, gs rfl (by rw [hfl, List.map_append, List.flatten_append]; rfl)⟩
  ·obtain rfl : m = ln.os.length := by omega
   have h0E : tellE r row i = 0 := by rw [hE]; exact fir_ok hy
   have hbf : badT r row i = false := by rw [hB, h0E]; rfl
   rw [List.take_length, ← hV]
   obtain rfl : n2 = (tellV r row i).length := by rw [hn2, hV, List.length_map]
   refine And.intro rfl ?_
   refine sealW (g := valC) (l := tellV r row i) 901 rfl rfl ?_
   refine goW TT_ok ?_
   intro b54
   refine ap TT_ok 900 (AppT.of (bytes := 24) (sz := 0) (by kernel_rfl) (by kernel_rfl) (by kernel_rfl)) rfl rfl rfl rfl rfl rfl rfl (by rw [row_flat (sz := 1) (fun _ => rfl)]; show (_ + 1) * 25 ≤ _; omega) (fun a3 n3 c3 e3 => ?_)
   have hn3 : n3 = (es ++ [(tellV r row i, a2, c2)]).length := by
    rw [row_flat (sz := 1) (fun _ => rfl)] at e3
    have e3 : n3 * 1 = es.length * 1 + 1 := e3
    rw [List.length_append]; show n3 = es.length + 1; omega
   have efl : ((es ++ [(tellV r row i, a2, c2)]).map rwC).flatten = (es.map rwC).flatten ++ [.slice a2 (tellV r row i).length c2] := by rw [List.map_append, List.flatten_append]; rfl
   refine wi ?_
   exact ⟨⟨a3, n3, c3, es ++ [(tellV r row i, a2, c2)], k + 1⟩, ⟨⟨hkl, hn3, htm (a2, c2), hkk hbf⟩, by show rules.length - (k + 1) < rules.length - k; omega⟩, gs rfl (by rw [efl]; rfl) (fun v hF => rwf_snoc hF.1 hF.2)⟩
 ·obtain rfl : k = rules.length := by omega
  rw [List.take_length] at hes
  refine And.intro rfl ?_
  rw [← row_map rwC rw0 es]
  refine sealW (g := fun i => rwC (es.getD i rw0)) (l := List.range es.length) 900 rfl (by simp [hn1]) ?_
  refine goW TT_ok ?_
  rw [eO (told_none hz), ← hes]
  refine ⟨(a1, c1), ?_, fun v _ hF => ?_⟩
  ·rw [tlV]; show _ = Value.tuple #[.slice a1 (es.map (·.1)).length c1, _, _]
   rw [List.length_map, ← hn1]; rfl
  ·exact LR.of_row (R := RwR) (g := fun q : RwQ => q.1) hF.2 hn1 (fun q hq => ⟨q.2, rfl, hF.1 q hq⟩)
end Go.Proofs.YtkkbnjomcgnkpaaGreat
set_option maxRecDepth 100000
namespace Go.Proofs.YtkkbnjomcgnkpaaGreat
open Go Go.Dx Go.RowKit
theorem sumS_cons (n : Int) (v : Int) (l : List Int) : sumS n (v :: l) = if (ovr (n + v)).2 ≠ 0 then (0, (ovr (n + v)).2) else sumS (n + v) l := rfl
theorem ovr_ok {n : Int} (h : (ovr n).2 = 0) : (ovr n).1 = n ∧ i64 n := by
 unfold ovr at h ⊢
 split at h
 ·rename_i hh; rw [if_pos hh]; exact ⟨rfl, hh⟩
 ·exact absurd h (by decide)
theorem drop_getD {α : Type} (l : List α) (k : Nat) (d : α) (h : k < l.length) : l.drop k = l.getD k d :: l.drop (k + 1) := by
 rw [List.drop_eq_getElem_cons h]; simp [List.getD, h]
set_option maxHeartbeats 2000000 in
theorem c_hsum (l : List Val) (b : AC) (hvb : ∀ v ∈ l, valB v) (w0 : World) (h0 : View) (hv : VLe h0 (Full w0)) (hs : SlC 57 3 (flatR valC) h0 (.slice b.1 l.length b.2) l) :
  Calls Tryz.prog 123 #[.slice b.1 l.length b.2] w0 (Ret w0 h0 fun u _ => u = evR (sumV l)) := by
 have hlm := slc_lm hs
 have e1 : l = [] → sumV l = (v0, 0) := fun h => if_pos h
 have e2 : l ≠ [] → (sumS 0 (l.map (·.n))).2 ≠ 0 → sumV l = (v0, (sumS 0 (l.map (·.n))).2) := fun h h2 => by rw [sumV, if_neg h, if_pos h2]
 have e3 : l ≠ [] → (sumS 0 (l.map (·.n))).2 = 0 → sumV l = (⟨1, (sumS 0 (l.map (·.n))).1, []⟩, 0) := fun h h2 => by rw [sumV, if_neg h, if_neg (fun hh => hh h2)]
 generalize sumV l = q at e1 e2 e3 ⊢
 refine ent (args := [.slice b.1 l.length b.2]) TT_ok [] [] Tryz.func123 rfl Tryz.ntmps123 rfl rfl hv ?_
 intro b2
 refine cnd (fun h => ?_) (fun h => ?_)
 ·rw [e1 (List.eq_nil_of_length_eq_zero (by omega))]; exact rfl
 have hne : l ≠ [] := fun hh => by rw [hh] at h; exact h rfl
 refine w_loopB TT_ok (fun z : Int × Nat => [(14, .v (.int .i64 z.2)), (4, .v (.int .i64 z.1))]) (fun z => [(2, .c b2 57 (valC v0))]) (0, 0) (fun z => z.2 ≤ l.length ∧ i64 z.1 ∧ sumS z.1 ((l.drop z.2).map (·.n)) = sumS 0 (l.map (·.n))) (fun z => l.length - z.2) ?_
 refine And.intro ⟨⟨Nat.zero_le _, by unfold i64; dsimp only; omega, rfl⟩, gs⟩ ?_
 rintro ⟨n, k⟩ ⟨hk, hn, hS⟩
 dsimp only at hk hn hS ⊢
 refine cnd (fun h1 => ?_) (fun h1 => ?_)
 ·have hkl : k < l.length := by omega
  have hvk := hvb _ (getD_mem l k v0 hkl)
  rw [drop_getD l k v0 hkl, List.map_cons, sumS_cons] at hS
  refine ixs hs k v0 ?_
  generalize l.getD k v0 = v at hvk hS ⊢
  intro b6
  refine cb (fun w hw => c_EAdd n v.n hn hvk.2 w h0 hw) ?_
  refine cnd (fun h2 => ?_) (fun h2 => ?_)
  ·have h2 : (ovr (n + v.n)).2 ≠ 0 := h2
   rw [if_pos h2] at hS
   rw [e2 hne (by rw [← hS]; exact h2), ← hS]; exact rfl
  have h2 : (ovr (n + v.n)).2 = 0 := by simpa using h2
  rw [if_neg (fun hh => hh h2)] at hS
  obtain ⟨o1, o2⟩ := ovr_ok h2
  rw [o1]
  refine wi ?_
  exact ⟨(n + v.n, k + 1), ⟨⟨hkl, o2, hS⟩, by show l.length - (k + 1) < l.length - k; omega⟩, gs⟩
 ·have hkl : l.drop k = [] := List.drop_eq_nil_of_le (by omega)
  rw [hkl] at hS
  have hS : (n, (0 : Int)) = sumS 0 (l.map (·.n)) := hS
  rw [e3 hne (by rw [← hS]), ← hS]; exact rfl
theorem kept_snoc (rows : List (List Val)) (k : Nat) (h : k < rows.length) : keptV (rows.take (k + 1)) = if ((rows.getD k []).getD 0 v0).k ≠ 0 then keptV (rows.take k) ++ [(rows.getD k []).getD 0 v0] else keptV (rows.take k) := by
 unfold keptV
 rw [take_snocD rows k [] h, List.map_append, List.filter_append]
 show _ ++ List.filter _ [(rows.getD k []).getD 0 v0] = _
 by_cases hh : ((rows.getD k []).getD 0 v0).k ≠ 0
 ·rw [if_pos hh, List.filter_cons_of_pos (by exact decide_eq_true hh)]; rfl
 ·rw [if_neg hh, List.filter_cons_of_neg (by simpa using hh)]; simp
theorem kept_le (rows : List (List Val)) (k : Nat) : (keptV (rows.take k)).length ≤ k := by
 unfold keptV
 refine Nat.le_trans (List.length_filter_le ..) ?_
 rw [List.length_map, List.length_take]; omega
theorem kept_vb {rows : List (List Val)} (h : ∀ r ∈ rows, ∀ v ∈ r, valB v) : ∀ v ∈ keptV rows, valB v := by
 intro v hv
 obtain ⟨r, hr, e⟩ := List.mem_map.1 (List.mem_filter.1 hv).1
 rw [← e]
 cases r with
 | nil => exact vb0
 | cons x l => exact h _ hr x (by simp)
set_option maxHeartbeats 2000000 in
theorem c_hmade1 (rows : List (List Val)) (b : AC) (hrl : rows.length ≤ 1000001) (hvb : ∀ r ∈ rows, ∀ v ∈ r, valB v) (hr1 : ∀ r ∈ rows, 1 ≤ r.length) (w0 : World) (h0 : View) (hv : VLe h0 (Full w0)) (hs : LR 28 1 RwR h0 b.1 b.2 rows) :
  Calls Tryz.prog 89 #[.int .i64 1, .slice b.1 rows.length b.2] w0 (Ret w0 h0 fun u _ => u = evR (sumV (keptV rows))) := by
 refine ent (args := [.int .i64 1, .slice b.1 rows.length b.2]) TT_ok [36] [] Tryz.func89 rfl Tryz.ntmps89 rfl rfl hv ?_
 intro b4
 refine nilC 900 57 3 ?_
 refine w_loopB TT_ok (fun z : (Option Addr × Nat × Nat) × Nat => [(11, .v (.int .i64 z.2)), (6, .v (.slice z.1.1 z.1.2.1 z.1.2.2))]) (fun z => [(900, .e (bufE 57 3 (.slice z.1.1 z.1.2.1 z.1.2.2) ((keptV (rows.take z.2)).map valC).flatten)), (4, .c b4 57 (valC v0))]) ((none, 0, 0), 0) (fun z => z.2 ≤ rows.length ∧ z.1.2.1 = (keptV (rows.take z.2)).length) (fun z => rows.length - z.2) ?_
 refine And.intro ⟨⟨Nat.zero_le _, rfl⟩, gs⟩ ?_
 rintro ⟨⟨a1, n1, c1⟩, k⟩ ⟨hk, hn1⟩
 dsimp only at hk hn1 ⊢
 refine cnd (fun h1 => ?_) (fun h1 => ?_)
 ·have hkl : k < rows.length := by omega
  have hks := kept_snoc rows k hkl
  have hkb := kept_le rows k
  have hr := hr1 _ (getD_mem rows k [] hkl)
  refine ixL (R := RwR) hs k [] (fun cs hcs => ?_)
  generalize rows.getD k [] = r at hks hr hcs ⊢
  obtain ⟨y, rfl, hy⟩ := hcs
  refine ixs hy 0 v0 ?_ (by omega)
  refine cnd (fun h2 => ?_) (fun h2 => ?_)
  ·have h2 : (r.getD 0 v0).k ≠ 0 := h2
   rw [if_pos h2] at hks
   refine ixs hy 0 v0 ?_ (by omega)
   intro b24
   refine ap TT_ok 900 (AppT.of (bytes := 32) (sz := 2) (by kernel_rfl) (by kernel_rfl) (by kernel_rfl)) rfl rfl rfl rfl rfl rfl rfl (by rw [row_flat (sz := 3) (fun _ => rfl)]; show (_ + 3) * 33 ≤ _; omega) (fun a3 n3 c3 e3 => ?_)
   have hn3 : n3 = (keptV (rows.take (k + 1))).length := by
    rw [row_flat (sz := 3) (fun _ => rfl)] at e3
    have e3 : n3 * 3 = (keptV (rows.take k)).length * 3 + 3 := e3
    rw [hks, List.length_append]; show n3 = _ + 1; omega
   refine wi ?_
   exact ⟨((a3, n3, c3), k + 1), ⟨⟨hkl, hn3⟩, by show rows.length - (k + 1) < rows.length - k; omega⟩, gs rfl (by rw [hks, List.map_append, List.flatten_append]; rfl)⟩
  ·have h2 : (r.getD 0 v0).k = 0 := by simpa using h2
   rw [if_neg (fun hh => hh h2)] at hks
   refine wi ?_
   exact ⟨((a1, n1, c1), k + 1), ⟨⟨hkl, by rw [hks]; exact hn1⟩, by show rows.length - (k + 1) < rows.length - k; omega⟩, gs rfl (by rw [hks]; rfl)⟩
 ·obtain rfl : k = rows.length := by omega
  rw [List.take_length] at hn1 ⊢
  subst hn1
  refine cnd (fun h2 => absurd h2 (by decide)) (fun _ => ?_)
  refine cnd (fun _ => ?_) (fun h2 => absurd rfl h2)
  refine And.intro rfl ?_
  refine sealW (g := valC) (l := keptV rows) 900 rfl rfl ?_
  refine goW TT_ok ?_
  refine cf (fun w v h1 h2 h3 => c_hsum (keptV rows) (a1, c1) (kept_vb hvb) w v h3 h2.2) ?_
  exact rfl
end Go.Proofs.YtkkbnjomcgnkpaaGreat
set_option maxRecDepth 100000
namespace Go.Proofs.YtkkbnjomcgnkpaaGreat
open Go Go.Dx Go.RowKit
theorem lr_one {α β : Type} {T sz cap : Nat} {R : View → List Value → α → Prop} {f : β → List Value} {q : β} {x : α} {h : View} {a : Option Addr} (hs : SlC T sz (flatR f) h (.slice a 1 cap) [q]) (hR : R h (f q) x) : LR T sz R h a cap [x] :=
 LR.one (cs := f q) (SlC.reidx hs rfl (fun i x y hi hj => by
  have : i = 0 := by have := (List.getElem?_eq_some_iff.1 hi).1; simpa using this
  subst this; cases hi; cases hj; rfl)) hR
theorem ints_len (l : List Nat) : (ints l).length = l.length := List.length_map ..
theorem nslL {h : View} {a : Option Addr} {cp : Nat} {l : List Nat} (hs : SlC 3 1 (flatR nC) h (.slice a l.length cp) l) : SlC 3 1 (flatR iC) h (.slice a (ints l).length cp) (ints l) := by
 have := nsl hs
 rwa [← ints_len l] at this
theorem ouC_ints (e : Int) (l : List Nat) (rows : List (List Val)) (a b : AC) : ouC ⟨e, ints l, rows⟩ a b = [.int .i64 e, .slice a.1 l.length a.2, .slice b.1 rows.length b.2] := by
 show [_, Value.slice a.1 (ints l).length a.2, _] = _
 rw [ints_len]
def ouV (o : Outc) (z : AC × AC) : Value := .agg (ouC o z.1 z.2).toArray
set_option maxHeartbeats 2000000 in
theorem c_hcollect1 (ag : Int) (hag : ag = 1) (rules : List Nat) (rows : List (List Val)) (ar aw : AC) (hrl : rows.length ≤ 1000001) (hvb : ∀ r ∈ rows, ∀ v ∈ r, valB v) (hr1 : ∀ r ∈ rows, 1 ≤ r.length) (w0 : World) (h0 : View) (hv : VLe h0 (Full w0))
  (hru : SlC 3 1 (flatR nC) h0 (.slice ar.1 rules.length ar.2) rules) (hrw : LR 28 1 RwR h0 aw.1 aw.2 rows) :
  Calls Tryz.prog 57 #[.int .i64 ag, .slice ar.1 rules.length ar.2, .slice aw.1 rows.length aw.2] w0 (Ret w0 h0 fun u hh => ∃ z : AC × AC, u = ouV (sumO rules rows) z ∧ OutH hh (sumO rules rows) z.1 z.2) := by
 subst hag
 have e1 : (sumV (keptV rows)).2 ≠ 0 → sumO rules rows = ⟨(sumV (keptV rows)).2, ints rules, []⟩ := fun h => if_pos h
 have e2 : (sumV (keptV rows)).2 = 0 → sumO rules rows = ⟨0, ints rules, [[(sumV (keptV rows)).1]]⟩ := fun h => if_neg (fun hh => hh h)
 generalize sumO rules rows = o at e1 e2 ⊢
 refine entA (args := [.int .i64 1, .slice ar.1 rules.length ar.2, .slice aw.1 rows.length aw.2]) TT_ok [30, 31] [] Tryz.func57 rfl Tryz.ntmps57 rfl rfl hv (fun z => out_m _ _ _) ?_
 intro b6
 refine cnd (fun h2 => absurd h2 (by decide)) (fun _ => ?_)
 refine cb (fun w hw => c_hmade1 rows aw hrl hvb hr1 w h0 hw hrw) ?_
 generalize sumV (keptV rows) = p at e1 e2 ⊢
 intro b7
 refine cnd (fun h => ?_) (fun h => ?_)
 ·have h : p.2 ≠ 0 := h
  rw [e1 h]
  exact ⟨(ar, none, 0), by rw [ouV, ouC_ints]; rfl, fun v hle _ => ⟨nslL (hru.monoF hle), LR.nil v⟩⟩
 have h : p.2 = 0 := by simpa using h
 rw [e2 h]
 intro b29
 refine And.intro rfl ?_
 refine shutW 29 (row_sl (g := valC) (l := [p.1]) (sz := 3) (n := 1) (cp := 1) rfl) ?_ Mono.slF
 refine goW TT_ok ?_
 intro b30
 refine And.intro rfl ?_
 refine shutW 30 (row_sl (g := rwC) (l := [(([p.1], some ⟨b29, 0, none⟩, 1) : RwQ)]) (sz := 1) (n := 1) (cp := 1) rfl) ?_ Mono.slF
 refine goW TT_ok ?_
 exact ⟨(ar, some ⟨b30, 0, none⟩, 1), by rw [ouV, ouC_ints]; rfl, fun v hle hF => ⟨nslL (hru.monoF hle), lr_one hF.2 ⟨(some ⟨b29, 0, none⟩, 1), rfl, hF.1.2⟩⟩⟩
def PolE (t : Tab) : Prop := t.pol = 1 ∨ t.pol = 2 ∨ t.pol = 6 ∨ (t.pol = 5 ∧ t.agg = 1)
set_option maxHeartbeats 4000000 in
theorem c_choose1 (t : Tab) (a : TA) (ar aw : AC) (rules : List Nat) (rows : List (List Val)) (hpol : PolE t) (hlen : rules.length = rows.length) (hrl : rows.length ≤ 1000001) (hr1 : t.pol = 5 → ∀ r ∈ rows, 1 ≤ r.length) (hvb : ∀ r ∈ rows, ∀ v ∈ r, valB v) (w0 : World) (h0 : View) (hv : VLe h0 (Full w0))
  (hru : SlC 3 1 (flatR nC) h0 (.slice ar.1 rules.length ar.2) rules) (hrw : LR 28 1 RwR h0 aw.1 aw.2 rows) :
  Calls Tryz.prog 33 #[.agg (tabC t a).toArray, .slice ar.1 rules.length ar.2, .slice aw.1 rows.length aw.2] w0 (Ret w0 h0 fun u hh => ∃ z : AC × AC, u = ouV (chooseS t rules rows) z ∧ OutH hh (chooseS t rules rows) z.1 z.2) := by
 have e5 : t.pol = 5 → chooseS t rules rows = sumO rules rows := fun h => if_pos h
 have e6 : t.pol = 6 → chooseS t rules rows = ⟨0, ints rules, rows⟩ := fun h => by rw [chooseS, if_neg (by omega), if_pos h]
 have e1 : t.pol ≠ 5 → t.pol ≠ 6 → chooseS t rules rows = oneO rules rows 0 := fun h h' => by rw [chooseS, if_neg h, if_neg h']
 have hcr : rules.length ≤ ar.2 := by
  obtain ⟨_, _, e, hh, _⟩ := hru.parts
  cases e; exact hh
 have hcw : rows.length ≤ aw.2 := by
  obtain ⟨_, hs, _⟩ := hrw
  obtain ⟨_, _, e, hh, _⟩ := hs.parts
  rw [List.length_range] at e hh
  cases e; exact hh
 have hmw : ∀ v, VLe h0 v → LR 28 1 RwR v aw.1 aw.2 rows := fun v hle => LR.mono (R := RwR) rwR_m hle hrw
 generalize chooseS t rules rows = o at e5 e6 e1 ⊢
 refine entA (args := [.agg (tabC t a).toArray, .slice ar.1 rules.length ar.2, .slice aw.1 rows.length aw.2]) TT_ok [1000015] [] Tryz.func33 rfl Tryz.ntmps33 rfl rfl hv (fun z => out_m _ _ _) ?_
 intro b3 b6
 refine cnd (fun h => ?_) (fun h => ?_)
 ·have h : t.pol = 5 := h
  have ha : t.agg = 1 := by rcases hpol with h1 | h1 | h1 | h1 <;> omega
  rw [e5 h]
  refine cA TT_ok (fun w v h1 h2 h3 => c_hcollect1 t.agg ha rules rows ar aw hrl hvb (hr1 h) w v h3 (hru.monoF h1) (hmw v h1)) (fun z => out_m _ _ _) (fun z => ?_)
  exact ⟨z, rfl, fun v _ hF => hF.2⟩
 have h5 : t.pol ≠ 5 := h
 refine cnd (fun h => ?_) (fun h => ?_)
 ·exfalso
  have h : t.pol = 4 := h
  rcases hpol with h1 | h1 | h1 | h1 <;> omega
 refine cnd (fun h => ?_) (fun h => ?_)
 ·have h : t.pol = 6 := h
  rw [e6 h]
  exact ⟨(ar, aw), by rw [ouV, ouC_ints]; rfl, fun v hle _ => ⟨nslL (hru.monoF hle), hmw v hle⟩⟩
 have h6 : t.pol ≠ 6 := h
 rw [e1 h5 h6]
 refine cnd (fun h => ?_) (fun h => ?_)
 ·exfalso
  have h : t.pol = 3 := h
  rcases hpol with h1 | h1 | h1 | h1 <;> omega
 refine cnd (fun h => ?_) (fun h => ?_)
 ·rw [oneO, if_pos (List.eq_nil_of_length_eq_zero (by omega))]
  exact ⟨((none, 0), (none, 0)), rfl, fun v _ _ => ⟨SlC.nil (by simp [maxLen]), LR.nil v⟩⟩
 have hne : 0 < rules.length := by omega
 have hone : oneO rules rows 0 = ⟨0, ints ((rules.drop 0).take 1), (rows.drop 0).take 1⟩ := if_neg (fun hh => by rw [hh] at hne; exact absurd hne (by decide))
 have hl1 : ((rules.drop 0).take 1).length = 1 := by rw [List.length_take, List.length_drop]; omega
 have hl2 : ((rows.drop 0).take 1).length = 1 := by rw [List.length_take, List.length_drop]; omega
 rw [hone]
 refine regPh TT_ok [([0, 1, 2, 5, 6, 7, 3, 8, 4, 9, 10], [11])] [6] ?_
 refine wi ?_
 refine wi ?_
 refine sl2 0 1 ?_
 refine sl2 0 1 ?_
 refine kq ?_
 refine kq ?_
 have h1 : ∀ v, VLe h0 v → SlC 3 1 (flatR nC) v (.slice (if ar.2 = 0 then ar.1 else ar.1.map (·.add (0 * 1))) ((rules.drop 0).take 1).length (ar.2 - 0)) ((rules.drop 0).take 1) := fun v hle => by
  rw [hl1]; exact ((hru.monoF hle).drop (k := 0) (by omega)).take (k := 1) (by rw [List.length_drop]; omega)
 refine ⟨((if ar.2 = 0 then ar.1 else ar.1.map (·.add (0 * 1)), ar.2 - 0), (if aw.2 = 0 then aw.1 else aw.1.map (·.add (0 * 1)), aw.2 - 0)), ?_, fun v hle _ => ⟨nslL (h1 v hle), LR.take (n := 0) (k := 1) ((hmw v hle).drop (k := 0) (by omega)) (by rw [List.length_drop]; omega)⟩⟩
 rw [ouV, ouC_ints, hl1, hl2]; rfl
end Go.Proofs.YtkkbnjomcgnkpaaGreat
set_option maxRecDepth 100000
namespace Go.Proofs.YtkkbnjomcgnkpaaGreat
open Go Go.Dx Go.RowKit
theorem told_cases (ch : List Nat → List (List Val) → Outc) (r : Rdy) (row : List Val) (rules : List Nat) :
  (∃ i, rules.find? (badT r row) = some i ∧ toldS r row rules = ([], (i : Int), tellE r row i) ∧ tellE r row i ≠ 0 ∧ tolds r row rules ch = ⟨tellE r row i, [(i : Int)], []⟩) ∨
  (rules.find? (badT r row) = none ∧ toldS r row rules = (rules.map (tellV r row), 0, 0) ∧ tolds r row rules ch = ch rules (rules.map (tellV r row))) := by
 unfold toldS tolds
 cases h : rules.find? (badT r row) with
 | none => exact .inr ⟨rfl, rfl, rfl⟩
 | some i =>
  refine .inl ⟨i, rfl, rfl, ?_, rfl⟩
  have := List.find?_some h
  exact of_decide_eq_true this
theorem evS_ok {h : View} {l : List Col} {row : List Val} (hrow : ∀ w ∈ row, okV w) {x : Ex} {cs : List Value} (hx : RX h cs x) : okV (evalS l row x).1 := by
 have z : okV v0 := ⟨by decide, vb0⟩
 by_cases hc : rightS x = true ∧ l.length = row.length ∧ row.all valOk = true
 ·have he : evalS l row x = match evX l row (SizeOf.sizeOf x + 1) x with
   | .ok v => (v, 0)
   | .error e => (v0, e) := if_pos hc
  rw [he]
  cases hv : evX l row (SizeOf.sizeOf x + 1) x with
  | ok v => exact evX_good hrow _ x cs v hx hc.1 hv
  | error e => exact z
 ·rw [evalS_not hc]; exact z
theorem inp_ok {r : Rdy} {row : List Val} (h : inputE r row = 0) : row.length = r.t.ins.length ∧ ∀ i, i < row.length → inG r row i := by
 unfold inputE at h
 split at h
 ·assumption
 ·exact absurd h (by decide)
theorem in_okV {r : Rdy} {row : List Val} (h : inputE r row = 0) (hvb : ∀ v ∈ row, valB v) : ∀ w ∈ row, okV w := fun w hw => by
 obtain ⟨i, hi, rfl⟩ := List.mem_iff_getElem.1 hw
 have := ((inp_ok h).2 i hi).1
 rw [show row.getD i v0 = row[i] by simp [List.getD, hi]] at this
 exact ⟨this, hvb _ hw⟩
theorem tell_okV {h : View} {r : Rdy} {a : TA} {x : AC} {row : List Val} (hr : RdyH h r a x) (hin : inputE r row = 0) (hvb : ∀ v ∈ row, valB v) {i : Nat} (hi : i < r.ls.length) : ∀ v ∈ tellV r row i, okV v := by
 intro v hv
 obtain ⟨y, hy, rfl⟩ := List.mem_map.1 hv
 obtain ⟨cs, a1, b1, _, h2⟩ := hr.l.all _ (getD_mem r.ls i lin0 hi)
 obtain ⟨j, hj⟩ := List.mem_iff_getElem?.1 hy
 obtain ⟨c, _, h3⟩ := h2.2
 exact evS_ok (in_okV hin hvb) (h3 j y hj)
theorem ru_in {r : Rdy} {row : List Val} (h : (rulesR r row).2.2 = 0) : inputE r row = 0 := by
 unfold rulesR at h
 split at h
 ·rename_i hh; exact absurd h hh
 ·rename_i hh; simpa using hh
theorem ru_lt {r : Rdy} {row : List Val} : (rulesR r row).1.length ≤ r.ls.length + 1 ∧ ∀ i ∈ (rulesR r row).1, i < r.ls.length := by
 unfold rulesR
 split
 ·exact ⟨by simp, fun i hi => by cases hi⟩
 ·exact ⟨rules_len, rules_lt⟩
set_option maxHeartbeats 4000000 in
theorem c_HDecide (ch : List Nat → List (List Val) → Outc) (r : Rdy) (a : TA) (x b : AC) (row : List Val) (hb : RdyB r) (hvb : ∀ v ∈ row, valB v) (w0 : World) (h0 : View) (hv : VLe h0 (Full w0)) (hr : RdyH h0 r a x) (hrow : SlC 57 3 (flatR valC) h0 (.slice b.1 row.length b.2) row)
  (hch : inputE r row = 0 → ∀ (rules : List Nat) (ar aw : AC) (n : Nat), rules = (rulesR r row).1 → n = (rules.map (tellV r row)).length → ∀ (w : World) (h : View), VLe h (Full w) → VLe h0 h → SlC 3 1 (flatR nC) h (.slice ar.1 rules.length ar.2) rules → LR 28 1 RwR h aw.1 aw.2 (rules.map (tellV r row)) →
   Calls Tryz.prog 33 #[.agg (tabC r.t a).toArray, .slice ar.1 rules.length ar.2, .slice aw.1 n aw.2] w (Ret w h fun u hh => ∃ z : AC × AC, u = ouV (ch rules (rules.map (tellV r row))) z ∧ OutH hh (ch rules (rules.map (tellV r row))) z.1 z.2)) :
  Calls Tryz.prog 12 #[.agg (rdyC r a x).toArray, .slice b.1 row.length b.2] w0 (Ret w0 h0 fun u hh => ∃ z : AC × AC, u = .tuple #[ouV (decS ch r row).1 z, .int .i64 (decS ch r row).2] ∧ OutH hh (decS ch r row).1 z.1 z.2) := by
 have hbl := hb.ls
 have hci := @ru_in r row
 obtain ⟨hlt1, hlt2⟩ := @ru_lt r row
 have e1 : (rulesR r row).2.2 = 21 → decS ch r row = (out0, 21) := fun h => if_pos h
 have e2 : (rulesR r row).2.2 ≠ 21 → (rulesR r row).2.2 ≠ 0 → decS ch r row = (⟨(rulesR r row).2.2, [((rulesR r row).2.1 : Int)], []⟩, 0) := fun h h2 => by rw [decS, if_neg h, if_pos h2]
 have e3 : (rulesR r row).2.2 = 0 → (r.t.pol = 1 ∧ 1 < (rulesR r row).1.length) → decS ch r row = (⟨19, ints (rulesR r row).1, []⟩, 0) := fun h h2 => by rw [decS, h, if_neg (by decide), if_neg (fun hh => hh rfl), if_pos h2]
 have e4 : (rulesR r row).2.2 = 0 → ¬ (r.t.pol = 1 ∧ 1 < (rulesR r row).1.length) → decS ch r row = (tolds r row (rulesR r row).1 ch, 0) := fun h h2 => by rw [decS, h, if_neg (by decide), if_neg (fun hh => hh rfl), if_neg h2]
 generalize decS ch r row = d at e1 e2 e3 e4 ⊢
 refine entA (args := [.agg (rdyC r a x).toArray, .slice b.1 row.length b.2]) TT_ok [28, 54] [] Tryz.func12 rfl Tryz.ntmps12 rfl rfl hv (fun z => out_m _ _ _) ?_
 intro b2 b4
 refine cA TT_ok (fun w v h1 h2 h3 => c_HRules r a x b row hb hvb w v h3 (rdy_m _ _ _ _ _ h1 hr) (hrow.monoF h1)) (fun _ => Mono.slF) (fun zr => ?_)
 generalize rulesR r row = q at hci hlt1 hlt2 e1 e2 e3 e4 hch ⊢
 obtain ⟨q, qa, qe⟩ := q
 dsimp only at hci hlt1 hlt2 e1 e2 e3 e4 hch
 refine cnd (fun h => ?_) (fun h => ?_)
 ·have h : qe = 21 := h
  rw [e1 h, h]
  exact ⟨((none, 0), (none, 0)), rfl, fun v _ _ => ⟨SlC.nil (by simp [maxLen]), LR.nil v⟩⟩
 have h : qe ≠ 21 := h
 refine cnd (fun h2 => ?_) (fun h2 => ?_)
 ·have h2 : qe ≠ 0 := h2
  rw [e2 h h2]
  intro b27
  refine And.intro rfl ?_
  refine shutW 27 (row_sl (g := iC) (l := [(qa : Int)]) (sz := 1) (n := 1) (cp := 1) rfl) ?_ Mono.slF
  refine goW TT_ok ?_
  exact ⟨((some ⟨b27, 0, none⟩, 1), (none, 0)), rfl, fun v _ hF => ⟨hF.2, LR.nil v⟩⟩
 have h2 : qe = 0 := by simpa using h2
 subst h2
 have hin := hci rfl
 refine cnd (fun h3 => ?_) (fun h3 => ?_)
 ·rw [e3 rfl ⟨h3.1, by have h5 : (1 : Int) < (q.length : Int) := h3.2; omega⟩]
  exact ⟨(zr, (none, 0)), by rw [ouV, ouC_ints]; rfl, fun v _ hF => ⟨nslL hF.2, LR.nil v⟩⟩
 rw [e4 rfl (fun hh => by
  rcases h3 with h3 | h3
  ·exact h3 hh.1
  ·exact h3 (by show (1 : Int) < (q.length : Int); have := hh.2; omega))]
 refine cA TT_ok (fun w v h1 h2 h3 => c_told r a x b zr row q hb (by omega) hlt2 hvb w v h3 (rdy_m _ _ _ _ _ h1 hr) (hrow.monoF h1) h2.2) (fun z => LR.m (R := RwR) rwR_m z _) (fun zt => ?_)
 rcases told_cases ch r row q with ⟨i, f1, f2, f3, f4⟩ | ⟨f1, f2, f4⟩
 ·rw [f2, f4]
  refine cnd (fun h4 => ?_) (fun h4 => absurd h4 (by simpa using f3))
  intro b53
  refine And.intro rfl ?_
  refine shutW 53 (row_sl (g := iC) (l := [(i : Int)]) (sz := 1) (n := 1) (cp := 1) rfl) ?_ Mono.slF
  refine goW TT_ok ?_
  exact ⟨((some ⟨b53, 0, none⟩, 1), (none, 0)), rfl, fun v _ hF => ⟨hF.2, LR.nil v⟩⟩
 ·rw [f2, f4]
  refine cnd (fun h4 => absurd rfl h4) (fun _ => ?_)
  refine cA TT_ok (fun w v h1 h2 h3 => hch hin q zr zt _ rfl rfl w v h3 h1 h2.1.2 h2.2) (fun z => out_m _ _ _) (fun z => ?_)
  exact ⟨z, rfl, fun v _ hF => hF.2⟩
end Go.Proofs.YtkkbnjomcgnkpaaGreat
set_option maxRecDepth 100000
namespace Go.Proofs.YtkkbnjomcgnkpaaGreat
open Go Go.Dx Go.RowKit
theorem ext_getD {α : Type} {l m : List α} (d : α) (h : l.length = m.length) (he : ∀ j, j < l.length → l.getD j d = m.getD j d) : l = m := by
 refine List.ext_getElem h fun j h1 h2 => ?_
 have := he j h1
 simpa [List.getD, h1, h2] using this
theorem c_RSameRow12 (l m : List Val) (a b : AC) (w0 : World) (h0 : View) (hv : VLe h0 (Full w0)) (hl : SlC 57 3 (flatR valC) h0 (.slice a.1 l.length a.2) l) (hm : SlC 57 3 (flatR valC) h0 (.slice b.1 m.length b.2) m) :
  Calls Tryz.prog 43 #[.slice a.1 l.length a.2, .slice b.1 m.length b.2] w0 (Ret w0 h0 fun u _ => u = .bool (decide (l = m))) := by
 have hlm := slc_lm hl
 refine ent (args := [.slice a.1 l.length a.2, .slice b.1 m.length b.2]) TT_ok [] [] Tryz.func43 rfl Tryz.ntmps43 rfl rfl hv ?_
 refine cnd (fun h => ?_) (fun h => ?_)
 ·rw [decide_eq_false (p := l = m) (fun hh => by subst hh; exact h rfl)]; exact rfl
 have hn : l.length = m.length := by omega
 refine w_loop TT_ok (fun k : Nat => [(5, .v (.int .i64 k))]) 0 (fun k => k ≤ l.length ∧ ∀ j, j < k → l.getD j v0 = m.getD j v0) (fun k => l.length - k) ?_
 refine And.intro ⟨⟨Nat.zero_le _, fun j hj => absurd hj (Nat.not_lt_zero j)⟩, gs⟩ ?_
 intro k ⟨hk, hd⟩
 refine cnd (fun h1 => ?_) (fun h1 => ?_)
 ·refine And.intro (by kernel_rfl) ?_
  refine ixs hl k v0 ?_
  refine ixs hm k v0 ?_
  refine aq eqV (l.getD k v0) (m.getD k v0) ?_
  refine cnd (fun h2 => ?_) (fun h2 => ?_)
  ·rw [decide_eq_false (p := l = m) (fun hh => by subst hh; exact h2 rfl)]; exact rfl
  ·refine wi ?_
   exact ⟨k + 1, ⟨⟨by omega, upto_snoc hd h2⟩, by omega⟩, gs⟩
 ·rw [decide_eq_true (p := l = m) (ext_getD v0 hn fun j hj => hd j (by omega))]; exact rfl
theorem c_RSameInts (l m : List Int) (a b : AC) (w0 : World) (h0 : View) (hv : VLe h0 (Full w0)) (hl : SlC 3 1 (flatR iC) h0 (.slice a.1 l.length a.2) l) (hm : SlC 3 1 (flatR iC) h0 (.slice b.1 m.length b.2) m) :
  Calls Tryz.prog 17 #[.slice a.1 l.length a.2, .slice b.1 m.length b.2] w0 (Ret w0 h0 fun u _ => u = .bool (decide (l = m))) := by
 have hlm := slc_lm hl
 refine ent (args := [.slice a.1 l.length a.2, .slice b.1 m.length b.2]) TT_ok [] [] Tryz.func17 rfl Tryz.ntmps17 rfl rfl hv ?_
 refine cnd (fun h => ?_) (fun h => ?_)
 ·rw [decide_eq_false (p := l = m) (fun hh => by subst hh; exact h rfl)]; exact rfl
 have hn : l.length = m.length := by omega
 refine w_loop TT_ok (fun k : Nat => [(5, .v (.int .i64 k))]) 0 (fun k => k ≤ l.length ∧ ∀ j, j < k → l.getD j 0 = m.getD j 0) (fun k => l.length - k) ?_
 refine And.intro ⟨⟨Nat.zero_le _, fun j hj => absurd hj (Nat.not_lt_zero j)⟩, gs⟩ ?_
 intro k ⟨hk, hd⟩
 refine cnd (fun h1 => ?_) (fun h1 => ?_)
 ·refine And.intro (by kernel_rfl) ?_
  refine ixs hl k 0 ?_
  refine ixs hm k 0 ?_
  refine cnd (fun h2 => ?_) (fun h2 => ?_)
  ·have h2 : ¬ l.getD k 0 = m.getD k 0 := h2
   rw [decide_eq_false (p := l = m) (fun hh => by subst hh; exact h2 rfl)]; exact rfl
  ·refine wi ?_
   exact ⟨k + 1, ⟨⟨by omega, upto_snoc hd h2⟩, by omega⟩, gs⟩
 ·rw [decide_eq_true (p := l = m) (ext_getD 0 hn fun j hj => hd j (by omega))]; exact rfl
theorem c_RSameRows (l m : List (List Val)) (a b : AC) (w0 : World) (h0 : View) (hv : VLe h0 (Full w0)) (hl : LR 28 1 RwR h0 a.1 a.2 l) (hm : LR 28 1 RwR h0 b.1 b.2 m) :
  Calls Tryz.prog 24 #[.slice a.1 l.length a.2, .slice b.1 m.length b.2] w0 (Ret w0 h0 fun u _ => u = .bool (decide (l = m))) := by
 have hlm := hl.lm
 refine ent (args := [.slice a.1 l.length a.2, .slice b.1 m.length b.2]) TT_ok [] [] Tryz.func24 rfl Tryz.ntmps24 rfl rfl hv ?_
 refine cnd (fun h => ?_) (fun h => ?_)
 ·rw [decide_eq_false (p := l = m) (fun hh => by subst hh; exact h rfl)]; exact rfl
 have hn : l.length = m.length := by omega
 refine w_loop TT_ok (fun k : Nat => [(5, .v (.int .i64 k))]) 0 (fun k => k ≤ l.length ∧ ∀ j, j < k → l.getD j [] = m.getD j []) (fun k => l.length - k) ?_
 refine And.intro ⟨⟨Nat.zero_le _, fun j hj => absurd hj (Nat.not_lt_zero j)⟩, gs⟩ ?_
 intro k ⟨hk, hd⟩
 refine cnd (fun h1 => ?_) (fun h1 => ?_)
 ·refine And.intro (by kernel_rfl) ?_
  have hdk : l.getD k [] = m.getD k [] → ∀ j, j < k + 1 → l.getD j [] = m.getD j [] := fun h => upto_snoc hd h
  have hlx : l.getD k [] ≠ m.getD k [] → ¬ l = m := fun h hh => by subst hh; exact h rfl
  refine ixL (R := RwR) hl k [] (fun cs hcs => ?_)
  generalize l.getD k [] = r1 at hcs hdk hlx
  obtain ⟨y1, rfl, g1⟩ := hcs
  refine ixL (R := RwR) hm k [] (fun cs2 hcs2 => ?_)
  generalize m.getD k [] = r2 at hcs2 hdk hlx
  obtain ⟨y2, rfl, g2⟩ := hcs2
  refine cb (fun w hw => c_RSameRow12 r1 r2 y1 y2 w h0 hw g1 g2) ?_
  refine cnd (fun h2 => ?_) (fun h2 => ?_)
  ·rw [decide_eq_false (p := l = m) (hlx (by simpa using h2))]; exact rfl
  ·refine wi ?_
   exact ⟨k + 1, ⟨⟨by omega, hdk (by simpa using h2)⟩, by omega⟩, gs⟩
 ·rw [decide_eq_true (p := l = m) (ext_getD [] hn fun j hj => hd j (by omega))]; exact rfl
def sameO (o p : Outc) : Bool := decide (o.err = p.err) && (decide (o.rules = p.rules) && decide (o.rows = p.rows))
theorem sameO_refl (o : Outc) : sameO o o = true := by simp [sameO]
theorem c_RSame20 (o p : Outc) (a b c d : AC) (w0 : World) (h0 : View) (hv : VLe h0 (Full w0)) (hl : OutH h0 o a b) (hm : OutH h0 p c d) :
  Calls Tryz.prog 16 #[ouV o (a, b), ouV p (c, d)] w0 (Ret w0 h0 fun u _ => u = .bool (sameO o p)) := by
 refine ent (args := [ouV o (a, b), ouV p (c, d)]) TT_ok [] [] Tryz.func16 rfl Tryz.ntmps16 rfl rfl hv ?_
 intro b2 b3
 refine cbg (fun _ w hw => c_RSameInts o.rules p.rules a c w h0 hw hl.r hm.r) ?_
 refine cbg (fun _ w hw => c_RSameRows o.rows p.rows b d w h0 hw hl.w hm.w) ?_
 refine congrArg Value.bool ?_
 unfold sameO
 cases decide (o.err = p.err) <;> cases decide (o.rules = p.rules) <;> rfl
end Go.Proofs.YtkkbnjomcgnkpaaGreat
namespace Go.Proofs.YtkkbnjomcgnkpaaGreat
open Go Go.Dx Go.RowKit Go.ChangeShapes Go.WideShapes Go.ChangeAt
section
variable {H : Type} {enc : TypeId × Value → H} {W : World}
theorem sl_cell {t e fuel : Nat} {cs : List Value} {x : DataW H × List MemPlace} (ht : Tryz.prog.underlying t = some (.slice e)) (h : DataW.trod enc Tryz.prog W 0 (fun _ => true) true fuel t cs = some x) : ∃ v, cs = [v] := by
 rcases DataW.trod_slice ht h with ⟨hcs, _⟩ | ⟨a, len, cap, elems, rest, n, _, hcs, _⟩
 ·exact ⟨_, hcs⟩
 ·exact ⟨_, hcs⟩
theorem open_valsC {fuel : Nat} {cs : List Value} {x : DataW H × List MemPlace} (h : DataW.trod enc Tryz.prog W 0 (fun _ => true) true fuel 28 cs = some x) :
  ∃ (a : AC) (l : List Val), cs = [.slice a.1 l.length a.2] ∧ SlC 57 3 (flatR valC) (Full W) (.slice a.1 l.length a.2) l ∧ ∀ v ∈ l, valB v ∧ v.s.length ≤ 9223372036854775807 := by
 obtain ⟨v, rfl⟩ := sl_cell (e := 57) (by kernel_rfl) h
 obtain ⟨ad, cap, n, cc, rfl, hs, hk⟩ := open_sl (sz := 3) (e := 57) (by kernel_rfl) (by kernel_rfl) (by decide) h
 have : Inhabited Val := ⟨v0⟩
 obtain ⟨g, hg⟩ := Go.Deep.choose_lt (fun i hi => by
  obtain ⟨m, z, _, hz⟩ := hk i hi
  exact open_valC hz : ∀ i, i < n → ∃ x : Val, cc i = valC x ∧ valB x ∧ x.s.length ≤ 9223372036854775807)
 have h1 := sl_map hs (fun i hi => (hg i hi).1)
 refine ⟨(ad, cap), (List.range n).map g, by simp, ?_, fun x hx => ?_⟩
 ·simp only [List.length_range, List.length_map] at h1 ⊢
  exact h1
 ·obtain ⟨i, hi, rfl⟩ := List.mem_map.1 hx
  exact (hg i (List.mem_range.1 hi)).2
end
section
variable {H : Type} {enc : TypeId × Value → H} {W : World}
theorem open_txsC {fuel : Nat} {cs : List Value} {x : DataW H × List MemPlace} (h : DataW.trod enc Tryz.prog W 0 (fun _ => true) true fuel 64 cs = some x) :
  ∃ (a : AC) (l : List (List UInt8)), cs = [.slice a.1 l.length a.2] ∧ TxL (Full W) a l := by
 obtain ⟨v, rfl⟩ := sl_cell (e := 9) (by kernel_rfl) h
 obtain ⟨ad, cap, n, cc, rfl, hs, hk⟩ := open_sl (sz := 1) (e := 9) (by kernel_rfl) (by kernel_rfl) (by decide) h
 have : Inhabited (List UInt8) := ⟨[]⟩
 obtain ⟨g, hg⟩ := Go.Deep.choose_lt (fun i hi => by
  obtain ⟨m, z, _, hz⟩ := hk i hi
  obtain ⟨s, e, _⟩ := trod_s (by kernel_rfl) hz
  exact ⟨s, e⟩ : ∀ i, i < n → ∃ x : List UInt8, cc i = [vs x])
 have h1 := sl_map (f := fun s : List UInt8 => [vs s]) hs hg
 refine ⟨(ad, cap), (List.range n).map g, by simp, ?_⟩
 show SlC _ _ _ _ _ _
 simp only [List.length_range, List.length_map] at h1 ⊢
 exact h1
theorem open_coC {fuel : Nat} {cs : List Value} {x : DataW H × List MemPlace} (h : DataW.trod enc Tryz.prog W 0 (fun _ => true) true fuel 61 cs = some x) : ∃ p : CoO, cs = colC p.1 ∧ OrH (Full W) p := by
 obtain ⟨hl, n0, y0, _, h0⟩ := trod_at (FldIs.of (P := Tryz.prog) (t := 61) (i := 0) (off := 0) (ty := 9) (sz := 1) (by kernel_rfl)) h
 obtain ⟨_, n1, y1, _, h1⟩ := trod_at (FldIs.of (P := Tryz.prog) (t := 61) (i := 1) (off := 1) (ty := 55) (sz := 1) (by kernel_rfl)) h
 obtain ⟨_, n2, y2, _, h2⟩ := trod_at (FldIs.of (P := Tryz.prog) (t := 61) (i := 2) (off := 2) (ty := 28) (sz := 1) (by kernel_rfl)) h
 have hl' : cs.length = 3 := hl.trans (by kernel_rfl)
 match cs, hl' with
 | [a, b, c], _ =>
  obtain ⟨s, e0, _⟩ := trod_s (by kernel_rfl) h0
  obtain ⟨k, e1, _⟩ := trod_i (by kernel_rfl) h1
  obtain ⟨q, l, e2, s2, hv⟩ := open_valsC h2
  simp at e0 e1 e2
  subst e0 e1 e2
  exact ⟨(⟨s, k, q.1, l.length, q.2⟩, l), rfl, rfl, s2, hv⟩
theorem open_cosC {fuel : Nat} {cs : List Value} {x : DataW H × List MemPlace} (h : DataW.trod enc Tryz.prog W 0 (fun _ => true) true fuel 22 cs = some x) :
  ∃ (a : AC) (l : List CoO), cs = [.slice a.1 (colsO l).length a.2] ∧ CoL (Full W) a l := by
 obtain ⟨v, rfl⟩ := sl_cell (e := 61) (by kernel_rfl) h
 obtain ⟨ad, cap, n, cc, rfl, hs, hk⟩ := open_sl (sz := 3) (e := 61) (by kernel_rfl) (by kernel_rfl) (by decide) h
 have : Inhabited CoO := ⟨co0⟩
 obtain ⟨g, hg⟩ := Go.Deep.choose_lt (fun i hi => by
  obtain ⟨m, z, _, hz⟩ := hk i hi
  exact open_coC hz : ∀ i, i < n → ∃ x : CoO, cc i = colC x.1 ∧ OrH (Full W) x)
 have h1 := sl_map (f := colC) (g := fun i => (g i).1) hs (fun i hi => (hg i hi).1)
 have e : colsO ((List.range n).map g) = (List.range n).map fun i => (g i).1 := by simp [colsO]
 refine ⟨(ad, cap), (List.range n).map g, by simp [e], ?_, fun p hp => ?_⟩
 ·rw [e]
  simp only [List.length_range, List.length_map] at h1 ⊢
  exact h1
 ·obtain ⟨i, hi, rfl⟩ := List.mem_map.1 hp
  exact (hg i (List.mem_range.1 hi)).2
theorem open_ruC {fuel : Nat} {cs : List Value} {x : DataW H × List MemPlace} (h : DataW.trod enc Tryz.prog W 0 (fun _ => true) true fuel 66 cs = some x) : ∃ r, RuR (Full W) cs r := by
 obtain ⟨hl, n0, y0, _, h0⟩ := trod_at (FldIs.of (P := Tryz.prog) (t := 66) (i := 0) (off := 0) (ty := 64) (sz := 1) (by kernel_rfl)) h
 obtain ⟨_, n1, y1, _, h1⟩ := trod_at (FldIs.of (P := Tryz.prog) (t := 66) (i := 1) (off := 1) (ty := 64) (sz := 1) (by kernel_rfl)) h
 have hl' : cs.length = 2 := hl.trans (by kernel_rfl)
 match cs, hl' with
 | [a, b], _ =>
  obtain ⟨p, l, e0, s0⟩ := open_txsC h0
  obtain ⟨q, m, e1, s1⟩ := open_txsC h1
  simp at e0 e1
  subst e0 e1
  exact ⟨(l, m), p, q, rfl, s0, s1⟩
theorem open_rusC {fuel : Nat} {cs : List Value} {x : DataW H × List MemPlace} (h : DataW.trod enc Tryz.prog W 0 (fun _ => true) true fuel 25 cs = some x) :
  ∃ (a : AC) (l : List (List (List UInt8) × List (List UInt8))), cs = [.slice a.1 l.length a.2] ∧ LR 66 2 RuR (Full W) a.1 a.2 l := by
 obtain ⟨v, rfl⟩ := sl_cell (e := 66) (by kernel_rfl) h
 obtain ⟨ad, cap, l, rfl, hl⟩ := open_lr (R := RuR) (sz := 2) (e := 66) ru0 (by kernel_rfl) (by kernel_rfl) (by decide) (fun n cs y hy => open_ruC hy) h
 exact ⟨(ad, cap), l, rfl, hl⟩
theorem open_tabC {fuel : Nat} {cs : List Value} {x : DataW H × List MemPlace} (h : DataW.trod enc Tryz.prog W 0 (fun _ => true) true fuel 27 cs = some x) : ∃ (t : Tab) (a : TA), cs = tabC t a ∧ TabH (Full W) t a := by
 obtain ⟨hl, n0, y0, _, h0⟩ := trod_at (FldIs.of (P := Tryz.prog) (t := 27) (i := 0) (off := 0) (ty := 9) (sz := 1) (by kernel_rfl)) h
 obtain ⟨_, n1, y1, _, h1⟩ := trod_at (FldIs.of (P := Tryz.prog) (t := 27) (i := 1) (off := 1) (ty := 22) (sz := 1) (by kernel_rfl)) h
 obtain ⟨_, n2, y2, _, h2⟩ := trod_at (FldIs.of (P := Tryz.prog) (t := 27) (i := 2) (off := 2) (ty := 22) (sz := 1) (by kernel_rfl)) h
 obtain ⟨_, n3, y3, _, h3⟩ := trod_at (FldIs.of (P := Tryz.prog) (t := 27) (i := 3) (off := 3) (ty := 23) (sz := 1) (by kernel_rfl)) h
 obtain ⟨_, n4, y4, _, h4⟩ := trod_at (FldIs.of (P := Tryz.prog) (t := 27) (i := 4) (off := 4) (ty := 24) (sz := 1) (by kernel_rfl)) h
 obtain ⟨_, n5, y5, _, h5⟩ := trod_at (FldIs.of (P := Tryz.prog) (t := 27) (i := 5) (off := 5) (ty := 25) (sz := 1) (by kernel_rfl)) h
 have hl' : cs.length = 6 := hl.trans (by kernel_rfl)
 match cs, hl' with
 | [a, b, c, d, e, f], _ =>
  obtain ⟨s, e0, _⟩ := trod_s (by kernel_rfl) h0
  obtain ⟨ai, li, e1, s1⟩ := open_cosC h1
  obtain ⟨ao, lo, e2, s2⟩ := open_cosC h2
  obtain ⟨p, e3, _⟩ := trod_i (by kernel_rfl) h3
  obtain ⟨q, e4, _⟩ := trod_i (by kernel_rfl) h4
  obtain ⟨ar, lr, e5, s5⟩ := open_rusC h5
  simp at e0 e1 e2 e3 e4 e5
  subst e0 e1 e2 e3 e4 e5
  exact ⟨⟨s, li, lo, p, q, lr⟩, ⟨ai, ao, ar⟩, rfl, s1, s2, s5⟩
set_option maxRecDepth 100000 in
theorem open_tab {v : Value} {d : DataW H} {ps : List MemPlace} {b0 : Nat} (hok : Value.okWide Tryz.prog W .any b0 27 v) (h : DataW.Trod enc Tryz.prog W 0 (fun _ => true) true 27 v d ps) :
  ∃ (t : Tab) (a : TA), v = .agg (tabC t a).toArray ∧ TabH (Full W) t a := by
 obtain ⟨fs, _, hu, _⟩ := (FldIs.of (P := Tryz.prog) (t := 27) (i := 0) (off := 0) (ty := 9) (sz := 1) (by kernel_rfl))
 obtain ⟨cs, rfl, _⟩ := okWide_struct (P := Tryz.prog) (t := 27) hu hok
 obtain ⟨fuel, h⟩ := h
 obtain ⟨t, a, e, h1⟩ := open_tabC h
 refine ⟨t, a, ?_, h1⟩
 congr 1
 apply Array.toList_inj.1; simpa [Value.cells] using e
end
end Go.Proofs.YtkkbnjomcgnkpaaGreat
set_option maxRecDepth 100000
namespace Go.Proofs.YtkkbnjomcgnkpaaGreat
open Go Go.Dx Go.RowKit
def exTb (p a : Int) : Tab := ⟨[116], [(⟨[97], 1, none, 0, 0⟩, [])], [(⟨[111], 1, none, 0, 0⟩, [])], p, a, [([[60, 32, 53]], [[49]]), ([[60, 32, 57]], [[50]])]⟩
def tLt (n : Int) : Tst := ⟨2, numX n, ex0, false, false⟩
def cLt (n : Int) : Cel := ⟨false, false, [tLt n]⟩
def v3 : Val := ⟨1, 3, []⟩
theorem hlex_5 : lexS [60, 32, 53] = ([⟨4, [60], 0, 0⟩, ⟨2, [], 5, 2⟩], 0, 0) := by rw [lex_run _ (by decide)]; decide +kernel
theorem hlex_9 : lexS [60, 32, 57] = ([⟨4, [60], 0, 0⟩, ⟨2, [], 9, 2⟩], 0, 0) := by rw [lex_run _ (by decide)]; decide +kernel
theorem hlex_1 : lexS [49] = ([⟨2, [], 1, 0⟩], 0, 0) := by rw [lex_run _ (by decide)]; decide +kernel
theorem hlex_2 : lexS [50] = ([⟨2, [], 2, 0⟩], 0, 0) := by rw [lex_run _ (by decide)]; decide +kernel
theorem hparse_5 : parseC [60, 32, 53] = (cLt 5, 0, 0) := by unfold parseC; rw [hlex_5]; kernel_rfl
theorem hparse_9 : parseC [60, 32, 57] = (cLt 9, 0, 0) := by unfold parseC; rw [hlex_9]; kernel_rfl
theorem hparse_1 : parseT [49] = (numX 1, 0, 0) := by unfold parseT; rw [hlex_1]; kernel_rfl
theorem hparse_2 : parseT [50] = (numX 2, 0, 0) := by unfold parseT; rw [hlex_2]; kernel_rfl
theorem cols_1 {c : Col} (hn : nameOk c.name = true) (hk : c.kind = 1) : colsS [c] = 0 := by
 have hb : ¬ badN [c] 0 := by
  have e : ([c].getD 0 c0) = c := rfl
  unfold badN
  rw [e, hn]
  obtain ⟨k, h1, h2⟩ := at_le (l := [c]) (i := 0) Nat.one_pos
  rw [e] at h1
  rintro (h | h)
  ·cases h
  ·apply h; rw [h1]; omega
 have hk : ¬ badK (([c].getD 0 c0).kind) := by
  have e : ([c].getD 0 c0) = c := rfl
  rw [e]; unfold badK; omega
 rw [colsS, if_neg (show ¬ 6 < [c].length from (by decide : ¬ 6 < 1)), cg_next (show 0 < [c].length from Nat.one_pos) hb hk, cg_over (show ¬ 0 + 1 < [c].length from (by decide : ¬ 1 < 1))]
def exR (p a : Int) : Rdy := ⟨exTb p a, [⟨[cLt 5], [numX 1]⟩, ⟨[cLt 9], [numX 2]⟩]⟩
theorem make_v (p a : Int) : makeV (exTb p a) = exR p a := by
 show Rdy.mk (exTb p a) [⟨[(parseC [60, 32, 53]).1], [(parseT [49]).1]⟩, ⟨[(parseC [60, 32, 57]).1], [(parseT [50]).1]⟩] = _
 rw [hparse_5, hparse_9, hparse_1, hparse_2]; rfl
theorem typ_lt (n : Int) (h : 0 ≤ n) (hd : deepS (numX n) ≤ 12) : typC (cLt n) 1 [⟨[97], 1, none, 0, 0⟩] = 0 := by
 have hr : rightS (numX n) = true := right_num h
 have hk : kindT [⟨[97], 1, none, 0, 0⟩] (numX n) = (1, 0) := by
  rw [kindT, if_pos hr]; unfold numX KX; rw [kindS]; rfl
 have hc : rightC (cLt n) = true := by
  have e : rightC (cLt n) = (decide (1 ≤ 1) && decide (1 ≤ 12) && [tLt n].all soundT) := rfl
  rw [e]
  have hs : soundT (tLt n) = true := by
   show (partX (numX n) && (sameX ex0 ex0 && (!false && !false))) = true
   rw [partX, hr, decide_eq_true hd]; kernel_rfl
  rw [List.all_cons, hs]; rfl
 rw [typC, if_neg (by rw [hc]; decide)]
 show typTL 1 _ [tLt n] = 0
 have h1 : typT1 (tLt n) 1 [⟨[97], 1, none, 0, 0⟩] = 0 := by
  have hk' : kindT [⟨[97], 1, none, 0, 0⟩] (tLt n).a = (1, 0) := hk
  rw [typT1, hk', if_neg (by decide), if_neg (show ¬ (tLt n).k = 6 from (by decide : ¬ (2 : Int) = 6)), if_pos (by rfl)]
 rw [typTL, h1, if_neg (by decide), typTL]
theorem right_lt (n : Int) (h : 0 ≤ n) (hd : deepS (numX n) ≤ 12) : rightC (cLt n) = true := by
 rcases Bool.eq_false_or_eq_true (rightC (cLt n)) with e | e
 ·exact e
 ·have := typ_lt n h hd
  rw [typC, if_pos e] at this; exact absurd this (by decide)
theorem kind_num (n : Int) (h : 0 ≤ n) (l : List Col) : kindT l (numX n) = (1, 0) := by
 rw [kindT, if_pos (right_num h)]; unfold numX KX; rw [kindS]; rfl
theorem make_e {p a : Int} (hp : p ≠ 3) (ho : polOk (exTb p a) = true) : makeE (exTb p a) = 0 := by
 have hf : frameE (exTb p a) = 0 := by
  have c1 : colE (exTb p a).ins false = 0 := by
   show (if colsS [⟨[97], 1, none, 0, 0⟩] ≠ 0 then colsS [⟨[97], 1, none, 0, 0⟩] else _) = _
   rw [cols_1 (by decide) rfl]; rfl
  have c2 : colE (exTb p a).outs (decide (p = 3)) = 0 := by
   rw [decide_eq_false hp]
   show (if colsS [⟨[111], 1, none, 0, 0⟩] ≠ 0 then colsS [⟨[111], 1, none, 0, 0⟩] else _) = _
   rw [cols_1 (by decide) rfl]; rfl
  have c2 : colE (exTb p a).outs (decide ((exTb p a).pol = 3)) = 0 := c2
  rw [frameE, c1, c2, ho, if_neg (show ¬ nameOk (exTb p a).name = false from (by decide : ¬ nameOk [116] = false)), if_neg (by decide), if_neg (by decide), if_neg (by decide), if_neg (show ¬ 24 < (exTb p a).rules.length from (by decide : ¬ 24 < 2))]
 rw [makeE, hf, if_neg (by decide)]
 refine fir_ok fun j hj => ?_
 have hl : ∀ (s t : List UInt8) (n m : Int), 0 ≤ n → deepS (numX n) ≤ 12 → 0 ≤ m → parseC s = (cLt n, 0, 0) → parseT t = (numX m, 0, 0) → lineE (exTb p a) ([s], [t]) = 0 := by
  intro s t n m hn hd hm h1 h2
  have e1 : cellE (exTb p a) 0 s = 0 := by
   rw [cellE, h1]
   show (if (0 : Int) ≠ 0 then (0 : Int) else typC (cLt n) 1 [⟨[97], 1, none, 0, 0⟩]) = 0
   rw [typ_lt n hn hd]; rfl
  have e2 : outE (exTb p a) 0 t = 0 := by
   rw [outE, h2]
   show (if (0 : Int) ≠ 0 then (0 : Int) else if (kindT [⟨[97], 1, none, 0, 0⟩] (numX m)).2 ≠ 0 then _ else if fitS (kindT [⟨[97], 1, none, 0, 0⟩] (numX m)).1 1 = false then (14 : Int) else 0) = 0
   rw [kind_num m hm]; rfl
  rw [lineE, if_neg (by show ¬ ((1 : Nat) ≠ 1 ∨ (1 : Nat) ≠ 1); omega)]
  have g1 : firstE (fun k => cellE (exTb p a) k ([s].getD k [])) 1 = 0 := fir_ok fun j hj => by
   have : j = 0 := by omega
   subst this; exact e1
  have g2 : firstE (fun k => outE (exTb p a) k ([t].getD k [])) 1 = 0 := fir_ok fun j hj => by
   have : j = 0 := by omega
   subst this; exact e2
  show (if firstE (fun k => cellE (exTb p a) k ([s].getD k [])) 1 ≠ 0 then firstE (fun k => cellE (exTb p a) k ([s].getD k [])) 1 else firstE (fun k => outE (exTb p a) k ([t].getD k [])) 1) = 0
  rw [g1, g2]; rfl
 have hj : j = 0 ∨ j = 1 := by have : j < 2 := hj; omega
 rcases hj with rfl | rfl
 ·exact hl _ _ 5 1 (by decide) (by decide +kernel) (by decide) hparse_5 hparse_1
 ·exact hl _ _ 9 2 (by decide) (by decide +kernel) (by decide) hparse_9 hparse_2
theorem ask_lt (n : Int) (h : 0 ≤ n) : askT (tLt n) v3 [⟨[97], 1, none, 0, 0⟩] [v3] = (passT (tLt n) v3 [⟨1, n, []⟩], 0) := by
 rw [ask_one (p := (⟨1, n, []⟩, 0)) (by show ¬ (2 : Int) = 6; decide) (es_num 3 n h), if_neg (show ¬ (0 : Int) ≠ 0 by decide), if_pos (by rfl)]
theorem hold_lt (n : Int) (h : 0 ≤ n) (hd : deepS (numX n) ≤ 12) (hp : passT (tLt n) v3 [⟨1, n, []⟩] = true) : holdsC (cLt n) v3 [⟨[97], 1, none, 0, 0⟩] [v3] = (true, 0) := by
 have hm : mayC (cLt n) v3 [⟨[97], 1, none, 0, 0⟩] [v3] = true := by
  unfold mayC
  rw [right_lt n h hd]; rfl
 rw [holdsC, if_pos hm]
 show holdL false false v3 _ [v3] [tLt n] = _
 rw [holdL, ask_lt n h, hp, if_neg (by decide), if_pos (by rfl)]; rfl
theorem rule_ex (p a : Int) : ∀ i, i < 2 → ruleS (exR p a) [v3] i = (true, 0) := by
 intro i hi
 have hi : i = 0 ∨ i = 1 := by omega
 rcases hi with rfl | rfl
 ·refine alls_ok fun j hj => ?_
  have : j = 0 := by have : j < 1 := hj; omega
  subst this
  exact hold_lt 5 (by decide) (by decide +kernel) (by kernel_rfl)
 ·refine alls_ok fun j hj => ?_
  have : j = 0 := by have : j < 1 := hj; omega
  subst this
  exact hold_lt 9 (by decide) (by decide +kernel) (by kernel_rfl)
theorem input_ex (p a : Int) : inputE (exR p a) [v3] = 0 := if_pos ⟨rfl, fun i hi => by
 have : i = 0 := by have : i < 1 := hi; omega
 subst this; exact ⟨by kernel_rfl, by rfl⟩⟩
theorem rules_ex {p : Int} (a : Int) (hp : p ≠ 2) : rulesR (exR p a) [v3] = ([0, 1], 0, 0) := by
 rw [rulesR, input_ex, if_neg (by decide)]
 show rulesS p (ruleS (exR p a) [v3]) 2 = _
 have r0 := rule_ex p a 0 (by decide)
 have r1 := rule_ex p a 1 (by decide)
 rw [rules_none (fun j hj => by unfold stopR; rw [rule_ex p a j hj, decide_eq_false hp]; rfl), held_snoc, r1, held_snoc, r0]
 rfl
theorem tell_ex (p a : Int) : tellV (exR p a) [v3] 0 = [⟨1, 1, []⟩] ∧ tellV (exR p a) [v3] 1 = [⟨1, 2, []⟩] ∧ badT (exR p a) [v3] 0 = false ∧ badT (exR p a) [v3] 1 = false := by
 have e1 : evalS [⟨[97], 1, none, 0, 0⟩] [v3] (numX 1) = (⟨1, 1, []⟩, 0) := es_num 3 1 (by decide)
 have e2 : evalS [⟨[97], 1, none, 0, 0⟩] [v3] (numX 2) = (⟨1, 2, []⟩, 0) := es_num 3 2 (by decide)
 refine ⟨?_, ?_, ?_, ?_⟩
 ·show [(evalS [⟨[97], 1, none, 0, 0⟩] [v3] (numX 1)).1] = _; rw [e1]
 ·show [(evalS [⟨[97], 1, none, 0, 0⟩] [v3] (numX 2)).1] = _; rw [e2]
 ·unfold badT
  rw [show tellE (exR p a) [v3] 0 = 0 from fir_ok fun j hj => by
   have : j = 0 := by have : j < 1 := hj; omega
   subst this
   show (evalS [⟨[97], 1, none, 0, 0⟩] [v3] (numX 1)).2 = 0
   rw [e1]]; rfl
 ·unfold badT
  rw [show tellE (exR p a) [v3] 1 = 0 from fir_ok fun j hj => by
   have : j = 0 := by have : j < 1 := hj; omega
   subst this
   show (evalS [⟨[97], 1, none, 0, 0⟩] [v3] (numX 2)).2 = 0
   rw [e2]]; rfl
theorem dec_ex {p a : Int} (hp : p ≠ 2) (h1 : p ≠ 1) : decS (chooseS (exTb p a)) (exR p a) [v3] = (chooseS (exTb p a) [0, 1] [[⟨1, 1, []⟩], [⟨1, 2, []⟩]], 0) := by
 obtain ⟨t0, t1, b0, b1⟩ := tell_ex p a
 rw [decS, rules_ex a hp, if_neg (by decide), if_neg (by decide), if_neg (fun hh => h1 hh.1)]
 show (tolds (exR p a) [v3] [0, 1] (chooseS (exTb p a)), (0 : Int)) = _
 rw [tolds, show [0, 1].find? (badT (exR p a) [v3]) = none by rw [List.find?_cons_of_neg (by rw [b0]; decide), List.find?_cons_of_neg (by rw [b1]; decide)]; rfl]
 show (chooseS (exTb p a) [0, 1] [tellV (exR p a) [v3] 0, tellV (exR p a) [v3] 1], (0 : Int)) = _
 rw [t0, t1]
theorem dec_6 : decS (chooseS (exTb 6 0)) (exR 6 0) [v3] = (⟨0, [0, 1], [[⟨1, 1, []⟩], [⟨1, 2, []⟩]]⟩, 0) := by rw [dec_ex (by decide) (by decide)]; rfl
theorem dec_5 : decS (chooseS (exTb 5 1)) (exR 5 1) [v3] = (⟨0, [0, 1], [[⟨1, 3, []⟩]]⟩, 0) := by rw [dec_ex (by decide) (by decide)]; kernel_rfl
theorem dec_1 : decS (chooseS (exTb 1 0)) (exR 1 0) [v3] = (⟨19, [0, 1], []⟩, 0) := by
 rw [decS, rules_ex 0 (by decide), if_neg (by decide), if_neg (by decide), if_pos ⟨rfl, by decide⟩]; rfl
end Go.Proofs.YtkkbnjomcgnkpaaGreat
set_option maxRecDepth 100000
namespace Go.Proofs.YtkkbnjomcgnkpaaGreat
open Go Go.Dx Go.RowKit
theorem LR.of_rows {α β : Type} {T sz : Nat} {R : View → List Value → α → Prop} {f : β → List Value} {g : β → α} {d : β} {es : List β} {h : View} {ad : Option Addr} {n cap : Nat} (hs : SlC T sz (flatR f) h (.slice ad n cap) es) (hn : n = es.length) (hR : ∀ q ∈ es, R h (f q) (g q)) : LR T sz R h ad cap (es.map g) :=
 LR.of_row (d := d) (SlC.reidx hs (by simp) (fun i x y hi hj => by
  have h1 := (List.getElem?_eq_some_iff.1 hj)
  obtain ⟨h1, h2⟩ := h1
  simp at h2; subst h2
  simp [List.getD, hi])) hn hR
theorem ru_len {r : Rdy} {row : List Val} : (rulesR r row).1.length ≤ r.ls.length + 1 := (@ru_lt r row).1
theorem c_HDecide1 (r : Rdy) (a : TA) (x b : AC) (row : List Val) (hpol : PolE r.t) (hb : RdyB r) (hvb : ∀ v ∈ row, valB v) {d : Outc × Int} (hd : decS (chooseS r.t) r row = d) (w0 : World) (h0 : View) (hv : VLe h0 (Full w0)) (hr : RdyH h0 r a x) (hrow : SlC 57 3 (flatR valC) h0 (.slice b.1 row.length b.2) row) :
  Calls Tryz.prog 12 #[.agg (rdyC r a x).toArray, .slice b.1 row.length b.2] w0 (Ret w0 h0 fun u hh => ∃ z : AC × AC, u = .tuple #[ouV d.1 z, .int .i64 d.2] ∧ OutH hh d.1 z.1 z.2) := by
 subst hd
 refine c_HDecide (chooseS r.t) r a x b row hb hvb w0 h0 hv hr hrow fun hin rules ar aw n hru hn w h hw hle hs hl => ?_
 subst hn
 have hlt : ∀ i ∈ rules, i < r.ls.length := by rw [hru]; exact (@ru_lt r row).2
 have hln : rules.length ≤ r.ls.length + 1 := by rw [hru]; exact ru_len
 have hbl := hb.ls
 refine c_choose1 r.t a ar aw rules (rules.map (tellV r row)) hpol (by rw [List.length_map]) (by rw [List.length_map]; omega) (fun _ q hq => ?_) (fun q hq v hv => ?_) w h hw hs hl
 ·obtain ⟨i, hi, rfl⟩ := List.mem_map.1 hq
  have := hb.no _ (getD_mem r.ls i lin0 (hlt i hi))
  rw [tellV, List.length_map]; exact this
 ·obtain ⟨i, hi, rfl⟩ := List.mem_map.1 hq
  exact (tell_okV hr hin hvb (hlt i hi) v hv).2
theorem c_MakeK {t : Tab} {r : Rdy} (he : makeE t = 0) (hr : makeV t = r) (a : TA) (hb : TabB t) (w0 : World) (h0 : View) (hv : VLe h0 (Full w0)) (hc : TabH h0 t a) :
  Calls Tryz.prog 11 #[.agg (tabC t a).toArray] w0 (Ret w0 h0 fun u hh => ∃ z : AC, u = .tuple #[.agg (rdyC r a z).toArray, .int .i64 0, .int .i64 0, .int .i64 0] ∧ RdyH hh r a z) := by
 subst hr
 exact (c_Make t a hb w0 h0 hv hc).mono (Ret.mono fun u hh ⟨z, e, h⟩ => ⟨z.1, by rw [e, mkV, if_pos he], h he⟩)
theorem c_num20 (n : Int) (w0 : World) (h0 : View) (hv : VLe h0 (Full w0)) : Calls Tryz.prog 28 #[.int .i64 n] w0 (Ret w0 h0 fun u _ => u = .agg (valC ⟨1, n, []⟩).toArray) := by
 refine ent (args := [.int .i64 n]) TT_ok [] [] Tryz.func28 rfl Tryz.ntmps28 rfl rfl hv ?_
 intro b2
 exact rfl
def ruS (s t : List UInt8) : List (List UInt8) × List (List UInt8) := ([s], [t])
abbrev RuQ := (List (List UInt8) × List (List UInt8)) × AC × AC
def rqC (q : RuQ) : List Value := ruC q.1 q.2.1 q.2.2
theorem tabB_ex (p a : Int) : TabB (exTb p a) := by
  refine ⟨by show 1 ≤ 1000000; decide, ?_, ?_, ?_, by show 2 ≤ 1000000; decide⟩
  · intro q hq; have : q = (⟨[97], 1, none, 0, 0⟩, []) := by simpa [exTb] using hq
    subst this; show 1 ≤ 1000000; decide
  · intro q hq; have : q = (⟨[111], 1, none, 0, 0⟩, []) := by simpa [exTb] using hq
    subst this; show 1 ≤ 1000000; decide
  · intro r hr
    have : r = ([[60, 32, 53]], [[49]]) ∨ r = ([[60, 32, 57]], [[50]]) := by simpa [exTb] using hr
    rcases this with rfl | rfl
    · exact ⟨fun s hs => by have : s = [49] := by simpa using hs
                            subst this; decide, by decide, by decide⟩
    · exact ⟨fun s hs => by have : s = [50] := by simpa using hs
                            subst this; decide, by decide, by decide⟩
theorem rdyB_ex (p a : Int) : RdyB (exR p a) := by
 have hn : ∀ n : Int, 0 ≤ n → n ≤ 9 → Nd (numX n) ∧ SmX (numX n) := fun n h h9 => ⟨⟨show i64 1 by unfold i64; omega, show i64 1 by unfold i64; omega, show i64 n by unfold i64; omega⟩, gt_num n h⟩
 have hl : ∀ l ∈ (exR p a).ls, ∃ n m : Int, 0 ≤ n ∧ deepS (numX n) ≤ 12 ∧ 0 ≤ m ∧ m ≤ 9 ∧ l = ⟨[cLt n], [numX m]⟩ := by
  intro l hl
  have : l = ⟨[cLt 5], [numX 1]⟩ ∨ l = ⟨[cLt 9], [numX 2]⟩ := by simpa [exR] using hl
  rcases this with rfl | rfl
  ·exact ⟨5, 1, by decide, by decide +kernel, by decide, by decide, rfl⟩
  ·exact ⟨9, 2, by decide, by decide +kernel, by decide, by decide, rfl⟩
 refine ⟨by show 1 ≤ 1000000; decide, by show 2 ≤ 1000000; decide, fun l h => ?_, fun l h => ?_⟩
 ·obtain ⟨n, m, h1, h2, h3, h4, rfl⟩ := hl l h
  refine ⟨rfl, by show 1 ≤ 1000000; decide, fun c hc => ?_, fun x hx => ?_⟩
  ·have : c = cLt n := by simpa using hc
   subst this; exact right_gt (right_lt n h1 h2)
  ·have : x = numX m := by simpa using hx
   subst this; exact hn m h3 h4
 ·obtain ⟨n, m, h1, h2, h3, h4, rfl⟩ := hl l h
  show 1 ≤ 1; decide
theorem tabH_ex (p a : Int) {v : View} {b11 b13 b16 b17 b19 b20 b22 : Nat} (s11 : SlC 61 3 (flatR colC) v (.slice (some ⟨b11, 0, none⟩) 1 1) [⟨[97], 1, none, 0, 0⟩]) (s13 : SlC 61 3 (flatR colC) v (.slice (some ⟨b13, 0, none⟩) 1 1) [⟨[111], 1, none, 0, 0⟩])
  (s16 : TxL v (some ⟨b16, 0, none⟩, 1) [[60, 32, 53]]) (s17 : TxL v (some ⟨b17, 0, none⟩, 1) [[49]]) (s19 : TxL v (some ⟨b19, 0, none⟩, 1) [[60, 32, 57]]) (s20 : TxL v (some ⟨b20, 0, none⟩, 1) [[50]])
  (s22 : SlC 66 2 (flatR rqC) v (.slice (some ⟨b22, 0, none⟩) 2 2) [((ruS [60, 32, 53] [49], (some ⟨b16, 0, none⟩, 1), (some ⟨b17, 0, none⟩, 1)) : RuQ), (ruS [60, 32, 57] [50], (some ⟨b19, 0, none⟩, 1), (some ⟨b20, 0, none⟩, 1))]) :
  TabH v (exTb p a) ⟨(some ⟨b11, 0, none⟩, 1), (some ⟨b13, 0, none⟩, 1), (some ⟨b22, 0, none⟩, 2)⟩ := by
 refine ⟨⟨s11, fun q hq => ?_⟩, ⟨s13, fun q hq => ?_⟩, ?_⟩
 ·have : q = (⟨[97], 1, none, 0, 0⟩, []) := by simpa [exTb] using hq
  subst this; exact ⟨rfl, SlC.nil (by simp [maxLen]), fun v h => by cases h⟩
 ·have : q = (⟨[111], 1, none, 0, 0⟩, []) := by simpa [exTb] using hq
  subst this; exact ⟨rfl, SlC.nil (by simp [maxLen]), fun v h => by cases h⟩
 ·refine LR.of_rows (R := RuR) (g := fun q : RuQ => q.1) (d := (ru0, (none, 0), (none, 0))) s22 rfl (fun q hq => ?_)
  have : q = (ruS [60, 32, 53] [49], (some ⟨b16, 0, none⟩, 1), (some ⟨b17, 0, none⟩, 1)) ∨ q = (ruS [60, 32, 57] [50], (some ⟨b19, 0, none⟩, 1), (some ⟨b20, 0, none⟩, 1)) := by simpa using hq
  rcases this with rfl | rfl
  ·exact ⟨_, _, rfl, s16, s17⟩
  ·exact ⟨_, _, rfl, s19, s20⟩
set_option maxHeartbeats 4000000 in
theorem c_example20 (p a : Int) (hp : p ≠ 3) (ho : polOk (exTb p a) = true) (w0 : World) (h0 : View) (hv : VLe h0 (Full w0)) :
  Calls Tryz.prog 29 #[.int .i64 p, .int .i64 a] w0 (Ret w0 h0 fun u hh => ∃ z : TA × AC, u = .agg (rdyC (exR p a) z.1 z.2).toArray ∧ RdyH hh (exR p a) z.1 z.2) := by
 refine entA (args := [.int .i64 p, .int .i64 a]) TT_ok [24] [] Tryz.func29 rfl Tryz.ntmps29 rfl rfl hv (fun z => rdy_m _ _ _) ?_
 intro b4 b11 b13 b16 b17 b19 b20 b22
 refine And.intro rfl ?_
 refine shutW 11 (row_sl (g := colC) (l := [⟨[97], 1, none, 0, 0⟩]) (sz := 3) (n := 1) (cp := 1) rfl) ?_ Mono.slF
 refine shutW 13 (row_sl (g := colC) (l := [⟨[111], 1, none, 0, 0⟩]) (sz := 3) (n := 1) (cp := 1) rfl) ?_ Mono.slF
 refine shutW 16 (row_sl (g := fun s : List UInt8 => [vs s]) (l := [[60, 32, 53]]) (sz := 1) (n := 1) (cp := 1) rfl) ?_ Mono.slF
 refine shutW 17 (row_sl (g := fun s : List UInt8 => [vs s]) (l := [[49]]) (sz := 1) (n := 1) (cp := 1) rfl) ?_ Mono.slF
 refine shutW 19 (row_sl (g := fun s : List UInt8 => [vs s]) (l := [[60, 32, 57]]) (sz := 1) (n := 1) (cp := 1) rfl) ?_ Mono.slF
 refine shutW 20 (row_sl (g := fun s : List UInt8 => [vs s]) (l := [[50]]) (sz := 1) (n := 1) (cp := 1) rfl) ?_ Mono.slF
 refine shutW 22 (row_sl (g := rqC) (l := [((ruS [60, 32, 53] [49], (some ⟨b16, 0, none⟩, 1), (some ⟨b17, 0, none⟩, 1)) : RuQ), (ruS [60, 32, 57] [50], (some ⟨b19, 0, none⟩, 1), (some ⟨b20, 0, none⟩, 1))]) (sz := 2) (n := 2) (cp := 2) rfl) ?_ Mono.slF
 refine goW TT_ok ?_
 refine cA TT_ok (fun w v h1 h2 h3 => c_MakeK (make_e hp ho) (make_v p a) ⟨(some ⟨b11, 0, none⟩, 1), (some ⟨b13, 0, none⟩, 1), (some ⟨b22, 0, none⟩, 2)⟩ (tabB_ex p a) w v h3 (tabH_ex p a h2.1.1.1.1.1.1.2 h2.1.1.1.1.1.2 h2.1.1.1.1.2 h2.1.1.1.2 h2.1.1.2 h2.1.2 h2.2)) (fun z => rdy_m _ _ _) (fun z => ?_)
 intro b5
 exact ⟨(⟨(some ⟨b11, 0, none⟩, 1), (some ⟨b13, 0, none⟩, 1), (some ⟨b22, 0, none⟩, 2)⟩, z), rfl, fun v _ hF => hF.2⟩
end Go.Proofs.YtkkbnjomcgnkpaaGreat
set_option maxRecDepth 100000
namespace Go.Proofs.YtkkbnjomcgnkpaaGreat
open Go Go.Dx Go.RowKit
theorem c_RSame20T (o p : Outc) (ho : o = p) (a b c d : AC) (w0 : World) (h0 : View) (hv : VLe h0 (Full w0)) (hl : OutH h0 o a b) (hm : OutH h0 p c d) :
  Calls Tryz.prog 16 #[ouV o (a, b), ouV p (c, d)] w0 (Ret w0 h0 fun u _ => u = .bool true) := by
 have := c_RSame20 o p a b c d w0 h0 hv hl hm
 subst ho
 rw [sameO_refl] at this; exact this
def o6 : Outc := ⟨0, [0, 1], [[⟨1, 1, []⟩], [⟨1, 2, []⟩]]⟩
theorem rows_two {v : View} {a b1 b2 : AC} {x y : List Val} (s1 : SlC 57 3 (flatR valC) v (.slice b1.1 x.length b1.2) x) (s2 : SlC 57 3 (flatR valC) v (.slice b2.1 y.length b2.2) y)
  (s : SlC 28 1 (flatR rwC) v (.slice a.1 2 a.2) [(x, b1), (y, b2)]) : LR 28 1 RwR v a.1 a.2 [x, y] :=
 LR.of_rows (R := RwR) (g := fun q : RwQ => q.1) (d := rw0) s rfl (fun q hq => by
  have : q = (x, b1) ∨ q = (y, b2) := by simpa using hq
  rcases this with rfl | rfl
  ·exact ⟨b1, rfl, s1⟩
  ·exact ⟨b2, rfl, s2⟩)
set_option maxHeartbeats 40000000 in
theorem c_lives20 (w0 : World) (h0 : View) (hv : VLe h0 (Full w0)) : Calls Tryz.prog 10 #[] w0 (Ret w0 h0 fun u _ => u = .bool true) := by
 have hvb : ∀ v ∈ [v3], valB v := fun v hv => by
  have : v = v3 := by simpa using hv
  subst this; exact ⟨show i64 1 by unfold i64; omega, show i64 3 by unfold i64; omega⟩
 refine ent (args := []) TT_ok [1, 1000005, 36, 45, 58, 2000043, 2000044, 2000045, 2000053, 2000054, 2000055, 2000056, 2000057, 2000058] [] Tryz.func10 rfl Tryz.ntmps10 rfl rfl hv ?_
 refine cl (c_num20 3) ?_
 intro b9
 refine And.intro rfl ?_
 refine shutW 9 (row_sl (g := valC) (l := [v3]) (sz := 3) (n := 1) (cp := 1) rfl) ?_ Mono.slF
 refine goW TT_ok ?_
 refine cA TT_ok (fun w v h1 h2 h3 => c_example20 6 0 (by decide) (by decide) w v h3) (fun z => rdy_m _ _ _) (fun z1 => ?_)
 refine cA TT_ok (fun w v h1 h2 h3 => c_HDecide1 (exR 6 0) z1.1 z1.2 (some ⟨b9, 0, none⟩, 1) [v3] (.inr (.inr (.inl rfl))) (rdyB_ex 6 0) hvb dec_6 w v h3 h2.2 h2.1.2) (fun z => out_m _ _ _) (fun q1 => ?_)
 intro b2
 refine cA TT_ok (fun w v h1 h2 h3 => c_example20 1 0 (by decide) (by decide) w v h3) (fun z => rdy_m _ _ _) (fun z2 => ?_)
 refine cA TT_ok (fun w v h1 h2 h3 => c_HDecide1 (exR 1 0) z2.1 z2.2 (some ⟨b9, 0, none⟩, 1) [v3] (.inl rfl) (rdyB_ex 1 0) hvb dec_1 w v h3 h2.2 h2.1.1.1.2) (fun z => out_m _ _ _) (fun q2 => ?_)
 intro b4
 refine cA TT_ok (fun w v h1 h2 h3 => c_example20 5 1 (by decide) (by decide) w v h3) (fun z => rdy_m _ _ _) (fun z3 => ?_)
 refine cA TT_ok (fun w v h1 h2 h3 => c_HDecide1 (exR 5 1) z3.1 z3.2 (some ⟨b9, 0, none⟩, 1) [v3] (.inr (.inr (.inr ⟨rfl, rfl⟩))) (rdyB_ex 5 1) hvb dec_5 w v h3 h2.2 h2.1.1.1.1.1.2) (fun z => out_m _ _ _) (fun q3 => ?_)
 intro b6
 refine regP2 TT_ok [0] (.n 1 (.n 2 (.n 3 (.n 4 (.n 5 (.n 6 (.n 7 (.n 8 .e .z) .z) .z) .z) .z) (.n 4 (.n 3 (.n 5 (.n 6 (.n 7 (.n 8 .e .z) .z) .z) .z) (.n 5 (.n 3 (.n 6 (.n 7 (.n 8 .e .z) .z) .z) .z) .z)) .z)) .z) (.n 2 (.n 1 (.n 3 (.n 4 (.n 5 (.n 6 (.n 7 (.n 8 .e .z) .z) .z) .z) .z) (.n 4 (.n 3 (.n 5 (.n 6 (.n 7 (.n 8 .e .z) .z) .z) .z) (.n 5 (.n 3 (.n 6 (.n 7 (.n 8 .e .z) .z) .z) .z) .z)) .z)) (.n 3 (.n 1 (.n 4 (.n 5 (.n 6 (.n 7 (.n 8 .e .z) .z) .z) .z) .z) (.n 4 (.n 1 (.n 5 (.n 6 (.n 7 (.n 8 .e .z) .z) .z) .z) (.n 5 (.n 1 (.n 6 (.n 7 (.n 8 .e .z) .z) .z) (.n 6 (.n 1 (.n 7 (.n 8 .e .z) .z) .z) .z)) .z)) .z)) (.n 4 (.n 1 (.n 3 (.n 5 (.n 6 (.n 7 (.n 8 .e .z) .z) .z) .z) (.n 5 (.n 3 (.n 6 (.n 7 (.n 8 .e .z) .z) .z) .z) .z)) (.n 3 (.n 1 (.n 5 (.n 6 (.n 7 (.n 8 .e .z) .z) .z) .z) (.n 5 (.n 1 (.n 6 (.n 7 (.n 8 .e .z) .z) .z) (.n 6 (.n 1 (.n 7 (.n 8 .e .z) .z) .z) .z)) .z)) (.n 5 (.n 1 (.n 3 (.n 6 (.n 7 (.n 8 .e .z) .z) .z) .z) (.n 3 (.n 1 (.n 6 (.n 7 (.n 8 .e .z) .z) .z) (.n 6 (.n 1 (.n 7 (.n 8 .e .z) .z) .z) .z)) .z)) .z))) .z))) .z)) (.m [9, 10, 11] (.n 12 (.m [13, 14] (.n 15 (.n 16 (.n 17 (.n 18 (.m [19, 20, 21] (.n 22 (.m [23, 24] (.n 25 (.n 26 (.n 27 (.n 28 (.n 29 (.n 30 (.n 31 (.m [32, 33, 34] (.n 35 (.m [36] .e) .z)) .z) .z) .z) .z) .z) .z) (.n 26 (.n 25 (.n 27 (.n 28 (.n 29 (.n 30 (.n 31 (.m [32, 33, 34] (.n 35 (.m [36] .e) .z)) .z) .z) .z) .z) .z) (.n 27 (.n 25 (.n 28 (.n 29 (.n 30 (.n 31 (.m [32, 33, 34] (.n 35 (.m [36] .e) .z)) .z) .z) .z) .z) (.n 28 (.n 25 (.n 29 (.n 30 (.n 31 (.m [32, 33, 34] (.n 35 (.m [36] .e) .z)) .z) .z) .z) .z) .z)) .z)) .z))) .z)) .z) .z) .z) .z)) .z)) [29, 31, 33, 34, 43, 53, 55, 56] [(36, .v (.bool true))] ?_
 refine And.intro ?_ ?_
 ·refine kq ?_
  repeat' (first
   | exact ⟨rfl, gs rfl rfl (fun _ h => h.1.1.1.1) (.inr rfl)⟩
   | refine And.intro rfl (shutW 29 (row_sl (g := iC) (l := [0, 1]) (sz := 1) (n := 2) (cp := 2) rfl) (shutW 31 (row_sl (g := valC) (l := [⟨1, 1, []⟩]) (sz := 3) (n := 1) (cp := 1) rfl) (shutW 33 (row_sl (g := valC) (l := [⟨1, 2, []⟩]) (sz := 3) (n := 1) (cp := 1) rfl) (shutW 34 (row_sl (g := rwC) (l := [(([⟨1, 1, []⟩], some ⟨_, 0, none⟩, 1) : RwQ), ([⟨1, 2, []⟩], some ⟨_, 0, none⟩, 1)]) (sz := 1) (n := 2) (cp := 2) rfl)
     (goW TT_ok (cf (fun w v h1 h2 h3 => c_RSame20T o6 o6 rfl q1.1 q1.2 (some ⟨_, 0, none⟩, 2) (some ⟨_, 0, none⟩, 2) w v h3 h2.1.1.1.1.1.1.1.1.2 ⟨h2.1.1.1.2, rows_two h2.1.1.2 h2.1.2 h2.2⟩) (kq ?_ (fun _ h => h.1.1.1.1)))) Mono.slF) Mono.slF) Mono.slF) Mono.slF)
   | refine cl (c_num20 1) ?_
   | refine cl (c_num20 2) ?_
   | refine kq ?_
   | refine And.intro ?_ ?_
   | intro bq
   | fail)
 ·refine cndT rfl (cndT rfl (kq ?_))
  refine kq ?_
  refine cndT rfl (kq ?_)
  refine And.intro (rfl : true = true) ?_
  intro b43
  refine kq ?_
  refine And.intro (rfl : true = true) ?_
  refine kq ?_
  refine And.intro (rfl : true = true) (And.intro rfl ?_)
  refine shutW 43 (row_sl (g := iC) (l := [0, 1]) (sz := 1) (n := 2) (cp := 2) rfl) ?_ Mono.slF
  refine goW TT_ok ?_
  refine cf (fun w v h1 h2 h3 => c_RSame20T ⟨19, [0, 1], []⟩ ⟨19, [0, 1], []⟩ rfl q2.1 q2.2 (some ⟨b43, 0, none⟩, 2) (none, 0) w v h3 h2.1.1.1.2 ⟨h2.2, LR.nil v⟩) ?_
  refine kq ?_
  refine kq ?_
  refine cndT rfl (cndT rfl (kq ?_))
  refine kq ?_
  refine cndT rfl (kq ?_)
  repeat' (first
   | exact rfl
   | refine And.intro (rfl : true = true) (And.intro rfl (shutW 53 (row_sl (g := iC) (l := [0, 1]) (sz := 1) (n := 2) (cp := 2) rfl) (shutW 55 (row_sl (g := valC) (l := [⟨1, 3, []⟩]) (sz := 3) (n := 1) (cp := 1) rfl) (shutW 56 (row_sl (g := rwC) (l := [(([⟨1, 3, []⟩], some ⟨_, 0, none⟩, 1) : RwQ)]) (sz := 1) (n := 1) (cp := 1) rfl)
     (goW TT_ok (cf (fun w v h1 h2 h3 => c_RSame20T ⟨0, [0, 1], [[⟨1, 3, []⟩]]⟩ ⟨0, [0, 1], [[⟨1, 3, []⟩]]⟩ rfl q3.1 q3.2 (some ⟨_, 0, none⟩, 2) (some ⟨_, 0, none⟩, 1) w v h3 h2.1.1.1.1.2 ⟨h2.1.1.2, lr_one h2.2 ⟨_, rfl, h2.1.2⟩⟩) (kq ?_))) Mono.slF) Mono.slF) Mono.slF))
   | refine cl (c_num20 3) ?_
   | refine cndT rfl (cndT rfl (kq ?_))
   | refine And.intro (rfl : true = true) ?_
   | refine kq ?_
   | refine And.intro ?_ ?_
   | intro bq
   | fail)
end Go.Proofs.YtkkbnjomcgnkpaaGreat
set_option maxRecDepth 100000
namespace Go.Proofs.YtkkbnjomcgnkpaaGreat
open Go Go.Dx Go.RowKit
theorem c_HEqV (l m : List Val) (a b : AC) (w0 : World) (h0 : View) (hv : VLe h0 (Full w0)) (hl : SlC 57 3 (flatR valC) h0 (.slice a.1 l.length a.2) l) (hm : SlC 57 3 (flatR valC) h0 (.slice b.1 m.length b.2) m) :
  Calls Tryz.prog 47 #[.slice a.1 l.length a.2, .slice b.1 m.length b.2] w0 (Ret w0 h0 fun u _ => u = .bool (decide (l = m))) := by
 have hlm := slc_lm hl
 refine ent (args := [.slice a.1 l.length a.2, .slice b.1 m.length b.2]) TT_ok [] [] Tryz.func47 rfl Tryz.ntmps47 rfl rfl hv ?_
 refine cnd (fun h => ?_) (fun h => ?_)
 ·rw [decide_eq_false (p := l = m) (fun hh => by subst hh; exact h rfl)]; exact rfl
 have hn : l.length = m.length := by omega
 refine w_loop TT_ok (fun k : Nat => [(13, .v (.int .i64 k))]) 0 (fun k => k ≤ l.length ∧ ∀ j, j < k → l.getD j v0 = m.getD j v0) (fun k => l.length - k) ?_
 refine And.intro ⟨⟨Nat.zero_le _, fun j hj => absurd hj (Nat.not_lt_zero j)⟩, gs⟩ ?_
 intro k ⟨hk, hd⟩
 refine cnd (fun h1 => ?_) (fun h1 => ?_)
 ·refine And.intro (by kernel_rfl) ?_
  refine ixs hl k v0 ?_
  refine ixs hm k v0 ?_
  refine aq eqV (l.getD k v0) (m.getD k v0) ?_
  refine cnd (fun h2 => ?_) (fun h2 => ?_)
  ·rw [decide_eq_false (p := l = m) (fun hh => by subst hh; exact h2 rfl)]; exact rfl
  ·refine wi ?_
   exact ⟨k + 1, ⟨⟨by omega, upto_snoc hd h2⟩, by omega⟩, gs⟩
 ·rw [decide_eq_true (p := l = m) (ext_getD v0 hn fun j hj => hd j (by omega))]; exact rfl
end Go.Proofs.YtkkbnjomcgnkpaaGreat
namespace Go.Proofs.YtkkbnjomcgnkpaaGreat
open Go Go.Dx Go.RowKit
def asC (c : Col) : Col := ⟨c.name, c.kind, none, 0, 0⟩
def asO (q : CoO) : CoO := (asC q.1, [])
def asT (t : Tab) (p : Int) : Tab := ⟨t.name, t.ins, t.outs.map asO, p, 0, t.rules⟩
theorem colsO_as (l : List CoO) : colsO (l.map asO) = (colsO l).map asC := by
 simp only [colsO, List.map_map]; rfl
theorem idx_map {α β : Type} (f : α → β) (p : β → Bool) (l : List α) : idxS p (l.map f) = idxS (fun x => p (f x)) l := by
 unfold idxS; rw [List.findIdx?_map]; rfl
theorem atS_as (l : List Col) (s : List UInt8) : atS (l.map asC) s = atS l s := idx_map asC _ l
theorem getD_as (l : List Col) (i : Nat) (h : i < l.length) : (l.map asC).getD i c0 = asC (l.getD i c0) := by
 simp [List.getD, h]
theorem badN_as {l : List Col} {i : Nat} (h : i < l.length) : badN (l.map asC) i ↔ badN l i := by
 unfold badN; rw [getD_as l i h, atS_as]; exact Iff.rfl
theorem colsG_as (l : List Col) : ∀ (n i : Nat), l.length - i ≤ n → colsG (l.map asC) i = colsG l i := by
 intro n
 induction n with
 | zero => intro i hn; rw [cg_over (l := l) (by omega), cg_over (by simp; omega)]
 | succ n ih =>
  intro i hn
  by_cases h : i < l.length
  ·have h' : i < (l.map asC).length := by simpa using h
   have hb := badN_as h
   by_cases h1 : badN l i
   ·rw [cg_name h h1, cg_name h' (hb.2 h1)]
   by_cases h2 : badK (l.getD i c0).kind
   ·rw [cg_kind h h1 h2, cg_kind h' (fun x => h1 (hb.1 x)) (by rw [getD_as l i h]; exact h2)]
   ·rw [cg_next h h1 h2, cg_next h' (fun x => h1 (hb.1 x)) (by rw [getD_as l i h]; exact h2)]
    exact ih (i + 1) (by omega)
  ·rw [cg_over h, cg_over (by simp; omega)]
theorem colsS_as (l : List Col) : colsS (l.map asC) = colsS l := by
 unfold colsS; rw [colsG_as l l.length 0 (by omega), List.length_map]
theorem col_ok {l : List CoO} {k : Bool} (h : colE l k = 0) : colsS (colsO l) = 0 ∧ l.length ≠ 0 ∧ l.length ≤ 6 := by
 unfold colE at h
 split at h
 ·rename_i hh; exact absurd h hh
 rename_i hh
 have hh : colsS (colsO l) = 0 := by simpa using hh
 split at h
 ·cases h
 rename_i h2
 refine ⟨hh, fun h3 => h2 (.inr h3), ?_⟩
 unfold colsS at hh
 split at hh
 ·cases hh
 ·rename_i h4; simp only [colsO, List.length_map] at h4; omega
theorem col_as {l : List CoO} {k : Bool} (h : colE l k = 0) : colE (l.map asO) false = 0 := by
 obtain ⟨h1, h2, _⟩ := col_ok h
 unfold colE
 rw [colsO_as, colsS_as, if_neg (by rw [h1]; decide), if_neg]
 rintro (h3 | h3)
 ·have : (l.map asO).all (ordOk false) = true := by
   rw [List.all_eq_true]
   intro q hq
   obtain ⟨y, _, rfl⟩ := List.mem_map.1 hq
   rfl
  rw [this] at h3; cases h3
 ·rw [List.length_map] at h3; exact h2 h3
theorem frame_inv {t : Tab} (h : frameE t = 0) : nameOk t.name = true ∧ colE t.ins false = 0 ∧ colE t.outs (decide (t.pol = 3)) = 0 ∧ polOk t = true ∧ t.rules.length ≤ 24 := by
 unfold frameE at h
 split at h
 ·cases h
 rename_i h1
 split at h
 ·rename_i h2; exact absurd h h2
 rename_i h2
 split at h
 ·rename_i h3; exact absurd h h3
 rename_i h3
 split at h
 ·cases h
 rename_i h4
 split at h
 ·cases h
 rename_i h5
 exact ⟨by simpa using h1, by simpa using h2, by simpa using h3, by simpa using h4, by omega⟩
theorem frame_as {t : Tab} {p : Int} (h : frameE t = 0) (h1 : 1 ≤ p) (h6 : p ≤ 6) (h3 : p ≠ 3) : frameE (asT t p) = 0 := by
 obtain ⟨f1, f2, f3, _, f5⟩ := frame_inv h
 unfold frameE
 rw [show (asT t p).name = t.name from rfl, show (asT t p).ins = t.ins from rfl, show (asT t p).outs = t.outs.map asO from rfl, show (asT t p).pol = p from rfl, show (asT t p).rules = t.rules from rfl,
  if_neg (by rw [f1]; decide), if_neg (by rw [f2]; decide), decide_eq_false h3, if_neg (by rw [col_as f3]; decide), if_neg, if_neg (by omega)]
 have : polOk (asT t p) = true := by
  unfold polOk
  rw [show (asT t p).pol = p from rfl, show (asT t p).agg = 0 from rfl, if_neg (by omega), if_pos rfl]
 rw [this]; decide
theorem kind_as (l : List CoO) (k : Nat) : ((l.map asO).getD k co0).1.kind = (l.getD k co0).1.kind := by
 by_cases h : k < l.length
 ·simp [List.getD, h, asO, asC]
 ·simp [List.getD, h]
theorem line_as (t : Tab) (p : Int) (r : List (List UInt8) × List (List UInt8)) : lineE (asT t p) r = lineE t r := by
 unfold lineE
 have e : (fun k => outE (asT t p) k (r.2.getD k [])) = fun k => outE t k (r.2.getD k []) := by
  funext k
  unfold outE
  rw [show (asT t p).outs = t.outs.map asO from rfl, kind_as]; rfl
 rw [e, show (asT t p).outs.length = t.outs.length from List.length_map ..]; rfl
theorem make_as {t : Tab} {p : Int} (h : makeE t = 0) (h1 : 1 ≤ p) (h6 : p ≤ 6) (h3 : p ≠ 3) : makeE (asT t p) = 0 := by
 unfold makeE at h ⊢
 split at h
 ·rename_i hh; exact absurd h hh
 rename_i hh
 rw [if_neg (by rw [frame_as (by simpa using hh) h1 h6 h3]; decide)]
 have e : (fun i => lineE (asT t p) ((asT t p).rules.getD i ru0)) = fun i => lineE t (t.rules.getD i ru0) := by
  funext i; rw [line_as]; rfl
 rw [e]; exact h
theorem make_inv {t : Tab} (h : makeE t = 0) : frameE t = 0 ∧ ∀ r ∈ t.rules, lineE t r = 0 := by
 unfold makeE at h
 split at h
 ·rename_i hh; exact absurd h hh
 rename_i hh
 refine ⟨by simpa using hh, fun r hr => ?_⟩
 obtain ⟨i, hi, rfl⟩ := List.mem_iff_getElem.1 hr
 have := fir_inv h i hi
 simpa [List.getD, hi] using this
theorem line_inv {t : Tab} {r : List (List UInt8) × List (List UInt8)} (h : lineE t r = 0) : r.1.length = t.ins.length ∧ r.2.length = t.outs.length ∧ (∀ s ∈ r.1, (parseC s).2.2 = 0) ∧ ∀ s ∈ r.2, (parseT s).2.2 = 0 := by
 unfold lineE at h
 split at h
 ·cases h
 rename_i h1
 split at h
 ·rename_i h2; exact absurd h h2
 rename_i h2
 have h2 : firstE (fun k => cellE t k (r.1.getD k [])) r.1.length = 0 := by simpa using h2
 refine ⟨by omega, by omega, fun s hs => ?_, fun s hs => ?_⟩
 ·obtain ⟨i, hi, rfl⟩ := List.mem_iff_getElem.1 hs
  have := fir_inv h2 i hi
  simp only [List.getD, hi, List.getElem?_eq_getElem, Option.getD_some] at this
  unfold cellE at this
  split at this
  ·rename_i hh; exact absurd this hh
  ·rename_i hh; simpa using hh
 ·obtain ⟨i, hi, rfl⟩ := List.mem_iff_getElem.1 hs
  have := fir_inv h i hi
  simp only [List.getD, hi, List.getElem?_eq_getElem, Option.getD_some] at this
  unfold outE at this
  split at this
  ·rename_i hh; exact absurd this hh
  ·rename_i hh; simpa using hh
def N21 {α : Type} (r : Except Int α) : Prop := ∀ e, r = .error e → e ≠ 21
theorem n21_ok {α : Type} (v : α) : N21 (.ok v : Except Int α) := fun e h => by cases h
theorem n21_er {α : Type} {x : Int} (hx : x ≠ 21) : N21 (.error x : Except Int α) := fun e h => by cases h; exact hx
theorem n21_of (k : Int) : ∀ (l : List Val) (b : Bool), N21 (ofG k l b)
 | [], b => n21_ok b
 | v :: l, b => by
  rw [ofG]
  split
  ·exact n21_of k l b
  split
  ·exact n21_of k l true
  ·exact n21_er (by decide)
theorem n21_num (r : Int × Int) (h : r.2 ≠ 21) : N21 (numR r) := by
 unfold numR; split
 ·exact n21_ok _
 ·exact n21_er h
theorem ovr_21 (n : Int) : (ovr n).2 ≠ 21 := by unfold ovr; split <;> simp
theorem divR_21 (a b : Int) : (divR a b).2 ≠ 21 := by
 unfold divR; split
 ·simp
 ·exact ovr_21 _
theorem n21_name (s : List UInt8) : ∀ (l : List Col) (r : List Val), N21 (nameG s l r)
 | c :: l, v :: r => by
  rw [nameG]; split
  ·exact n21_ok _
  ·exact n21_name s l r
 | [], _ => by simp only [nameG]; exact n21_er (by decide)
 | _ :: _, [] => by simp only [nameG]; exact n21_er (by decide)
theorem n21_sums (op : Int) (a b : Val) : N21 (sumsE op a b) := by
 unfold sumsE
 have := n21_of (sumK op a b) [a, b] false
 split
 ·rename_i x h; exact n21_er (this x h)
 ·exact n21_ok _
 ·split
  ·unfold joinE; split
   ·exact n21_er (by decide)
   ·exact n21_ok _
  ·unfold reckE
   refine n21_num _ ?_
   unfold reckR
   split
   ·exact ovr_21 _
   split
   ·exact ovr_21 _
   split
   ·exact ovr_21 _
   ·exact divR_21 _ _
theorem n21_trus (op : Int) (a b : Val) : N21 (trusE op a b) := by
 unfold trusE
 have := n21_of 3 [a, b] false
 split
 ·rename_i x h; exact n21_er (this x h)
 ·split
  ·exact n21_ok _
  split
  ·exact n21_ok _
  ·exact n21_ok _
theorem n21_cmp (op : Int) (a b : Val) : N21 (cmpE op a b) := by
 unfold cmpE
 have := n21_of (kinK a b) [a, b] false
 split
 ·rename_i x h; exact n21_er (this x h)
 ·split
  ·exact n21_ok _
  split
  ·exact n21_ok _
  split
  ·exact n21_er (by decide)
  split
  ·exact n21_ok _
  split
  ·exact n21_ok _
  split
  ·exact n21_ok _
  split
  ·exact n21_ok _
  ·exact n21_ok _
theorem n21_evX (l : List Col) (row : List Val) : ∀ (k : Nat) (x : Ex), N21 (evX l row k x)
 | 0, x => by rw [evX]; exact n21_er (by decide)
 | k + 1, x => by
  have ih := n21_evX l row k
  rw [evX]
  split
  ·exact n21_ok _
  split
  ·exact n21_name _ _ _
  split
  ·rename_i e h; exact n21_er (ih _ e h)
  split
  ·split
   ·rename_i e h; exact n21_er (n21_of _ _ _ e h)
   ·exact n21_ok _
   ·exact n21_num _ (ovr_21 _)
  split
  ·split
   ·rename_i e h; exact n21_er (n21_of _ _ _ e h)
   ·split
    ·exact ih _
    ·exact ih _
  split
  ·rename_i e h; exact n21_er (ih _ e h)
  split
  ·exact n21_sums _ _ _
  split
  ·exact n21_trus _ _ _
  ·exact n21_cmp _ _ _
theorem evalS_21 (l : List Col) (row : List Val) (x : Ex) : (evalS l row x).2 ≠ 21 := by
 unfold evalS
 split
 ·split
  ·simp
  ·rename_i e h; exact n21_evX _ _ _ _ e h
 ·simp
theorem told_21 (col : List Col) (row : List Val) : ∀ l, (toldL col row l).2 ≠ 21
 | [] => by simp [toldL]
 | x :: l => by
  rw [toldL]
  split
  ·exact evalS_21 _ _ _
  ·exact told_21 col row l
theorem ask_21 (t : Tst) (v : Val) (col : List Col) (row : List Val) : (askT t v col row).2 ≠ 21 := by
 unfold askT
 split
 ·exact told_21 _ _ _
 split <;> simp
theorem hold_21 (any neg : Bool) (v : Val) (col : List Col) (row : List Val) : ∀ l, (holdL any neg v col row l).2 ≠ 21
 | [] => by simp [holdL]
 | t :: l => by
  rw [holdL]
  split
  ·exact ask_21 _ _ _ _
  split
  ·simp
  ·exact hold_21 any neg v col row l
theorem holds_21 (c : Cel) (v : Val) (col : List Col) (row : List Val) : (holdsC c v col row).2 ≠ 21 := by
 unfold holdsC
 split
 ·exact hold_21 _ _ _ _ _ _
 ·simp
theorem all_21 {f : Nat → Bool × Int} (hf : ∀ i, (f i).2 ≠ 21) : ∀ n, (allS f n).2 ≠ 21
 | 0 => by simp [allS]
 | n + 1 => by
  rw [allS]
  split
  ·exact all_21 hf n
  split
  ·simp
  ·exact hf n
theorem rule_21 (r : Rdy) (row : List Val) (i : Nat) : (ruleS r row i).2 ≠ 21 := all_21 (fun k => holds_21 _ _ _ _) _
structure Mo (r s : Rdy) (l : Lin) : Prop where
 i : s.t.ins = r.t.ins
 p : s.t.pol = r.t.pol
 l : s.ls = r.ls ++ [l]
theorem Mo.len {r s : Rdy} {l : Lin} (h : Mo r s l) : s.ls.length = r.ls.length + 1 := by rw [h.l]; simp
theorem rulesS_21 {pol : Int} {f : Nat → Bool × Int} (hf : ∀ i, (f i).2 ≠ 21) (n : Nat) : (rulesS pol f n).2.2 ≠ 21 := by
 unfold rulesS
 split
 ·simp
 ·split
  ·exact hf _
  ·simp
theorem decS_2 (ch : List Nat → List (List Val) → Outc) (r : Rdy) (row : List Val) : (decS ch r row).2 = inputE r row := by
 have hi : inputE r row = 0 ∨ inputE r row = 21 := by unfold inputE; split <;> simp
 unfold decS
 by_cases h : inputE r row = 0
 ·have h21 : (rulesR r row).2.2 ≠ 21 := by
   unfold rulesR; rw [if_neg (fun hh => hh h)]
   exact rulesS_21 (rule_21 r row) _
  rw [if_neg h21, h]
  split
  ·rfl
  split <;> rfl
 ·have : (rulesR r row).2.2 = 21 := by unfold rulesR; rw [if_pos h]; rcases hi with hi | hi; exact absurd hi h; exact hi
  rw [if_pos this]; rcases hi with hi | hi; exact absurd hi h; exact hi.symm
end Go.Proofs.YtkkbnjomcgnkpaaGreat
set_option maxRecDepth 100000
namespace Go.Proofs.YtkkbnjomcgnkpaaGreat
open Go Go.Dx Go.RowKit
def ordF (p : CoO) : Bool := decide (p.2.length ≤ 12) && p.2.all fun v => decide (v.s.length ≤ 300)
def ordFew (l : List CoO) : Bool := fewS (colsO l) && l.all ordF
def txFew (l : List (List UInt8)) : Bool := decide (l.length ≤ 10) && l.all fun s => decide (s.length ≤ 300)
def ruFew (r : List (List UInt8) × List (List UInt8)) : Bool := txFew r.1 && txFew r.2
def smallT (t : Tab) : Bool := decide (t.name.length ≤ 300) && (decide (t.rules.length ≤ 26) && (ordFew t.ins && (ordFew t.outs && t.rules.all ruFew)))
theorem c_texts18 (l : List (List UInt8)) (a : AC) (w0 : World) (h0 : View) (hv : VLe h0 (Full w0)) (hl : TxL h0 a l) :
  Calls Tryz.prog 27 #[.slice a.1 l.length a.2] w0 (Ret w0 h0 fun u _ => u = .bool (txFew l)) := by
 have hl : SlC 9 1 (flatR fun s => [vs s]) h0 (.slice a.1 l.length a.2) l := hl
 have hlm := slc_lm hl
 refine ent (args := [.slice a.1 l.length a.2]) TT_ok [] [] Tryz.func27 rfl Tryz.ntmps27 rfl rfl hv ?_
 refine cnd (fun h => ?_) (fun h => ?_)
 ·exact congrArg Value.bool (by rw [txFew, decide_eq_false (by omega), Bool.false_and])
 refine w_loop TT_ok (fun k : Nat => [(3, .v (.int .i64 k))]) 0 (fun k => k ≤ l.length ∧ ∀ j, j < k → (l.getD j []).length ≤ 300) (fun k => l.length - k) ?_
 refine And.intro ⟨⟨Nat.zero_le _, fun j hj => absurd hj (Nat.not_lt_zero j)⟩, gs⟩ ?_
 intro k ⟨hk, hn⟩
 refine cnd (fun h1 => ?_) (fun h1 => ?_)
 ·refine ixs hl k [] ?_
  refine cnd (fun h2 => ?_) (fun h2 => ?_)
  ·exact congrArg Value.bool (by rw [txFew, all_not [] (k := k) (p := fun s => decide (s.length ≤ 300)) (by omega) (by simp only [decide_eq_false_iff_not]; omega), Bool.and_false])
  ·refine wi ?_
   exact ⟨k + 1, ⟨⟨by omega, upto_snoc hn (by omega)⟩, by omega⟩, gs⟩
 ·exact congrArg Value.bool (by rw [txFew, all_upto [] (p := fun s => decide (s.length ≤ 300)) (fun j hj => decide_eq_true (hn j (by omega))), Bool.and_true, decide_eq_true (by omega)])
set_option maxHeartbeats 1000000 in
theorem c_order18 (l : List CoO) (a : AC) (w0 : World) (h0 : View) (hv : VLe h0 (Full w0)) (hl : CoL h0 a l) :
  Calls Tryz.prog 26 #[.slice a.1 (colsO l).length a.2] w0 (Ret w0 h0 fun u _ => u = .bool (ordFew l)) := by
 obtain ⟨hsl, hor⟩ := hl
 have hlm := slc_lm hsl
 have hcl := cols_len l
 refine ent (args := [.slice a.1 (colsO l).length a.2]) TT_ok [] [] Tryz.func26 rfl Tryz.ntmps26 rfl rfl hv ?_
 refine cb (fun w hw => c_Few a.1 a.2 (colsO l) w h0 hw hsl) ?_
 refine cnd (fun h => ?_) (fun h => ?_)
 ·exact congrArg Value.bool (by rw [ordFew, h, Bool.false_and])
 have hfew : fewS (colsO l) = true := by simpa using h
 have hbad : ∀ k, k < l.length → ordF (l.getD k co0) = false → ordFew l = false := fun k hk h => by rw [ordFew, all_not co0 hk h, Bool.and_false]
 refine w_loop TT_ok (fun k : Nat => [(3, .v (.int .i64 k))]) 0 (fun k => k ≤ l.length ∧ ∀ j, j < k → ordF (l.getD j co0) = true) (fun k => l.length - k) ?_
 refine And.intro ⟨⟨Nat.zero_le _, fun j hj => absurd hj (Nat.not_lt_zero j)⟩, gs⟩ ?_
 intro k ⟨hk, hn⟩
 refine cnd (fun h1 => ?_) (fun h1 => ?_)
 ·have hkl : k < l.length := by omega
  have hg := cols_get l k hkl
  have hok := hor _ (getD_mem l k co0 hkl)
  have hbk := hbad k hkl
  obtain ⟨p, hp⟩ : ∃ p, l.getD k co0 = p := ⟨_, rfl⟩
  rw [hp] at hg hok hbk
  obtain ⟨⟨nm, kd, oa, on, oc⟩, o⟩ := p
  obtain ⟨hon, hos, hov⟩ := hok
  dsimp only at hon hos hov hg
  subst hon
  have hom := slc_lm hos
  refine ixs hsl k c0 ?_ (by omega)
  rw [hg]
  refine cnd (fun h2 => ?_) (fun h2 => ?_)
  ·rw [hbk (by rw [ordF, decide_eq_false (by dsimp only at h2 ⊢; omega), Bool.false_and])]; exact rfl
  refine w_loop TT_ok (fun m : Nat => [(4, .v (.int .i64 m))]) 0 (fun m => m ≤ o.length ∧ ∀ j, j < m → (o.getD j v0).s.length ≤ 300) (fun m => o.length - m) ?_
  refine And.intro ⟨⟨Nat.zero_le _, fun j hj => absurd hj (Nat.not_lt_zero j)⟩, gs⟩ ?_
  intro m ⟨hm, hmn⟩
  refine ixs hsl k c0 ?_ (by omega)
  rw [hg]
  refine cnd (fun h3 => ?_) (fun h3 => ?_)
  ·have hmo : m < o.length := by dsimp only at h3; omega
   refine ixs hsl k c0 ?_ (by omega)
   rw [hg]
   refine ixs hos m v0 ?_ (by omega)
   refine cnd (fun h4 => ?_) (fun h4 => ?_)
   ·rw [hbk (by rw [ordF, all_not v0 (k := m) (p := fun v => decide (v.s.length ≤ 300)) hmo (by simp only [decide_eq_false_iff_not]; omega), Bool.and_false])]; exact rfl
   ·refine wi ?_
    exact ⟨m + 1, ⟨⟨by omega, upto_snoc hmn (by omega)⟩, by omega⟩, gs⟩
  ·refine wi ?_
   refine ⟨k + 1, ⟨⟨by omega, upto_snoc hn ?_⟩, by omega⟩, gs⟩
   rw [hp, ordF, all_upto v0 (p := fun v => decide (v.s.length ≤ 300)) (fun j hj => decide_eq_true (hmn j (by dsimp only at h3 hj ⊢; omega))), Bool.and_true]
   exact decide_eq_true (by dsimp only at h2 ⊢; omega)
 ·exact congrArg Value.bool (by rw [ordFew, hfew, all_upto co0 (fun j hj => hn j (by omega)), Bool.and_true])
set_option maxHeartbeats 2000000 in
theorem c_TSmall (t : Tab) (a : TA) (w0 : World) (h0 : View) (hv : VLe h0 (Full w0)) (hc : TabH h0 t a) :
  Calls Tryz.prog 8 #[.agg (tabC t a).toArray] w0 (Ret w0 h0 fun u _ => u = .bool (smallT t)) := by
 have hlm := hc.r.lm
 have e0 : smallT t = (decide (t.name.length ≤ 300) && (decide (t.rules.length ≤ 26) && (ordFew t.ins && (ordFew t.outs && t.rules.all ruFew)))) := rfl
 rw [e0]; clear e0
 refine ent (args := [.agg (tabC t a).toArray]) TT_ok [] [] Tryz.func8 rfl Tryz.ntmps8 rfl rfl hv ?_
 intro b1
 refine cbg (fun _ w hw => c_order18 t.ins a.i w h0 hw hc.i) ?_
 refine cbg (fun _ w hw => c_order18 t.outs a.o w h0 hw hc.o) ?_
 generalize ordFew t.ins = o1
 generalize ordFew t.outs = o2
 refine cnd (fun h => ?_) (fun h => ?_)
 ·refine congrArg Value.bool ?_
  rcases h with ((h | h) | h) | h
  ·rw [decide_eq_false (by omega), Bool.false_and]
  ·rw [decide_eq_false (p := t.rules.length ≤ 26) (by omega), Bool.false_and, Bool.and_false]
  ·rw [h]; simp
  ·rw [h]; simp
 have h4 : o2 = true := by have := h.2; simpa using this
 have h3 : o1 = true := by have := h.1.2; simpa using this
 have h2 : t.rules.length ≤ 26 := by have := h.1.1.2; omega
 have h1 : t.name.length ≤ 300 := by have := h.1.1.1; omega
 rw [h4, h3, decide_eq_true h2, decide_eq_true h1, Bool.true_and, Bool.true_and, Bool.true_and, Bool.true_and]
 clear h
 refine w_loop TT_ok (fun k : Nat => [(3, .v (.int .i64 k))]) 0 (fun k => k ≤ t.rules.length ∧ ∀ j, j < k → ruFew (t.rules.getD j ru0) = true) (fun k => t.rules.length - k) ?_
 refine And.intro ⟨⟨Nat.zero_le _, fun j hj => absurd hj (Nat.not_lt_zero j)⟩, gs⟩ ?_
 intro k ⟨hk, hn⟩
 refine cnd (fun h1 => ?_) (fun h1 => ?_)
 ·have hkl : k < t.rules.length := by omega
  have hbk : ruFew (t.rules.getD k ru0) = false → t.rules.all ruFew = false := fun h => all_not ru0 hkl h
  have hnk : ruFew (t.rules.getD k ru0) = true → ∀ j, j < k + 1 → ruFew (t.rules.getD j ru0) = true := fun h => upto_snoc hn h
  refine ixL (R := RuR) hc.r k ru0 (fun cs hcs => ?_)
  generalize hr : t.rules.getD k ru0 = r at hcs hbk hnk
  obtain ⟨pa, pb, rfl, g1, g2⟩ := hcs
  refine cb (fun w hw => c_texts18 r.1 pa w h0 hw g1) ?_
  refine ixLg (R := RuR) hc.r k ru0 hkl (fun cs hcs => ?_)
  rw [hr] at hcs
  obtain ⟨qa, qb, rfl, g3, g4⟩ := hcs
  refine kg1 ?_
  refine cbg (fun _ w hw => c_texts18 _ qb w h0 hw g4) ?_
  refine cnd (fun h2 => ?_) (fun h2 => ?_)
  ·rw [hbk (by
    rw [ruFew]
    rcases h2 with h2 | h2
    ·have h2 : txFew r.1 = false := by simpa using h2
     rw [h2, Bool.false_and]
    ·have h2 : txFew r.2 = false := by simpa using h2
     rw [h2, Bool.and_false])]
   exact rfl
  ·refine wi ?_
   refine ⟨k + 1, ⟨⟨by omega, hnk ?_⟩, by omega⟩, gs⟩
   rw [ruFew, Bool.and_eq_true]
   exact ⟨by simpa using h2.1, by simpa using h2.2⟩
 ·rw [all_upto ru0 (fun j hj => hn j (by omega))]; exact rfl
end Go.Proofs.YtkkbnjomcgnkpaaGreat
set_option maxRecDepth 100000
namespace Go.Proofs.YtkkbnjomcgnkpaaGreat
open Go Go.Dx Go.RowKit
def asI (l : List Col) (i : Nat) : List Col := (l.take i).map asC ++ l.drop i
theorem asI_len (l : List Col) (i : Nat) : (asI l i).length = l.length := by simp [asI]; omega
theorem asI_get (l : List Col) (i : Nat) (h : i < l.length) : (asI l i).getD i c0 = l.getD i c0 := by
 have e : (List.map asC (List.take i l)).length = i := by simp; omega
 unfold asI
 rw [List.getD, List.getElem?_append_right (by omega), e, Nat.sub_self, List.getElem?_drop]
 simp [List.getD, h]
theorem asI_set (l : List Col) (i : Nat) (h : i < l.length) : (asI l i).set i (asC (l.getD i c0)) = asI l (i + 1) := by
 have e : (List.map asC (List.take i l)).length = i := by simp; omega
 unfold asI
 rw [List.set_append_right _ _ (by omega), e, Nat.sub_self, List.drop_eq_getElem_cons h, List.set_cons_zero, List.take_succ_eq_append_getElem h, List.map_append, List.append_assoc]
 simp [List.getD, h]
theorem asI_0 (l : List Col) : asI l 0 = l := by simp [asI]
theorem asI_end (l : List Col) : asI l l.length = l.map asC := by simp [asI]
theorem asI_fld (l : List Col) (i : Nat) (h : i < l.length) : (((asI l i).map colC).flatten.take (i * 3 + 2) ++ [Value.slice none 0 0] ++ ((asI l i).map colC).flatten.drop (i * 3 + 2 + [Value.slice none 0 0].length)) = ((asI l (i + 1)).map colC).flatten := by
 rw [← asI_set l i h, flat_set (g := colC) (sz := 3) (fun _ => rfl) _ _ _ (by rw [asI_len]; exact h)]
 have ha := flat_at (g := colC) (sz := 3) (fun _ => rfl) (asI l i) i c0 (by rw [asI_len]; exact h)
 rw [asI_get l i h] at ha
 generalize ((asI l i).map colC).flatten = xs at ha ⊢
 have h2 : (xs.drop (i * 3)).take 2 = [vs (l.getD i c0).name, .int .i64 (l.getD i c0).kind] := by
  have : ((xs.drop (i * 3)).take 3).take 2 = (colC (l.getD i c0)).take 2 := by rw [ha]
  rw [List.take_take] at this
  exact this
 rw [List.take_add, h2]
 simp [colC, asC]
theorem fls (l : List Col) : (l.map colC).flatten.length = l.length * 3 := row_flat (sz := 3) (fun _ => rfl) l
theorem col_one (v : Col) : ∀ u ∈ colC v, u.oneCell' = true := by
 intro u hu
 simp [colC] at hu
 rcases hu with rfl | rfl | rfl <;> rfl
theorem colsO_len_as (l : List CoO) : (colsO (l.map asO)).length = l.length := by simp [colsO]
theorem orh_as (h : View) (l : List CoO) : ∀ q ∈ l.map asO, OrH h q := by
 intro q hq
 obtain ⟨y, _, rfl⟩ := List.mem_map.1 hq
 exact ⟨rfl, SlC.nil (by show 0 ≤ _; simp [maxLen]), fun v hv => by cases hv⟩
set_option maxHeartbeats 4000000 in
theorem c_As (r : Rdy) (a : TA) (x : AC) (p : Int) (he : makeE (asT r.t p) = 0) (hb : TabB (asT r.t p)) (hol : r.t.outs.length ≤ 1000000) (w0 : World) (h0 : View) (hv : VLe h0 (Full w0)) (hr : RdyH h0 r a x) :
  Calls Tryz.prog 22 #[.agg (rdyC r a x).toArray, .int .i64 p] w0 (Ret w0 h0 fun u hh => ∃ z : TA × AC, u = .agg (rdyC (makeV (asT r.t p)) z.1 z.2).toArray ∧ RdyH hh (makeV (asT r.t p)) z.1 z.2) := by
 have hcl := cols_len r.t.outs
 refine entA (args := [.agg (rdyC r a x).toArray, .int .i64 p]) TT_ok [16, 33, 38] [] Tryz.func22 rfl Tryz.ntmps22 rfl rfl hv (fun z => rdy_m _ _ _) ?_
 intro b2 b4 b15
 refine ⟨rfl, rowE (k := 15) (n := 0) (cp := 0) (sz := 3) 901 rfl rfl rfl (by decide) (Nat.le_refl _) ?_⟩
 refine ⟨rfl, ?_⟩
 refine goW TT_ok ?_
 refine ⟨rfl, apF TT_ok (g := colC) (l := colsO r.t.outs) 901 (AppT.of (bytes := 48) (sz := 2) (by kernel_rfl) (by kernel_rfl) (by kernel_rfl)) (fun v h1 _ => Mono.slF _ _ h1 hr.t.o.1) (fun _ _ => rfl) (fun v _ => col_one v) rfl rfl rfl rfl (by rw [fls]; show (0 + (colsO r.t.outs).length * 3) * 49 ≤ 140737488355328; omega) (fun a1 n1 c1 hn1 => ?_)⟩
 have hn1 : n1 * 3 = 0 + ((colsO r.t.outs).map colC).flatten.length := hn1
 rw [fls] at hn1
 have hn1 : n1 = (colsO (r.t.outs.map asO)).length := by rw [colsO_len_as]; omega
 subst hn1
 have hno : (colsO (r.t.outs.map asO)).length = (colsO r.t.outs).length := by rw [colsO_len_as, hcl]
 rw [List.nil_append]
 refine w_loopB TT_ok (fun i : Nat => [(26, .v (.int .i64 i))]) (fun i => [(901, .e (bufE 61 3 (.slice a1 (colsO (r.t.outs.map asO)).length c1) ((asI (colsO r.t.outs) i).map colC).flatten)), (4, .c b4 34 (rdyC rdy0 ta0 (none, 0))), (2, .c b2 34 [vs r.t.name, .slice a.i.1 (colsO r.t.ins).length a.i.2, .slice a1 (colsO (r.t.outs.map asO)).length c1, .int .i64 p, .int .i64 0, .slice a.r.1 r.t.rules.length a.r.2, .slice x.1 r.ls.length x.2])]) 0 (fun i => i ≤ (colsO r.t.outs).length) (fun i => (colsO r.t.outs).length - i) ?_
 refine And.intro ⟨Nat.zero_le _, gs rfl (by rw [asI_0]; rfl)⟩ ?_
 intro i hi
 refine cnd (fun h3 => ?_) (fun h3 => ?_)
 ·have hil : i < (colsO r.t.outs).length := by rw [← hno]; omega
  refine ⟨rfl, ixBnW TT_ok (T := 61) (e := 61) (sz := 3) (m := i) 901 rfl ⟨by kernel_rfl, SzIs.of (by kernel_rfl)⟩ rfl rfl rfl (by omega) (fun bb oo hab => ?_)⟩
  cases hab
  refine goW1 TT_ok ⟨rfl, ?_⟩
  refine stW TT_ok (p := i * 3 + 2) (new := [.slice none 0 0]) 901 rfl rfl (by omega) rfl rfl rfl (by show i * 3 + 2 + 1 ≤ _; omega) (SzIs.of (by kernel_rfl)) rfl ?_
  rw [asI_fld _ _ hil]
  refine goR TT_ok ?_
  refine wi ?_
  exact ⟨i + 1, ⟨hil, by omega⟩, gs⟩
 have hie : i = (colsO r.t.outs).length := by omega
 subst hie
 rw [asI_end]
 have hce : (colsO r.t.outs).map asC = colsO (r.t.outs.map asO) := (colsO_as r.t.outs).symm
 rw [hce]
 refine And.intro rfl ?_
 refine sealW (g := colC) (l := colsO (r.t.outs.map asO)) 901 rfl rfl ?_
 refine goW TT_ok ?_
 refine cA TT_ok (fun w v h1 h2 h3 => c_MakeK (r := makeV (asT r.t p)) he rfl ⟨a.i, (a1, c1), a.r⟩ hb w v h3 ⟨col_m _ _ _ _ h1 hr.t.i, ⟨h2.2, orh_as v _⟩, LR.mono (R := RuR) ruR_m h1 hr.t.r⟩) (fun z => rdy_m _ _ _) (fun z => ?_)
 intro b6
 exact ⟨(⟨a.i, (a1, c1), a.r⟩, z), rfl, fun v _ hF => hF.2⟩
end Go.Proofs.YtkkbnjomcgnkpaaGreat
set_option maxRecDepth 100000
namespace Go.Proofs.YtkkbnjomcgnkpaaGreat
open Go Go.Dx Go.RowKit
theorem small_inv {t : Tab} (h : smallT t = true) : t.name.length ≤ 300 ∧ t.rules.length ≤ 26 ∧ ordFew t.ins = true ∧ ordFew t.outs = true ∧ ∀ r ∈ t.rules, ruFew r = true := by
 unfold smallT at h
 simp only [Bool.and_eq_true, decide_eq_true_eq, List.all_eq_true] at h
 exact ⟨h.1, h.2.1, h.2.2.1, h.2.2.2.1, h.2.2.2.2⟩
theorem ord_inv {l : List CoO} (h : ordFew l = true) : l.length ≤ 12 ∧ ∀ p ∈ l, p.1.name.length ≤ 300 ∧ p.2.length ≤ 12 ∧ ∀ v ∈ p.2, v.s.length ≤ 300 := by
 unfold ordFew fewS at h
 simp only [Bool.and_eq_true, decide_eq_true_eq, List.all_eq_true] at h
 obtain ⟨⟨h1, h2⟩, h3⟩ := h
 rw [cols_len] at h1
 refine ⟨h1, fun p hp => ⟨h2 _ (List.mem_map.2 ⟨p, hp, rfl⟩), ?_⟩⟩
 have := h3 p hp
 unfold ordF at this
 simp only [Bool.and_eq_true, decide_eq_true_eq, List.all_eq_true] at this
 exact this
theorem tx_inv {l : List (List UInt8)} (h : txFew l = true) : l.length ≤ 10 ∧ ∀ s ∈ l, s.length ≤ 300 := by
 unfold txFew at h
 simp only [Bool.and_eq_true, decide_eq_true_eq, List.all_eq_true] at h
 exact h
theorem small_tabB {t : Tab} (h : smallT t = true) : TabB t := by
 obtain ⟨h1, h2, h3, h4, h5⟩ := small_inv h
 refine ⟨by omega, fun p hp => by have := ((ord_inv h3).2 p hp).1; omega, fun p hp => by have := ((ord_inv h4).2 p hp).1; omega, fun r hr => ?_, by omega⟩
 have := h5 r hr
 unfold ruFew at this
 simp only [Bool.and_eq_true] at this
 have k1 := tx_inv this.1
 have k2 := tx_inv this.2
 exact ⟨fun s hs => by have := k2.2 s hs; omega, by omega, by omega⟩
theorem tabB_as {t : Tab} (h : TabB t) (p : Int) : TabB (asT t p) := by
 refine ⟨h.n, h.i, fun q hq => ?_, h.r, h.k⟩
 obtain ⟨y, hy, rfl⟩ := List.mem_map.1 hq
 exact h.o y hy
theorem make_rdyB {t : Tab} (h : makeE t = 0) : RdyB (makeV t) := by
 obtain ⟨hf, hr⟩ := make_inv h
 obtain ⟨_, f2, f3, _, f5⟩ := frame_inv hf
 obtain ⟨_, _, i6⟩ := col_ok f2
 obtain ⟨_, o0, o6⟩ := col_ok f3
 have hl : ∀ l ∈ (makeV t).ls, ∃ r ∈ t.rules, lineV r = l := fun l hl => List.mem_map.1 hl
 refine ⟨by show t.ins.length ≤ _; omega, by show (t.rules.map lineV).length ≤ _; rw [List.length_map]; omega, fun l hm => ?_, fun l hm => ?_⟩
 ·obtain ⟨r, hrm, rfl⟩ := hl l hm
  obtain ⟨k1, k2, k3, k4⟩ := line_inv (hr r hrm)
  refine ⟨by show (r.1.map _).length = _; rw [List.length_map]; exact k1, by show (r.2.map _).length ≤ _; rw [List.length_map]; omega, fun c hc => ?_, fun x hx => ?_⟩
  ·obtain ⟨s, hs, rfl⟩ := List.mem_map.1 hc
   exact right_gt (parseC_right (k3 s hs))
  ·obtain ⟨s, hs, rfl⟩ := List.mem_map.1 hx
   exact ⟨parse_nd s, smx_right (parseT_right (k4 s hs))⟩
 ·obtain ⟨r, hrm, rfl⟩ := hl l hm
  obtain ⟨k1, k2, k3, k4⟩ := line_inv (hr r hrm)
  show 1 ≤ (r.2.map _).length
  rw [List.length_map]; omega
theorem c_MakeN {t : Tab} {e : Int} (he : makeE t = e) (hn : e ≠ 0) (a : TA) (hb : TabB t) (w0 : World) (h0 : View) (hv : VLe h0 (Full w0)) (hc : TabH h0 t a) :
  Calls Tryz.prog 11 #[.agg (tabC t a).toArray] w0 (Ret w0 h0 fun u hh => ∃ z : Int × Int, u = .tuple #[.agg (rdyC rdy0 ta0 (none, 0)).toArray, .int .i64 z.1, .int .i64 z.2, .int .i64 e] ∧ True) := by
 subst he
 exact (c_Make t a hb w0 h0 hv hc).mono (Ret.mono fun u hh ⟨z, e, h⟩ => ⟨(z.2.1, z.2.2), by rw [e, mkV, if_neg hn], trivial⟩)
theorem lr_cap {α : Type} {T sz : Nat} {R : View → List Value → α → Prop} {h : View} {a : Option Addr} {cap : Nat} {l : List α} (hx : LR T sz R h a cap l) : l.length ≤ cap := by
 obtain ⟨_, hs, _⟩ := hx
 obtain ⟨_, _, e, hh, _⟩ := hs.parts
 rw [List.length_range] at e hh
 cases e; exact hh
end Go.Proofs.YtkkbnjomcgnkpaaGreat
set_option maxRecDepth 100000
namespace Go.Proofs.YtkkbnjomcgnkpaaGreat
open Go Go.Dx Go.RowKit
theorem cmpR_drop {l m : List Val} {k : Nat} (h1 : k < l.length) (h2 : k < m.length) : cmpR (l.drop k) (m.drop k) = if cmpV (l.getD k v0) (m.getD k v0) ≠ 0 then cmpV (l.getD k v0) (m.getD k v0) else cmpR (l.drop (k + 1)) (m.drop (k + 1)) := by
 rw [drop_getD l k v0 h1, drop_getD m k v0 h2, cmpR]
set_option maxHeartbeats 1000000 in
theorem c_CompareFunc (l m : List Val) (a b : AC) (w0 : World) (h0 : View) (hv : VLe h0 (Full w0)) (hl : SlC 57 3 (flatR valC) h0 (.slice a.1 l.length a.2) l) (hm : SlC 57 3 (flatR valC) h0 (.slice b.1 m.length b.2) m) :
  Calls Tryz.prog 87 #[.slice a.1 l.length a.2, .slice b.1 m.length b.2, .func (.func 88) #[] #[]] w0 (Ret w0 h0 fun u _ => u = .int .i64 (cmpR l m)) := by
 have hlm := slc_lm hl
 have hmm := slc_lm hm
 refine ent (args := [.slice a.1 l.length a.2, .slice b.1 m.length b.2, .func (.func 88) #[] #[]]) TT_ok [] [] Tryz.func87 rfl Tryz.ntmps87 rfl rfl hv ?_
 refine w_loop TT_ok (fun k : Nat => [(13, .v (.int .i64 k))]) 0 (fun k => k ≤ l.length ∧ k ≤ m.length ∧ cmpR l m = cmpR (l.drop k) (m.drop k)) (fun k => l.length - k) ?_
 refine And.intro ⟨⟨Nat.zero_le _, Nat.zero_le _, rfl⟩, gs⟩ ?_
 intro k ⟨hk, hk2, hc⟩
 refine cnd (fun h1 => ?_) (fun h1 => ?_)
 ·have hkl : k < l.length := by omega
  refine ixs hl k v0 ?_
  intro b8
  refine cnd (fun h2 => ?_) (fun h2 => ?_)
  ·rw [hc, drop_getD l k v0 hkl, show m.drop k = [] from List.drop_eq_nil_of_le (by omega)]; exact rfl
  have hkm : k < m.length := by omega
  refine ixs hm k v0 ?_
  intro b9
  rw [cmpR_drop hkl hkm] at hc
  generalize l.getD k v0 = x at hc ⊢
  generalize m.getD k v0 = y at hc ⊢
  refine cl (c_VCompare x y) ?_
  refine cnd (fun h3 => ?_) (fun h3 => ?_)
  ·rw [hc, if_pos h3]; exact rfl
  ·refine wi ?_
   exact ⟨k + 1, ⟨⟨by omega, by omega, by rw [hc, if_neg (by simpa using h3)]⟩, by omega⟩, gs⟩
 ·rw [hc, show l.drop k = [] from List.drop_eq_nil_of_le (by omega)]
  have hkl : k = l.length := by omega
  refine cnd (fun h2 => ?_) (fun h2 => ?_)
  ·rw [drop_getD m k v0 (by omega)]; exact rfl
  ·rw [show m.drop k = [] from List.drop_eq_nil_of_le (by omega)]; exact rfl
theorem c_collect1 (l m : List Val) (a b : AC) (w0 : World) (h0 : View) (hv : VLe h0 (Full w0)) (hl : SlC 57 3 (flatR valC) h0 (.slice a.1 l.length a.2) l) (hm : SlC 57 3 (flatR valC) h0 (.slice b.1 m.length b.2) m) :
  Calls Tryz.prog 86 #[.slice a.1 l.length a.2, .slice b.1 m.length b.2] w0 (Ret w0 h0 fun u _ => u = .int .i64 (cmpR l m)) := by
 refine ent (args := [.slice a.1 l.length a.2, .slice b.1 m.length b.2]) TT_ok [] [] Tryz.func86 rfl Tryz.ntmps86 rfl rfl hv ?_
 refine cb (fun w hw => c_CompareFunc l m a b w h0 hw hl hm) ?_
 exact rfl
def rwJ (cp : Nat) (a : Option Addr) (n : Nat) (s : List RwQ) : BL := [(900, .e (bufE 28 1 (.slice a n cp) (s.map rwC).flatten))]
def ltQ (p q : RwQ) : Bool := ltR p.1 q.1
theorem ord_Q : Ord3 ltQ := ⟨fun x y z => ord_R.tr x.1 y.1 z.1, fun x y => ord_R.as x.1 y.1, fun x => ord_R.rf x.1⟩
theorem rw_at (s : List RwQ) (i : Nat) (h : i < s.length) : ((s.map rwC).flatten)[i]? = some (.slice (s.getD i rw0).2.1 (s.getD i rw0).1.length (s.getD i rw0).2.2) := by
 have := flat_at (g := rwC) (sz := 1) (fun _ => rfl) s i rw0 h
 rw [Nat.mul_one] at this
 have h2 := congrArg (fun l => l[0]?) this
 simp only [List.getElem?_take, List.getElem?_drop] at h2
 simpa [rwC] using h2
theorem rw_set (s : List RwQ) (i : Nat) (q : RwQ) (h : i < s.length) : (s.map rwC).flatten.take i ++ rwC q ++ (s.map rwC).flatten.drop (i + (rwC q).length) = ((s.set i q).map rwC).flatten := by
 have := flat_set (g := rwC) (sz := 1) (fun _ => rfl) s i q h
 rw [Nat.mul_one] at this; exact this.symm
end Go.Proofs.YtkkbnjomcgnkpaaGreat
set_option maxRecDepth 100000
namespace Go.Proofs.YtkkbnjomcgnkpaaGreat
open Go Go.Dx Go.RowKit
abbrev fvC : Value := .func (.func 86) #[] #[]
set_option maxHeartbeats 2000000 in
theorem c_swapRange (cp : Nat) (ad : Option Addr) (n : Nat) (s : List RwQ) (hn : n = s.length) (hn1 : n ≤ 1000001) (x y k : Nat) (h1 : x + k ≤ y) (h2 : y + k ≤ n) (w0 : World) (h0 : View) (hv : VLe h0 (Full w0)) (hno : ∀ b ∈ ids (oes (rwJ cp ad n s)), h0 b = none) (ho : OwnJ w0 (oes (rwJ cp ad n s))) :
  Calls Tryz.prog 192 #[.slice ad n cp, .int .i64 x, .int .i64 y, .int .i64 k, fvC] w0 (RetJ (rwJ cp ad n) s w0 fun u s' => u = .tuple #[] ∧ s' = swR s rw0 x y k) := by
 subst hn
 refine entJ (rwJ cp ad s.length) s (g := fun _ => .tuple #[]) (Ψ := fun s' => s' = swR s rw0 x y k) (args := [.slice ad s.length cp, .int .i64 x, .int .i64 y, .int .i64 k, fvC]) TT_ok [1000003] [] [.v (.slice ad s.length cp), .v (.int .i64 x), .v (.int .i64 y), .v (.int .i64 k), .v fvC] Tryz.func192 rfl Tryz.ntmps192 rfl rfl hv hno ho rfl ?_
 refine w_loopB TT_ok (fun i : Nat => [(10, .v (.int .i64 i))]) (fun i => rwJ cp ad s.length (swR s rw0 x y i)) 0 (fun i => i ≤ k) (fun i => k - i) ?_
 refine And.intro ⟨Nat.zero_le _, gsJ ⟨rfl, trivial⟩⟩ ?_
 intro i hi
 refine cnd (fun h3 => ?_) (fun h3 => ?_)
 ·have hik : i < k := by omega
  have hl := swR_len s rw0 x y i
  have hst : swR s rw0 x y (i + 1) = ((swR s rw0 x y i).set (x + i) ((swR s rw0 x y i).getD (y + i) rw0)).set (y + i) ((swR s rw0 x y i).getD (x + i) rw0) := rfl
  generalize swR s rw0 x y i = r at hl hst ⊢
  refine ownC (X := ∃ b o, ad = some ⟨b, o, none⟩) (fun w hS => own_ad (k := 900) rfl (by omega) hS) (fun ⟨bb, oo, e⟩ => ?_)
  subst e
  refine regW TT_ok [0, 1, 2, 4, 5, 6, 8, 9, 10, 14, 15, 16, 3, 7, 11, 17, 12, 18, 13, 19, 20] [21, 22, 23] [] [28, 29, 34, 35, 36] ?_
  refine wi ?_
  refine wi ?_
  refine wi ?_
  refine wi ?_
  refine hIx (e := 28) (sz := 1) (m := y + i) ⟨by kernel_rfl, SzIs.of (by kernel_rfl)⟩ rfl rfl (by omega) (by omega) ?_
  refine hIx (e := 28) (sz := 1) (m := x + i) ⟨by kernel_rfl, SzIs.of (by kernel_rfl)⟩ rfl rfl (by omega) (by omega) ?_
  refine hLd (p := y + i) 900 rfl (OneT.of (by kernel_rfl)) rfl (by omega) (rw_at r (y + i) (by omega)) ?_
  refine hLd (p := x + i) 900 rfl (OneT.of (by kernel_rfl)) rfl (by omega) (rw_at r (x + i) (by omega)) ?_
  refine hIx (e := 28) (sz := 1) (m := x + i) ⟨by kernel_rfl, SzIs.of (by kernel_rfl)⟩ rfl rfl (by omega) (by omega) ?_
  refine stW TT_ok (p := x + i) (new := rwC (r.getD (y + i) rw0)) 900 rfl rfl (by omega) rfl rfl rfl (by show x + i + 1 ≤ _; omega) (SzIs.of (by kernel_rfl)) rfl ?_
  rw [rw_set _ _ _ (by omega)]
  refine goR TT_ok ?_
  refine kq ?_
  refine ixBnW TT_ok (T := 28) (e := 28) (sz := 1) (m := y + i) 900 rfl ⟨by kernel_rfl, SzIs.of (by kernel_rfl)⟩ rfl rfl (by omega) (by omega) (fun b2 o2 hab => ?_)
  cases hab
  refine goR TT_ok ?_
  refine kq ?_
  refine stW TT_ok (p := y + i) (new := rwC (r.getD (x + i) rw0)) 900 rfl rfl (by omega) rfl rfl rfl (by show y + i + 1 ≤ _; omega) (SzIs.of (by kernel_rfl)) rfl ?_
  rw [rw_set _ _ _ (by rw [List.length_set]; omega), ← hst]
  refine goR TT_ok ?_
  refine kq ?_
  refine wi ?_
  exact ⟨i + 1, ⟨by omega, by omega⟩, gsJ ⟨rfl, trivial⟩⟩
 ·obtain rfl : i = k := by omega
  exact ⟨swR s rw0 x y i, rfl, rfl, rfl, rfl, trivial⟩
theorem swapJ {cp n : Nat} {ad : Option Addr} {s : List RwQ} (P X M Y S : List RwQ) (hs : s = P ++ X ++ M ++ Y ++ S) (hn : n = s.length) (hn1 : n ≤ 1000001) (hX : X.length = Y.length) {x y k : Int} (hx : x = (P.length : Int)) (hy : y = ((P.length + X.length + M.length : Nat) : Int)) (hk : k = (X.length : Int)) (w0 : World) (h0 : View) (hv : VLe h0 (Full w0)) (hno : ∀ b ∈ ids (oes (rwJ cp ad n s)), h0 b = none) (ho : OwnJ w0 (oes (rwJ cp ad n s))) :
  Calls Tryz.prog 192 #[.slice ad n cp, .int .i64 x, .int .i64 y, .int .i64 k, fvC] w0 (RetJ (rwJ cp ad n) s w0 fun u s' => u = .tuple #[] ∧ s' = P ++ Y ++ M ++ X ++ S) := by
 subst hx hy hk
 have hl : s.length = P.length + X.length + M.length + Y.length + S.length := by rw [hs]; simp; omega
 have := c_swapRange cp ad n s hn hn1 P.length (P.length + X.length + M.length) X.length (by omega) (by omega) w0 h0 hv hno ho
 rw [show swR s rw0 P.length (P.length + X.length + M.length) X.length = P ++ Y ++ M ++ X ++ S by rw [hs]; exact swR_parts rw0 P X M Y S hX rfl rfl rfl] at this
 exact this
structure RotS where
 P : List RwQ
 X : List RwQ
 Y : List RwQ
 S : List RwQ
 i : Nat
 j : Nat
def RotS.s (z : RotS) : List RwQ := z.P ++ z.X ++ [] ++ z.Y ++ z.S
theorem rot_more (P X Y S : List RwQ) (j : Nat) : P ++ X ++ [] ++ Y ++ S = P ++ X.take j ++ X.drop j ++ Y ++ S := by
 rw [List.append_nil, List.append_assoc P (X.take _), List.take_append_drop]
theorem rot_less (P X Y S : List RwQ) (j : Nat) : P ++ X ++ [] ++ Y ++ S = P ++ X ++ Y.take j ++ Y.drop j ++ S := by
 rw [List.append_nil, List.append_assoc (P ++ X) (Y.take _), List.take_append_drop]
set_option maxHeartbeats 2000000 in
theorem c_rotate (cp : Nat) (ad : Option Addr) (n : Nat) (s : List RwQ) (P X Y S : List RwQ) (hs : s = P ++ X ++ Y ++ S) (hn : n = s.length) (hn1 : n ≤ 1000001) (hX : 0 < X.length) (hY : 0 < Y.length) {x m y : Nat} (hx : x = P.length) (hm : m = P.length + X.length) (hy : y = P.length + X.length + Y.length) (w0 : World) (h0 : View) (hv : VLe h0 (Full w0)) (hno : ∀ b ∈ ids (oes (rwJ cp ad n s)), h0 b = none) (ho : OwnJ w0 (oes (rwJ cp ad n s))) :
  Calls Tryz.prog 178 #[.slice ad n cp, .int .i64 x, .int .i64 m, .int .i64 y, fvC] w0 (RetJ (rwJ cp ad n) s w0 fun u s' => u = .tuple #[] ∧ s' = P ++ Y ++ X ++ S) := by
 have hl : s.length = P.length + X.length + Y.length + S.length := by rw [hs]; simp; omega
 refine entJ (rwJ cp ad n) s (g := fun _ => .tuple #[]) (Ψ := fun s' => s' = P ++ Y ++ X ++ S) (args := [.slice ad n cp, .int .i64 x, .int .i64 m, .int .i64 y, fvC]) TT_ok [] [] [.v (.slice ad n cp), .v (.int .i64 x), .v (.int .i64 m), .v (.int .i64 y), .v fvC] Tryz.func178 rfl Tryz.ntmps178 rfl rfl hv hno ho rfl ?_
 refine wiE (X.length : Nat) (by omega) ?_
 refine wiE (Y.length : Nat) (by omega) ?_
 refine w_loopB TT_ok (fun z : RotS => [(10, .v (.int .i64 z.i)), (11, .v (.int .i64 z.j))]) (fun z => rwJ cp ad n z.s) ⟨P, X, Y, S, X.length, Y.length⟩ (fun z => z.X.length = z.i ∧ z.Y.length = z.j ∧ 0 < z.i ∧ 0 < z.j ∧ z.s.length = s.length ∧ z.P.length + z.i = m ∧ z.P ++ z.Y ++ z.X ++ z.S = P ++ Y ++ X ++ S) (fun z => z.i + z.j) ?_
 refine And.intro ⟨⟨rfl, rfl, hX, hY, by rw [hs]; simp [RotS.s], by show P.length + X.length = m; omega, rfl⟩, gsJ ⟨by rw [RotS.s, hs, List.append_nil]; rfl, trivial⟩⟩ ?_
 rintro ⟨P', X', Y', S', i, j⟩ ⟨gi, gj, g1, g2, g3, g4, g5⟩
 dsimp only at gi gj g1 g2 g4 g5 ⊢
 have g3 : (P' ++ X' ++ [] ++ Y' ++ S').length = s.length := g3
 simp only [List.length_append, List.length_nil] at g3
 have e0 : RotS.s ⟨P', X', Y', S', i, j⟩ = P' ++ X' ++ [] ++ Y' ++ S' := rfl
 refine cnd (fun h3 => ?_) (fun h3 => ?_)
 ·refine cnd (fun h4 => ?_) (fun h4 => ?_)
  ·have h4 : j < i := by omega
   refine wi ?_
   refine cJ TT_ok (rwJ cp ad n) (RotS.s ⟨P', X', Y', S', i, j⟩) (g := fun _ => .tuple #[]) (fun w v h1 h2 h3 h4' h5 => swapJ P' (X'.take j) (X'.drop j) Y' S' (by rw [e0]; exact rot_more P' X' Y' S' j) (by rw [e0]; simp; omega) hn1 (by simp; omega) (by omega) (by simp; omega) (by simp; omega) w v h3 h4' h5) ?_ (hl := ⟨rfl, trivial⟩)
   rintro z rfl
   refine wiE ((i - j : Nat) : Int) (by omega) ?_
   refine ⟨⟨P' ++ Y', X'.drop j, X'.take j, S', i - j, j⟩, ⟨⟨by simp; omega, by simp; omega, by show 0 < i - j; omega, g2, by simp [RotS.s]; omega, by simp; omega, ?_⟩, by show i - j + j < i + j; omega⟩, gsJ ⟨by rw [show RotS.s ⟨P' ++ Y', X'.drop j, X'.take j, S', i - j, j⟩ = P' ++ Y' ++ X'.drop j ++ X'.take j ++ S' by simp [RotS.s]]; rfl, trivial⟩⟩
   show P' ++ Y' ++ X'.take j ++ X'.drop j ++ S' = _
   rw [← g5, List.append_assoc (P' ++ Y') (X'.take _), List.take_append_drop]
  ·have h4 : i < j := by omega
   refine wi ?_
   refine wi ?_
   refine wi ?_
   refine cJ TT_ok (rwJ cp ad n) (RotS.s ⟨P', X', Y', S', i, j⟩) (g := fun _ => .tuple #[]) (fun w v h1 h2 h3 h4' h5 => swapJ P' X' (Y'.take (j - i)) (Y'.drop (j - i)) S' (by rw [e0]; exact rot_less P' X' Y' S' (j - i)) (by rw [e0]; simp; omega) hn1 (by simp; omega) (by omega) (by simp; omega) (by omega) w v h3 h4' h5) ?_ (hl := ⟨rfl, trivial⟩)
   rintro z rfl
   refine wiE ((j - i : Nat) : Int) (by omega) ?_
   refine ⟨⟨P', Y'.drop (j - i), Y'.take (j - i), X' ++ S', i, j - i⟩, ⟨⟨by simp; omega, by simp; omega, g1, by show 0 < j - i; omega, by simp [RotS.s]; omega, g4, ?_⟩, by show i + (j - i) < i + j; omega⟩, gsJ ⟨by rw [show RotS.s ⟨P', Y'.drop (j - i), Y'.take (j - i), X' ++ S', i, j - i⟩ = P' ++ Y'.drop (j - i) ++ Y'.take (j - i) ++ X' ++ S' by simp [RotS.s]]; rfl, trivial⟩⟩
   show P' ++ Y'.take (j - i) ++ Y'.drop (j - i) ++ (X' ++ S') = _
   rw [← g5, List.append_assoc P' (Y'.take _), List.take_append_drop, List.append_assoc (P' ++ Y')]
 ·have hij : i = j := by omega
  subst hij
  refine wi ?_
  refine cJ TT_ok (rwJ cp ad n) (RotS.s ⟨P', X', Y', S', i, i⟩) (g := fun _ => .tuple #[]) (fun w v h1 h2 h3 h4' h5 => swapJ P' X' [] Y' S' e0 (by rw [e0]; simp; omega) hn1 (by omega) (by omega) (by simp; omega) (by omega) w v h3 h4' h5) ?_ (hl := ⟨rfl, trivial⟩)
  rintro z rfl
  exact ⟨P' ++ Y' ++ [] ++ X' ++ S', rfl, by rw [List.append_nil]; exact g5, rfl, rfl, trivial⟩
end Go.Proofs.YtkkbnjomcgnkpaaGreat
set_option maxRecDepth 100000
namespace Go.Proofs.YtkkbnjomcgnkpaaGreat
open Go Go.Dx Go.RowKit
def RowsF (h : View) (s : List RwQ) : Prop := ∀ q ∈ s, SlC 57 3 (flatR valC) h (.slice q.2.1 q.1.length q.2.2) q.1
theorem rowsF_perm {h : View} {s s' : List RwQ} (hp : s'.Perm s) (hx : RowsF h s) : RowsF h s' := fun q hq => hx q (hp.mem_iff.1 hq)
theorem rowsF_get {h : View} {s : List RwQ} (hx : RowsF h s) {i : Nat} (hi : i < s.length) : SlC 57 3 (flatR valC) h (.slice (s.getD i rw0).2.1 (s.getD i rw0).1.length (s.getD i rw0).2.2) (s.getD i rw0).1 := hx _ (getD_mem s i rw0 hi)
structure InS where
 Z : List RwQ
 R : List RwQ
 i : Nat
structure InT where
 A : List RwQ
 B : List RwQ
 j : Nat
theorem last_split {α : Type} {l : List α} (h : 0 < l.length) : ∃ A z, l = A ++ [z] := by
 rcases List.eq_nil_or_concat l with e | ⟨A, z, e⟩
 ·rw [e] at h; exact absurd h (Nat.lt_irrefl 0)
 ·exact ⟨A, z, by simpa using e⟩
theorem srt_take1 (l : List RwQ) : Srt ltQ (l.take 1) := by
 cases l with
 | nil => exact srt_nil
 | cons x l => exact srt_one x
set_option maxHeartbeats 4000000 in
theorem c_insertion (cp : Nat) (ad : Option Addr) (n : Nat) (s : List RwQ) (P X S : List RwQ) (hs : s = P ++ X ++ S) (hn : n = s.length) (hn1 : n ≤ 1000001) {x y : Nat} (hx : x = P.length) (hy : y = P.length + X.length) (w0 : World) (h0 : View) (hv : VLe h0 (Full w0)) (hrow : RowsF h0 s) (hno : ∀ b ∈ ids (oes (rwJ cp ad n s)), h0 b = none) (ho : OwnJ w0 (oes (rwJ cp ad n s))) :
  Calls Tryz.prog 159 #[.slice ad n cp, .int .i64 x, .int .i64 y, fvC] w0 (RetJ (rwJ cp ad n) s w0 fun u s' => u = .tuple #[] ∧ ∃ Z, s' = P ++ Z ++ S ∧ Z.Perm X ∧ Srt ltQ Z) := by
 have hl : s.length = P.length + X.length + S.length := by rw [hs]; simp; omega
 refine entJ (rwJ cp ad n) s (g := fun _ => .tuple #[]) (Ψ := fun s' => ∃ Z, s' = P ++ Z ++ S ∧ Z.Perm X ∧ Srt ltQ Z) (args := [.slice ad n cp, .int .i64 x, .int .i64 y, fvC]) TT_ok [1000004, 1000006] [] [.v (.slice ad n cp), .v (.int .i64 x), .v (.int .i64 y), .v fvC] Tryz.func159 rfl Tryz.ntmps159 rfl rfl hv hno ho rfl ?_
 have e0 : P ++ X.take 1 ++ (X.drop 1 ++ S) = s := by rw [hs, List.append_assoc, ← List.append_assoc (X.take 1), List.take_append_drop, List.append_assoc]
 refine wiE ((x + 1 : Nat) : Int) (by omega) ?_
 refine w_loopB TT_ok (fun z : InS => [(8, .v (.int .i64 z.i))]) (fun z => rwJ cp ad n (P ++ z.Z ++ (z.R ++ S))) ⟨X.take 1, X.drop 1, x + 1⟩ (fun z => x + 1 ≤ z.i ∧ z.Z.length = min (z.i - x) X.length ∧ Srt ltQ z.Z ∧ (z.Z ++ z.R).Perm X) (fun z => y + 1 - z.i) ?_
 refine And.intro ⟨⟨Nat.le_refl _, by simp, srt_take1 X, by rw [List.take_append_drop]⟩, gsJ ⟨by
  show lkA (rwJ cp ad n s) 900 = some (.e (bufE 28 1 (.slice ad n cp) ((P ++ X.take 1 ++ (X.drop 1 ++ S)).map rwC).flatten))
  rw [e0]; rfl, trivial⟩⟩ ?_
 rintro ⟨Z, R, i⟩ ⟨gi, gz, gs1, gp⟩
 dsimp only at gi gz gs1 gp ⊢
 have glen : Z.length + R.length = X.length := by have := gp.length_eq; simpa using this
 refine cnd (fun h3 => ?_) (fun h3 => ?_)
 ·have hiy : i < y := by omega
  cases R with
  | nil => exfalso; simp only [List.length_nil] at glen; omega
  | cons q R' =>
   have glen : Z.length + (R'.length + 1) = X.length := glen
   have hzl : Z.length = i - x := by omega
   refine w_loopB TT_ok (fun z : InT => [(9, .v (.int .i64 z.j))]) (fun z => rwJ cp ad n ((P ++ z.A) ++ q :: (z.B ++ (R' ++ S)))) ⟨Z, [], i⟩ (fun z => z.j = P.length + z.A.length ∧ z.A ++ z.B = Z ∧ ∀ b ∈ z.B, ltQ q b = true) (fun z => z.j) ?_
   refine And.intro ⟨⟨by show i = P.length + Z.length; omega, by simp, fun b hb => by cases hb⟩, gsJ ⟨rfl, trivial⟩⟩ ?_
   rintro ⟨A, B, j⟩ ⟨k1, k2, k3⟩
   dsimp only at k1 k2 k3 ⊢
   have klen : A.length + B.length = Z.length := by rw [← k2]; simp
   have klen2 : ((P ++ A) ++ q :: (B ++ (R' ++ S))).length = n := by simp; omega
   have hrow' : RowsF h0 ((P ++ A) ++ q :: (B ++ (R' ++ S))) := rowsF_perm (by
    rw [hs, List.append_assoc, List.append_assoc]
    refine List.Perm.append_left P ?_
    have e1 : (A ++ q :: (B ++ (R' ++ S))).Perm ((A ++ B) ++ q :: R' ++ S) := by
     rw [List.append_assoc, List.append_assoc]
     refine List.Perm.append_left A ?_
     have := (List.perm_middle (a := q) (l₁ := B) (l₂ := R' ++ S)).symm
     simpa using this
    refine e1.trans ?_
    rw [k2]
    exact gp.append_right S) hrow
   refine ownC (X := ∃ b o, ad = some ⟨b, o, none⟩) (fun w hS => own_ad (k := 900) rfl (by omega) hS) (fun ⟨bb, oo, e⟩ => ?_)
   subst e
   refine regW TT_ok [0, 1, 2, 3, 4, 5, 6, 9, 10, 7, 11, 8, 12, 13] [14, 15, 16] [] [25, 26, 30, 31] ?_
   by_cases hja : x < j
   ·have g1 : bq true (decide ((x : Int) < (j : Int))) = true := decide_eq_true (by omega)
    refine cndT g1 (cndT g1 (cndT g1 (cndT g1 (cndT g1 (cndT g1 ?_)))))
    refine hIx (e := 28) (sz := 1) (m := j) ⟨by kernel_rfl, SzIs.of (by kernel_rfl)⟩ rfl rfl rfl (by omega) ?_
    refine cndT g1 ?_
    refine wiE ((j - 1 : Nat) : Int) (by omega) ?_
    refine cndT g1 ?_
    refine hLd (p := j) 900 rfl (OneT.of (by kernel_rfl)) rfl (by omega) (rw_at _ j (by omega)) ?_
    refine cndT g1 ?_
    refine hIx (e := 28) (sz := 1) (m := j - 1) ⟨by kernel_rfl, SzIs.of (by kernel_rfl)⟩ rfl rfl rfl (by omega) ?_
    refine cndT g1 ?_
    refine hLd (p := j - 1) 900 rfl (OneT.of (by kernel_rfl)) rfl (by omega) (rw_at _ (j - 1) (by omega)) ?_
    have ej := get_mid (P ++ A) (B ++ (R' ++ S)) q rw0 (i := j) (by rw [List.length_append]; omega)
    obtain ⟨A', p, rfl⟩ := last_split (l := A) (by omega)
    rw [List.length_append] at k1 klen
    have k1 : j = P.length + (A'.length + 1) := k1
    have ej1 : ((P ++ (A' ++ [p])) ++ q :: (B ++ (R' ++ S))).getD (j - 1) rw0 = p := by
     rw [← List.append_assoc P, List.append_assoc (P ++ A')]
     exact get_mid (P ++ A') (q :: (B ++ (R' ++ S))) p rw0 (by rw [List.length_append]; omega)
    rw [ej, ej1]
    have hq : SlC 57 3 (flatR valC) h0 (.slice q.2.1 q.1.length q.2.2) q.1 := hrow' q (by simp)
    have hp : SlC 57 3 (flatR valC) h0 (.slice p.2.1 p.1.length p.2.2) p.1 := hrow' p (by simp)
    refine unG (cndT g1 (goR TT_ok ?_))
    refine cb (fun w hw => c_collect1 q.1 p.1 q.2 p.2 w h0 hw hq hp) ?_
    refine kq ?_
    refine unG (cndT g1 (goR TT_ok ?_))
    refine kq ?_
    refine pkT TT_ok rfl g1 rfl ?_
    refine kq ?_
    refine cnd (fun h4 => ?_) (fun h4 => ?_)
    ·have hqp : ltQ q p = true := decide_eq_true h4
     refine regW TT_ok [0, 1, 2, 3, 5, 6, 10, 11, 4, 7, 12, 8, 13, 9, 14] [15, 16, 17] [] [45, 46, 49, 50, 51] ?_
     refine wiE ((j - 1 : Nat) : Int) (by omega) ?_
     refine wiE ((j - 1 : Nat) : Int) (by omega) ?_
     refine hIx (e := 28) (sz := 1) (m := j) ⟨by kernel_rfl, SzIs.of (by kernel_rfl)⟩ rfl rfl rfl (by omega) ?_
     refine hIx (e := 28) (sz := 1) (m := j - 1) ⟨by kernel_rfl, SzIs.of (by kernel_rfl)⟩ rfl rfl rfl (by omega) ?_
     refine hLd (p := j) 900 rfl (OneT.of (by kernel_rfl)) rfl (by omega) (rw_at _ j (by omega)) ?_
     refine hLd (p := j - 1) 900 rfl (OneT.of (by kernel_rfl)) rfl (by omega) (rw_at _ (j - 1) (by omega)) ?_
     refine hIx (e := 28) (sz := 1) (m := j) ⟨by kernel_rfl, SzIs.of (by kernel_rfl)⟩ rfl rfl rfl (by omega) ?_
     rw [ej, ej1]
     refine stW TT_ok (p := j) (new := rwC p) 900 rfl rfl (by omega) rfl rfl rfl (by show j + 1 ≤ _; omega) (SzIs.of (by kernel_rfl)) rfl ?_
     rw [rw_set _ _ _ (by omega)]
     refine goR TT_ok ?_
     refine kq ?_
     refine ixBnW TT_ok (T := 28) (e := 28) (sz := 1) (m := j - 1) 900 rfl ⟨by kernel_rfl, SzIs.of (by kernel_rfl)⟩ rfl rfl rfl (by omega) (fun b2 o2 hab => ?_)
     cases hab
     refine goR TT_ok ?_
     refine kq ?_
     refine stW TT_ok (p := j - 1) (new := rwC q) 900 rfl rfl (by omega) rfl rfl rfl (by show j - 1 + 1 ≤ _; omega) (SzIs.of (by kernel_rfl)) rfl ?_
     rw [rw_set _ _ _ (by rw [List.length_set]; omega)]
     refine goR TT_ok ?_
     refine kq ?_
     refine wiE ((j - 1 : Nat) : Int) (by omega) ?_
     have hsw : (((P ++ (A' ++ [p])) ++ q :: (B ++ (R' ++ S))).set j p).set (j - 1) q = (P ++ A') ++ q :: (p :: B ++ (R' ++ S)) := by
      have := swap_adj (P ++ A') (B ++ (R' ++ S)) q p
      rw [List.length_append] at this
      rw [show j = P.length + A'.length + 1 by omega, show P.length + A'.length + 1 - 1 = P.length + A'.length by omega, ← List.append_assoc P, List.append_assoc (P ++ A') [p]]
      exact this
     rw [hsw]
     refine ⟨⟨A', p :: B, j - 1⟩, ⟨⟨by show j - 1 = P.length + A'.length; omega, by rw [← k2]; simp, fun b hb => ?_⟩, by show j - 1 < j; omega⟩, gsJ ⟨rfl, trivial⟩⟩
     rcases List.mem_cons.1 hb with rfl | hb
     ·exact hqp
     ·exact k3 b hb
    ·have hqp : ltQ q p = false := decide_eq_false h4
     refine wi ?_
     have hsz : Srt ltQ ((A' ++ [p]) ++ B) := by rw [k2]; exact gs1
     refine ⟨⟨A' ++ [p] ++ q :: B, R', i + 1⟩, ⟨⟨by show x + 1 ≤ i + 1; omega, by simp; omega, srt_ins hsz (fun a ha => ?_) (fun b hb => ord_Q.as _ _ (k3 b hb)), ?_⟩, by show y + 1 - (i + 1) < y + 1 - i; omega⟩, gsJ ⟨by
      show lkA _ 900 = some (OB.e (bufE 28 1 (.slice _ n cp) ((P ++ (A' ++ [p] ++ q :: B) ++ (R' ++ S)).map rwC).flatten))
      rw [show P ++ (A' ++ [p] ++ q :: B) ++ (R' ++ S) = (P ++ (A' ++ [p])) ++ q :: (B ++ (R' ++ S)) by simp]; rfl, trivial⟩⟩
     ·rcases List.mem_append.1 ha with ha | ha
      ·exact ord_Q.tr _ _ _ ((List.pairwise_append.1 (List.pairwise_append.1 hsz).1).2.2 a ha p (by simp)) hqp
      ·have : a = p := by simpa using ha
       subst this; exact hqp
     ·show ((A' ++ [p] ++ q :: B) ++ R').Perm X
      refine List.Perm.trans ?_ gp
      rw [← k2, List.append_assoc, List.append_assoc (A' ++ [p])]
      refine List.Perm.append_left _ ?_
      have := (List.perm_middle (a := q) (l₁ := B) (l₂ := R')).symm
      simpa using this
   ·have hA : A = [] := List.eq_nil_of_length_eq_zero (by omega)
    subst hA
    have g0 : bq true (decide ((x : Int) < (j : Int))) = false := decide_eq_false (by omega)
    refine cndF g0 (cndF g0 (cndF g0 (cndF g0 (cndF g0 (cndF g0 (cndF g0 (cndF g0 (cndF g0 (cndF g0 ?_)))))))))
    refine unG (cndF g0 ⟨rfl, goR TT_ok ?_⟩)
    refine kq ?_
    refine unG (cndF g0 ⟨rfl, goR TT_ok ?_⟩)
    refine kq ?_
    refine pkF TT_ok rfl g0 rfl ?_
    refine kq ?_
    refine cndF rfl ?_
    refine wi ?_
    have hsz : Srt ltQ ([] ++ B) := by rw [k2]; exact gs1
    refine ⟨⟨q :: B, R', i + 1⟩, ⟨⟨by show x + 1 ≤ i + 1; omega, ?_, srt_ins hsz (fun a ha => by cases ha) (fun b hb => ord_Q.as _ _ (k3 b hb)), ?_⟩, by show y + 1 - (i + 1) < y + 1 - i; omega⟩, gsJ ⟨by
     show lkA _ 900 = some (OB.e (bufE 28 1 (.slice _ n cp) ((P ++ (q :: B) ++ (R' ++ S)).map rwC).flatten))
     rw [show P ++ (q :: B) ++ (R' ++ S) = (P ++ []) ++ q :: (B ++ (R' ++ S)) by simp]; rfl, trivial⟩⟩
    ·have : ([] : List RwQ).length = 0 := rfl
     show B.length + 1 = min (i + 1 - x) X.length
     omega
    ·show ((q :: B) ++ R').Perm X
     refine List.Perm.trans ?_ gp
     rw [← k2, List.nil_append]
     have := (List.perm_middle (a := q) (l₁ := B) (l₂ := R')).symm
     simpa using this
 ·have hR : R = [] := by
   apply List.eq_nil_of_length_eq_zero
   have : y ≤ i := by omega
   omega
  subst hR
  exact ⟨P ++ Z ++ ([] ++ S), rfl, ⟨Z, by simp, by simpa using gp, gs1⟩, rfl, rfl, trivial⟩
end Go.Proofs.YtkkbnjomcgnkpaaGreat
set_option maxRecDepth 100000
namespace Go.Proofs.YtkkbnjomcgnkpaaGreat
open Go Go.Dx Go.RowKit
theorem u64n {x : Nat} (h : x ≤ 4000000) : IntKind.u64.wrap (x : Int) = (x : Int) := wrap_u64 (by omega) (by omega)
theorem i64m {x y : Nat} (h : x = y) (hb : y ≤ 4000000) : IntKind.i64.wrap (x : Int) = (y : Int) := by subst h; exact wrap_i64 (by omega) (by omega)
theorem shr1 {x : Nat} : (0 : Int) ≤ 1 ∧ ((x : Int)).fdiv (2 ^ (min (Int.toNat 1) IntKind.u64.bits)) = ((x / 2 : Nat) : Int) := by
 have e1 : (2 : Int) ^ (min (Int.toNat 1) IntKind.u64.bits) = ((2 : Nat) : Int) := by decide
 refine ⟨by decide, ?_⟩
 rw [e1, Int.fdiv_eq_ediv_of_nonneg _ (by omega)]
 rfl
theorem getX (P X Y S : List RwQ) {i h : Nat} (hi : i = P.length + h) (hh : h < X.length) : (P ++ X ++ Y ++ S).getD i rw0 = X.getD h rw0 := by
 rw [List.append_assoc P, List.append_assoc P, get_right P _ rw0 hi, List.append_assoc X, get_left X _ rw0 hh]
theorem getY (P X Y S : List RwQ) {i h : Nat} (hi : i = P.length + X.length + h) (hh : h < Y.length) : (P ++ X ++ Y ++ S).getD i rw0 = Y.getD h rw0 := by
 rw [List.append_assoc (P ++ X), get_right (P ++ X) _ rw0 (by rw [List.length_append]; exact hi), get_left Y _ rw0 hh]
theorem swap_adj2 {α : Type} (A B : List α) (x z : α) : ((A ++ z :: x :: B).set A.length x).set (A.length + 1) z = A ++ x :: z :: B := by
 rw [List.set_append_right _ _ (Nat.le_refl _), Nat.sub_self, List.set_cons_zero, List.set_append_right _ _ (by omega), show A.length + 1 - A.length = 1 by omega, List.set_cons_succ, List.set_cons_zero]
theorem drop_cons (l : List RwQ) {k : Nat} (h : k < l.length) : l.drop k = l.getD k rw0 :: l.drop (k + 1) := by
 rw [List.drop_eq_getElem_cons h]; simp [List.getD, h]
theorem take_snocQ (l : List RwQ) {k : Nat} (h : k < l.length) : l.take (k + 1) = l.take k ++ [l.getD k rw0] := by
 rw [List.take_succ_eq_append_getElem h]; simp [List.getD, h]
theorem lt_down {x y z : RwQ} (h : ltQ y z = true) (k : ltQ y x = false) : ltQ x z = true := by
 cases e : ltQ x z with
 | true => rfl
 | false => rw [ord_Q.tr z x y e k] at h; cases h
theorem lt_up {x y z : RwQ} (h : ltQ x y = true) (k : ltQ z y = false) : ltQ x z = true := by
 cases e : ltQ x z with
 | true => rfl
 | false => rw [ord_Q.tr y z x k e] at h; cases h
theorem srt_one1 {q : RwQ} {Y : List RwQ} (hY : Srt ltQ Y) {u : Nat} (hu : u ≤ Y.length) (h1 : ∀ p, p < u → ltQ (Y.getD p rw0) q = true) (h2 : ∀ p, u ≤ p → p < Y.length → ltQ (Y.getD p rw0) q = false) : Srt ltQ (Y.take u ++ q :: Y.drop u) := by
 refine srt_ins (by rw [List.take_append_drop]; exact hY) (fun y hy => ?_) (fun y hy => ?_)
 ·obtain ⟨p, p1, _, rfl⟩ := mem_takeX (d := rw0) hy
  exact ord_Q.as _ _ (h1 p p1)
 ·obtain ⟨p, p1, p2, rfl⟩ := mem_dropX (d := rw0) hy
  exact h2 p p1 p2
theorem srt_one2 {q : RwQ} {X : List RwQ} (hX : Srt ltQ X) {u : Nat} (hu : u ≤ X.length) (h1 : ∀ p, p < u → ltQ q (X.getD p rw0) = false) (h2 : ∀ p, u ≤ p → p < X.length → ltQ q (X.getD p rw0) = true) : Srt ltQ (X.take u ++ q :: X.drop u) := by
 refine srt_ins (by rw [List.take_append_drop]; exact hX) (fun y hy => ?_) (fun y hy => ?_)
 ·obtain ⟨p, p1, _, rfl⟩ := mem_takeX (d := rw0) hy
  exact h1 p p1
 ·obtain ⟨p, p1, p2, rfl⟩ := mem_dropX (d := rw0) hy
  exact ord_Q.as _ _ (h2 p p1 p2)
theorem perm_one (q : RwQ) (Y : List RwQ) (u : Nat) : (Y.take u ++ q :: Y.drop u).Perm ([q] ++ Y) := by
 have := List.perm_middle (a := q) (l₁ := Y.take u) (l₂ := Y.drop u)
 rw [List.take_append_drop] at this
 exact this
def SymOk (cp : Nat) (ad : Option Addr) (n : Nat) (k : Nat) : Prop := ∀ (s P X Y S : List RwQ), X.length + Y.length < k → s = P ++ X ++ Y ++ S → n = s.length → n ≤ 1000001 → 0 < X.length → 0 < Y.length → Srt ltQ X → Srt ltQ Y → ∀ {x m y : Nat}, x = P.length → m = P.length + X.length → y = P.length + X.length + Y.length → ∀ (w0 : World) (h0 : View), VLe h0 (Full w0) → RowsF h0 s → (∀ b ∈ ids (oes (rwJ cp ad n s)), h0 b = none) → OwnJ w0 (oes (rwJ cp ad n s)) →
  Calls Tryz.prog 160 #[.slice ad n cp, .int .i64 x, .int .i64 m, .int .i64 y, fvC] w0 (RetJ (rwJ cp ad n) s w0 fun u s' => u = .tuple #[] ∧ ∃ Z, s' = P ++ Z ++ S ∧ Z.Perm (X ++ Y) ∧ Srt ltQ Z)
set_option maxHeartbeats 20000000 in
theorem c_symMerge (cp : Nat) (ad : Option Addr) (n : Nat) : ∀ k, SymOk cp ad n k := by
 intro k
 induction k with
 | zero => intro s P X Y S h; omega
 | succ k ih =>
  intro s P X Y S hk hs hn hn1 hX hY sX sY x m y hx hm hy w0 h0 hv hrow hno ho
  have hl : s.length = P.length + X.length + Y.length + S.length := by rw [hs]; simp; omega
  refine entJ (rwJ cp ad n) s (g := fun _ => .tuple #[]) (Ψ := fun s' => ∃ Z, s' = P ++ Z ++ S ∧ Z.Perm (X ++ Y) ∧ Srt ltQ Z) (args := [.slice ad n cp, .int .i64 x, .int .i64 m, .int .i64 y, fvC]) TT_ok [1000005, 1000011, 1000017, 1000023, 1000035] [32, 41, 43] [.v (.slice ad n cp), .v (.int .i64 x), .v (.int .i64 m), .v (.int .i64 y), .v fvC] Tryz.func160 rfl Tryz.ntmps160 rfl rfl hv hno ho rfl ?_
  refine wiE (X.length : Nat) (by omega) ?_
  refine cnd (fun h1 => ?_) (fun h1 => ?_)
  ·have h1 : X.length = 1 := by omega
   obtain ⟨q, rfl⟩ : ∃ q, X = [q] := List.length_eq_one_iff.1 h1
   have hqr : SlC 57 3 (flatR valC) h0 (.slice q.2.1 q.1.length q.2.2) q.1 := hrow q (by rw [hs]; simp)
   refine w_loopB TT_ok (fun z : Nat × Nat => [(10, .v (.int .i64 ((m + z.1 : Nat) : Int))), (11, .v (.int .i64 ((m + z.2 : Nat) : Int)))]) (fun _ => rwJ cp ad n s) (0, Y.length) (fun z => z.1 ≤ z.2 ∧ z.2 ≤ Y.length ∧ (∀ p, p < z.1 → ltQ (Y.getD p rw0) q = true) ∧ ∀ p, z.2 ≤ p → p < Y.length → ltQ (Y.getD p rw0) q = false) (fun z => z.2 - z.1) ?_
   refine And.intro ⟨⟨Nat.zero_le _, Nat.le_refl _, fun p hp => absurd hp (Nat.not_lt_zero p), fun p h1 h2 => absurd h2 (by omega)⟩, gsJ ⟨rfl, trivial⟩ (by show _ = [(some (SV.v (.int .i64 ((m + 0 : Nat) : Int))), _), _] ++ _; rw [show y = m + Y.length by omega]; rfl)⟩ ?_
   rintro ⟨u, v⟩ ⟨k1, k2, k3, k4⟩
   dsimp only at k1 k2 k3 k4 ⊢
   refine cnd (fun h2 => ?_) (fun h2 => ?_)
   ·have huv : u < v := by omega
    obtain ⟨h, hh⟩ : ∃ h, h = (u + v) / 2 := ⟨_, rfl⟩
    refine wiE ((m + u + (m + v) : Nat) : Int) (by omega) ?_
    refine ew _ (u64n (by omega)) ?_
    refine ew _ shr1 ?_
    refine ew _ (i64m (y := m + h) (by omega) (by omega)) ?_
    have eY : s.getD (m + h) rw0 = Y.getD h rw0 := by rw [hs]; exact getY P [q] Y S (by omega) (by omega)
    have eX : s.getD x rw0 = q := by rw [hs]; exact getX P [q] Y S (h := 0) (by omega) (by simp)
    have hp := rowsF_get hrow (i := m + h) (by omega)
    rw [eY] at hp
    refine ownC (X := ∃ b o, ad = some ⟨b, o, none⟩) (fun w hS => own_ad (k := 900) rfl (by omega) hS) (fun ⟨bb, oo, e⟩ => ?_)
    subst e
    refine regW TT_ok [0, 1, 2, 5, 6, 3, 7, 4, 8] [9, 10] [] [43, 44, 47, 48] ?_
    refine hIx (e := 28) (sz := 1) (m := m + h) ⟨by kernel_rfl, SzIs.of (by kernel_rfl)⟩ rfl rfl (by first | rfl | omega) (by omega) ?_
    refine hIx (e := 28) (sz := 1) (m := x) ⟨by kernel_rfl, SzIs.of (by kernel_rfl)⟩ rfl rfl (by first | rfl | omega) (by omega) ?_
    refine hLd (p := m + h) 900 rfl (OneT.of (by kernel_rfl)) rfl (by omega) (rw_at _ (m + h) (by omega)) ?_
    refine hLd (p := x) 900 rfl (OneT.of (by kernel_rfl)) rfl (by omega) (rw_at _ (x) (by omega)) ?_
    rw [eY, eX]
    refine goR TT_ok ?_
    refine cb (fun w hw => c_collect1 (Y.getD h rw0).1 (q).1 (Y.getD h rw0).2 (q).2 w h0 hw hp hqr) ?_
    refine kq ?_
    refine goR TT_ok ?_
    refine kq ?_
    refine cnd (fun h4 => ?_) (fun h4 => ?_)
    ·have h4 : ltQ (Y.getD h rw0) q = true := decide_eq_true h4
     refine wiE ((m + (h + 1) : Nat) : Int) (by omega) ?_
     exact ⟨(h + 1, v), ⟨⟨by show h + 1 ≤ v; omega, k2, fun p hp => lt_down h4 (srt_get sY ord_Q rw0 (i := p) (j := h) (by have : p < h + 1 := hp; omega) (by omega)), k4⟩, by show v - (h + 1) < v - u; omega⟩, gsJ ⟨rfl, trivial⟩⟩
    ·have h4 : ltQ (Y.getD h rw0) q = false := decide_eq_false h4
     exact ⟨(u, h), ⟨⟨by show u ≤ h; omega, by show h ≤ Y.length; omega, k3, fun p hp hp2 => ord_Q.tr _ _ _ h4 (srt_get sY ord_Q rw0 (i := h) (j := p) hp hp2)⟩, by show h - u < v - u; omega⟩, gsJ ⟨rfl, trivial⟩⟩
   ·have huv : u = v := by omega
    subst huv
    refine w_loopB TT_ok (fun w : Nat => [(13, .v (.int .i64 ((x + w : Nat) : Int)))]) (fun w => rwJ cp ad n ((P ++ Y.take w) ++ q :: (Y.drop w ++ S))) 0 (fun w => w ≤ u) (fun w => u - w) ?_
    refine And.intro ⟨Nat.zero_le _, gsJ ⟨by
     show lkA _ 900 = some (OB.e (bufE 28 1 (.slice _ n cp) (((P ++ Y.take 0) ++ q :: (Y.drop 0 ++ S)).map rwC).flatten))
     rw [show (P ++ Y.take 0) ++ q :: (Y.drop 0 ++ S) = s by rw [hs]; simp]; rfl, trivial⟩⟩ ?_
    rintro w hw
    refine wi ?_
    refine cnd (fun h5 => ?_) (fun h5 => ?_)
    ·have hwu : w < u := by omega
     have htl : (P ++ Y.take w).length = x + w := by simp; omega
     have hln : ((P ++ Y.take w) ++ q :: (Y.drop w ++ S)).length = n := by simp; omega
     have htk : P ++ Y.take w ++ q :: (Y.drop w ++ S) = P ++ Y.take w ++ q :: Y.getD w rw0 :: (Y.drop (w + 1) ++ S) := by rw [drop_cons Y (k := w) (by omega)]; rfl
     rw [htk] at hln ⊢
     have ei := get_mid (P ++ Y.take w) (Y.getD w rw0 :: (Y.drop (w + 1) ++ S)) q rw0 (i := x + w) htl.symm
     have ek := get_mid1 (P ++ Y.take w) (Y.drop (w + 1) ++ S) (Y.getD w rw0) q rw0 (i := x + w + 1) (by rw [htl])
     have hsw := swap_adj2 (P ++ Y.take w) (Y.drop (w + 1) ++ S) (Y.getD w rw0) q
     rw [htl] at hsw
     have hnx : (P ++ Y.take w) ++ Y.getD w rw0 :: q :: (Y.drop (w + 1) ++ S) = (P ++ Y.take (w + 1)) ++ q :: (Y.drop (w + 1) ++ S) := by rw [take_snocQ Y (by omega)]; simp
     rw [hnx] at hsw
     refine ownC (X := ∃ b o, ad = some ⟨b, o, none⟩) (fun w hS => own_ad (k := 900) rfl (by omega) hS) (fun ⟨bb, oo, e⟩ => ?_)
     subst e
     refine regW TT_ok [0, 1, 2, 3, 5, 6, 10, 11, 4, 7, 12, 8, 13, 9, 14] [15, 16, 17] [] [69, 70, 73, 74, 75] ?_
     refine wiE ((x + w + 1 : Nat) : Int) (by omega) ?_
     refine wiE ((x + w + 1 : Nat) : Int) (by omega) ?_
     refine hIx (e := 28) (sz := 1) (m := x + w) ⟨by kernel_rfl, SzIs.of (by kernel_rfl)⟩ rfl rfl (by first | rfl | omega) (by omega) ?_
     refine hIx (e := 28) (sz := 1) (m := x + w + 1) ⟨by kernel_rfl, SzIs.of (by kernel_rfl)⟩ rfl rfl (by first | rfl | omega) (by omega) ?_
     refine hLd (p := x + w) 900 rfl (OneT.of (by kernel_rfl)) rfl (by omega) (rw_at _ (x + w) (by omega)) ?_
     refine hLd (p := x + w + 1) 900 rfl (OneT.of (by kernel_rfl)) rfl (by omega) (rw_at _ (x + w + 1) (by omega)) ?_
     refine hIx (e := 28) (sz := 1) (m := x + w) ⟨by kernel_rfl, SzIs.of (by kernel_rfl)⟩ rfl rfl (by first | rfl | omega) (by omega) ?_
     rw [ei, ek]
     refine stW TT_ok (p := x + w) (new := rwC (Y.getD w rw0)) 900 rfl rfl (by omega) rfl rfl rfl (by show x + w + 1 ≤ _; omega) (SzIs.of (by kernel_rfl)) rfl ?_
     rw [rw_set _ _ _ (by omega)]
     refine goR TT_ok ?_
     refine kq ?_
     refine ixBnW TT_ok (T := 28) (e := 28) (sz := 1) (m := x + w + 1) 900 rfl ⟨by kernel_rfl, SzIs.of (by kernel_rfl)⟩ rfl rfl (by first | rfl | omega) (by omega) (fun b2 o2 hab => ?_)
     cases hab
     refine goR TT_ok ?_
     refine kq ?_
     refine stW TT_ok (p := x + w + 1) (new := rwC (q)) 900 rfl rfl (by omega) rfl rfl rfl (by show x + w + 1 + 1 ≤ _; omega) (SzIs.of (by kernel_rfl)) rfl ?_
     rw [rw_set _ _ _ (by rw [List.length_set]; omega)]
     refine goR TT_ok ?_
     refine kq ?_
     rw [hsw]
     refine wiE ((x + (w + 1) : Nat) : Int) (by omega) ?_
     exact ⟨w + 1, ⟨by omega, by omega⟩, gsJ ⟨rfl, trivial⟩⟩
    ·obtain rfl : w = u := by omega
     exact ⟨(P ++ Y.take w) ++ q :: (Y.drop w ++ S), rfl, ⟨Y.take w ++ q :: Y.drop w, by simp, perm_one q Y w, srt_one1 sY k2 k3 k4⟩, rfl, rfl, trivial⟩
  have hX2 : 2 ≤ X.length := by omega
  refine wiE (Y.length : Nat) (by omega) ?_
  refine cnd (fun h1 => ?_) (fun h1 => ?_)
  ·have h1 : Y.length = 1 := by omega
   obtain ⟨q, rfl⟩ : ∃ q, Y = [q] := List.length_eq_one_iff.1 h1
   have hqr : SlC 57 3 (flatR valC) h0 (.slice q.2.1 q.1.length q.2.2) q.1 := hrow q (by rw [hs]; simp)
   refine w_loopB TT_ok (fun z : Nat × Nat => [(14, .v (.int .i64 ((x + z.1 : Nat) : Int))), (15, .v (.int .i64 ((x + z.2 : Nat) : Int)))]) (fun _ => rwJ cp ad n s) (0, X.length) (fun z => z.1 ≤ z.2 ∧ z.2 ≤ X.length ∧ (∀ p, p < z.1 → ltQ q (X.getD p rw0) = false) ∧ ∀ p, z.2 ≤ p → p < X.length → ltQ q (X.getD p rw0) = true) (fun z => z.2 - z.1) ?_
   refine And.intro ⟨⟨Nat.zero_le _, Nat.le_refl _, fun p hp => absurd hp (Nat.not_lt_zero p), fun p h1 h2 => absurd h2 (by omega)⟩, gsJ ⟨rfl, trivial⟩ (by show _ = [(some (SV.v (.int .i64 ((x + 0 : Nat) : Int))), _), _] ++ _; rw [show m = x + X.length by omega]; rfl)⟩ ?_
   rintro ⟨u, v⟩ ⟨k1, k2, k3, k4⟩
   dsimp only at k1 k2 k3 k4 ⊢
   refine cnd (fun h2 => ?_) (fun h2 => ?_)
   ·have huv : u < v := by omega
    obtain ⟨h, hh⟩ : ∃ h, h = (u + v) / 2 := ⟨_, rfl⟩
    refine wiE ((x + u + (x + v) : Nat) : Int) (by omega) ?_
    refine ew _ (u64n (by omega)) ?_
    refine ew _ shr1 ?_
    refine ew _ (i64m (y := x + h) (by omega) (by omega)) ?_
    have eY : s.getD m rw0 = q := by rw [hs]; exact getY P X [q] S (h := 0) (by omega) (by simp)
    have eX : s.getD (x + h) rw0 = X.getD h rw0 := by rw [hs]; exact getX P X [q] S (by omega) (by omega)
    have hp := rowsF_get hrow (i := x + h) (by omega)
    rw [eX] at hp
    refine ownC (X := ∃ b o, ad = some ⟨b, o, none⟩) (fun w hS => own_ad (k := 900) rfl (by omega) hS) (fun ⟨bb, oo, e⟩ => ?_)
    subst e
    refine regW TT_ok [0, 1, 2, 5, 6, 3, 7, 4, 8] [9, 10, 11] [] [95, 96, 99, 100] ?_
    refine hIx (e := 28) (sz := 1) (m := m) ⟨by kernel_rfl, SzIs.of (by kernel_rfl)⟩ rfl rfl (by first | rfl | omega) (by omega) ?_
    refine hIx (e := 28) (sz := 1) (m := x + h) ⟨by kernel_rfl, SzIs.of (by kernel_rfl)⟩ rfl rfl (by first | rfl | omega) (by omega) ?_
    refine hLd (p := m) 900 rfl (OneT.of (by kernel_rfl)) rfl (by omega) (rw_at _ (m) (by omega)) ?_
    refine hLd (p := x + h) 900 rfl (OneT.of (by kernel_rfl)) rfl (by omega) (rw_at _ (x + h) (by omega)) ?_
    rw [eY, eX]
    refine goR TT_ok ?_
    refine cb (fun w hw => c_collect1 (q).1 (X.getD h rw0).1 (q).2 (X.getD h rw0).2 w h0 hw hqr hp) ?_
    refine kq ?_
    refine goR TT_ok ?_
    refine kq ?_
    refine goR TT_ok ?_
    refine kq ?_
    refine cnd (fun h4 => ?_) (fun h4 => ?_)
    ·have h4 : ltQ q (X.getD h rw0) = false := decide_eq_false h4
     refine wiE ((x + (h + 1) : Nat) : Int) (by omega) ?_
     exact ⟨(h + 1, v), ⟨⟨by show h + 1 ≤ v; omega, k2, fun p hp => ord_Q.tr _ _ _ (srt_get sX ord_Q rw0 (i := p) (j := h) (by have : p < h + 1 := hp; omega) (by omega)) h4, k4⟩, by show v - (h + 1) < v - u; omega⟩, gsJ ⟨rfl, trivial⟩⟩
    ·have h4 : ltQ q (X.getD h rw0) = true := decide_eq_true h4
     exact ⟨(u, h), ⟨⟨by show u ≤ h; omega, by show h ≤ X.length; omega, k3, fun p hp hp2 => lt_up h4 (srt_get sX ord_Q rw0 (i := h) (j := p) hp hp2)⟩, by show h - u < v - u; omega⟩, gsJ ⟨rfl, trivial⟩⟩
   ·have huv : u = v := by omega
    subst huv
    refine w_loopB TT_ok (fun e : Nat => [(17, .v (.int .i64 ((x + e : Nat) : Int)))]) (fun e => rwJ cp ad n ((P ++ X.take e) ++ q :: (X.drop e ++ S))) X.length (fun e => u ≤ e ∧ e ≤ X.length) (fun e => e) ?_
    refine And.intro ⟨⟨k2, Nat.le_refl _⟩, gsJ ⟨by
     show lkA _ 900 = some (OB.e (bufE 28 1 (.slice _ n cp) (((P ++ X.take X.length) ++ q :: (X.drop X.length ++ S)).map rwC).flatten))
     rw [show (P ++ X.take X.length) ++ q :: (X.drop X.length ++ S) = s by rw [hs]; simp]; rfl, trivial⟩ (by rw [show m = x + X.length by omega]; rfl)⟩ ?_
    rintro e ⟨hw1, hw2⟩
    refine cnd (fun h5 => ?_) (fun h5 => ?_)
    ·have hwu : u < e := by omega
     obtain ⟨f, rfl⟩ : ∃ f, e = f + 1 := ⟨e - 1, by omega⟩
     have htl : (P ++ X.take f).length = x + f := by simp; omega
     have hln : ((P ++ X.take (f + 1)) ++ q :: (X.drop (f + 1) ++ S)).length = n := by simp; omega
     have htk : P ++ X.take (f + 1) ++ q :: (X.drop (f + 1) ++ S) = P ++ X.take f ++ X.getD f rw0 :: q :: (X.drop (f + 1) ++ S) := by rw [take_snocQ X (by omega)]; simp
     rw [htk] at hln ⊢
     have ei := get_mid1 (P ++ X.take f) (X.drop (f + 1) ++ S) q (X.getD f rw0) rw0 (i := x + (f + 1)) (by rw [htl]; omega)
     have ek := get_mid (P ++ X.take f) (q :: (X.drop (f + 1) ++ S)) (X.getD f rw0) rw0 (i := x + f) htl.symm
     have hsw := swap_adj (P ++ X.take f) (X.drop (f + 1) ++ S) q (X.getD f rw0)
     rw [htl, show x + f + 1 = x + (f + 1) by omega] at hsw
     have hnx : (P ++ X.take f) ++ q :: X.getD f rw0 :: (X.drop (f + 1) ++ S) = (P ++ X.take f) ++ q :: (X.drop f ++ S) := by rw [drop_cons X (k := f) (by omega)]; simp
     rw [hnx] at hsw
     refine ownC (X := ∃ b o, ad = some ⟨b, o, none⟩) (fun w hS => own_ad (k := 900) rfl (by omega) hS) (fun ⟨bb, oo, e⟩ => ?_)
     subst e
     refine regW TT_ok [0, 1, 2, 3, 5, 6, 10, 11, 4, 7, 12, 8, 13, 9, 14] [15, 16, 17] [] [121, 122, 125, 126, 127] ?_
     refine wiE ((x + f : Nat) : Int) (by omega) ?_
     refine wiE ((x + f : Nat) : Int) (by omega) ?_
     refine hIx (e := 28) (sz := 1) (m := x + (f + 1)) ⟨by kernel_rfl, SzIs.of (by kernel_rfl)⟩ rfl rfl (by first | rfl | omega) (by omega) ?_
     refine hIx (e := 28) (sz := 1) (m := x + f) ⟨by kernel_rfl, SzIs.of (by kernel_rfl)⟩ rfl rfl (by first | rfl | omega) (by omega) ?_
     refine hLd (p := x + (f + 1)) 900 rfl (OneT.of (by kernel_rfl)) rfl (by omega) (rw_at _ (x + (f + 1)) (by omega)) ?_
     refine hLd (p := x + f) 900 rfl (OneT.of (by kernel_rfl)) rfl (by omega) (rw_at _ (x + f) (by omega)) ?_
     refine hIx (e := 28) (sz := 1) (m := x + (f + 1)) ⟨by kernel_rfl, SzIs.of (by kernel_rfl)⟩ rfl rfl (by first | rfl | omega) (by omega) ?_
     rw [ei, ek]
     refine stW TT_ok (p := x + (f + 1)) (new := rwC (X.getD f rw0)) 900 rfl rfl (by omega) rfl rfl rfl (by show x + (f + 1) + 1 ≤ _; omega) (SzIs.of (by kernel_rfl)) rfl ?_
     rw [rw_set _ _ _ (by omega)]
     refine goR TT_ok ?_
     refine kq ?_
     refine ixBnW TT_ok (T := 28) (e := 28) (sz := 1) (m := x + f) 900 rfl ⟨by kernel_rfl, SzIs.of (by kernel_rfl)⟩ rfl rfl (by first | rfl | omega) (by omega) (fun b2 o2 hab => ?_)
     cases hab
     refine goR TT_ok ?_
     refine kq ?_
     refine stW TT_ok (p := x + f) (new := rwC (q)) 900 rfl rfl (by omega) rfl rfl rfl (by show x + f + 1 ≤ _; omega) (SzIs.of (by kernel_rfl)) rfl ?_
     rw [rw_set _ _ _ (by rw [List.length_set]; omega)]
     refine goR TT_ok ?_
     refine kq ?_
     rw [hsw]
     refine wiE ((x + f : Nat) : Int) (by omega) ?_
     exact ⟨f, ⟨⟨by omega, by omega⟩, by omega⟩, gsJ ⟨rfl, trivial⟩⟩
    ·obtain rfl : e = u := by omega
     exact ⟨(P ++ X.take e) ++ q :: (X.drop e ++ S), rfl, ⟨X.take e ++ q :: X.drop e, by simp, (perm_one q X e).trans List.perm_append_comm, srt_one2 sX k2 k3 k4⟩, rfl, rfl, trivial⟩
  have hY2 : 2 ≤ Y.length := by omega
  obtain ⟨g, hg⟩ : ∃ g, g = (x + y) / 2 := ⟨_, rfl⟩
  refine wiE ((x + y : Nat) : Int) (by omega) ?_
  refine ew _ (u64n (by omega)) ?_
  refine ew _ shr1 ?_
  refine ew _ (i64m (y := g) hg.symm (by omega)) ?_
  refine wiE ((g + m : Nat) : Int) (by omega) ?_
  have hx1 : x + 2 ≤ g := by omega
  have hgy : g + 2 ≤ y := by omega
  obtain ⟨K, hK⟩ : ∃ K, K = g - x := ⟨_, rfl⟩
  refine w_cutB TT_ok (fun z : Nat × Nat => [(20, .v (.int .i64 ((x + z.1 : Nat) : Int))), (21, .v (.int .i64 ((x + z.2 : Nat) : Int)))]) (fun _ => rwJ cp ad n s) (fun z => z.1 = K - Y.length ∧ z.2 = min K X.length) ?_
  refine And.intro ?_ ?_
  ·refine cnd (fun h3 => ?_) (fun h3 => ?_)
   ·refine wiE ((x + (K - Y.length) : Nat) : Int) (by omega) ?_
    refine ⟨(K - Y.length, min K X.length), ⟨rfl, rfl⟩, gsJ ⟨rfl, trivial⟩ (by rw [show x + min K X.length = g by omega]; rfl)⟩
   ·refine ⟨(K - Y.length, min K X.length), ⟨rfl, rfl⟩, gsJ ⟨rfl, trivial⟩ (by rw [show x + min K X.length = m by omega, show x + (K - Y.length) = x by omega]; rfl)⟩
  rintro ⟨u0, v0'⟩ ⟨rfl, rfl⟩
  dsimp only
  refine wiE ((g + m - 1 : Nat) : Int) (by omega) ?_
  refine w_loopB TT_ok (fun z : Nat × Nat => [(20, .v (.int .i64 ((x + z.1 : Nat) : Int))), (21, .v (.int .i64 ((x + z.2 : Nat) : Int)))]) (fun _ => rwJ cp ad n s) (K - Y.length, min K X.length) (fun z => K - Y.length ≤ z.1 ∧ z.1 ≤ z.2 ∧ z.2 ≤ min K X.length ∧ (∀ p, K - Y.length ≤ p → p < z.1 → ltQ (Y.getD (K - 1 - p) rw0) (X.getD p rw0) = false) ∧ ∀ p, z.2 ≤ p → p < min K X.length → ltQ (Y.getD (K - 1 - p) rw0) (X.getD p rw0) = true) (fun z => z.2 - z.1) ?_
  refine And.intro ⟨⟨Nat.le_refl _, by show K - Y.length ≤ min K X.length; omega, Nat.le_refl _, fun p hp hp2 => absurd hp2 (by show ¬ p < K - Y.length; omega), fun p h1 h2 => absurd h2 (by have : min K X.length ≤ p := h1; omega)⟩, gsJ ⟨rfl, trivial⟩⟩ ?_
  rintro ⟨u, v⟩ ⟨k0, k1, k2, k3, k4⟩
  dsimp only at k0 k1 k2 k3 k4 ⊢
  refine cnd (fun h2 => ?_) (fun h2 => ?_)
  ·have huv : u < v := by omega
   obtain ⟨h, hh⟩ : ∃ h, h = (u + v) / 2 := ⟨_, rfl⟩
   refine wiE ((x + u + (x + v) : Nat) : Int) (by omega) ?_
   refine ew _ (u64n (by omega)) ?_
   refine ew _ shr1 ?_
   refine ew _ (i64m (y := x + h) (by omega) (by omega)) ?_
   have eY : s.getD (m + (K - 1 - h)) rw0 = Y.getD (K - 1 - h) rw0 := by rw [hs]; exact getY P X Y S (by omega) (by omega)
   have eX : s.getD (x + h) rw0 = X.getD h rw0 := by rw [hs]; exact getX P X Y S (by omega) (by omega)
   have hp := rowsF_get hrow (i := x + h) (by omega)
   have hq := rowsF_get hrow (i := m + (K - 1 - h)) (by omega)
   rw [eX] at hp
   rw [eY] at hq
   refine ownC (X := ∃ b o, ad = some ⟨b, o, none⟩) (fun w hS => own_ad (k := 900) rfl (by omega) hS) (fun ⟨bb, oo, e⟩ => ?_)
   subst e
   refine regW TT_ok [0, 1, 2, 3, 7, 8, 4, 9, 5, 10, 6] [11, 12, 13] [] [163, 164, 167, 168] ?_
   refine wiE ((m + (K - 1 - h) : Nat) : Int) (by omega) ?_
   refine hIx (e := 28) (sz := 1) (m := x + h) ⟨by kernel_rfl, SzIs.of (by kernel_rfl)⟩ rfl rfl (by first | rfl | omega) (by omega) ?_
   refine hIx (e := 28) (sz := 1) (m := m + (K - 1 - h)) ⟨by kernel_rfl, SzIs.of (by kernel_rfl)⟩ rfl rfl (by first | rfl | omega) (by omega) ?_
   refine hLd (p := x + h) 900 rfl (OneT.of (by kernel_rfl)) rfl (by omega) (rw_at _ (x + h) (by omega)) ?_
   refine hLd (p := m + (K - 1 - h)) 900 rfl (OneT.of (by kernel_rfl)) rfl (by omega) (rw_at _ (m + (K - 1 - h)) (by omega)) ?_
   rw [eX, eY]
   refine goR TT_ok ?_
   refine cb (fun w hw => c_collect1 (Y.getD (K - 1 - h) rw0).1 (X.getD h rw0).1 (Y.getD (K - 1 - h) rw0).2 (X.getD h rw0).2 w h0 hw hq hp) ?_
   refine kq ?_
   refine goR TT_ok ?_
   refine kq ?_
   refine goR TT_ok ?_
   refine kq ?_
   refine cnd (fun h4 => ?_) (fun h4 => ?_)
   ·have h4 : ltQ (Y.getD (K - 1 - h) rw0) (X.getD h rw0) = false := decide_eq_false h4
    refine wiE ((x + (h + 1) : Nat) : Int) (by omega) ?_
    refine ⟨(h + 1, v), ⟨⟨by show K - Y.length ≤ h + 1; omega, by show h + 1 ≤ v; omega, k2, fun p hp hp2 => ?_, k4⟩, by show v - (h + 1) < v - u; omega⟩, gsJ ⟨rfl, trivial⟩⟩
    have hp2 : p < h + 1 := hp2
    exact ord_Q.tr _ _ _ (ord_Q.tr _ _ _ (srt_get sX ord_Q rw0 (i := p) (j := h) (by omega) (by omega)) h4) (srt_get sY ord_Q rw0 (i := K - 1 - h) (j := K - 1 - p) (by omega) (by omega))
   ·have h4 : ltQ (Y.getD (K - 1 - h) rw0) (X.getD h rw0) = true := decide_eq_true h4
    refine ⟨(u, h), ⟨⟨k0, by show u ≤ h; omega, by show h ≤ min K X.length; omega, k3, fun p hp hp2 => ?_⟩, by show h - u < v - u; omega⟩, gsJ ⟨rfl, trivial⟩⟩
    have hp : h ≤ p := hp
    exact lt_down (lt_up h4 (srt_get sX ord_Q rw0 (i := h) (j := p) (by omega) (by omega))) (srt_get sY ord_Q rw0 (i := K - 1 - p) (j := K - 1 - h) (by omega) (by omega))
  have huv : u = v := by omega
  subst huv
  have c1 := cut_one (K := K) (i := u) rw0 ord_Q sX sY k0 (by omega) (by omega) (fun hne => by
   have := k3 (u - 1) (by omega) (by omega)
   rw [show K - 1 - (u - 1) = K - u by omega] at this; exact this)
  have c2 := cut_two (K := K) (i := u) rw0 ord_Q sX sY k0 (by omega) (by omega) (fun h1 h2 => k4 u (Nat.le_refl _) (by omega))
  clear k3 k4
  have eX12 : X.take u ++ X.drop u = X := List.take_append_drop u X
  have eY12 : Y.take (K - u) ++ Y.drop (K - u) = Y := List.take_append_drop (K - u) Y
  have lX1 : (X.take u).length = u := by simp; omega
  have lX2 : (X.drop u).length = X.length - u := by simp
  have lY1 : (Y.take (K - u)).length = K - u := by simp; omega
  have lY2 : (Y.drop (K - u)).length = Y.length - (K - u) := by simp
  have s1 := srt_take sX u
  have s2 := srt_drop sX u
  have t1 := srt_take sY (K - u)
  have t2 := srt_drop sY (K - u)
  have hsX : Srt ltQ (X.take u ++ X.drop u) := by rw [eX12]; exact sX
  have hsY : Srt ltQ (Y.take (K - u) ++ Y.drop (K - u)) := by rw [eY12]; exact sY
  generalize X.take u = X1 at *
  generalize X.drop u = X2 at *
  generalize Y.take (K - u) = Y1 at *
  generalize Y.drop (K - u) = Y2 at *
  have hs' : s = (P ++ X1) ++ X2 ++ Y1 ++ (Y2 ++ S) := by rw [hs, ← eX12, ← eY12]; simp
  have hsp : (P ++ X1 ++ Y1 ++ (X2 ++ Y2 ++ S)).Perm s := by
   rw [hs']
   have : (Y1 ++ X2 ++ (Y2 ++ S)).Perm (X2 ++ Y1 ++ (Y2 ++ S)) := List.Perm.append_right _ List.perm_append_comm
   simpa using (this.append_left (P ++ X1))
  refine wiE ((m + (K - u) : Nat) : Int) (by omega) ?_
  refine w_cutB TT_ok (fun _ : Unit => []) (fun _ => rwJ cp ad n (P ++ X1 ++ Y1 ++ (X2 ++ Y2 ++ S))) (fun _ => True) ?_
  refine And.intro ?_ ?_
  ·refine cnd (fun h3 => ?_) (fun h3 => ?_)
   ·refine cJ TT_ok (rwJ cp ad n) s (g := fun _ => .tuple #[]) (fun w v h1 h2 h3' h4' h5 => c_rotate cp ad n s (P ++ X1) X2 Y1 (Y2 ++ S) hs' hn hn1 (by omega) (by omega) (by rw [List.length_append]; omega) (by rw [List.length_append]; omega) (by rw [List.length_append]; omega) w v h3' h4' h5) ?_ (hl := ⟨rfl, trivial⟩)
    rintro z rfl
    exact ⟨(), trivial, gsJ ⟨by
     show lkA _ 900 = some (OB.e (bufE 28 1 (.slice _ n cp) ((P ++ X1 ++ Y1 ++ (X2 ++ Y2 ++ S)).map rwC).flatten))
     rw [show P ++ X1 ++ Y1 ++ (X2 ++ Y2 ++ S) = P ++ X1 ++ Y1 ++ X2 ++ (Y2 ++ S) by simp]; rfl, trivial⟩⟩
   ·refine ⟨(), trivial, gsJ ⟨by
     show lkA _ 900 = some (OB.e (bufE 28 1 (.slice _ n cp) ((P ++ X1 ++ Y1 ++ (X2 ++ Y2 ++ S)).map rwC).flatten))
     rw [show P ++ X1 ++ Y1 ++ (X2 ++ Y2 ++ S) = s by
      rw [hs']
      rcases h3 with h3 | h3
      ·have : X2 = [] := List.eq_nil_of_length_eq_zero (by omega)
       subst this; simp
      ·have : Y1 = [] := List.eq_nil_of_length_eq_zero (by omega)
       subst this; simp]; rfl, trivial⟩⟩
  rintro _ _
  refine w_cutB TT_ok (fun _ : List RwQ => []) (fun z => rwJ cp ad n ((P ++ z) ++ X2 ++ Y2 ++ S)) (fun z => z.Perm (X1 ++ Y1) ∧ Srt ltQ z) ?_
  refine And.intro ?_ ?_
  ·refine cnd (fun h3 => ?_) (fun h3 => ?_)
   ·refine cJ TT_ok (rwJ cp ad n) (P ++ X1 ++ Y1 ++ (X2 ++ Y2 ++ S)) (g := fun _ => .tuple #[]) (fun w v h1 h2 h3' h4' h5 => ih _ P X1 Y1 (X2 ++ Y2 ++ S) (by omega) rfl (by simp; omega) hn1 (by omega) (by omega) s1 t1 (by omega) (by omega) (by omega) w v h3' (rowsF_perm hsp (fun q hq => (hrow q hq).monoF h1)) h4' h5) ?_ (hl := ⟨rfl, trivial⟩)
    rintro z ⟨Z, rfl, z1, z2⟩
    exact ⟨Z, ⟨z1, z2⟩, gsJ ⟨by
     show lkA _ 900 = some (OB.e (bufE 28 1 (.slice _ n cp) (((P ++ Z) ++ X2 ++ Y2 ++ S).map rwC).flatten))
     rw [show (P ++ Z) ++ X2 ++ Y2 ++ S = P ++ Z ++ (X2 ++ Y2 ++ S) by simp]; rfl, trivial⟩⟩
   ·refine ⟨X1 ++ Y1, ⟨List.Perm.refl _, ?_⟩, gsJ ⟨by
     show lkA _ 900 = some (OB.e (bufE 28 1 (.slice _ n cp) (((P ++ (X1 ++ Y1)) ++ X2 ++ Y2 ++ S).map rwC).flatten))
     rw [show (P ++ (X1 ++ Y1)) ++ X2 ++ Y2 ++ S = P ++ X1 ++ Y1 ++ (X2 ++ Y2 ++ S) by simp]; rfl, trivial⟩⟩
    rcases h3 with h3 | h3
    ·have : X1 = [] := List.eq_nil_of_length_eq_zero (by omega)
     subst this; exact t1
    ·have : Y1 = [] := List.eq_nil_of_length_eq_zero (by omega)
     subst this; rw [List.append_nil]; exact s1
  rintro Z1 ⟨p1, q1⟩
  have lZ1 : Z1.length = u + (K - u) := by rw [p1.length_eq, List.length_append]; omega
  have hsp2 : ((P ++ Z1) ++ X2 ++ Y2 ++ S).Perm s := by
   refine List.Perm.trans ?_ hsp
   have := (p1.append_left P).append_right (X2 ++ Y2 ++ S)
   simpa using this
  have fin : ∀ Z2 : List RwQ, Z2.Perm (X2 ++ Y2) → Srt ltQ Z2 → Srt ltQ (Z1 ++ Z2) ∧ (Z1 ++ Z2).Perm (X ++ Y) := fun Z2 p2 q2 => by
   have := srt_merge hsX hsY c1 c2 q1 q2 p1 p2
   rw [eX12, eY12] at this; exact this
  refine cnd (fun h3 => ?_) (fun h3 => ?_)
  ·refine cJ TT_ok (rwJ cp ad n) ((P ++ Z1) ++ X2 ++ Y2 ++ S) (g := fun _ => .tuple #[]) (fun w v h1 h2 h3' h4' h5 => ih _ (P ++ Z1) X2 Y2 S (by omega) rfl (by simp; omega) hn1 (by omega) (by omega) s2 t2 (by rw [List.length_append]; omega) (by rw [List.length_append]; omega) (by rw [List.length_append]; omega) w v h3' (rowsF_perm hsp2 (fun q hq => (hrow q hq).monoF h1)) h4' h5) ?_ (hl := ⟨rfl, trivial⟩)
   rintro z ⟨Z, rfl, z1, z2⟩
   exact ⟨P ++ Z1 ++ Z ++ S, rfl, ⟨Z1 ++ Z, by simp, (fin Z z1 z2).2, (fin Z z1 z2).1⟩, rfl, rfl, trivial⟩
  ·have h4 : Srt ltQ (X2 ++ Y2) := by
    rcases h3 with h3 | h3
    ·have : X2 = [] := List.eq_nil_of_length_eq_zero (by omega)
     subst this; exact t2
    ·have : Y2 = [] := List.eq_nil_of_length_eq_zero (by omega)
     subst this; rw [List.append_nil]; exact s2
   exact ⟨(P ++ Z1) ++ X2 ++ Y2 ++ S, rfl, ⟨Z1 ++ (X2 ++ Y2), by simp, (fin _ (List.Perm.refl _) h4).2, (fin _ (List.Perm.refl _) h4).1⟩, rfl, rfl, trivial⟩
end Go.Proofs.YtkkbnjomcgnkpaaGreat
set_option maxRecDepth 100000
namespace Go.Proofs.YtkkbnjomcgnkpaaGreat
open Go Go.Dx Go.RowKit
structure StZ where
 z : Nat
 l : List RwQ
theorem take_drop_split (l : List RwQ) (k : Nat) : l = [] ++ l.take k ++ l.drop k := by rw [List.nil_append, List.take_append_drop]
set_option maxHeartbeats 4000000 in
theorem c_stable (cp : Nat) (ad : Option Addr) (n : Nat) (s : List RwQ) (hn : n = s.length) (hn1 : n < 40) (w0 : World) (h0 : View) (hv : VLe h0 (Full w0)) (hrow : RowsF h0 s) (hno : ∀ b ∈ ids (oes (rwJ cp ad n s)), h0 b = none) (ho : OwnJ w0 (oes (rwJ cp ad n s))) :
  Calls Tryz.prog 119 #[.slice ad n cp, .int .i64 n, fvC] w0 (RetJ (rwJ cp ad n) s w0 fun u s' => u = .tuple #[] ∧ (s'.Perm s ∧ Srt ltQ s')) := by
 refine entJ (rwJ cp ad n) s (g := fun _ => .tuple #[]) (Ψ := fun s' => s'.Perm s ∧ Srt ltQ s') (args := [.slice ad n cp, .int .i64 n, fvC]) TT_ok [] [] [.v (.slice ad n cp), .v (.int .i64 n), .v fvC] Tryz.func119 rfl Tryz.ntmps119 rfl rfl hv hno ho rfl ?_
 refine w_loopB TT_ok (fun z : StZ => [(7, .v (.int .i64 ((20 * z.z : Nat) : Int))), (8, .v (.int .i64 ((20 * z.z + 20 : Nat) : Int)))]) (fun z => rwJ cp ad n z.l) ⟨0, s⟩ (fun z => z.l.Perm s ∧ z.z ≤ 1 ∧ 20 * z.z ≤ n ∧ Srt ltQ (z.l.take (20 * z.z))) (fun z => 2 - z.z) ?_
 refine And.intro ⟨⟨List.Perm.refl _, Nat.zero_le 1, by show 20 * 0 ≤ n; omega, by simp; exact srt_nil⟩, gsJ ⟨rfl, trivial⟩⟩ ?_
 rintro ⟨z, l⟩ ⟨k1, k2, k3, k4⟩
 dsimp only at k1 k2 k3 k4 ⊢
 have hll : l.length = n := by rw [k1.length_eq, hn]
 refine cnd (fun h1 => ?_) (fun h1 => ?_)
 ·have hz : z = 0 := by omega
  subst hz
  refine cJ TT_ok (rwJ cp ad n) l (g := fun _ => .tuple #[]) (fun w v h1 h2 h3' h4' h5 => c_insertion cp ad n l [] (l.take 20) (l.drop 20) (take_drop_split l 20) hll.symm (by omega) (x := 20 * 0) (y := 20 * 0 + 20) rfl (by simp; omega) w v h3' (rowsF_perm k1 (fun q hq => (hrow q hq).monoF h1)) h4' h5) ?_ (hl := ⟨rfl, trivial⟩)
  rintro l' ⟨Z, rfl, p1, q1⟩
  have lZ : Z.length = 20 := by rw [p1.length_eq, List.length_take]; omega
  refine wiE ((20 * 1 + 20 : Nat) : Int) (by omega) ?_
  refine ⟨⟨1, [] ++ Z ++ l.drop 20⟩, ⟨⟨?_, Nat.le_refl _, by show 20 * 1 ≤ n; omega, ?_⟩, by show 2 - 1 < 2 - 0; decide⟩, gsJ ⟨rfl, trivial⟩⟩
  ·refine List.Perm.trans ?_ k1
   have := p1.append_right (l.drop 20)
   rw [List.take_append_drop] at this
   simpa using this
  ·show Srt ltQ (([] ++ Z ++ l.drop 20).take 20)
   rw [List.nil_append, ← lZ, List.take_left]; exact q1
 ·refine cJ TT_ok (rwJ cp ad n) l (g := fun _ => .tuple #[]) (fun w v h1 h2 h3' h4' h5 => c_insertion cp ad n l (l.take (20 * z)) (l.drop (20 * z)) [] (by rw [List.append_nil, List.take_append_drop]) hll.symm (by omega) (x := 20 * z) (y := n) (by simp; omega) (by simp; omega) w v h3' (rowsF_perm k1 (fun q hq => (hrow q hq).monoF h1)) h4' h5) ?_ (hl := ⟨rfl, trivial⟩)
  rintro l' ⟨Z, rfl, p1, q1⟩
  have lT : (l.take (20 * z)).length = 20 * z := by simp; omega
  have lZ : Z.length = n - 20 * z := by rw [p1.length_eq, List.length_drop]; omega
  have hp : (l.take (20 * z) ++ Z ++ []).Perm s := by
   refine List.Perm.trans ?_ k1
   have := p1.append_left (l.take (20 * z))
   rw [List.take_append_drop] at this
   simpa using this
  have hs20 : Srt ltQ ((l.take (20 * z) ++ Z ++ []).take 20) ∧ Srt ltQ ((l.take (20 * z) ++ Z ++ []).drop 20) := by
   rw [List.append_nil]
   by_cases hz : z = 0
   ·subst hz
    simp only [Nat.mul_zero, List.take_zero, List.nil_append]
    exact ⟨srt_take q1 20, srt_drop q1 20⟩
   ·have hz : z = 1 := by omega
    subst hz
    refine ⟨?_, ?_⟩
    ·rw [show (l.take (20 * 1) ++ Z).take 20 = l.take (20 * 1) from List.take_left' (by rw [lT])]; exact k4
    ·rw [show (l.take (20 * 1) ++ Z).drop 20 = Z from List.drop_left' (by rw [lT])]; exact q1
  generalize l.take (20 * z) ++ Z ++ [] = l2 at hp hs20 ⊢
  have hl2 : l2.length = n := by rw [hp.length_eq, hn]
  refine w_loopB TT_ok (fun z : StZ => [(6, .v (.int .i64 ((z.z : Nat) : Int)))]) (fun z => rwJ cp ad n z.l) ⟨20, l2⟩ (fun z => z.l.Perm s ∧ ((z.z = 20 ∧ Srt ltQ (z.l.take 20) ∧ Srt ltQ (z.l.drop 20)) ∨ (z.z = 40 ∧ Srt ltQ z.l))) (fun z => 60 - z.z) ?_
  refine And.intro ⟨⟨hp, .inl ⟨rfl, hs20.1, hs20.2⟩⟩, gsJ ⟨rfl, trivial⟩⟩ ?_
  rintro ⟨z, l3⟩ ⟨k1, k2⟩
  dsimp only at k1 k2 ⊢
  have hl3 : l3.length = n := by rw [k1.length_eq, hn]
  refine cnd (fun h2 => ?_) (fun h2 => ?_)
  ·have hz : z = 20 := by omega
   subst hz
   obtain ⟨g1, g2⟩ : Srt ltQ (l3.take 20) ∧ Srt ltQ (l3.drop 20) := by
    rcases k2 with k2 | k2
    ·exact k2.2
    ·omega
   refine wiE ((40 : Nat) : Int) (by omega) ?_
   refine w_loopB TT_ok (fun _ : Unit => [(7, .v (.int .i64 0)), (8, .v (.int .i64 ((40 : Nat) : Int)))]) (fun _ => rwJ cp ad n l3) () (fun _ => True) (fun _ => 0) ?_
   refine And.intro ⟨trivial, gsJ ⟨rfl, trivial⟩⟩ ?_
   rintro _ _
   refine cnd (fun h3 => ?_) (fun h3 => ?_)
   ·exfalso; omega
   refine wiE ((20 : Nat) : Int) (by omega) ?_
   refine cnd (fun _ => ?_) (fun h4 => ?_)
   ·have l1 : (l3.take 20).length = 20 := by simp; omega
    have l2 : (l3.drop 20).length = n - 20 := by simp; omega
    refine cJ TT_ok (rwJ cp ad n) l3 (g := fun _ => .tuple #[]) (fun w v h1 h2 h3' h4' h5 => c_symMerge cp ad n (n + 1) l3 [] (l3.take 20) (l3.drop 20) [] (by omega) (by rw [List.append_nil]; exact take_drop_split l3 20) hl3.symm (by omega) (by omega) (by omega) g1 g2 (x := 0) (m := 20) (y := n) rfl (by rw [l1]; rfl) (by rw [l1, l2]; show n = 0 + 20 + (n - 20); omega) w v h3' (rowsF_perm k1 (fun q hq => (hrow q hq).monoF h1)) h4' h5) ?_ (hl := ⟨rfl, trivial⟩)
    rintro l4 ⟨Z, rfl, p1, q1⟩
    refine wiE ((40 : Nat) : Int) (by omega) ?_
    rw [List.take_append_drop] at p1
    refine ⟨⟨40, [] ++ Z ++ []⟩, ⟨⟨by simpa using p1.trans k1, .inr ⟨rfl, by simpa using q1⟩⟩, by show 60 - 40 < 60 - 20; decide⟩, gsJ ⟨rfl, trivial⟩⟩
   ·exfalso; omega
  ·have : Srt ltQ l3 := by
    rcases k2 with k2 | k2
    ·have := k2.2.1
     rw [List.take_of_length_le (by omega)] at this; exact this
    ·exact k2.2
   exact ⟨l3, rfl, ⟨k1, this⟩, rfl, rfl, trivial⟩
theorem c_SortStable (cp : Nat) (ad : Option Addr) (n : Nat) (s : List RwQ) (hn : n = s.length) (hn1 : n < 40) (w0 : World) (h0 : View) (hv : VLe h0 (Full w0)) (hrow : RowsF h0 s) (hno : ∀ b ∈ ids (oes (rwJ cp ad n s)), h0 b = none) (ho : OwnJ w0 (oes (rwJ cp ad n s))) :
  Calls Tryz.prog 85 #[.slice ad n cp, fvC] w0 (RetJ (rwJ cp ad n) s w0 fun u s' => u = .tuple #[] ∧ (s'.Perm s ∧ Srt ltQ s')) := by
 refine entJ (rwJ cp ad n) s (g := fun _ => .tuple #[]) (Ψ := fun s' => s'.Perm s ∧ Srt ltQ s') (args := [.slice ad n cp, fvC]) TT_ok [] [] [.v (.slice ad n cp), .v fvC] Tryz.func85 rfl Tryz.ntmps85 rfl rfl hv hno ho rfl ?_
 refine cJ TT_ok (rwJ cp ad n) s (g := fun _ => .tuple #[]) (fun w v h1 h2 h3' h4' h5 => c_stable cp ad n s hn hn1 w v h3' (fun q hq => (hrow q hq).monoF h1) h4' h5) ?_ (hl := ⟨rfl, trivial⟩)
 rintro l ⟨p, q⟩
 exact ⟨l, rfl, ⟨p, q⟩, rfl, rfl, trivial⟩
end Go.Proofs.YtkkbnjomcgnkpaaGreat
namespace Go.Proofs.YtkkbnjomcgnkpaaGreat
open Go Go.Dx Go.RowKit
def plc (o : List Val) (v : Val) : Nat := o.findIdx fun w => decide (w = v)
theorem plc_at {o : List Val} {v : Val} {k : Nat} (hz : ∀ j, j < k → o.getD j v0 ≠ v) (hk : k < o.length) (h : o.getD k v0 = v) : plc o v = k := by
 unfold plc
 rw [List.findIdx_eq hk]
 refine ⟨by simpa [List.getD, hk] using h, fun j hj => ?_⟩
 have := hz j hj
 have hjl : j < o.length := by omega
 simpa [List.getD, hjl] using this
theorem plc_no {o : List Val} {v : Val} (hz : ∀ j, j < o.length → o.getD j v0 ≠ v) : plc o v = o.length := by
 unfold plc
 rw [List.findIdx_eq_length]
 intro w hw
 obtain ⟨j, hj, rfl⟩ := List.mem_iff_getElem.1 hw
 have := hz j hj
 simpa [List.getD, hj] using this
theorem plc_le (o : List Val) (v : Val) : plc o v ≤ o.length := List.findIdx_le_length
def ahC (outs : List CoO) (a b : List Val) (k : Nat) : Int := cmpI (plc (outs.getD k co0).2 (a.getD k v0)) (plc (outs.getD k co0).2 (b.getD k v0))
def ahF (outs : List CoO) (a b : List Val) : Int := firstE (ahC outs a b) outs.length
def bestS (outs : List CoO) (rows : List (List Val)) : Nat → Nat
 | 0 => 0
 | i + 1 => if ahF outs (rows.getD i []) (rows.getD (bestS outs rows i) []) < 0 then i else bestS outs rows i
theorem best_le (outs : List CoO) (rows : List (List Val)) : ∀ i, bestS outs rows i ≤ i - 1
 | 0 => Nat.le_refl _
 | i + 1 => by
  rw [bestS]
  have := best_le outs rows i
  split <;> omega
def unlikeS (rows : List (List Val)) : Bool := rows.any fun r => !decide (r = rows.getD 0 [])
def pkL (p : Int → Bool) : List Val → Val
 | [] => v0
 | x :: r => r.foldl (fun m v => if p (cmpV v m) = true then v else m) x
theorem pkL_snoc (p : Int → Bool) (l : List Val) (v : Val) (h : l ≠ []) : pkL p (l ++ [v]) = if p (cmpV v (pkL p l)) = true then v else pkL p l := by
 cases l with
 | nil => exact absurd rfl h
 | cons x r => show (r ++ [v]).foldl _ x = _; rw [List.foldl_append]; rfl
def agP (a : Int) (n : Int) : Bool := if a = 2 then decide (n < 0) else decide (0 < n)
def collF (a : Int) (rules : List Nat) (rows : List (List Val)) : Outc :=
 if a = 0 then ⟨0, ints rules, sortR rows⟩ else if a = 4 then ⟨0, ints rules, [[⟨1, rows.length, []⟩]]⟩ else if a = 1 then sumO rules rows else ⟨0, ints rules, [[pkL (agP a) (keptV rows)]]⟩
def anyF (rules : List Nat) (rows : List (List Val)) : Outc := if unlikeS rows = true then ⟨20, ints rules, []⟩ else ⟨0, ints rules, rows.take 1⟩
def chooseF (t : Tab) (rules : List Nat) (rows : List (List Val)) : Outc :=
 if t.pol = 5 then collF t.agg rules rows else if t.pol = 4 then anyF rules rows else if t.pol = 6 then ⟨0, ints rules, rows⟩
 else if t.pol = 3 then oneO rules rows (bestS t.outs rows rows.length) else oneO rules rows 0
structure RdyP (r : Rdy) : Prop where
 n : r.ls.length ≤ 24
 p : polOk r.t = true
 o : ∀ l ∈ r.ls, l.os.length = r.t.outs.length
 o1 : r.t.outs.length ≤ 6
 o0 : 1 ≤ r.t.outs.length
end Go.Proofs.YtkkbnjomcgnkpaaGreat
set_option maxRecDepth 100000
namespace Go.Proofs.YtkkbnjomcgnkpaaGreat
open Go Go.Dx Go.RowKit
def ixV (o : List Val) (v : Val) : Int := if plc o v < o.length then (plc o v : Int) else -1
set_option maxHeartbeats 2000000 in
theorem c_IndexVal (o : List Val) (v : Val) (ad : Option Addr) (cap : Nat) (w0 : World) (h0 : View) (hv : VLe h0 (Full w0)) (ho : SlC 57 3 (flatR valC) h0 (.slice ad o.length cap) o) :
  Calls Tryz.prog 128 #[.slice ad o.length cap, .agg (valC v).toArray] w0 (Ret w0 h0 fun u _ => u = .int .i64 (ixV o v)) := by
 have hlm := slc_lm ho
 refine ent (args := [.slice ad o.length cap, .agg (valC v).toArray]) TT_ok [] [] Tryz.func128 rfl Tryz.ntmps128 rfl rfl hv ?_
 intro b3
 refine w_loop TT_ok (fun k : Nat => [(8, .v (.int .i64 k))]) 0 (fun k => k ≤ o.length ∧ ∀ j, j < k → o.getD j v0 ≠ v) (fun k => o.length - k) ?_
 refine And.intro ⟨⟨Nat.zero_le _, fun j hj => absurd hj (Nat.not_lt_zero j)⟩, gs⟩ ?_
 intro k ⟨hk, hn⟩
 refine cnd (fun h1 => ?_) (fun h1 => ?_)
 ·refine And.intro (by kernel_rfl) ?_
  refine ixs ho k v0 ?_
  refine aq eqV v (o.getD k v0) ?_
  refine cnd (fun h2 => ?_) (fun h2 => ?_)
  ·have e := plc_at hn (by omega) h2.symm
   rw [ixV, if_pos (by rw [e]; omega), e]; exact rfl
  ·refine wi ?_
   exact ⟨k + 1, ⟨⟨by omega, upto_snoc hn (fun hh => h2 hh.symm)⟩, by omega⟩, gs⟩
 ·have e := plc_no (v := v) (o := o) (fun j hj => hn j (by omega))
  rw [ixV, if_neg (by rw [e]; omega)]; exact rfl
set_option maxHeartbeats 1000000 in
theorem c_hplace (p : CoO) (v : Val) (w0 : World) (h0 : View) (hv : VLe h0 (Full w0)) (hp : OrH h0 p) :
  Calls Tryz.prog 93 #[.agg (colC p.1).toArray, .agg (valC v).toArray] w0 (Ret w0 h0 fun u _ => u = .int .i64 (plc p.2 v : Nat)) := by
 obtain ⟨⟨nm, kd, oa, on, oc⟩, o⟩ := p
 obtain ⟨hon, hsl, hvs⟩ := hp
 dsimp only at hon hsl hvs
 subst hon
 have hlm := slc_lm hsl
 have hple := plc_le o v
 refine ent (args := [.agg (colC ⟨nm, kd, oa, o.length, oc⟩).toArray, .agg (valC v).toArray]) TT_ok [] [] Tryz.func93 rfl Tryz.ntmps93 rfl rfl hv ?_
 intro b2 b3
 refine cb (fun w hw => c_IndexVal o v oa oc w h0 hw hsl) ?_
 have e1 : ixV o v = if plc o v < o.length then (plc o v : Int) else -1 := rfl
 generalize ixV o v = x at e1 ⊢
 refine cnd (fun h => ?_) (fun h => ?_)
 ·rw [e1]
  split
  ·exact rfl
  ·rename_i hh; rw [if_neg hh] at e1; omega
 ·have : plc o v = o.length := by
   by_cases hh : plc o v < o.length
   ·rw [if_pos hh] at e1; omega
   ·omega
  rw [this]; exact rfl
set_option maxHeartbeats 4000000 in
theorem c_hfirst (outs : List CoO) (rows : List (List Val)) (ao aw : AC) (hl : ∀ r ∈ rows, r.length = outs.length) (w0 : World) (h0 : View) (hv : VLe h0 (Full w0)) (ho : CoL h0 ao outs) (hw : LR 28 1 RwR h0 aw.1 aw.2 rows) :
  Calls Tryz.prog 59 #[.slice ao.1 (colsO outs).length ao.2, .slice aw.1 rows.length aw.2] w0 (Ret w0 h0 fun u _ => u = .int .i64 (bestS outs rows rows.length : Nat)) := by
 have hlm := hw.lm
 have hcl := cols_len outs
 have hclm := slc_lm ho.1
 refine ent (args := [.slice ao.1 (colsO outs).length ao.2, .slice aw.1 rows.length aw.2]) TT_ok [1000010] [] Tryz.func59 rfl Tryz.ntmps59 rfl rfl hv ?_
 refine w_loop TT_ok (fun i : Nat => [(12, .v (.int .i64 i)), (5, .v (.int .i64 (bestS outs rows i : Nat)))]) 0 (fun i => i ≤ rows.length) (fun i => rows.length - i) ?_
 refine And.intro ⟨Nat.zero_le _, gs⟩ ?_
 intro i hi
 refine cnd (fun h1 => ?_) (fun h1 => ?_)
 ·have hil : i < rows.length := by omega
  have hbl : bestS outs rows i < rows.length := by have := best_le outs rows i; omega
  have eS : bestS outs rows (i + 1) = if ahF outs (rows.getD i []) (rows.getD (bestS outs rows i) []) < 0 then i else bestS outs rows i := rfl
  have eF : ahF outs (rows.getD i []) (rows.getD (bestS outs rows i) []) = firstE (ahC outs (rows.getD i []) (rows.getD (bestS outs rows i) [])) outs.length := rfl
  have li := hl _ (getD_mem rows i [] hil)
  have lb := hl _ (getD_mem rows (bestS outs rows i) [] hbl)
  have eC : ∀ k, ahC outs (rows.getD i []) (rows.getD (bestS outs rows i) []) k = cmpI (plc (outs.getD k co0).2 ((rows.getD i []).getD k v0)) (plc (outs.getD k co0).2 ((rows.getD (bestS outs rows i) []).getD k v0)) := fun k => rfl
  generalize bestS outs rows i = b at hbl eS eF lb eC ⊢
  refine w_loop TT_ok (fun k : Nat => [(17, .v (.int .i64 k)), (7, .v (.int .i64 (firstE (ahC outs (rows.getD i []) (rows.getD b [])) k)))]) 0 (fun k => k ≤ outs.length) (fun k => outs.length - k) ?_
  refine And.intro ⟨Nat.zero_le _, gs⟩ ?_
  intro k hk
  refine cnd (fun h2 => ?_) (fun h2 => ?_)
  ·have hkl : k < outs.length := by omega
   refine ixs ho.1 k c0 ?_ (by omega)
   rw [cols_get outs k hkl]
   have hor := ho.2 _ (getD_mem outs k co0 hkl)
   have eC := eC k
   have eN : firstE (ahC outs (rows.getD i []) (rows.getD b [])) (k + 1) = if firstE (ahC outs (rows.getD i []) (rows.getD b [])) k ≠ 0 then firstE (ahC outs (rows.getD i []) (rows.getD b [])) k else ahC outs (rows.getD i []) (rows.getD b []) k := rfl
   generalize outs.getD k co0 = p at hor eC ⊢
   intro b9
   refine cnd (fun h3 => ?_) (fun h3 => ?_)
   ·have h3 : firstE (ahC outs (rows.getD i []) (rows.getD b [])) k = 0 := h3
    rw [if_neg (fun hh => hh h3), eC] at eN
    refine regPh TT_ok [([0, 1, 2, 5, 9, 10, 11, 14, 3, 12, 4, 13, 6, 15, 7, 16], [8, 17, 18]), ([19], [])] [] ?_
    have hik : k < (rows.getD i []).length := by omega
    have hbk : k < (rows.getD b []).length := by omega
    refine ixL (R := RwR) hw i [] (fun cs hcs => ?_)
    obtain ⟨y1, rfl, g1⟩ := hcs
    refine ixL (R := RwR) hw b [] (fun cs hcs => ?_)
    obtain ⟨y2, rfl, g2⟩ := hcs
    refine ixs g1 k v0 ?_ (by omega)
    refine ixs g2 k v0 ?_ (by omega)
    refine kq ?_
    refine cb (fun w hw => c_hplace p _ w h0 hw hor) ?_
    refine kq ?_
    refine cb (fun w hw => c_hplace p _ w h0 hw hor) ?_
    refine kq ?_
    refine cl (c_CmpI _ _) ?_
    refine kq ?_
    refine kq ?_
    refine wi ?_
    exact ⟨k + 1, ⟨by omega, by omega⟩, gs (by rw [eN]; rfl)⟩
   ·have h3 : firstE (ahC outs (rows.getD i []) (rows.getD b [])) k ≠ 0 := h3
    rw [if_pos h3] at eN
    refine wi ?_
    exact ⟨k + 1, ⟨by omega, by omega⟩, gs (by rw [eN]; rfl)⟩
  ·obtain rfl : k = outs.length := by omega
   rw [← eF]
   refine cnd (fun h3 => ?_) (fun h3 => ?_)
   ·rw [if_pos h3] at eS
    refine wi ?_
    exact ⟨i + 1, ⟨by omega, by omega⟩, gs (by rw [eS]; rfl)⟩
   ·rw [if_neg h3] at eS
    refine wi ?_
    exact ⟨i + 1, ⟨by omega, by omega⟩, gs (by rw [eS]; rfl)⟩
 ·obtain rfl : i = rows.length := by omega
  exact rfl
set_option maxHeartbeats 4000000 in
theorem c_hMin (l : List Val) (ad : Option Addr) (cap : Nat) (hne : l ≠ []) (w0 : World) (h0 : View) (hv : VLe h0 (Full w0)) (hs : SlC 57 3 (flatR valC) h0 (.slice ad l.length cap) l) :
  Calls Tryz.prog 124 #[.slice ad l.length cap, .func (.func 88) #[] #[]] w0 (Ret w0 h0 fun u _ => u = .agg (valC (pkL (fun n => decide (n < 0)) l)).toArray) := by
 have hlm := slc_lm hs
 have hl1 : 1 ≤ l.length := by cases l with
  | nil => exact absurd rfl hne
  | cons x r => exact Nat.succ_le_succ (Nat.zero_le _)
 refine ent (args := [.slice ad l.length cap, .func (.func 88) #[] #[]]) TT_ok [1000007] [] Tryz.func124 rfl Tryz.ntmps124 rfl rfl hv ?_
 intro b4
 refine cnd (fun h => ?_) (fun _ => ?_)
 ·exfalso; omega
 refine ixs hs 0 v0 ?_
 have e0 : l.getD 0 v0 = pkL (fun n => decide (n < 0)) (l.take 1) := by cases l <;> rfl
 intro b5
 refine w_loopB TT_ok (fun k : Nat => [(6, .v (.int .i64 k))]) (fun k => [(5, .c b5 57 (valC (pkL (fun n => decide (n < 0)) (l.take k)))), (12, .k none (adB ad) (adO ad + 0 * 3) (valC (l.getD 0 v0))), (4, .c b4 57 (valC v0))]) 1 (fun k => 1 ≤ k ∧ k ≤ l.length) (fun k => l.length - k) ?_
 refine And.intro ⟨⟨Nat.le_refl _, hl1⟩, gs rfl (by rw [← e0]; rfl)⟩ ?_
 rintro k ⟨hk1, hk⟩
 refine cnd (fun h1 => ?_) (fun h1 => ?_)
 ·have hkl : k < l.length := by omega
  have hsn := pkL_snoc (fun n => decide (n < 0)) (l.take k) (l.getD k v0) (by
   intro e
   have := congrArg List.length e
   rw [List.length_take] at this
   have : min k l.length = 0 := this
   omega)
  rw [← take_snocD l k v0 hkl] at hsn
  generalize pkL (fun n => decide (n < 0)) (l.take k) = m at hsn ⊢
  refine regPh TT_ok [([0, 1, 2, 5, 3, 4], [6]), ([7], [])] [] ?_
  refine ixs hs k v0 ?_
  refine kq ?_
  refine cl (c_VCompare (l.getD k v0) m) ?_
  refine kq ?_
  refine kq ?_
  refine cnd (fun h2 => ?_) (fun h2 => ?_)
  ·rw [if_pos (decide_eq_true h2)] at hsn
   refine ixs hs k v0 ?_
   refine wi ?_
   exact ⟨k + 1, ⟨⟨by omega, hkl⟩, by omega⟩, gs rfl (by rw [hsn]; rfl)⟩
  ·rw [if_neg (by simpa using h2)] at hsn
   refine wi ?_
   exact ⟨k + 1, ⟨⟨by omega, hkl⟩, by omega⟩, gs rfl (by rw [hsn]; rfl)⟩
 ·obtain rfl : k = l.length := by omega
  rw [List.take_length]
  exact rfl
set_option maxHeartbeats 4000000 in
theorem c_hMax (l : List Val) (ad : Option Addr) (cap : Nat) (hne : l ≠ []) (w0 : World) (h0 : View) (hv : VLe h0 (Full w0)) (hs : SlC 57 3 (flatR valC) h0 (.slice ad l.length cap) l) :
  Calls Tryz.prog 125 #[.slice ad l.length cap, .func (.func 88) #[] #[]] w0 (Ret w0 h0 fun u _ => u = .agg (valC (pkL (fun n => decide (0 < n)) l)).toArray) := by
 have hlm := slc_lm hs
 have hl1 : 1 ≤ l.length := by cases l with
  | nil => exact absurd rfl hne
  | cons x r => exact Nat.succ_le_succ (Nat.zero_le _)
 refine ent (args := [.slice ad l.length cap, .func (.func 88) #[] #[]]) TT_ok [1000007] [] Tryz.func125 rfl Tryz.ntmps125 rfl rfl hv ?_
 intro b4
 refine cnd (fun h => ?_) (fun _ => ?_)
 ·exfalso; omega
 refine ixs hs 0 v0 ?_
 have e0 : l.getD 0 v0 = pkL (fun n => decide (0 < n)) (l.take 1) := by cases l <;> rfl
 intro b5
 refine w_loopB TT_ok (fun k : Nat => [(6, .v (.int .i64 k))]) (fun k => [(5, .c b5 57 (valC (pkL (fun n => decide (0 < n)) (l.take k)))), (12, .k none (adB ad) (adO ad + 0 * 3) (valC (l.getD 0 v0))), (4, .c b4 57 (valC v0))]) 1 (fun k => 1 ≤ k ∧ k ≤ l.length) (fun k => l.length - k) ?_
 refine And.intro ⟨⟨Nat.le_refl _, hl1⟩, gs rfl (by rw [← e0]; rfl)⟩ ?_
 rintro k ⟨hk1, hk⟩
 refine cnd (fun h1 => ?_) (fun h1 => ?_)
 ·have hkl : k < l.length := by omega
  have hsn := pkL_snoc (fun n => decide (0 < n)) (l.take k) (l.getD k v0) (by
   intro e
   have := congrArg List.length e
   rw [List.length_take] at this
   have : min k l.length = 0 := this
   omega)
  rw [← take_snocD l k v0 hkl] at hsn
  generalize pkL (fun n => decide (0 < n)) (l.take k) = m at hsn ⊢
  refine regPh TT_ok [([0, 1, 2, 5, 3, 4], [6]), ([7], [])] [] ?_
  refine ixs hs k v0 ?_
  refine kq ?_
  refine cl (c_VCompare (l.getD k v0) m) ?_
  refine kq ?_
  refine kq ?_
  refine cnd (fun h2 => ?_) (fun h2 => ?_)
  ·rw [if_pos (decide_eq_true h2)] at hsn
   refine ixs hs k v0 ?_
   refine wi ?_
   exact ⟨k + 1, ⟨⟨by omega, hkl⟩, by omega⟩, gs rfl (by rw [hsn]; rfl)⟩
  ·rw [if_neg (by simpa using h2)] at hsn
   refine wi ?_
   exact ⟨k + 1, ⟨⟨by omega, hkl⟩, by omega⟩, gs rfl (by rw [hsn]; rfl)⟩
 ·obtain rfl : k = l.length := by omega
  rw [List.take_length]
  exact rfl
end Go.Proofs.YtkkbnjomcgnkpaaGreat
set_option maxRecDepth 100000
namespace Go.Proofs.YtkkbnjomcgnkpaaGreat
open Go Go.Dx Go.RowKit
def uxS (rows : List (List Val)) (r0 : List Val) : Int := idxS (fun r => !decide (r = r0)) rows
theorem c_unlike1 (r : List Val) (a aw : AC) (rows : List (List Val)) (b : Nat) (h1 : 0 < rows.length) (w0 : World) (h0 : View) (hv : VLe h0 (Full w0)) (hr : SlC 57 3 (flatR valC) h0 (.slice a.1 r.length a.2) r) (hw : LR 28 1 RwR h0 aw.1 aw.2 rows) (hb : ∀ w, VLe h0 (Full w) → w.cell? ⟨b, 0, none⟩ = some (.slice aw.1 rows.length aw.2)) :
  Calls Tryz.prog 91 #[.slice a.1 r.length a.2, .pointer (some ⟨b, 0, none⟩)] w0 (Ret w0 h0 fun u _ => u = .bool (!decide (r = rows.getD 0 []))) := by
 refine ent (args := [.slice a.1 r.length a.2, .pointer (some ⟨b, 0, none⟩)]) TT_ok [] [] Tryz.func91 rfl Tryz.ntmps91 rfl rfl hv ?_
 refine ew (.slice aw.1 rows.length aw.2) (fun v' w h1 _ h3 => hb w (h1.trans h3)) ?_
 refine ixL (R := RwR) hw 0 [] (fun cs hcs => ?_)
 generalize rows.getD 0 [] = r0 at hcs ⊢
 obtain ⟨y, rfl, g⟩ := hcs
 refine cb (fun w hw => c_HEqV r r0 a y w h0 hw hr g) ?_
 exact rfl
set_option maxHeartbeats 1000000 in
theorem c_IndexU (rows : List (List Val)) (aw : AC) (b : Nat) (w0 : World) (h0 : View) (hv : VLe h0 (Full w0)) (hw : LR 28 1 RwR h0 aw.1 aw.2 rows) (hb : ∀ w, VLe h0 (Full w) → w.cell? ⟨b, 0, none⟩ = some (.slice aw.1 rows.length aw.2)) :
  Calls Tryz.prog 126 #[.slice aw.1 rows.length aw.2, .func (.func 91) #[] #[.pointer (some ⟨b, 0, none⟩)]] w0 (Ret w0 h0 fun u _ => u = .int .i64 (uxS rows (rows.getD 0 []))) := by
 have hlm := hw.lm
 refine ent (args := [.slice aw.1 rows.length aw.2, .func (.func 91) #[] #[.pointer (some ⟨b, 0, none⟩)]]) TT_ok [] [] Tryz.func126 rfl Tryz.ntmps126 rfl rfl hv ?_
 refine w_loop TT_ok (fun k : Nat => [(8, .v (.int .i64 k))]) 0 (fun k => k ≤ rows.length ∧ ∀ j, j < k → (fun r : List Val => !decide (r = rows.getD 0 [])) (rows.getD j []) = false) (fun k => rows.length - k) ?_
 refine And.intro ⟨⟨Nat.zero_le _, fun j hj => absurd hj (Nat.not_lt_zero j)⟩, gs⟩ ?_
 intro k ⟨hk, hn⟩
 refine cnd (fun h => ?_) (fun h => ?_)
 ·refine ixL (R := RwR) hw k [] (fun cs hcs => ?_)
  have hun := fun h => upto_snoc hn h
  have hhit := fun h => idx_hit (p := fun r : List Val => !decide (r = rows.getD 0 [])) (l := rows) [] (by omega) hn h
  obtain ⟨y, rfl, g⟩ := hcs
  refine cb (fun w hw' => c_unlike1 (rows.getD k []) y aw rows b (by omega) w h0 hw' g hw hb) ?_
  refine cnd (fun h4 => ?_) (fun h4 => ?_)
  ·exact congrArg (Value.int .i64) (hhit (by show (!decide _) = true; rw [decide_eq_false h4]; rfl)).symm
  ·refine wi ?_
   exact ⟨k + 1, ⟨⟨by omega, hun (by show (!decide _) = false; rw [decide_eq_true h4]; rfl)⟩, by omega⟩, gs⟩
 ·exact congrArg (Value.int .i64) (idx_none (p := fun r : List Val => !decide (r = rows.getD 0 [])) [] (fun j hj => hn j (by omega))).symm
theorem c_ContainsU (rows : List (List Val)) (aw : AC) (b : Nat) (w0 : World) (h0 : View) (hv : VLe h0 (Full w0)) (hw : LR 28 1 RwR h0 aw.1 aw.2 rows) (hb : ∀ w, VLe h0 (Full w) → w.cell? ⟨b, 0, none⟩ = some (.slice aw.1 rows.length aw.2)) :
  Calls Tryz.prog 90 #[.slice aw.1 rows.length aw.2, .func (.func 91) #[] #[.pointer (some ⟨b, 0, none⟩)]] w0 (Ret w0 h0 fun u _ => u = .bool (unlikeS rows)) := by
 refine ent (args := [.slice aw.1 rows.length aw.2, .func (.func 91) #[] #[.pointer (some ⟨b, 0, none⟩)]]) TT_ok [] [] Tryz.func90 rfl Tryz.ntmps90 rfl rfl hv ?_
 refine cb (fun w hw' => c_IndexU rows aw b w h0 hw' hw hb) ?_
 refine congrArg Value.bool ?_
 unfold uxS unlikeS idxS
 rw [← List.findIdx?_isSome]
 cases h : List.findIdx? (fun r => !decide (r = rows.getD 0 [])) rows with
 | none => rfl
 | some i => show decide ((0 : Int) ≤ (i : Int)) = true; simp
theorem c_unlike (rows : List (List Val)) (aw : AC) (w0 : World) (h0 : View) (hv : VLe h0 (Full w0)) (hw : LR 28 1 RwR h0 aw.1 aw.2 rows) :
  Calls Tryz.prog 58 #[.slice aw.1 rows.length aw.2] w0 (Ret w0 h0 fun u _ => u = .bool (unlikeS rows)) := by
 refine ent (args := [.slice aw.1 rows.length aw.2]) TT_ok [] [] Tryz.func58 rfl Tryz.ntmps58 rfl rfl hv ?_
 intro b1
 refine co (fun w hS => c_ContainsU rows aw b1 w (Full w) (VLe.refl _) (LR.mono (R := RwR) rwR_m hS.st.base hw) (fun w2 hw2 => (cell_row (hw2 _ _ (hS.wok.own 1 _ _ _ rfl))).trans rfl)) ?_
 exact rfl
def madeV (a : Int) (rows : List (List Val)) : Val × Int := if a = 4 then (⟨1, rows.length, []⟩, 0) else if a = 1 then sumV (keptV rows) else (pkL (agP a) (keptV rows), 0)
theorem agP_2 : agP 2 = fun n => decide (n < 0) := rfl
theorem agP_m {a : Int} (h : a ≠ 2) : agP a = fun n => decide (0 < n) := by funext n; unfold agP; rw [if_neg h]
set_option maxHeartbeats 4000000 in
theorem c_hmade (ag : Int) (rows : List (List Val)) (b : AC) (hrl : rows.length ≤ 1000001) (hvb : ∀ r ∈ rows, ∀ v ∈ r, valB v) (hr1 : ∀ r ∈ rows, 1 ≤ r.length) (w0 : World) (h0 : View) (hv : VLe h0 (Full w0)) (hs : LR 28 1 RwR h0 b.1 b.2 rows) :
  Calls Tryz.prog 89 #[.int .i64 ag, .slice b.1 rows.length b.2] w0 (Ret w0 h0 fun u _ => u = evR (madeV ag rows)) := by
 have e4 : ag = 4 → madeV ag rows = (⟨1, rows.length, []⟩, 0) := fun h => if_pos h
 have e1 : ag ≠ 4 → ag = 1 → madeV ag rows = sumV (keptV rows) := fun h h2 => by rw [madeV, if_neg h, if_pos h2]
 have e2 : ag ≠ 4 → ag ≠ 1 → madeV ag rows = (pkL (agP ag) (keptV rows), 0) := fun h h2 => by rw [madeV, if_neg h, if_neg h2]
 generalize madeV ag rows = q at e4 e1 e2 ⊢
 refine ent (args := [.int .i64 ag, .slice b.1 rows.length b.2]) TT_ok [36, 48, 50] [] Tryz.func89 rfl Tryz.ntmps89 rfl rfl hv ?_
 intro b4
 refine nilC 900 57 3 ?_
 refine w_loopB TT_ok (fun z : (Option Addr × Nat × Nat) × Nat => [(11, .v (.int .i64 z.2)), (6, .v (.slice z.1.1 z.1.2.1 z.1.2.2))]) (fun z => [(900, .e (bufE 57 3 (.slice z.1.1 z.1.2.1 z.1.2.2) ((keptV (rows.take z.2)).map valC).flatten)), (4, .c b4 57 (valC v0))]) ((none, 0, 0), 0) (fun z => z.2 ≤ rows.length ∧ z.1.2.1 = (keptV (rows.take z.2)).length) (fun z => rows.length - z.2) ?_
 refine And.intro ⟨⟨Nat.zero_le _, rfl⟩, gs⟩ ?_
 rintro ⟨⟨a1, n1, c1⟩, k⟩ ⟨hk, hn1⟩
 dsimp only at hk hn1 ⊢
 refine cnd (fun h1 => ?_) (fun h1 => ?_)
 ·have hkl : k < rows.length := by omega
  have hks := kept_snoc rows k hkl
  have hkb := kept_le rows k
  have hr := hr1 _ (getD_mem rows k [] hkl)
  refine ixL (R := RwR) hs k [] (fun cs hcs => ?_)
  generalize rows.getD k [] = r at hks hr hcs ⊢
  obtain ⟨y, rfl, hy⟩ := hcs
  refine ixs hy 0 v0 ?_ (by omega)
  refine cnd (fun h2 => ?_) (fun h2 => ?_)
  ·have h2 : (r.getD 0 v0).k ≠ 0 := h2
   rw [if_pos h2] at hks
   refine ixs hy 0 v0 ?_ (by omega)
   intro b24
   refine ap TT_ok 900 (AppT.of (bytes := 32) (sz := 2) (by kernel_rfl) (by kernel_rfl) (by kernel_rfl)) rfl rfl rfl rfl rfl rfl rfl (by rw [row_flat (sz := 3) (fun _ => rfl)]; show (_ + 3) * 33 ≤ _; omega) (fun a3 n3 c3 e3 => ?_)
   have hn3 : n3 = (keptV (rows.take (k + 1))).length := by
    rw [row_flat (sz := 3) (fun _ => rfl)] at e3
    have e3 : n3 * 3 = (keptV (rows.take k)).length * 3 + 3 := e3
    rw [hks, List.length_append]; show n3 = _ + 1; omega
   refine wi ?_
   exact ⟨((a3, n3, c3), k + 1), ⟨⟨hkl, hn3⟩, by show rows.length - (k + 1) < rows.length - k; omega⟩, gs rfl (by rw [hks, List.map_append, List.flatten_append]; rfl)⟩
  ·have h2 : (r.getD 0 v0).k = 0 := by simpa using h2
   rw [if_neg (fun hh => hh h2)] at hks
   refine wi ?_
   exact ⟨((a1, n1, c1), k + 1), ⟨⟨hkl, by rw [hks]; exact hn1⟩, by show rows.length - (k + 1) < rows.length - k; omega⟩, gs rfl (by rw [hks]; rfl)⟩
 ·obtain rfl : k = rows.length := by omega
  rw [List.take_length] at hn1 ⊢
  have hkl := kept_le rows rows.length
  rw [List.take_length] at hkl
  have hkv := kept_vb hvb
  subst hn1
  refine cnd (fun h2 => ?_) (fun h2 => ?_)
  ·rw [e4 h2]; exact rfl
  have h4 : ag ≠ 4 := h2
  refine cnd (fun h2 => ?_) (fun h2 => ?_)
  ·rw [e1 h4 h2]
   refine And.intro rfl ?_
   refine sealW (g := valC) (l := keptV rows) 900 rfl rfl ?_
   refine goW TT_ok ?_
   refine cf (fun w v h1 h2 h3 => c_hsum (keptV rows) (a1, c1) hkv w v h3 h2.2) ?_
   exact rfl
  have h1 : ag ≠ 1 := h2
  rw [e2 h4 h1]
  generalize keptV rows = l at hkl hkv ⊢
  refine cnd (fun h2 => ?_) (fun h2 => ?_)
  ·have : l = [] := List.eq_nil_of_length_eq_zero (by omega)
   rw [this]; exact rfl
  have hne : l ≠ [] := fun hh => by rw [hh] at h2; exact h2 rfl
  refine cnd (fun h3 => ?_) (fun h3 => ?_)
  ·have h3 : ag = 2 := h3
   subst h3
   rw [agP_2]
   refine And.intro rfl ?_
   refine sealW (g := valC) (l := l) 900 rfl rfl ?_
   refine goW TT_ok ?_
   refine cf (fun w v h1 h2 h3 => c_hMin l a1 c1 hne w v h3 h2.2) ?_
   exact rfl
  ·rw [agP_m h3]
   refine And.intro rfl ?_
   refine sealW (g := valC) (l := l) 900 rfl rfl ?_
   refine goW TT_ok ?_
   refine cf (fun w v h1 h2 h3 => c_hMax l a1 c1 hne w v h3 h2.2) ?_
   exact rfl
set_option maxHeartbeats 2000000 in
theorem c_hcollect (ag : Int) (hag : ag ≠ 0) (rules : List Nat) (rows : List (List Val)) (ar aw : AC) (hrl : rows.length ≤ 1000001) (hvb : ∀ r ∈ rows, ∀ v ∈ r, valB v) (hr1 : ∀ r ∈ rows, 1 ≤ r.length) (w0 : World) (h0 : View) (hv : VLe h0 (Full w0))
  (hru : SlC 3 1 (flatR nC) h0 (.slice ar.1 rules.length ar.2) rules) (hrw : LR 28 1 RwR h0 aw.1 aw.2 rows) :
  Calls Tryz.prog 57 #[.int .i64 ag, .slice ar.1 rules.length ar.2, .slice aw.1 rows.length aw.2] w0 (Ret w0 h0 fun u hh => ∃ z : AC × AC, u = ouV (collF ag rules rows) z ∧ OutH hh (collF ag rules rows) z.1 z.2) := by
 have e0 : collF ag rules rows = if (madeV ag rows).2 ≠ 0 then ⟨(madeV ag rows).2, ints rules, []⟩ else ⟨0, ints rules, [[(madeV ag rows).1]]⟩ := by
  unfold collF madeV
  rw [if_neg hag]
  by_cases h4 : ag = 4
  ·rw [if_pos h4, if_pos h4]; rfl
  ·rw [if_neg h4, if_neg h4]
   by_cases h1 : ag = 1
   ·rw [if_pos h1, if_pos h1]; rfl
   ·rw [if_neg h1, if_neg h1]; rfl
 have e1 : (madeV ag rows).2 ≠ 0 → collF ag rules rows = ⟨(madeV ag rows).2, ints rules, []⟩ := fun h => by rw [e0, if_pos h]
 have e2 : (madeV ag rows).2 = 0 → collF ag rules rows = ⟨0, ints rules, [[(madeV ag rows).1]]⟩ := fun h => by rw [e0, if_neg (fun hh => hh h)]
 clear e0
 generalize collF ag rules rows = o at e1 e2 ⊢
 refine entA (args := [.int .i64 ag, .slice ar.1 rules.length ar.2, .slice aw.1 rows.length aw.2]) TT_ok [30, 31] [] Tryz.func57 rfl Tryz.ntmps57 rfl rfl hv (fun z => out_m _ _ _) ?_
 intro b6
 refine cnd (fun h2 => absurd h2 hag) (fun _ => ?_)
 refine cb (fun w hw => c_hmade ag rows aw hrl hvb hr1 w h0 hw hrw) ?_
 generalize madeV ag rows = p at e1 e2 ⊢
 intro b7
 refine cnd (fun h => ?_) (fun h => ?_)
 ·have h : p.2 ≠ 0 := h
  rw [e1 h]
  exact ⟨(ar, none, 0), by rw [ouV, ouC_ints]; rfl, fun v hle _ => ⟨nslL (hru.monoF hle), LR.nil v⟩⟩
 have h : p.2 = 0 := by simpa using h
 rw [e2 h]
 intro b29
 refine And.intro rfl ?_
 refine shutW 29 (row_sl (g := valC) (l := [p.1]) (sz := 3) (n := 1) (cp := 1) rfl) ?_ Mono.slF
 refine goW TT_ok ?_
 intro b30
 refine And.intro rfl ?_
 refine shutW 30 (row_sl (g := rwC) (l := [(([p.1], some ⟨b29, 0, none⟩, 1) : RwQ)]) (sz := 1) (n := 1) (cp := 1) rfl) ?_ Mono.slF
 refine goW TT_ok ?_
 exact ⟨(ar, some ⟨b30, 0, none⟩, 1), by rw [ouV, ouC_ints]; rfl, fun v hle hF => ⟨nslL (hru.monoF hle), lr_one hF.2 ⟨(some ⟨b29, 0, none⟩, 1), rfl, hF.1.2⟩⟩⟩
theorem lenc {rules : List Nat} {ar : AC} {h : View} (hru : SlC 3 1 (flatR nC) h (.slice ar.1 rules.length ar.2) rules) : rules.length ≤ ar.2 := by
 obtain ⟨_, _, e, hh, _⟩ := hru.parts
 cases e; exact hh
set_option maxHeartbeats 8000000 in
theorem c_choose (t : Tab) (a : TA) (ar aw : AC) (rules : List Nat) (rows : List (List Val)) (hpol : ¬ (t.pol = 5 ∧ t.agg = 0)) (hlen : rules.length = rows.length) (hrl : rows.length ≤ 1000001) (hro : ∀ r ∈ rows, r.length = t.outs.length) (ho1 : 1 ≤ t.outs.length) (hvb : ∀ r ∈ rows, ∀ v ∈ r, valB v) (w0 : World) (h0 : View) (hv : VLe h0 (Full w0))
  (hc : CoL h0 a.o t.outs) (hru : SlC 3 1 (flatR nC) h0 (.slice ar.1 rules.length ar.2) rules) (hrw : LR 28 1 RwR h0 aw.1 aw.2 rows) :
  Calls Tryz.prog 33 #[.agg (tabC t a).toArray, .slice ar.1 rules.length ar.2, .slice aw.1 rows.length aw.2] w0 (Ret w0 h0 fun u hh => ∃ z : AC × AC, u = ouV (chooseF t rules rows) z ∧ OutH hh (chooseF t rules rows) z.1 z.2) := by
 have e5 : t.pol = 5 → chooseF t rules rows = collF t.agg rules rows := fun h => if_pos h
 have e4 : t.pol = 4 → chooseF t rules rows = anyF rules rows := fun h => by rw [chooseF, if_neg (by omega), if_pos h]
 have e6 : t.pol = 6 → chooseF t rules rows = ⟨0, ints rules, rows⟩ := fun h => by rw [chooseF, if_neg (by omega), if_neg (by omega), if_pos h]
 have e3 : t.pol = 3 → chooseF t rules rows = oneO rules rows (bestS t.outs rows rows.length) := fun h => by rw [chooseF, if_neg (by omega), if_neg (by omega), if_neg (by omega), if_pos h]
 have e1 : t.pol ≠ 5 → t.pol ≠ 4 → t.pol ≠ 6 → t.pol ≠ 3 → chooseF t rules rows = oneO rules rows 0 := fun h h' h2 h3 => by rw [chooseF, if_neg h, if_neg h', if_neg h2, if_neg h3]
 have hcr := lenc hru
 have hcw := lr_cap hrw
 have hmw : ∀ v, VLe h0 v → LR 28 1 RwR v aw.1 aw.2 rows := fun v hle => LR.mono (R := RwR) rwR_m hle hrw
 have hbl := best_le t.outs rows rows.length
 generalize chooseF t rules rows = o at e5 e4 e6 e3 e1 ⊢
 refine entA (args := [.agg (tabC t a).toArray, .slice ar.1 rules.length ar.2, .slice aw.1 rows.length aw.2]) TT_ok [1000015] [] Tryz.func33 rfl Tryz.ntmps33 rfl rfl hv (fun z => out_m _ _ _) ?_
 intro b3 b6
 refine cnd (fun h => ?_) (fun h => ?_)
 ·have h : t.pol = 5 := h
  rw [e5 h]
  refine cA TT_ok (fun w v h1 h2 h3 => c_hcollect t.agg (fun hh => hpol ⟨h, hh⟩) rules rows ar aw hrl hvb (fun r hr => by rw [hro r hr]; exact ho1) w v h3 (hru.monoF h1) (hmw v h1)) (fun z => out_m _ _ _) (fun z => ?_)
  exact ⟨z, rfl, fun v _ hF => hF.2⟩
 have h5 : t.pol ≠ 5 := h
 refine cnd (fun h => ?_) (fun h => ?_)
 ·have h : t.pol = 4 := h
  rw [e4 h, anyF]
  refine cb (fun w hw => c_unlike rows aw w h0 hw hrw) ?_
  refine cnd (fun h2 => ?_) (fun h2 => ?_)
  ·rw [if_pos h2]
   exact ⟨(ar, (none, 0)), by rw [ouV, ouC_ints]; rfl, fun v hle _ => ⟨nslL (hru.monoF hle), LR.nil v⟩⟩
  ·rw [if_neg (by rw [h2]; decide)]
   refine ⟨((min rows.length 1 : Nat) : Int), ?_, ?_⟩
   ·show (if (1 : Int) < (rows.length : Int) then (1 : Int) else (rows.length : Int)) = ((min rows.length 1 : Nat) : Int)
    split <;> omega
   refine ⟨min rows.length 1, ⟨rfl, by omega⟩, ?_⟩
   have hl2 : (rows.take 1).length = min rows.length 1 := by rw [List.length_take]; omega
   exact ⟨(ar, aw), by rw [ouV, ouC_ints, hl2]; rfl, fun v hle _ => ⟨nslL (hru.monoF hle), by
    have := LR.take (n := 0) (k := min rows.length 1) (hmw v hle) (by omega)
    rw [show rows.take (min rows.length 1) = rows.take 1 by rw [Nat.min_comm, ← List.take_take, List.take_length]] at this
    exact this⟩⟩
 have h4 : t.pol ≠ 4 := h
 refine cnd (fun h => ?_) (fun h => ?_)
 ·have h : t.pol = 6 := h
  rw [e6 h]
  exact ⟨(ar, aw), by rw [ouV, ouC_ints]; rfl, fun v hle _ => ⟨nslL (hru.monoF hle), hmw v hle⟩⟩
 have h6 : t.pol ≠ 6 := h
 refine cnd (fun h => ?_) (fun h => ?_)
 ·have h : t.pol = 3 := h
  rw [e3 h]
  refine cb (fun w hw => c_hfirst t.outs rows a.o aw hro w h0 hw hc hrw) ?_
  generalize bestS t.outs rows rows.length = at' at hbl ⊢
  refine cnd (fun h => ?_) (fun h => ?_)
  ·rw [oneO, if_pos (List.eq_nil_of_length_eq_zero (by omega))]
   exact ⟨((none, 0), (none, 0)), rfl, fun v _ _ => ⟨SlC.nil (by simp [maxLen]), LR.nil v⟩⟩
  have hne : 0 < rules.length := by omega
  have hone : oneO rules rows (at') = ⟨0, ints ((rules.drop (at')).take 1), (rows.drop (at')).take 1⟩ := if_neg (fun hh => by rw [hh] at hne; exact absurd hne (by decide))
  have hl1 : ((rules.drop (at')).take 1).length = 1 := by rw [List.length_take, List.length_drop]; omega
  have hl2 : ((rows.drop (at')).take 1).length = 1 := by rw [List.length_take, List.length_drop]; omega
  rw [hone]
  refine regPh TT_ok [([0, 1, 2, 5, 6, 7, 3, 8, 4, 9, 10], [11])] [6] ?_
  refine wi ?_
  refine wi ?_
  refine sl2 (at') (at' + 1) ?_
  refine sl2 (at') (at' + 1) ?_
  rw [show at' + 1 - (at') = 1 by omega]
  refine kq ?_
  refine kq ?_
  have h1 : ∀ v, VLe h0 v → SlC 3 1 (flatR nC) v (.slice (if ar.2 = at' then ar.1 else ar.1.map (·.add ((at') * 1))) ((rules.drop (at')).take 1).length (ar.2 - (at'))) ((rules.drop (at')).take 1) := fun v hle => by
   rw [hl1]; exact ((hru.monoF hle).drop (k := at') (by omega)).take (k := 1) (by rw [List.length_drop]; omega)
  refine ⟨((if ar.2 = at' then ar.1 else ar.1.map (·.add ((at') * 1)), ar.2 - (at')), (if aw.2 = at' then aw.1 else aw.1.map (·.add ((at') * 1)), aw.2 - (at'))), ?_, fun v hle _ => ⟨nslL (h1 v hle), LR.take (n := 0) (k := 1) ((hmw v hle).drop (k := at') (by omega)) (by rw [List.length_drop]; omega)⟩⟩
  rw [ouV, ouC_ints, hl1, hl2]; rfl
 have h3 : t.pol ≠ 3 := h
 rw [e1 h5 h4 h6 h3]
 refine cnd (fun h => ?_) (fun h => ?_)
 ·rw [oneO, if_pos (List.eq_nil_of_length_eq_zero (by omega))]
  exact ⟨((none, 0), (none, 0)), rfl, fun v _ _ => ⟨SlC.nil (by simp [maxLen]), LR.nil v⟩⟩
 have hne : 0 < rules.length := by omega
 have hone : oneO rules rows (0) = ⟨0, ints ((rules.drop (0)).take 1), (rows.drop (0)).take 1⟩ := if_neg (fun hh => by rw [hh] at hne; exact absurd hne (by decide))
 have hl1 : ((rules.drop (0)).take 1).length = 1 := by rw [List.length_take, List.length_drop]; omega
 have hl2 : ((rows.drop (0)).take 1).length = 1 := by rw [List.length_take, List.length_drop]; omega
 rw [hone]
 refine regPh TT_ok [([0, 1, 2, 5, 6, 7, 3, 8, 4, 9, 10], [11])] [6] ?_
 refine wi ?_
 refine wi ?_
 refine sl2 (0) (0 + 1) ?_
 refine sl2 (0) (0 + 1) ?_
 refine kq ?_
 refine kq ?_
 have h1 : ∀ v, VLe h0 v → SlC 3 1 (flatR nC) v (.slice (if ar.2 = 0 then ar.1 else ar.1.map (·.add ((0) * 1))) ((rules.drop (0)).take 1).length (ar.2 - (0))) ((rules.drop (0)).take 1) := fun v hle => by
  rw [hl1]; exact ((hru.monoF hle).drop (k := 0) (by omega)).take (k := 1) (by rw [List.length_drop]; omega)
 refine ⟨((if ar.2 = 0 then ar.1 else ar.1.map (·.add ((0) * 1)), ar.2 - (0)), (if aw.2 = 0 then aw.1 else aw.1.map (·.add ((0) * 1)), aw.2 - (0))), ?_, fun v hle _ => ⟨nslL (h1 v hle), LR.take (n := 0) (k := 1) ((hmw v hle).drop (k := 0) (by omega)) (by rw [List.length_drop]; omega)⟩⟩
 rw [ouV, ouC_ints, hl1, hl2]; rfl
end Go.Proofs.YtkkbnjomcgnkpaaGreat
set_option maxRecDepth 100000
namespace Go.Proofs.YtkkbnjomcgnkpaaGreat
open Go Go.Dx Go.RowKit
theorem c_collect0 (rules : List Nat) (ar : AC) (cp : Nat) (ad : Option Addr) (n : Nat) (s : List RwQ) (hn : n = s.length) (hn1 : n < 40) (w0 : World) (h0 : View) (hv : VLe h0 (Full w0)) (hrow : RowsF h0 s) (hno : ∀ b ∈ ids (oes (rwJ cp ad n s)), h0 b = none) (ho : OwnJ w0 (oes (rwJ cp ad n s))) :
  Calls Tryz.prog 57 #[.int .i64 0, .slice ar.1 rules.length ar.2, .slice ad n cp] w0 (RetJ (rwJ cp ad n) s w0 fun u s' => u = .agg #[.int .i64 0, .slice ar.1 rules.length ar.2, .slice ad n cp] ∧ (s'.Perm s ∧ Srt ltQ s')) := by
 refine entJ (rwJ cp ad n) s (g := fun _ => .agg #[.int .i64 0, .slice ar.1 rules.length ar.2, .slice ad n cp]) (Ψ := fun s' => s'.Perm s ∧ Srt ltQ s') (args := [.int .i64 0, .slice ar.1 rules.length ar.2, .slice ad n cp]) TT_ok [] [] [.v (.int .i64 0), .v (.slice ar.1 rules.length ar.2), .v (.slice ad n cp)] Tryz.func57 rfl Tryz.ntmps57 rfl rfl hv hno ho rfl ?_
 intro b6
 refine cnd (fun _ => ?_) (fun h => absurd rfl h)
 refine cJ TT_ok (rwJ cp ad n) s (g := fun _ => .tuple #[]) (fun w v h1 h2 h3' h4' h5 => c_SortStable cp ad n s hn hn1 w v h3' (fun q hq => (hrow q hq).monoF h1) h4' h5) ?_ (hl := ⟨rfl, trivial⟩)
 rintro l ⟨p, q⟩
 exact ⟨l, rfl, ⟨p, q⟩, rfl, rfl, trivial⟩
set_option maxHeartbeats 1000000 in
theorem c_choose0 (t : Tab) (a : TA) (h5 : t.pol = 5) (hag : t.agg = 0) (rules : List Nat) (ar : AC) (cp : Nat) (ad : Option Addr) (n : Nat) (s : List RwQ) (hn : n = s.length) (hn1 : n < 40) (w0 : World) (h0 : View) (hv : VLe h0 (Full w0)) (hrow : RowsF h0 s) (hno : ∀ b ∈ ids (oes (rwJ cp ad n s)), h0 b = none) (ho : OwnJ w0 (oes (rwJ cp ad n s))) :
  Calls Tryz.prog 33 #[.agg (tabC t a).toArray, .slice ar.1 rules.length ar.2, .slice ad n cp] w0 (RetJ (rwJ cp ad n) s w0 fun u s' => u = .agg #[.int .i64 0, .slice ar.1 rules.length ar.2, .slice ad n cp] ∧ (s'.Perm s ∧ Srt ltQ s')) := by
 obtain ⟨nm, i, o, p, g, rl⟩ := t
 dsimp only at h5 hag
 subst h5 hag
 refine entJ (rwJ cp ad n) s (g := fun _ => .agg #[.int .i64 0, .slice ar.1 rules.length ar.2, .slice ad n cp]) (Ψ := fun s' => s'.Perm s ∧ Srt ltQ s') (args := [.agg (tabC ⟨nm, i, o, 5, 0, rl⟩ a).toArray, .slice ar.1 rules.length ar.2, .slice ad n cp]) TT_ok [] [] [.v (.agg (tabC ⟨nm, i, o, 5, 0, rl⟩ a).toArray), .v (.slice ar.1 rules.length ar.2), .v (.slice ad n cp)] Tryz.func33 rfl Tryz.ntmps33 rfl rfl hv hno ho rfl ?_
 intro b3 b6
 refine cnd (fun _ => ?_) (fun h => absurd rfl h)
 refine cJ TT_ok (rwJ cp ad n) s (g := fun _ => .agg #[.int .i64 0, .slice ar.1 rules.length ar.2, .slice ad n cp]) (fun w v h1 h2 h3' h4' h5 => c_collect0 rules ar cp ad n s hn hn1 w v h3' (fun q hq => (hrow q hq).monoF h1) h4' h5) ?_ (hl := ⟨rfl, trivial⟩)
 rintro l ⟨p, q⟩
 exact ⟨l, rfl, ⟨p, q⟩, rfl, rfl, trivial⟩
set_option maxHeartbeats 4000000 in
theorem c_toldO (r : Rdy) (a : TA) (x b c : AC) (row : List Val) (rules : List Nat) (hb : RdyB r) (hrl : rules.length ≤ 1000001) (hri : ∀ i ∈ rules, i < r.ls.length) (hvb : ∀ v ∈ row, valB v) (w0 : World) (h0 : View) (hv : VLe h0 (Full w0)) (hr : RdyH h0 r a x)
  (hrow : SlC 57 3 (flatR valC) h0 (.slice b.1 row.length b.2) row) (hru : SlC 3 1 (flatR nC) h0 (.slice c.1 rules.length c.2) rules)
  (hall : ∀ i ∈ rules, badT r row i = false) :
  Calls Tryz.prog 32 #[.agg (rdyC r a x).toArray, .slice c.1 rules.length c.2, .slice b.1 row.length b.2] w0 (RetOw w0 h0 (fun z : LpG RwQ => .tuple #[.slice z.a z.es.length z.c, .int .i64 0, .int .i64 0]) (fun z => bufE 28 1 (.slice z.a z.es.length z.c) (z.es.map rwC).flatten) fun z h => RwF z.es h ∧ z.es.map (·.1) = rules.map (tellV r row)) := by
 have hbl := hb.ls
 have hci := cols_len r.t.ins
 have hbi := hb.ins
 refine entOw (g := fun z : LpG RwQ => .tuple #[.slice z.a z.es.length z.c, .int .i64 0, .int .i64 0]) (oe := fun z : LpG RwQ => bufE 28 1 (.slice z.a z.es.length z.c) (z.es.map rwC).flatten) (Φ := fun z h => RwF z.es h ∧ z.es.map (·.1) = rules.map (tellV r row)) (args := [.agg (rdyC r a x).toArray, .slice c.1 rules.length c.2, .slice b.1 row.length b.2]) TT_ok [6, 53] [] Tryz.func32 rfl Tryz.ntmps32 rfl rfl hv (fun z => fun _ _ hle hx => ⟨rwf_m _ _ _ hle hx.1, hx.2⟩) ?_
 intro b3
 refine And.intro rfl ?_
 refine goW TT_ok ?_
 refine nilC 900 28 1 ?_
 refine w_loopF TT_ok (fun z : LpG RwQ => [(19, .v (.int .i64 z.k)), (9, .v (.slice z.a z.n z.c))]) (fun z => [(900, .e (bufE 28 1 (.slice z.a z.n z.c) (z.es.map rwC).flatten)), (3, .c b3 34 (rdyC r a x))])
  (fun z v => RwF z.es v) ⟨none, 0, 0, [], 0⟩ (fun z => z.k ≤ rules.length ∧ z.n = z.es.length ∧ z.es.map (·.1) = (rules.take z.k).map (tellV r row) ∧ ∀ j, j < z.k → badT r row (rules.getD j 0) = false) (fun z => rules.length - z.k) (fun z => rwf_m z.es) ?_
 refine And.intro ⟨⟨Nat.zero_le _, rfl, rfl, fun j hj => absurd hj (Nat.not_lt_zero j)⟩, gs (fv := fun v _ q hq => absurd hq List.not_mem_nil)⟩ ?_
 rintro ⟨a1, n1, c1, es, k⟩ ⟨hk, hn1, hes, hz⟩
 dsimp only at hk hn1 hes hz ⊢
 refine cnd (fun h1 => ?_) (fun h1 => ?_)
 ·have hkl : k < rules.length := by omega
  have hel := es_len hes hk
  have htm := fun g => take_map (f := tellV r row) (γ := AC) (g := g) 0 hes hkl
  have hil := hri _ (getD_mem rules k 0 hkl)
  have him := getD_mem rules k 0 hkl
  refine ixs hru k 0 ?_
  have hkk : badT r row (rules.getD k 0) = false → ∀ j, j < k + 1 → badT r row (rules.getD j 0) = false := fun h => upto_snoc hz h
  generalize rules.getD k 0 = i at htm hil him hkk ⊢
  have hg := getD_line hb hil
  have hE : tellE r row i = firstE (fun k => (evalS (colsO r.t.ins) row ((r.ls.getD i lin0).os.getD k ex0)).2) (r.ls.getD i lin0).os.length := rfl
  have hV : tellV r row i = (r.ls.getD i lin0).os.map fun x => (evalS (colsO r.t.ins) row x).1 := rfl
  have hB : badT r row i = decide (tellE r row i ≠ 0) := rfl
  refine ixL (R := LinR) hr.l i lin0 (fun cs hcs => ?_)
  generalize r.ls.getD i lin0 = ln at hg hE hV hcs
  obtain ⟨la, lb, rfl, hlin⟩ := hcs
  have hos := hg.2.1
  refine nilC 901 57 3 ?_
  refine w_loopF TT_ok (fun z : (Option Addr × Nat × Nat) × Nat => [(30, .v (.int .i64 z.2)), (12, .v (.slice z.1.1 z.1.2.1 z.1.2.2))]) (fun z => [(901, .e (bufE 57 3 (.slice z.1.1 z.1.2.1 z.1.2.2) (((ln.os.take z.2).map fun x => (evalS (colsO r.t.ins) row x).1).map valC).flatten)), (26, .k none (adB x.1) (adO x.1 + i * 2) (liC ln la lb)), (21, .k none (adB c.1) (adO c.1 + k * 1) (nC i)), (900, .e (bufE 28 1 (.slice a1 n1 c1) (es.map rwC).flatten)), (3, .c b3 34 (rdyC r a x))])
   (fun z v => RwF es v) ((none, 0, 0), 0) (fun z => z.2 ≤ ln.os.length ∧ z.1.2.1 = z.2 ∧ ∀ j, j < z.2 → (evalS (colsO r.t.ins) row (ln.os.getD j ex0)).2 = 0) (fun z => ln.os.length - z.2) (fun z => rwf_m es) ?_
  refine And.intro ⟨⟨Nat.zero_le _, rfl, fun j hj => absurd hj (Nat.not_lt_zero j)⟩, gs⟩ ?_
  rintro ⟨⟨a2, n2, c2⟩, m⟩ ⟨hm, hn2, hy⟩
  dsimp only at hm hn2 hy ⊢
  refine cnd (fun h2 => ?_) (fun h2 => ?_)
  ·have hml : m < ln.os.length := by omega
   have hgx := hg.2.2.2 _ (getD_mem ln.os m ex0 hml)
   have her := fir_er (f := fun k => (evalS (colsO r.t.ins) row (ln.os.getD k ex0)).2) hy
   have htk := take_snocD ln.os m ex0 hml
   have hyy : (evalS (colsO r.t.ins) row (ln.os.getD m ex0)).2 = 0 → ∀ j, j < m + 1 → (evalS (colsO r.t.ins) row (ln.os.getD j ex0)).2 = 0 := fun h => upto_snoc hy h
   refine ixE hlin.2 m (fun a4 c4 g1 g2 g3 => ?_)
   generalize ln.os.getD m ex0 = xe at hgx her htk hyy g1 g2 g3 ⊢
   intro b14
   obtain ⟨p, hp⟩ : ∃ p, evalS (colsO r.t.ins) row xe = p := ⟨_, rfl⟩
   refine cb (fun w hw => c_EvalK (p := p) xe a4 c4 a.i.1 a.i.2 (colsO r.t.ins) b.1 b.2 row hp (by omega) hvb w h0 hw ⟨g1, g2, g3, hgx.2⟩ hr.t.i.1 hrow) ?_
   rw [hp] at her hyy
   intro b15
   refine cnd (fun h3 => ?_) (fun h3 => ?_)
   ·have h3 : p.2 ≠ 0 := h3
    have he := her h3 hml
    rw [← hE] at he
    exfalso
    have := hall i him
    rw [hB, he] at this
    exact of_decide_eq_false this h3
   have h3 : p.2 = 0 := by simpa using h3
   have hfl : ((ln.os.take (m + 1)).map fun x => (evalS (colsO r.t.ins) row x).1) = ((ln.os.take m).map fun x => (evalS (colsO r.t.ins) row x).1) ++ [p.1] := by rw [htk, List.map_append]; show _ ++ [(evalS (colsO r.t.ins) row xe).1] = _; rw [hp]
   have hml2 : ((ln.os.take m).map fun x => (evalS (colsO r.t.ins) row x).1).length = m := by rw [List.length_map, List.length_take]; omega
   intro b49
   refine ap TT_ok 901 (AppT.of (bytes := 32) (sz := 2) (by kernel_rfl) (by kernel_rfl) (by kernel_rfl)) rfl rfl rfl rfl rfl rfl rfl (by rw [row_flat (sz := 3) (fun _ => rfl), hml2]; show (_ + 3) * 33 ≤ _; omega) (fun a3 n3 c3 e3 => ?_)
   have hn3 : n3 = m + 1 := by
    rw [row_flat (sz := 3) (fun _ => rfl), hml2] at e3
    have e3 : n3 * 3 = m * 3 + 3 := e3
    omega
   refine wi ?_
   exact ⟨((a3, n3, c3), m + 1), ⟨⟨hml, hn3, hyy h3⟩, by show ln.os.length - (m + 1) < ln.os.length - m; omega⟩, gs rfl (by rw [hfl, List.map_append, List.flatten_append]; rfl)⟩
  ·obtain rfl : m = ln.os.length := by omega
   have h0E : tellE r row i = 0 := by rw [hE]; exact fir_ok hy
   have hbf : badT r row i = false := by rw [hB, h0E]; rfl
   rw [List.take_length, ← hV]
   obtain rfl : n2 = (tellV r row i).length := by rw [hn2, hV, List.length_map]
   refine And.intro rfl ?_
   refine sealW (g := valC) (l := tellV r row i) 901 rfl rfl ?_
   refine goW TT_ok ?_
   intro b54
   refine ap TT_ok 900 (AppT.of (bytes := 24) (sz := 0) (by kernel_rfl) (by kernel_rfl) (by kernel_rfl)) rfl rfl rfl rfl rfl rfl rfl (by rw [row_flat (sz := 1) (fun _ => rfl)]; show (_ + 1) * 25 ≤ _; omega) (fun a3 n3 c3 e3 => ?_)
   have hn3 : n3 = (es ++ [(tellV r row i, a2, c2)]).length := by
    rw [row_flat (sz := 1) (fun _ => rfl)] at e3
    have e3 : n3 * 1 = es.length * 1 + 1 := e3
    rw [List.length_append]; show n3 = es.length + 1; omega
   have efl : ((es ++ [(tellV r row i, a2, c2)]).map rwC).flatten = (es.map rwC).flatten ++ [.slice a2 (tellV r row i).length c2] := by rw [List.map_append, List.flatten_append]; rfl
   refine wi ?_
   exact ⟨⟨a3, n3, c3, es ++ [(tellV r row i, a2, c2)], k + 1⟩, ⟨⟨hkl, hn3, htm (a2, c2), hkk hbf⟩, by show rules.length - (k + 1) < rules.length - k; omega⟩, gs rfl (by rw [efl]; rfl) (fun v hF => rwf_snoc hF.1 hF.2)⟩
 ·obtain rfl : k = rules.length := by omega
  rw [List.take_length] at hes
  refine And.intro rfl ?_
  refine goW TT_ok ?_
  subst hn1
  exact ⟨⟨a1, es.length, c1, es, rules.length⟩, 900, rfl, rfl, fun v _ hF => ⟨hF, hes⟩⟩
end Go.Proofs.YtkkbnjomcgnkpaaGreat
set_option maxRecDepth 100000
namespace Go.Proofs.YtkkbnjomcgnkpaaGreat
open Go Go.Dx Go.RowKit
theorem row_bd {h : View} {r : Rdy} {a : TA} {x : AC} {row : List Val} (hr : RdyH h r a x) (hin : inputE r row = 0) (hvb : ∀ v ∈ row, valB v) {rules : List Nat} (hlt : ∀ i ∈ rules, i < r.ls.length) : ∀ q ∈ rules.map (tellV r row), ∀ v ∈ q, valB v := fun q hq v hv => by
 obtain ⟨i, hi, rfl⟩ := List.mem_map.1 hq
 exact (tell_okV hr hin hvb (hlt i hi) v hv).2
theorem row_lenF {r : Rdy} (hp : RdyP r) {row : List Val} {rules : List Nat} (hlt : ∀ i ∈ rules, i < r.ls.length) : ∀ q ∈ rules.map (tellV r row), q.length = r.t.outs.length := fun q hq => by
 obtain ⟨i, hi, rfl⟩ := List.mem_map.1 hq
 rw [tellV, List.length_map]; exact hp.o _ (getD_mem r.ls i lin0 (hlt i hi))
theorem srt_map {l : List RwQ} (h : Srt ltQ l) : Srt ltR (l.map (·.1)) := List.pairwise_map.2 h
set_option maxHeartbeats 8000000 in
theorem c_HDecide0 (r : Rdy) (a : TA) (x b : AC) (row : List Val) (h5 : r.t.pol = 5) (hag : r.t.agg = 0) (hb : RdyB r) (hn24 : r.ls.length ≤ 24) (hvb : ∀ v ∈ row, valB v) (w0 : World) (h0 : View) (hv : VLe h0 (Full w0)) (hr : RdyH h0 r a x) (hrow : SlC 57 3 (flatR valC) h0 (.slice b.1 row.length b.2) row) :
  Calls Tryz.prog 12 #[.agg (rdyC r a x).toArray, .slice b.1 row.length b.2] w0 (Ret w0 h0 fun u hh => ∃ z : AC × AC, u = .tuple #[ouV (decS (chooseF r.t) r row).1 z, .int .i64 (decS (chooseF r.t) r row).2] ∧ OutH hh (decS (chooseF r.t) r row).1 z.1 z.2) := by
 have hbl := hb.ls
 have hci := @ru_in r row
 obtain ⟨hlt1, hlt2⟩ := @ru_lt r row
 have eC : ∀ rules rows, chooseF r.t rules rows = ⟨0, ints rules, sortR rows⟩ := fun rules rows => by rw [chooseF, if_pos h5, collF, if_pos hag]
 have e1 : (rulesR r row).2.2 = 21 → decS (chooseF r.t) r row = (out0, 21) := fun h => if_pos h
 have e2 : (rulesR r row).2.2 ≠ 21 → (rulesR r row).2.2 ≠ 0 → decS (chooseF r.t) r row = (⟨(rulesR r row).2.2, [((rulesR r row).2.1 : Int)], []⟩, 0) := fun h h2 => by rw [decS, if_neg h, if_pos h2]
 have e4 : (rulesR r row).2.2 = 0 → decS (chooseF r.t) r row = (tolds r row (rulesR r row).1 (chooseF r.t), 0) := fun h => by rw [decS, h, if_neg (by decide), if_neg (fun hh => hh rfl), if_neg (by omega)]
 generalize decS (chooseF r.t) r row = d at e1 e2 e4 ⊢
 refine entA (args := [.agg (rdyC r a x).toArray, .slice b.1 row.length b.2]) TT_ok [28, 54, 5] [] Tryz.func12 rfl Tryz.ntmps12 rfl rfl hv (fun z => out_m _ _ _) ?_
 intro b2 b4
 refine ⟨rfl, goW TT_ok ?_⟩
 refine cA TT_ok (fun w v h1 h2 h3 => c_HRules r a x b row hb hvb w v h3 (rdy_m _ _ _ _ _ h1 hr) (hrow.monoF h1)) (fun _ => Mono.slF) (fun zr => ?_)
 generalize rulesR r row = q at hci hlt1 hlt2 e1 e2 e4 ⊢
 obtain ⟨q, qa, qe⟩ := q
 dsimp only at hci hlt1 hlt2 e1 e2 e4
 refine cnd (fun h => ?_) (fun h => ?_)
 ·have h : qe = 21 := h
  rw [e1 h, h]
  refine ⟨rfl, goW TT_ok ?_⟩
  exact ⟨((none, 0), (none, 0)), rfl, fun v _ _ => ⟨SlC.nil (by simp [maxLen]), LR.nil v⟩⟩
 have h : qe ≠ 21 := h
 refine cnd (fun h2 => ?_) (fun h2 => ?_)
 ·have h2 : qe ≠ 0 := h2
  rw [e2 h h2]
  intro b27
  refine And.intro rfl ?_
  refine shutW 27 (row_sl (g := iC) (l := [(qa : Int)]) (sz := 1) (n := 1) (cp := 1) rfl) ?_ Mono.slF
  refine goW TT_ok ?_
  refine ⟨rfl, goW TT_ok ?_⟩
  exact ⟨((some ⟨b27, 0, none⟩, 1), (none, 0)), rfl, fun v _ hF => ⟨hF.2, LR.nil v⟩⟩
 have h2 : qe = 0 := by simpa using h2
 subst h2
 have hin := hci rfl
 refine cnd (fun h3 => ?_) (fun h3 => ?_)
 ·exfalso; omega
 rw [e4 rfl]
 rcases told_cases (chooseF r.t) r row q with ⟨i, f1, f2, f3, f4⟩ | ⟨f1, f2, f4⟩
 ·refine cA TT_ok (fun w v h1 h2 h3 => c_told r a x b zr row q hb (by omega) hlt2 hvb w v h3 (rdy_m _ _ _ _ _ h1 hr) (hrow.monoF h1) h2.2) (fun z => LR.m (R := RwR) rwR_m z _) (fun zt => ?_)
  rw [f2, f4]
  refine cnd (fun h4 => ?_) (fun h4 => absurd h4 (by simpa using f3))
  intro b53
  refine And.intro rfl ?_
  refine shutW 53 (row_sl (g := iC) (l := [(i : Int)]) (sz := 1) (n := 1) (cp := 1) rfl) ?_ Mono.slF
  refine goW TT_ok ?_
  refine ⟨rfl, goW TT_ok ?_⟩
  exact ⟨((some ⟨b53, 0, none⟩, 1), (none, 0)), rfl, fun v _ hF => ⟨hF.2, LR.nil v⟩⟩
 ·have hall : ∀ i ∈ q, badT r row i = false := fun i hi => by
   have := List.find?_eq_none.1 f1 i hi
   simpa using this
  refine cOw TT_ok 900 (fun w v h1 h2 h3 => c_toldO r a x b zr row q hb (by omega) hlt2 hvb w v h3 (rdy_m _ _ _ _ _ h1 hr) (hrow.monoF h1) h2.2 hall) (fun z => fun _ _ hle hx => ⟨rwf_m _ _ _ hle hx.1, hx.2⟩) (fun z => ?_)
  rw [f4, eC]
  refine cnd (fun h4 => absurd rfl h4) (fun _ => ?_)
  have hzl : ∀ v : View, (RwF z.es v ∧ z.es.map (·.1) = q.map (tellV r row)) → z.es.length = q.length := fun v hx => by
   have := congrArg List.length hx.2
   simpa using this
  refine cJ TT_ok (rwJ z.c z.a z.es.length) z.es (g := fun _ => .agg #[.int .i64 0, .slice zr.1 q.length zr.2, .slice z.a z.es.length z.c]) (fun w v h1 h2 h3' h4' h5' => c_choose0 r.t a h5 hag q zr z.c z.a z.es.length z.es rfl (by have := hzl v h2.2; omega) w v h3' (fun p hp => h2.2.1 p hp) h4' h5') ?_ (hl := ⟨rfl, trivial⟩)
  rintro l ⟨p1, p2⟩
  refine And.intro rfl ?_
  have hll : z.es.length = l.length := p1.length_eq.symm
  refine sealW (g := rwC) (l := l) 900 rfl hll ?_
  refine pureW (X := z.es.map (·.1) = q.map (tellV r row)) (fun v _ hF => hF.1.2.2) (fun hX => ?_)
  have hfin : l.map (·.1) = sortR (q.map (tellV r row)) := sortR_eq (srt_map p2) (by rw [← hX]; exact p1.map _)
  have hln : (sortR (q.map (tellV r row))).length = z.es.length := by rw [← hfin, List.length_map, ← hll]
  refine goW TT_ok ?_
  refine ⟨(zr, (z.a, z.c)), by rw [ouV, ouC_ints, hln]; rfl, fun v hle hF => ⟨nslL hF.1.1.2, ?_⟩⟩
  have := LR.of_rows (R := RwR) (g := fun q : RwQ => q.1) (d := rw0) hF.2 hll (fun p hp => ⟨p.2, rfl, hF.1.2.1 p (p1.mem_iff.1 hp)⟩)
  show LR _ _ _ _ _ _ (sortR (q.map (tellV r row)))
  rw [← hfin]; exact this
theorem c_HDecideF (r : Rdy) (a : TA) (x b : AC) (row : List Val) (hb : RdyB r) (hp : RdyP r) (hvb : ∀ v ∈ row, valB v) {d : Outc × Int} (hd : decS (chooseF r.t) r row = d) (w0 : World) (h0 : View) (hv : VLe h0 (Full w0)) (hr : RdyH h0 r a x) (hrow : SlC 57 3 (flatR valC) h0 (.slice b.1 row.length b.2) row) :
  Calls Tryz.prog 12 #[.agg (rdyC r a x).toArray, .slice b.1 row.length b.2] w0 (Ret w0 h0 fun u hh => ∃ z : AC × AC, u = .tuple #[ouV d.1 z, .int .i64 d.2] ∧ OutH hh d.1 z.1 z.2) := by
 subst hd
 by_cases h : r.t.pol = 5 ∧ r.t.agg = 0
 ·exact c_HDecide0 r a x b row h.1 h.2 hb hp.n hvb w0 h0 hv hr hrow
 refine c_HDecide (chooseF r.t) r a x b row hb hvb w0 h0 hv hr hrow fun hin rules ar aw n hru hn w hh hw hle hs hl => ?_
 subst hn
 have hlt : ∀ i ∈ rules, i < r.ls.length := by rw [hru]; exact (@ru_lt r row).2
 have hln : rules.length ≤ r.ls.length + 1 := by rw [hru]; exact ru_len
 have hbl := hb.ls
 exact c_choose r.t a ar aw rules (rules.map (tellV r row)) h (by rw [List.length_map]) (by rw [List.length_map]; omega) (row_lenF hp hlt) hp.o0 (row_bd hr hin hvb hlt) w hh hw (col_m _ _ _ _ hle hr.t.o) hs hl
theorem make_rdyP {t : Tab} (h : makeE t = 0) : RdyP (makeV t) := by
 obtain ⟨hf, hr⟩ := make_inv h
 obtain ⟨_, f2, f3, f4, f5⟩ := frame_inv hf
 obtain ⟨_, o0, o6⟩ := col_ok f3
 refine ⟨by show (t.rules.map lineV).length ≤ _; rw [List.length_map]; exact f5, f4, fun l hl => ?_, o6, by show 1 ≤ t.outs.length; omega⟩
 obtain ⟨r, hrm, rfl⟩ := List.mem_map.1 hl
 obtain ⟨k1, k2, _, _⟩ := line_inv (hr r hrm)
 show (r.2.map _).length = _
 rw [List.length_map]; exact k2
end Go.Proofs.YtkkbnjomcgnkpaaGreat
set_option maxRecDepth 100000
namespace Go.Proofs.YtkkbnjomcgnkpaaGreat
open Go Go.Dx Go.RowKit
end Go.Proofs.YtkkbnjomcgnkpaaGreat
set_option maxRecDepth 100000
namespace Go.Proofs.YtkkbnjomcgnkpaaGreat
open Go Go.Dx Go.RowKit
end Go.Proofs.YtkkbnjomcgnkpaaGreat
set_option maxRecDepth 100000
namespace Go.Proofs.YtkkbnjomcgnkpaaGreat
open Go Go.Dx Go.RowKit
end Go.Proofs.YtkkbnjomcgnkpaaGreat
namespace Go.Proofs.YtkkbnjomcgnkpaaGreat
open Go Go.Dx Go.RowKit
structure RdyK (r : Rdy) : Prop where
 ci : colsS (colsO r.t.ins) = 0
 co : colsS (colsO r.t.outs) = 0
 x : ∀ l ∈ r.ls, l.os.length = r.t.outs.length ∧ ∀ k, k < l.os.length → (kindT (colsO r.t.ins) (l.os.getD k ex0)).2 = 0 ∧ fitS (kindT (colsO r.t.ins) (l.os.getD k ex0)).1 (r.t.outs.getD k co0).1.kind = true
end Go.Proofs.YtkkbnjomcgnkpaaGreat
set_option maxRecDepth 100000
namespace Go.Proofs.YtkkbnjomcgnkpaaGreat
open Go Go.Dx Go.RowKit
end Go.Proofs.YtkkbnjomcgnkpaaGreat
set_option maxRecDepth 100000
namespace Go.Proofs.YtkkbnjomcgnkpaaGreat
open Go Go.Dx Go.RowKit
theorem sortR_len (l : List (List Val)) : (sortR l).length = l.length := (sortR_perm l).length_eq
structure SrS where
 a : Option Addr
 c : Nat
 es : List RwQ
 k : Nat
end Go.Proofs.YtkkbnjomcgnkpaaGreat
set_option maxRecDepth 100000
namespace Go.Proofs.YtkkbnjomcgnkpaaGreat
open Go Go.Dx Go.RowKit
end Go.Proofs.YtkkbnjomcgnkpaaGreat
set_option maxRecDepth 100000
namespace Go.Proofs.YtkkbnjomcgnkpaaGreat
open Go Go.Dx Go.RowKit
end Go.Proofs.YtkkbnjomcgnkpaaGreat
namespace Go.Proofs.YtkkbnjomcgnkpaaGreat
open Go Go.Dx Go.RowKit
def valF (agg : Int) (c : CoO) (v : Val) : Prop := okV v ∧ (fitS v.k c.1.kind = true ∨ (agg = 4 ∧ v.k = 1))
def rowF (agg : Int) (outs : List CoO) (q : List Val) : Prop := q.length = outs.length ∧ ∀ k, k < outs.length → valF agg (outs.getD k co0) (q.getD k v0)
structure FitO (n : Nat) (outs : List CoO) (agg : Int) (o : Outc) : Prop where
 rl : ∀ i ∈ o.rules, 0 ≤ i ∧ i < (n : Int)
 up : o.rules.Pairwise (· < ·)
 er : o.err ≠ 0 → o.rows = [] ∧ o.rules ≠ []
 ok : o.err = 0 → ∀ q ∈ o.rows, rowF agg outs q
 ne : o.err = 0 → o.rules ≠ [] → o.rows ≠ []
theorem held_up (f : Nat → Bool × Int) (n : Nat) : (heldR f n).Pairwise (· < ·) := List.Pairwise.filter _ List.pairwise_lt_range
end Go.Proofs.YtkkbnjomcgnkpaaGreat
set_option maxRecDepth 100000
namespace Go.Proofs.YtkkbnjomcgnkpaaGreat
open Go Go.Dx Go.RowKit
end Go.Proofs.YtkkbnjomcgnkpaaGreat
namespace Go.Proofs.YtkkbnjomcgnkpaaGreat
open Go Go.Dx Go.RowKit
def rP (t : Tab) (p : Int) : Rdy := makeV (asT t p)
noncomputable def dP (t : Tab) (p : Int) (row : List Val) : Outc × Int := decS (chooseF (rP t p).t) (rP t p) row
theorem rP_rule (t : Tab) (p : Int) (row : List Val) : ruleS (rP t p) row = ruleS (rP t 6) row := rfl
theorem rP_bad (t : Tab) (p : Int) (row : List Val) : badT (rP t p) row = badT (rP t 6) row := rfl
theorem rP_in (t : Tab) (p : Int) (row : List Val) : inputE (rP t p) row = inputE (rP t 6) row := rfl
theorem ch_one {t : Tab} {p : Int} (h : p = 1 ∨ p = 2) (q : List Nat) (rows : List (List Val)) (hl : rows.length = q.length) : chooseF (rP t p).t q rows = ⟨0, ints (q.take 1), rows.take 1⟩ := by
 have e : chooseF (rP t p).t q rows = oneO q rows 0 := by
  unfold chooseF
  have hp : (rP t p).t.pol = p := rfl
  rw [hp, if_neg (by omega), if_neg (by omega), if_neg (by omega), if_neg (by omega)]
 rw [e, oneO]
 split
 ·rename_i hq
  subst hq
  have : rows = [] := List.eq_nil_of_length_eq_zero hl
  rw [this]; rfl
 ·rfl
theorem decS_ok {t : Tab} {p : Int} {row : List Val} {q : List Nat} (hr : rulesR (rP t p) row = (q, 0, 0)) (hu : ¬ (p = 1 ∧ 1 < q.length)) (hb : q.find? (badT (rP t 6) row) = none) : dP t p row = (chooseF (rP t p).t q (q.map (tellV (rP t 6) row)), 0) := by
 unfold dP decS
 rw [hr, if_neg (show ¬ (0 : Int) = 21 by decide), if_neg (fun hh => hh rfl), if_neg (show ¬ ((rP t p).t.pol = 1 ∧ 1 < (q, (0 : Nat), (0 : Int)).1.length) from fun hh => hu hh)]
 unfold tolds
 rw [rP_bad, hb]; rfl
theorem pol_law {t : Tab} {row : List Val} (h2 : (dP t 6 row).2 = 0) (he : (dP t 6 row).1.err = 0) : ∃ (q : List Nat) (rows : List (List Val)), rows.length = q.length ∧ dP t 6 row = (⟨0, ints q, rows⟩, 0) ∧ dP t 2 row = (⟨0, ints (q.take 1), rows.take 1⟩, 0) ∧
  dP t 1 row = (if 1 < q.length then ⟨19, ints q, []⟩ else ⟨0, ints (q.take 1), rows.take 1⟩, 0) ∧ dP t 5 row = (⟨0, ints q, sortR rows⟩, 0) ∧ rulesR (rP t 4) row = (q, 0, 0) := by
 have hin : inputE (rP t 6) row = 0 := by rw [dP, decS_2] at h2; exact h2
 have hR : ∀ p, rulesR (rP t p) row = rulesS p (ruleS (rP t 6) row) t.rules.length := fun p => by
  unfold rulesR
  rw [rP_in, if_neg (fun hh => hh hin), rP_rule]
  show rulesS p _ (t.rules.map lineV).length = _
  rw [List.length_map]
 have h21 := rule_21 (rP t 6) row
 obtain ⟨f, hf⟩ : ∃ f, ruleS (rP t 6) row = f := ⟨_, rfl⟩
 obtain ⟨n, hn⟩ : ∃ n, t.rules.length = n := ⟨_, rfl⟩
 rw [hf, hn] at hR
 rw [hf] at h21
 have hS6 : ∀ j, j < n → (f j).2 = 0 := by
  cases hq : (List.range n).find? (stopR 6 f) with
  | none =>
   intro j hj
   have := List.find?_eq_none.1 hq j (List.mem_range.2 hj)
   unfold stopR at this
   simpa using this
  | some i =>
   exfalso
   have hs := List.find?_some hq
   have hne : (f i).2 ≠ 0 := by
    unfold stopR at hs
    simpa using hs
   have h6 := hR 6
   unfold rulesS at h6
   rw [hq] at h6
   dsimp only at h6
   rw [if_pos hne] at h6
   have hd : dP t 6 row = (⟨(f i).2, [(i : Int)], []⟩, 0) := by
    unfold dP decS
    rw [h6, if_neg (h21 i), if_pos hne]
   rw [hd] at he
   exact hne he
 obtain ⟨q, hq⟩ : ∃ q, heldR f n = q := ⟨_, rfl⟩
 have hP : ∀ p, p ≠ 2 → rulesR (rP t p) row = (q, 0, 0) := fun p hp => by
  rw [hR, rules_none (fun j hj => by unfold stopR; rw [hS6 j hj, decide_eq_false hp]; simp), hq]
 have hb : q.find? (badT (rP t 6) row) = none := by
  cases hb : q.find? (badT (rP t 6) row) with
  | none => rfl
  | some i =>
   exfalso
   have hne : tellE (rP t 6) row i ≠ 0 := by
    have h := List.find?_some hb
    unfold badT at h
    exact of_decide_eq_true h
   have hd : dP t 6 row = (⟨tellE (rP t 6) row i, [(i : Int)], []⟩, 0) := by
    unfold dP decS
    rw [hP 6 (by decide), if_neg (show ¬ (0 : Int) = 21 by decide), if_neg (fun hh => hh rfl), if_neg (fun hh => absurd hh.1 (show ¬ (6 : Int) = 1 by decide))]
    unfold tolds
    rw [hb]
   rw [hd] at he
   exact hne he
 have hl : (q.map (tellV (rP t 6) row)).length = q.length := List.length_map _
 refine ⟨q, q.map (tellV (rP t 6) row), hl, ?_, ?_, ?_, ?_, hP 4 (by decide)⟩
 ·rw [decS_ok (hP 6 (by decide)) (fun hh => absurd hh.1 (by decide)) hb]
  rfl
 ·have hh2 : rulesR (rP t 2) row = (q.take 1, 0, 0) := by
   rw [hR]
   cases hqc : q with
   | nil =>
    rw [rules_none (fun j hj => ?_), hq, hqc]
    ·rfl
    ·have : (f j).1 = false := by
      by_cases hj1 : (f j).1 = true
      ·have : j ∈ heldR f n := List.mem_filter.2 ⟨List.mem_range.2 hj, hj1⟩
       rw [hq, hqc] at this; cases this
      ·simpa using hj1
     unfold stopR; rw [hS6 j hj, this]; simp
   | cons k q' =>
    have hm : k ∈ heldR f n := by rw [hq, hqc]; simp
    have hkn := List.mem_range.1 (List.mem_filter.1 hm).1
    have hk1 : (f k).1 = true := (List.mem_filter.1 hm).2
    have hup := held_up f n
    rw [hq, hqc] at hup
    have hz : ∀ j, j < k → stopR 2 f j = false := fun j hj => by
     have : (f j).1 = false := by
      by_cases hj1 : (f j).1 = true
      ·have hjm : j ∈ heldR f n := List.mem_filter.2 ⟨List.mem_range.2 (by omega), hj1⟩
       rw [hq, hqc] at hjm
       rcases List.mem_cons.1 hjm with e | hjm
       ·omega
       ·have := (List.pairwise_cons.1 hup).1 j hjm
        omega
      ·simpa using hj1
     unfold stopR; rw [hS6 j (by omega), this]; simp
    rw [rules_some hz (by unfold stopR; rw [hk1]; simp) hkn, if_neg (fun hh => hh (hS6 k hkn))]; rfl
  have hb2 : (q.take 1).find? (badT (rP t 6) row) = none := List.find?_eq_none.2 fun i hi => List.find?_eq_none.1 hb i (List.mem_of_mem_take hi)
  rw [decS_ok hh2 (fun hh => absurd hh.1 (by decide)) hb2, ch_one (.inr rfl) _ _ (by rw [List.length_map]), List.map_take, List.take_take, List.take_take]
  rfl
 ·by_cases hu : 1 < q.length
  ·rw [if_pos hu]
   unfold dP decS
   rw [hP 1 (by decide), if_neg (show ¬ (0 : Int) = 21 by decide), if_neg (fun hh => hh rfl), if_pos ⟨rfl, hu⟩]
  ·rw [if_neg hu, decS_ok (hP 1 (by decide)) (fun hh => hu hh.2) hb, ch_one (.inl rfl) _ _ hl]
 ·rw [decS_ok (hP 5 (by decide)) (fun hh => absurd hh.1 (by decide)) hb]
  rfl
theorem drop1 {α : Type} {l : List α} {k : Nat} (d : α) (h : k < l.length) : (l.drop k).take 1 = [l.getD k d] := by
 rw [List.drop_eq_getElem_cons h]; show [l[k]] = [l.getD k d]; simp [List.getD, h]
def cntR (l : List (List Val)) (x : List Val) (k : Nat) : Int := ((l.take k).filter fun y => decide (y = x)).length
theorem cnt_0 (l : List (List Val)) (x : List Val) : cntR l x 0 = 0 := by simp [cntR]
theorem cnt_le (l : List (List Val)) (x : List Val) (k : Nat) : 0 ≤ cntR l x k ∧ cntR l x k ≤ k := by
 unfold cntR
 have h1 := List.length_filter_le (fun y => decide (y = x)) (l.take k)
 rw [List.length_take] at h1
 omega
theorem cnt_snoc {l : List (List Val)} {k : Nat} (x : List Val) (h : k < l.length) : cntR l x (k + 1) = cntR l x k + if l.getD k [] = x then 1 else 0 := by
 unfold cntR
 have e : l.take (k + 1) = l.take k ++ [l.getD k []] := by rw [List.take_succ_eq_append_getElem h]; simp [List.getD, h]
 rw [e, List.filter_append, List.length_append]
 by_cases hx : l.getD k [] = x
 ·rw [if_pos hx, List.filter_cons, if_pos (by simpa using hx)]; simp
 ·rw [if_neg hx, List.filter_cons, if_neg (by simpa using hx)]; simp
theorem cnt_perm {l m : List (List Val)} (h : l.Perm m) (x : List Val) : cntR l x l.length = cntR m x m.length := by
 unfold cntR
 rw [List.take_length, List.take_length]
 have := (h.filter fun y => decide (y = x)).length_eq
 omega
end Go.Proofs.YtkkbnjomcgnkpaaGreat
set_option maxRecDepth 100000
namespace Go.Proofs.YtkkbnjomcgnkpaaGreat
open Go Go.Dx Go.RowKit
theorem c_RSameOne (x y : List Val) (a b : AC) (w0 : World) (h0 : View) (hv : VLe h0 (Full w0)) (hl : LR 28 1 RwR h0 a.1 a.2 [x]) (hm : LR 28 1 RwR h0 b.1 b.2 [y]) :
  Calls Tryz.prog 24 #[.slice a.1 1 a.2, .slice b.1 1 b.2] w0 (Ret w0 h0 fun u _ => u = .bool (decide (x = y))) := by
 have := c_RSameRows [x] [y] a b w0 h0 hv hl hm
 have e : decide ([x] = [y]) = decide (x = y) := by
  by_cases h : x = y
  ·rw [h, decide_eq_true rfl, decide_eq_true rfl]
  ·rw [decide_eq_false h, decide_eq_false (fun hh => h (List.cons.inj hh).1)]
 rw [e] at this
 exact this
theorem lr_1 {h : View} {a : Option Addr} {cap k : Nat} {l : List (List Val)} (hx : LR 28 1 RwR h a cap l) (hk : k < l.length) : LR 28 1 RwR h (if cap = k then a else a.map (·.add (k * 1))) (cap - k) [l.getD k []] := by
 rw [← drop1 [] hk]
 exact LR.take (n := 0) (k := 1) (hx.drop (k := k) (by omega)) (by rw [List.length_drop]; omega)
set_option maxHeartbeats 8000000 in
theorem c_shuffled (a b : List (List Val)) (aw bw : AC) (hp : a.Perm b) (w0 : World) (h0 : View) (hv : VLe h0 (Full w0)) (ha : LR 28 1 RwR h0 aw.1 aw.2 a) (hb : LR 28 1 RwR h0 bw.1 bw.2 b) :
  Calls Tryz.prog 23 #[.slice aw.1 a.length aw.2, .slice bw.1 b.length bw.2] w0 (Ret w0 h0 fun u _ => u = .bool true) := by
 have hlm := ha.lm
 have hl := hp.length_eq
 have hca := lr_cap ha
 have hcb := lr_cap hb
 refine ent (args := [.slice aw.1 a.length aw.2, .slice bw.1 b.length bw.2]) TT_ok [1000008, 1000010] [] Tryz.func23 rfl Tryz.ntmps23 rfl rfl hv ?_
 refine w_loop TT_ok (fun i : Nat => [(5, .v (.int .i64 i))]) 0 (fun i => i ≤ a.length) (fun i => a.length - i) ?_
 refine And.intro ⟨Nat.zero_le _, gs⟩ ?_
 intro i hi
 refine cnd (fun h1 => ?_) (fun h1 => ?_)
 ·have hil : i < a.length := by omega
  have hxi := lr_1 ha hil
  generalize a.getD i [] = x at hxi
  have hcp := cnt_perm hp x
  refine w_loop TT_ok (fun z : Int × Nat => [(7, .v (.int .i64 z.2)), (6, .v (.int .i64 z.1))]) (0, 0) (fun z => z.2 ≤ a.length ∧ z.1 = cntR a x z.2 - cntR b x z.2) (fun z => a.length - z.2) ?_
  refine And.intro ⟨⟨Nat.zero_le _, by rw [cnt_0, cnt_0]; rfl⟩, gs⟩ ?_
  rintro ⟨n, k⟩ ⟨hk, hn⟩
  dsimp only at hk hn ⊢
  refine cnd (fun h2 => ?_) (fun h2 => ?_)
  ·have hkl : k < a.length := by omega
   have hka := lr_1 ha hkl
   have hkb := lr_1 hb (k := k) (by omega)
   have ca := cnt_snoc x hkl
   have cb' := cnt_snoc (l := b) (k := k) x (by omega)
   have b1 := cnt_le a x k
   have b2 := cnt_le b x k
   have n1 : (n + (if a.getD k [] = x then 1 else 0) - (if b.getD k [] = x then 1 else 0) : Int) = cntR a x (k + 1) - cntR b x (k + 1) := by rw [ca, cb']; omega
   clear ca cb'
   generalize a.getD k [] = y at hka n1
   generalize b.getD k [] = z at hkb n1
   refine regPh TT_ok [([0, 1, 2, 5, 6, 7, 3, 8, 4, 9], [10])] [] ?_
   refine wi ?_
   refine wi ?_
   refine sl2 k (k + 1) ?_
   refine sl2 i (i + 1) ?_
   rw [show k + 1 - k = 1 by omega, show i + 1 - i = 1 by omega]
   refine kq ?_
   refine cb (fun w hw => c_RSameOne y x (_, _) (_, _) w h0 hw hka hxi) ?_
   refine kq ?_
   refine cnd (fun h3 => ?_) (fun h3 => ?_)
   ·rw [if_pos h3] at n1
    refine wi ?_
    refine regPh TT_ok [([0, 1, 2, 5, 6, 7, 3, 8, 4, 9], [10])] [] ?_
    refine wi ?_
    refine wi ?_
    refine sl2 k (k + 1) ?_
    refine sl2 i (i + 1) ?_
    rw [show k + 1 - k = 1 by omega, show i + 1 - i = 1 by omega]
    refine kq ?_
    refine cb (fun w hw => c_RSameOne z x (_, _) (_, _) w h0 hw hkb hxi) ?_
    refine kq ?_
    refine cnd (fun h4 => ?_) (fun h4 => ?_)
    ·rw [if_pos h4] at n1
     refine wi ?_
     refine wi ?_
     exact ⟨(n + 1 - 1, k + 1), ⟨⟨by omega, n1⟩, by show a.length - (k + 1) < a.length - k; omega⟩, gs⟩
    ·rw [if_neg h4, Int.sub_zero] at n1
     refine wi ?_
     exact ⟨(n + 1, k + 1), ⟨⟨by omega, n1⟩, by show a.length - (k + 1) < a.length - k; omega⟩, gs⟩
   ·rw [if_neg h3, Int.add_zero] at n1
    refine regPh TT_ok [([0, 1, 2, 5, 6, 7, 3, 8, 4, 9], [10])] [] ?_
    refine wi ?_
    refine wi ?_
    refine sl2 k (k + 1) ?_
    refine sl2 i (i + 1) ?_
    rw [show k + 1 - k = 1 by omega, show i + 1 - i = 1 by omega]
    refine kq ?_
    refine cb (fun w hw => c_RSameOne z x (_, _) (_, _) w h0 hw hkb hxi) ?_
    refine kq ?_
    refine cnd (fun h4 => ?_) (fun h4 => ?_)
    ·rw [if_pos h4] at n1
     refine wi ?_
     refine wi ?_
     exact ⟨(n - 1, k + 1), ⟨⟨by omega, n1⟩, by show a.length - (k + 1) < a.length - k; omega⟩, gs⟩
    ·rw [if_neg h4, Int.sub_zero] at n1
     refine wi ?_
     exact ⟨(n, k + 1), ⟨⟨by omega, n1⟩, by show a.length - (k + 1) < a.length - k; omega⟩, gs⟩
  ·obtain rfl : k = a.length := by omega
   have hn0 : n = 0 := by rw [hn, hcp, hl, Int.sub_self]
   subst hn0
   refine cnd (fun h3 => absurd rfl h3) (fun _ => ?_)
   refine wi ?_
   exact ⟨i + 1, ⟨by omega, by omega⟩, gs⟩
 ·exact rfl
theorem lone {l : List Nat} {rows : List (List Val)} (hl : rows.length = l.length) (h : l = []) : rows = [] := List.eq_nil_of_length_eq_zero (by rw [hl, h]; rfl)
set_option maxHeartbeats 20000000 in
theorem c_HitPolicies (t : Tab) (a : TA) (ad : Option Addr) (cap : Nat) (row : List Val) (w0 : World) (h0 : View) (hv : VLe h0 (Full w0)) (hc : TabH h0 t a) (hrow : SlC 57 3 (flatR valC) h0 (.slice ad row.length cap) row) (hvv : ∀ v ∈ row, valB v ∧ v.s.length ≤ 9223372036854775807) :
  Calls Tryz.prog 5 #[.agg (tabC t a).toArray, .slice ad row.length cap] w0 (Ret w0 h0 fun u _ => u = .bool true) := by
 have hvb : ∀ v ∈ row, valB v := fun v hv => (hvv v hv).1
 refine ent (args := [.agg (tabC t a).toArray, .slice ad row.length cap]) TT_ok [1000019] [] Tryz.func5 rfl Tryz.ntmps5 rfl rfl hv ?_
 intro b2
 refine cb (fun w hw => c_TSmall t a w h0 hw hc) ?_
 refine cbg (fun _ w hw => c_RowFew ad cap row w h0 hw hrow) ?_
 refine cnd (fun h => ?_) (fun h => ?_)
 ·refine cb (fun w hw => c_lives20 w h0 hw) ?_
  exact rfl
 have hsm : smallT t = true := by simpa using h.1
 have htb := small_tabB hsm
 clear h hsm
 by_cases he : makeE t = 0
 ·refine cA TT_ok (fun w v h1 h2 h3 => c_MakeK (r := makeV t) he rfl a htb w v h3 (tab_m _ _ _ _ h1 hc)) (fun z => rdy_m _ _ _) (fun z1 => ?_)
  intro b5
  refine cnd (fun h => absurd rfl h) (fun _ => ?_)
  have ho1 : t.outs.length ≤ 6 := (col_ok (frame_inv (make_inv he).1).2.2.1).2.2
  have m6 : makeE (asT t 6) = 0 := make_as (p := 6) he (by decide) (by decide) (by decide)
  have m2 : makeE (asT t 2) = 0 := make_as (p := 2) he (by decide) (by decide) (by decide)
  have m1 : makeE (asT t 1) = 0 := make_as (p := 1) he (by decide) (by decide) (by decide)
  have m5 : makeE (asT t 5) = 0 := make_as (p := 5) he (by decide) (by decide) (by decide)
  have m4 : makeE (asT t 4) = 0 := make_as (p := 4) he (by decide) (by decide) (by decide)
  have hpl := pol_law (t := t) (row := row)
  obtain ⟨d6, hd6⟩ : ∃ d, dP t 6 row = d := ⟨_, rfl⟩
  rw [hd6] at hpl
  refine cA TT_ok (fun w v h1 h2 h3 => c_As (makeV t) a z1 6 m6 (tabB_as htb 6) (by show t.outs.length ≤ _; omega) w v h3 h2.2) (fun z => rdy_m _ _ _) (fun q6 => ?_)
  refine cA TT_ok (fun w v h1 h2 h3 => c_HDecideF (rP t 6) q6.1 q6.2 (ad, cap) row (make_rdyB m6) (make_rdyP m6) hvb hd6 w v h3 h2.2 (hrow.monoF h1)) (fun z => out_m _ _ _) (fun o6 => ?_)
  intro b9
  refine cnd (fun h => ?_) (fun h => ?_)
  ·refine cb (fun w hw => c_lives20 w h0 hw) ?_
   exact rfl
  obtain ⟨q, rows, hl, e6, e2, e1, e5, e4⟩ := hpl (by simpa using h.1) (by simpa using h.2)
  clear h
  subst e6
  have hil : (ints q).length = q.length := ints_len q
  refine cnd (fun h => ?_) (fun _ => ?_)
  ·exfalso
   have h : ¬ ((ints q).length : Int) = (rows.length : Int) := h
   omega
  refine cA TT_ok (fun w v h1 h2 h3 => c_As (makeV t) a z1 2 m2 (tabB_as htb 2) (by show t.outs.length ≤ _; omega) w v h3 h2.1.1.2) (fun z => rdy_m _ _ _) (fun q2 => ?_)
  refine cA TT_ok (fun w v h1 h2 h3 => c_HDecideF (rP t 2) q2.1 q2.2 (ad, cap) row (make_rdyB m2) (make_rdyP m2) hvb e2 w v h3 h2.2 (hrow.monoF h1)) (fun z => out_m _ _ _) (fun o2 => ?_)
  intro b11
  obtain ⟨d1, hd1⟩ : ∃ d, (if 1 < q.length then (⟨19, ints q, []⟩ : Outc) else ⟨0, ints (q.take 1), rows.take 1⟩) = d := ⟨_, rfl⟩
  rw [hd1] at e1
  refine cA TT_ok (fun w v h1 h2 h3 => c_As (makeV t) a z1 1 m1 (tabB_as htb 1) (by show t.outs.length ≤ _; omega) w v h3 h2.1.1.1.1.2) (fun z => rdy_m _ _ _) (fun q1 => ?_)
  refine cA TT_ok (fun w v h1 h2 h3 => c_HDecideF (rP t 1) q1.1 q1.2 (ad, cap) row (make_rdyB m1) (make_rdyP m1) hvb e1 w v h3 h2.2 (hrow.monoF h1)) (fun z => out_m _ _ _) (fun o1 => ?_)
  intro b13
  refine cA TT_ok (fun w v h1 h2 h3 => c_As (makeV t) a z1 5 m5 (tabB_as htb 5) (by show t.outs.length ≤ _; omega) w v h3 h2.1.1.1.1.1.1.2) (fun z => rdy_m _ _ _) (fun q5 => ?_)
  refine cA TT_ok (fun w v h1 h2 h3 => c_HDecideF (rP t 5) q5.1 q5.2 (ad, cap) row (make_rdyB m5) (make_rdyP m5) hvb e5 w v h3 h2.2 (hrow.monoF h1)) (fun z => out_m _ _ _) (fun o5 => ?_)
  intro b15
  refine cA TT_ok (fun w v h1 h2 h3 => c_As (makeV t) a z1 4 m4 (tabB_as htb 4) (by show t.outs.length ≤ _; omega) w v h3 h2.1.1.1.1.1.1.1.1.2) (fun z => rdy_m _ _ _) (fun q4 => ?_)
  have hHR := c_HRules (rP t 4) q4.1 q4.2 (ad, cap) row (make_rdyB m4) hvb
  rw [e4] at hHR
  refine cA TT_ok (fun w v h1 h2 h3 => hHR w v h3 h2.2 (hrow.monoF h1)) (fun _ => Mono.slF) (fun y4 => ?_)
  have hsl : (sortR rows).length = rows.length := sortR_len rows
  refine cnd (fun h => ?_) (fun _ => ?_)
  ·exfalso
   rcases h with ((((h | h) | h) | h) | h) | h
   ·exact h rfl
   ·exact h rfl
   ·exact h rfl
   ·exact h rfl
   ·have h : ¬ (q.length : Int) = ((ints q).length : Int) := h
    omega
   ·have h : ¬ ((sortR rows).length : Int) = (rows.length : Int) := h
    omega
  refine cnd (fun h => ?_) (fun h => ?_)
  ·have hq : q = [] := by
    have h : ((ints q).length : Int) = 0 := h
    exact List.eq_nil_of_length_eq_zero (by omega)
   have hr : rows = [] := lone hl hq
   have hA : (⟨0, ints (q.take 1), rows.take 1⟩ : Outc) = ⟨0, ints q, rows⟩ := by rw [hq, hr]; rfl
   have hB : d1 = ⟨0, ints q, rows⟩ := by rw [← hd1, hq, hr]; rfl
   have hC : (⟨0, ints q, sortR rows⟩ : Outc) = ⟨0, ints q, rows⟩ := by rw [hq, hr]; rfl
   refine cf (fun w v h1 h2 h3 => c_RSame20T _ _ hA o2.1 o2.2 o6.1 o6.2 w v h3 h2.1.1.1.1.1.1.2 h2.1.1.1.1.1.1.1.1.2) ?_
   refine cfg (fun _ w v h1 h2 h3 => c_RSame20T _ _ hB o1.1 o1.2 o6.1 o6.2 w v h3 h2.1.1.1.1.2 h2.1.1.1.1.1.1.1.1.2) ?_
   refine cfg (fun _ w v h1 h2 h3 => c_RSame20T _ _ hC o5.1 o5.2 o6.1 o6.2 w v h3 h2.1.1.2 h2.1.1.1.1.1.1.1.1.2) ?_
   refine cbg (fun _ w hw => c_lives20 w h0 hw) ?_
   exact rfl
  ·have hq : q ≠ [] := fun hh => h (by show ((ints q).length : Int) = 0; rw [hh]; rfl)
   obtain ⟨k, q', rfl⟩ : ∃ k q', q = k :: q' := by
    cases q with
    | nil => exact absurd rfl hq
    | cons k q' => exact ⟨k, q', rfl⟩
   obtain ⟨r0, rows', rfl⟩ : ∃ r0 rows', rows = r0 :: rows' := by
    cases rows with
    | nil => exact absurd hl (by simp)
    | cons r0 rows' => exact ⟨r0, rows', rfl⟩
   clear h hq hpl e2 e1 e5 e4 hHR hd6
   refine pureC (X := 1 ≤ o6.1.2 ∧ 1 ≤ o6.2.2) (fun v _ hF => ?_) (fun ⟨hc1, hc2⟩ => ?_)
   ·have hO := hF.1.1.1.1.1.1.1.1.2
    have h2 := lr_cap hO.w
    obtain ⟨_, _, e, hh, _⟩ := hO.r.parts
    cases e
    simp only [List.length_cons] at h2 hil
    rw [hil] at hh
    exact ⟨by omega, by omega⟩
   refine regPh TT_ok [([0, 3, 1, 4, 2, 5, 6], [7, 8])] [20] ?_
   refine ⟨1, ⟨rfl, by omega⟩, ?_⟩
   refine ⟨1, ⟨rfl, by omega⟩, ?_⟩
   refine kq ?_
   intro b20
   refine kq ?_
   refine kq ?_
   have hO : ∀ v : View, OutH v ⟨0, ints (k :: q'), r0 :: rows'⟩ o6.1 o6.2 → OutH v ⟨0, [(k : Int)], [r0]⟩ o6.1 o6.2 := fun v h => ⟨h.r.take (k := 1) (by show 1 ≤ (ints (k :: q')).length; rw [hil]; simp), LR.take (n := 0) (k := 1) h.w (by simp)⟩
   have hone : (ints (k :: q')).length = 1 → d1 = ⟨0, [(k : Int)], [r0]⟩ := fun h => by
    rw [← hd1, if_neg (by omega)]; rfl
   have hmany : 1 < (ints (k :: q')).length → d1.err = 19 := fun h => by
    rw [← hd1, if_pos (by omega)]
   refine cfg (fun hp w v h1 h2 h3 => c_RSame20T d1 ⟨0, [(k : Int)], [r0]⟩ (hone (by have hp : ((ints (k :: q')).length : Int) = 1 := hp; omega)) o1.1 o1.2 o6.1 o6.2 w v h3 h2.1.1.1.1.2 (hO v h2.1.1.1.1.1.1.1.1.2)) ?_
   refine cnd (fun h => ?_) (fun _ => ?_)
   ·exfalso
    rcases h with h | h
    ·exact absurd h.2 (by simp)
    ·exact h.2 (hmany (by have h1 : (1 : Int) < ((ints (k :: q')).length : Int) := h.1; omega))
   refine cf (fun w v h1 h2 h3 => c_RSame20T ⟨0, ints (List.take 1 (k :: q')), List.take 1 (r0 :: rows')⟩ ⟨0, [(k : Int)], [r0]⟩ rfl o2.1 o2.2 o6.1 o6.2 w v h3 h2.1.1.1.1.1.1.2 (hO v h2.1.1.1.1.1.1.1.1.2)) ?_
   refine cfg (fun _ w v h1 h2 h3 => c_shuffled (sortR (r0 :: rows')) (r0 :: rows') o5.2 o6.2 (sortR_perm _) w v h3 h2.1.1.2.w h2.1.1.1.1.1.1.1.1.2.w) ?_
   refine cbg (fun _ w hw => c_lives20 w h0 hw) ?_
   exact rfl
 ·refine cA TT_ok (fun w v h1 h2 h3 => c_MakeN (t := t) rfl he a htb w v h3 (tab_m _ _ _ _ h1 hc)) (fun _ => Mono.tru) (fun z1 => ?_)
  intro b5
  refine cnd (fun _ => ?_) (fun h => ?_)
  ·refine cb (fun w hw => c_lives20 w h0 hw) ?_
   exact rfl
  ·exact absurd he (by simpa using h)
end Go.Proofs.YtkkbnjomcgnkpaaGreat
