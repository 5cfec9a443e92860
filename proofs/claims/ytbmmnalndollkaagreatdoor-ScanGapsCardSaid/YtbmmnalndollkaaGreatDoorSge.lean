/- Laws of walks, and what functions of the program compute: part 5. Each with the conditions that it names. -/
import Derived.Test.YtbmmnalndollkaaGreatDoorRows
import Derived.Shelf.SlSortCmp.WholeK
import Derived.Ground.SlsfProg
import Derived.Shelf.SlSortCmp.InsertionK
import Derived.Shelf.SlSortCmp.SiftDownK
import Derived.Shelf.SlSortCmp.HeapSortK
import Derived.Shelf.SlSortCmp.MedianK
import Derived.Shelf.SlSortCmp.PivotK
import Derived.Shelf.SlSortCmp.ReverseRangeK
import Derived.Shelf.SlSortCmp.PartialInsertionK
import Derived.Shelf.SlSortCmp.PartitionEqualK
import Derived.Shelf.SlSortCmp.PartitionK
import Derived.Shelf.SlSortCmp.PdqK
import Derived.Shelf.SlSortCmp.NoneTotal
import Derived.Test.YtbmmnalndollkaaGreatDoorSgd
set_option linter.unusedSimpArgs false
set_option linter.unusedVariables false
set_option maxRecDepth 100000
namespace Go.Proofs.YtbmmnalndollkaaGreatDoor
open Go Go.Dx Go.RowKit
theorem parseC_right {s:List UInt8} (h:(parseC s).2.2=0):rightC (parseC s).1=true:=by
 revert h
 unfold parseC
 split
 ·rename_i hh; intro h; exact absurd h hh
 split
 ·intro _; rfl
 split
 ·intro h; cases h
 split
 ·intro h; cases h
 split
 ·intro h; cases h
 split
 ·rename_i hh; intro _; exact hh
 ·intro h; cases h
theorem parseT_right {s:List UInt8} (h:(parseT s).2.2=0):rightS (parseT s).1=true:=by
 rcases parse_inv s with h1 | h1
 ·exact h1.2.1
 ·exact absurd h h1.2.1
theorem c_RParseE {s:List UInt8} {x:Ex} {at' e:Int} (he:parseT s=(x,at',e)) (hsl:s.length≤9223372036854775807) (w0:World) (h0:View) (hv:VLe h0 (Full w0)) :
  Calls Tryz.prog 68 #[vs s] w0 (Ret w0 h0 λ u hh=>∃ a:Option Addr×Nat,u = .tuple #[exV x a,.int .i64 at',.int .i64 e]∧XL hh a.1 a.2 x.l):=by
 obtain ⟨f1,f2,f3,f4⟩:=lex_facts s
 have:=c_RParse s f1 f2 f3 f4 hsl w0 h0 hv
 rw [he] at this; exact this
abbrev SlH:=Option Addr×Nat×Nat
def ceC (q:Cel×AC):List Value:=celC q.1 q.2.1 q.2.2
def CeF (es:List (Cel×AC)) (h:View):Prop:=∀ q∈es,TL h q.2.1 q.2.2 q.1.ts
theorem cef_m (es:List (Cel×AC)):Mono λ h=>CeF es h:=λ _ _ hle hx q hq=>(hx q hq).mono hle
theorem cef_snoc {es:List (Cel×AC)} {q:Cel×AC} {h:View} (h1:CeF es h) (h2:TL h q.2.1 q.2.2 q.1.ts):CeF (es++[q]) h:=λ p hp=>by
 rcases List.mem_append.1 hp with hp | hp
 ·exact h1 p hp
 ·have:p=q:=by simpa using hp
  subst this; exact h2
def ce0:Cel×AC:=(cel0,none,0)
def xeC (q:Ex×AC):List Value:=exC q.1.op q.1.v q.1.s (.slice q.2.1 q.1.l.length q.2.2)
def XeF (es:List (Ex×AC)) (h:View):Prop:=∀ q∈es,XL h q.2.1 q.2.2 q.1.l
theorem xef_m (es:List (Ex×AC)):Mono λ h=>XeF es h:=λ _ _ hle hx q hq=>(hx q hq).mono hle
theorem xef_snoc {es:List (Ex×AC)} {q:Ex×AC} {h:View} (h1:XeF es h) (h2:XL h q.2.1 q.2.2 q.1.l):XeF (es++[q]) h:=λ p hp=>by
 rcases List.mem_append.1 hp with hp | hp
 ·exact h1 p hp
 ·have:p=q:=by simpa using hp
  subst this; exact h2
def xq0:Ex×AC:=(ex0,none,0)
structure LpG (β:Type) where
 a:Option Addr
 n:Nat
 c:Nat
 es:List β
 k:Nat
theorem take_map {α β γ:Type} {f:α→β} {l:List α} {es:List (β×γ)} {k:Nat} (d:α) (h:es.map (·.1)=(l.take k).map f) (hk:k<l.length) (g:γ):(es++[(f (l.getD k d),g)]).map (·.1)=(l.take (k+1)).map f:=by
 rw [List.map_append,h,take_snocD l k d hk,List.map_append]; rfl
theorem es_len {α β γ:Type} {f:α→β} {l:List α} {es:List (β×γ)} {k:Nat} (h:es.map (·.1)=(l.take k).map f) (hk:k≤l.length):es.length=k:=by
 have:=congrArg List.length h
 simp only [List.length_map,List.length_take] at this
 omega
def lnC (x y:SlH):List Value:=[.slice x.1 x.2.1 x.2.2,.slice y.1 y.2.1 y.2.2]
def lnV (x y:SlH) (k e:Int):Value := .tuple #[.agg (lnC x y).toArray,.int .i64 k,.int .i64 e]
set_option maxHeartbeats 4000000 in
theorem c_Rrule (t:Tab) (a:TA) (r:List (List UInt8)×List (List UInt8)) (p q:AC) (hl1:r.1.length≤1000000) (hl2:r.2.length≤1000000) (hsl:∀ s∈r.2,s.length≤1000000) (w0:World) (h0:View) (hv:VLe h0 (Full w0)) (hc:TabH h0 t a) (hr1:TxL h0 p r.1) (hr2:TxL h0 q r.2) :
  Calls Tryz.prog 34 #[.agg (tabC t a).toArray,.agg (ruC r p q).toArray] w0 (Ret w0 h0 λ u hh=>∃ z:SlH×SlH×Int,u=lnV z.1 z.2.1 z.2.2 (lineE t r) ∧
   (lineE t r=0→z.1.2.1=(lineV r).cs.length∧z.2.1.2.1=(lineV r).os.length∧LinH hh (lineV r) (z.1.1,z.1.2.2) (z.2.1.1,z.2.1.2.2))):=by
 have hci:=cols_len t.ins
 have hco:=cols_len t.outs
 have e0:lineE t r=if r.1.length≠t.ins.length∨r.2.length≠t.outs.length then 17
   else if firstE (λ k=>cellE t k (r.1.getD k [])) r.1.length≠0 then firstE (λ k=>cellE t k (r.1.getD k [])) r.1.length
   else firstE (λ k=>outE t k (r.2.getD k [])) r.2.length:=rfl
 generalize hE:lineE t r=E at e0 ⊢
 refine entA (args:=[.agg (tabC t a).toArray,.agg (ruC r p q).toArray]) TT_ok [1000023,12,129] [10,20,22] Tryz.func34 rfl Tryz.ntmps34 rfl rfl hv (λ x=>λ _ _ hle hx he=>⟨(hx he).1,(hx he).2.1,lin_m _ _ _ _ _ hle (hx he).2.2⟩) ?_
 intro b2 b3 b4 b7
 refine cnd (λ h=>?_) (λ h=>?_)
 ·rw [if_pos (by omega)] at e0
  rw [e0]
  exact ⟨((none,0,0),(none,0,0),0),rfl,λ v _ _ hh=>absurd hh (by decide)⟩
 rw [if_neg (by omega)] at e0
 refine nilC 900 71 3 ?_
 refine w_loopF TT_ok (λ z:LpG (Cel×AC)=>[(8,.v (.int .i64 z.k))]) (λ z=>[(900,.e (bufE 71 3 (.slice z.a z.n z.c) (z.es.map ceC).flatten)),(7,.c b7 75 (lnC (z.a,z.n,z.c) (none,0,0))),(4,.c b4 75 (lnC (none,0,0) (none,0,0))),(3,.c b3 86 (ruC r p q)),(2,.c b2 27 (tabC t a))])
  (λ z v=>CeF z.es v) ⟨none,0,0,[],0⟩ (λ z=>z.k≤r.1.length∧z.n=z.es.length∧z.es.map (·.1)=(r.1.take z.k).map (λ s=>(parseC s).1)∧∀ j,j<z.k→cellE t j (r.1.getD j [])=0) (λ z=>r.1.length - z.k) (λ z=>cef_m z.es) ?_
 refine And.intro ⟨⟨Nat.zero_le _,rfl,rfl,λ j hj=>absurd hj (Nat.not_lt_zero j)⟩,gs (fv:=λ v _ q hq=>absurd hq List.not_mem_nil)⟩ ?_
 rintro ⟨a1,n1,c1,es,k⟩ ⟨hk,hn1,hes,hz⟩
 dsimp only at hk hn1 hes hz ⊢
 refine cnd (λ h1=>?_) (λ h1=>?_)
 ·have hkl:k<r.1.length:=by omega
  have hel:=es_len hes hk
  have hcE:cellE t k (r.1.getD k [])=if (parseC (r.1.getD k [])).2.2≠0 then (parseC (r.1.getD k [])).2.2 else typC (parseC (r.1.getD k [])).1 (t.ins.getD k co0).1.kind (colsO t.ins):=rfl
  have her:=fir_er (f:=λ k=>cellE t k (r.1.getD k [])) hz
  have hpr:=parseC_right (s:=r.1.getD k [])
  have htm:=λ g=>take_map (f:=λ s=>(parseC s).1) (γ:=AC) (g:=g) [] hes hkl
  refine ixs hr1 k [] ?_
  refine cA TT_ok (λ w v h1 h2 h3=>c_RCParse (r.1.getD k []) w v h3) (λ a=>tl_m a _) (λ x=>?_)
  generalize hce:cellE t k (r.1.getD k [])=ce at *
  generalize parseC (r.1.getD k [])=P at *
  obtain ⟨c,at',e⟩:=P
  dsimp only at hcE hpr htm
  intro b9
  refine w_cutB TT_ok (λ _:Unit=>[(11,.v (.int .i64 ce))]) (λ _=>[(9,.c b9 71 (celC c x.1 x.2)),(46,.k none (adB p.1) (adO p.1+k*1) [vs (r.1.getD k [])]),(900,.e (bufE 71 3 (.slice a1 n1 c1) (es.map ceC).flatten)),(7,.c b7 75 (lnC (a1,n1,c1) (none,0,0))),(4,.c b4 75 (lnC (none,0,0) (none,0,0))),(3,.c b3 86 (ruC r p q)),(2,.c b2 27 (tabC t a))]) (λ _=>True) ?_
  refine And.intro ?_ ?_
  ·refine cnd (λ h2=>?_) (λ h2=>?_)
   ·have h2:e=0:=h2
    rw [if_neg (λ hh=>hh h2)] at hcE
    refine And.intro (by kernel_rfl) ?_
    refine ixs hc.i.1 k c0 ?_ (by omega)
    rw [cols_get t.ins k (by omega)]
    refine cf (λ w v h1 h4 h3=>c_RTyped c x.1 x.2 _ a.i.1 a.i.2 (colsO t.ins) (right_gt (hpr h2)) w v h3 h4.2 (hc.i.1.monoF h1)) ?_
    exact ⟨(),trivial,gs (by rw [hcE]; rfl)⟩
   ·rw [if_pos h2] at hcE
    exact ⟨(),trivial,gs (by rw [hcE]; rfl)⟩
  intro _ _
  refine cnd (λ h2=>?_) (λ h2=>?_)
  ·have h2:ce≠0:=h2
   have:=her h2 hkl
   rw [this,if_pos h2] at e0
   rw [e0]
   exact ⟨((a1,n1,c1),(none,0,0),k),rfl,λ v _ _ hh=>absurd hh h2⟩
  have h2:ce=0:=by simpa using h2
  intro b72
  refine ap TT_ok 900 (AppT.of (bytes:=32) (sz:=2) (by kernel_rfl) (by kernel_rfl) (by kernel_rfl)) rfl rfl rfl rfl rfl rfl rfl (by rw [row_flat (sz:=3) (λ _=>rfl)]; show (_+3)*33≤_; omega) (λ a3 n3 c3 e3=>?_)
  have hn3:n3=(es++[(c,x)]).length:=by
   rw [row_flat (sz:=3) (λ _=>rfl)] at e3
   have e3:n3*3=es.length*3+3:=e3
   rw [List.length_append]; show n3=es.length+1; omega
  have efl:((es++[(c,x)]).map ceC).flatten=(es.map ceC).flatten++(celC c x.1 x.2++[]):=by rw [List.map_append,List.flatten_append]; rfl
  refine wi ?_
  refine ⟨⟨a3,n3,c3,es++[(c,x)],k+1⟩,⟨⟨hkl,hn3,htm x,upto_snoc hz (hce.trans h2)⟩,by show r.1.length - (k+1)<r.1.length - k; omega⟩,gs rfl (by rw [efl]; rfl) (λ v hF=>cef_snoc hF.1 hF.2)⟩
 obtain rfl:k=r.1.length:=by omega
 have hfz:firstE (λ k=>cellE t k (r.1.getD k [])) r.1.length=0:=fir_ok hz
 rw [hfz,if_neg (λ hh=>hh rfl)] at e0
 rw [List.take_length] at hes
 refine And.intro rfl ?_
 rw [← row_map ceC ce0 es]
 refine sealW (g:=λ i=>ceC (es.getD i ce0)) (l:=List.range es.length) 900 rfl (by simp [hn1]) ?_
 refine goW TT_ok ?_
 refine nilC 901 114 6 ?_
 refine w_loopF TT_ok (λ z:LpG (Ex×AC)=>[(12,.v (.int .i64 z.k))]) (λ z=>[(901,.e (bufE 114 6 (.slice z.a z.n z.c) (z.es.map xeC).flatten)),(7,.c b7 75 (lnC (a1,n1,c1) (z.a,z.n,z.c))),(4,.c b4 75 (lnC (none,0,0) (none,0,0))),(3,.c b3 86 (ruC r p q)),(2,.c b2 27 (tabC t a))])
  (λ z v=>(SlC 71 3 (flatR λ i=>ceC (es.getD i ce0)) v (.slice a1 n1 c1) (List.range es.length)∧CeF es v)∧XeF z.es v) ⟨none,0,0,[],0⟩
  (λ z=>z.k≤r.2.length∧z.n=z.es.length∧z.es.map (·.1)=(r.2.take z.k).map (λ s=>(parseT s).1)∧∀ j,j<z.k→outE t j (r.2.getD j [])=0) (λ z=>r.2.length - z.k) (λ z _ _ hle hx=>⟨⟨hx.1.1.monoF hle,cef_m es _ _ hle hx.1.2⟩,xef_m _ _ _ hle hx.2⟩) ?_
 refine And.intro ⟨⟨Nat.zero_le _,rfl,rfl,λ j hj=>absurd hj (Nat.not_lt_zero j)⟩,gs (fv:=λ v hF=>⟨⟨hF.2,hF.1⟩,λ q hq=>absurd hq List.not_mem_nil⟩)⟩ ?_
 rintro ⟨a2,n2,c2,es2,k⟩ ⟨hk2,hn2,hes2,hz2⟩
 dsimp only at hk2 hn2 hes2 hz2 ⊢
 refine cnd (λ h1=>?_) (λ h1=>?_)
 ·have hkl:k<r.2.length:=by omega
  have hel:=es_len hes2 hk2
  have hcE:outE t k (r.2.getD k [])=if (parseT (r.2.getD k [])).2.2≠0 then (parseT (r.2.getD k [])).2.2 else if (kindT (colsO t.ins) (parseT (r.2.getD k [])).1).2≠0 then (kindT (colsO t.ins) (parseT (r.2.getD k [])).1).2
   else if fitS (kindT (colsO t.ins) (parseT (r.2.getD k [])).1).1 (t.outs.getD k co0).1.kind=false then 14 else 0:=rfl
  have her:=fir_er (f:=λ k=>outE t k (r.2.getD k [])) hz2
  have hpr:=parseT_right (s:=r.2.getD k [])
  have hnd:=parse_nd (r.2.getD k [])
  have hs:(r.2.getD k []).length≤1000000:=hsl _ (getD_mem r.2 k [] hkl)
  have htm:=λ g=>take_map (f:=λ s=>(parseT s).1) (γ:=AC) (g:=g) [] hes2 hkl
  refine ixs hr2 k [] ?_
  obtain ⟨x,at',e,he⟩:∃ x at' e,parseT (r.2.getD k [])=(x,at',e):=⟨_,_,_,rfl⟩
  refine cA TT_ok (λ w v h1 h2 h3=>c_RParseE he (by omega) w v h3) (λ a=>xl_m a _) (λ y=>?_)
  generalize hce:outE t k (r.2.getD k [])=ce at *
  rw [he] at hcE hpr hnd htm
  dsimp only at hcE hpr hnd htm
  intro b13
  obtain ⟨pk,hpk⟩:∃ pk,kindT (colsO t.ins) x=pk:=⟨_,rfl⟩
  rw [hpk] at hcE
  refine w_cutB TT_ok (λ _:Unit=>[(16,.v (.int .i64 (if e≠0 then 0 else pk.1))),(15,.v (.int .i64 (if e≠0 then e else pk.2)))]) (λ _=>[(13,.c b13 114 (xeC (x,y))),(86,.k none (adB q.1) (adO q.1+k*1) [vs (r.2.getD k [])]),(901,.e (bufE 114 6 (.slice a2 n2 c2) (es2.map xeC).flatten)),(7,.c b7 75 (lnC (a1,n1,c1) (a2,n2,c2))),(4,.c b4 75 (lnC (none,0,0) (none,0,0))),(3,.c b3 86 (ruC r p q)),(2,.c b2 27 (tabC t a))]) (λ _=>True) ?_
  refine And.intro ?_ ?_
  ·refine cnd (λ h2=>?_) (λ h2=>?_)
   ·have h2:e=0:=h2
    refine cf (λ w v h1 h4 h3=>c_RKindP (p:=pk) a.i.1 a.i.2 (colsO t.ins) x y.1 y.2 hpk w v h3 ⟨h4.2,hnd.1,hnd.2,smx_right (hpr h2)⟩ (hc.i.1.monoF h1)) ?_
    exact ⟨(),trivial,gs (by rw [if_neg (λ hh=>hh h2),if_neg (λ hh=>hh h2)]; rfl)⟩
   ·exact ⟨(),trivial,gs (by rw [if_pos h2,if_pos h2]; rfl)⟩
  intro _ _
  refine w_cutB TT_ok (λ _:Unit=>[(15,.v (.int .i64 ce))]) (λ _=>[(13,.c b13 114 (xeC (x,y))),(86,.k none (adB q.1) (adO q.1+k*1) [vs (r.2.getD k [])]),(901,.e (bufE 114 6 (.slice a2 n2 c2) (es2.map xeC).flatten)),(7,.c b7 75 (lnC (a1,n1,c1) (a2,n2,c2))),(4,.c b4 75 (lnC (none,0,0) (none,0,0))),(3,.c b3 86 (ruC r p q)),(2,.c b2 27 (tabC t a))]) (λ _=>True) ?_
  refine And.intro ?_ ?_
  ·refine ixsg hc.o.1 k c0 ?_ (by intros; omega)
   refine kg1 ?_
   rw [cols_get t.outs k (by omega)]
   refine cbg (λ _ w hw=>c_RFits _ _ w h0 hw) ?_
   refine cnd (λ h2=>?_) (λ h2=>?_)
   ·have h14:ce=14:=by
     rw [hcE]
     by_cases h3:e=0
     ·rw [if_neg (λ hh=>hh h3),if_neg (λ hh=>hh h3)] at h2
      rw [if_neg (λ hh=>hh h3),if_neg (λ hh=>hh h2.1),if_pos h2.2]
     ·rw [if_pos h3] at h2
      exact absurd h2.1 h3
    exact ⟨(),trivial,gs (by rw [h14]; rfl)⟩
   ·have h15:(if e≠0 then e else pk.2)=ce:=by
     rw [hcE]
     by_cases h3:e=0
     ·rw [if_neg (λ hh=>hh h3),if_neg (λ hh=>hh h3)] at h2
      rw [if_neg (λ hh=>hh h3),if_neg (λ hh=>hh h3)]
      by_cases h4:pk.2=0
      ·rw [if_neg (λ hh=>hh h4),if_neg (by
        rcases h2 with h2 | h2
        ·exact absurd h4 h2
        ·rw [h2]; decide),h4]
      ·rw [if_pos h4]
     ·rw [if_pos h3,if_pos h3]
    exact ⟨(),trivial,gs (by rw [h15]; rfl)⟩
  intro _ _
  refine cnd (λ h2=>?_) (λ h2=>?_)
  ·have h2:ce≠0:=h2
   have:=her h2 hkl
   rw [this] at e0
   rw [e0]
   refine regPh TT_ok [([0,1,4,6,2,3,5],[7]),([8,9],[])] [4] ?_
   refine wi ?_
   refine kq ?_
   refine kq ?_
   refine kq ?_
   exact ⟨((a1,n1,c1),(a2,n2,c2),((colsO t.ins).length:Int)+k),rfl,λ v _ _ hh=>absurd hh h2⟩
  have h2:ce=0:=by simpa using h2
  intro b126
  refine ap TT_ok 901 (AppT.of (bytes:=80) (sz:=5) (by kernel_rfl) (by kernel_rfl) (by kernel_rfl)) rfl rfl rfl rfl rfl rfl rfl (by rw [row_flat (sz:=6) (λ _=>rfl)]; show (_+6)*81≤_; omega) (λ a3 n3 c3 e3=>?_)
  have hn3:n3=(es2++[(x,y)]).length:=by
   rw [row_flat (sz:=6) (λ _=>rfl)] at e3
   have e3:n3*6=es2.length*6+6:=e3
   rw [List.length_append]; show n3=es2.length+1; omega
  have efl:((es2++[(x,y)]).map xeC).flatten=(es2.map xeC).flatten++(xeC (x,y)++[]):=by rw [List.map_append,List.flatten_append]; rfl
  refine wi ?_
  refine And.intro rfl ?_
  refine goW TT_ok ?_
  refine ⟨⟨a3,n3,c3,es2++[(x,y)],k+1⟩,⟨⟨hkl,hn3,htm y,upto_snoc hz2 (hce.trans h2)⟩,by show r.2.length - (k+1)<r.2.length - k; omega⟩,gs rfl (by rw [efl]; rfl) (λ v hF=>⟨hF.1.1,xef_snoc hF.1.2 hF.2⟩)⟩
 obtain rfl:k=r.2.length:=by omega
 have hfz:firstE (λ k=>outE t k (r.2.getD k [])) r.2.length=0:=fir_ok hz2
 rw [hfz] at e0
 rw [List.take_length] at hes2
 refine And.intro rfl ?_
 rw [← row_map xeC xq0 es2]
 refine sealW (g:=λ i=>xeC (es2.getD i xq0)) (l:=List.range es2.length) 901 rfl (by simp [hn2]) ?_
 refine goW TT_ok ?_
 rw [e0]
 have hl1:n1=(lineV r).cs.length:=by rw [hn1]; have:=congrArg List.length hes; simpa [lineV] using this
 have hl2:n2=(lineV r).os.length:=by rw [hn2]; have:=congrArg List.length hes2; simpa [lineV] using this
 refine ⟨((a1,n1,c1),(a2,n2,c2),0),rfl,λ v _ hF _=>⟨hl1,hl2,?_,?_⟩⟩
 ·have:=LR.of_row (R:=CelR) (g:=λ q:Cel×AC=>q.1) hF.1.1.1 hn1 (λ q hq=>⟨q.2,rfl,hF.1.1.2 q hq⟩)
  rw [hes] at this; exact this
 ·have:=LR.of_row (R:=λ h cs x=>RX h cs x) (g:=λ q:Ex×AC=>q.1) hF.2 hn2 (λ q hq=>XL.rx (hF.1.2 q hq) (by
   have hm:q.1∈es2.map (·.1):=List.mem_map.2 ⟨q,hq,rfl⟩
   rw [hes2] at hm
   obtain ⟨s,_,e⟩:=List.mem_map.1 hm
   rw [← e]; exact parse_nd s))
  rw [hes2] at this; exact this
end Go.Proofs.YtbmmnalndollkaaGreatDoor
set_option maxRecDepth 100000
namespace Go.Proofs.YtbmmnalndollkaaGreatDoor
open Go Go.Dx Go.RowKit
def lqC (q:Lin×SlH×SlH):List Value:=lnC q.2.1 q.2.2
def LqH (h:View) (q:Lin×SlH×SlH):Prop:=q.2.1.2.1=q.1.cs.length∧q.2.2.2.1=q.1.os.length∧LinH h q.1 (q.2.1.1,q.2.1.2.2) (q.2.2.1,q.2.2.2.2)
theorem lqh_m (q:Lin×SlH×SlH):Mono λ h=>LqH h q:=λ _ _ hle hx=>⟨hx.1,hx.2.1,lin_m _ _ _ _ _ hle hx.2.2⟩
def LqF (es:List (Lin×SlH×SlH)) (h:View):Prop:=∀ q∈es,LqH h q
theorem lqf_m (es:List (Lin×SlH×SlH)):Mono λ h=>LqF es h:=λ _ _ hle hx q hq=>lqh_m _ _ _ hle (hx q hq)
theorem lqf_snoc {es:List (Lin×SlH×SlH)} {q:Lin×SlH×SlH} {h:View} (h1:LqF es h) (h2:LqH h q):LqF (es++[q]) h:=λ p hp=>by
 rcases List.mem_append.1 hp with hp | hp
 ·exact h1 p hp
 ·have:p=q:=by simpa using hp
  subst this; exact h2
def lq0:Lin×SlH×SlH:=(lin0,(none,0,0),(none,0,0))
theorem LqH.r {h:View} {q:Lin×SlH×SlH} (hx:LqH h q):LinR h (lqC q) q.1:=by
 obtain ⟨l,⟨a1,n1,c1⟩,⟨a2,n2,c2⟩⟩:=q
 obtain ⟨h1,h2,h3⟩:=hx
 dsimp only at h1 h2 h3
 exact ⟨(a1,c1),(a2,c2),by rw [lqC,lnC,liC,h1,h2],h3⟩
def ta0:TA:=⟨(none,0),(none,0),(none,0)⟩
def mkV (t:Tab) (a:TA) (z:AC×Int×Int):Value:=if makeE t=0 then .tuple #[.agg (rdyC (makeV t) a z.1).toArray,.int .i64 0,.int .i64 0,.int .i64 0] else .tuple #[.agg (rdyC rdy0 ta0 (none,0)).toArray,.int .i64 z.2.1,.int .i64 z.2.2,.int .i64 (makeE t)]
def LzF (t:Tab) (r:List (List UInt8)×List (List UInt8)) (z:SlH×SlH×Int) (h:View):Prop:=lineE t r=0→z.1.2.1=(lineV r).cs.length∧z.2.1.2.1=(lineV r).os.length∧LinH h (lineV r) (z.1.1,z.1.2.2) (z.2.1.1,z.2.1.2.2)
theorem lzf_m (t:Tab) (r:List (List UInt8)×List (List UInt8)) (z:SlH×SlH×Int):Mono λ h=>LzF t r z h:=λ _ _ hle hx he=>⟨(hx he).1,(hx he).2.1,lin_m _ _ _ _ _ hle (hx he).2.2⟩
set_option maxHeartbeats 4000000 in
theorem c_Make (t:Tab) (a:TA) (hb:TabB t) (w0:World) (h0:View) (hv:VLe h0 (Full w0)) (hc:TabH h0 t a) :
  Calls Tryz.prog 10 #[.agg (tabC t a).toArray] w0 (Ret w0 h0 λ u hh=>∃ z:AC×Int×Int,u=mkV t a z∧(makeE t=0→RdyH hh (makeV t) a z.1)):=by
 have e0:makeE t=if frameE t≠0 then frameE t else firstE (λ i=>lineE t (t.rules.getD i ru0)) t.rules.length:=rfl
 have hok:∀ z,makeE t=0→mkV t a z = .tuple #[.agg (rdyC (makeV t) a z.1).toArray,.int .i64 0,.int .i64 0,.int .i64 0]:=λ z h=>if_pos h
 have her:∀ z,makeE t≠0→mkV t a z = .tuple #[.agg (rdyC rdy0 ta0 (none,0)).toArray,.int .i64 z.2.1,.int .i64 z.2.2,.int .i64 (makeE t)]:=λ z h=>if_neg h
 generalize mkV t a=mk at hok her ⊢
 generalize makeE t=E at e0 hok her ⊢
 refine entA (args:=[.agg (tabC t a).toArray]) TT_ok [1000008,50] [9] Tryz.func10 rfl Tryz.ntmps10 rfl rfl hv (λ x=>λ _ _ hle hx he=>rdy_m _ _ _ _ _ hle (hx he)) ?_
 intro b1 b2
 refine cb (λ w hw=>c_Rframe t a hb w h0 hw hc) ?_
 refine cnd (λ h=>?_) (λ h=>?_)
 ·have h:frameE t≠0:=h
  rw [if_pos h] at e0
  subst e0
  exact ⟨((none,0), -1,0),(her ((none,0), -1,0) h).symm,λ v _ _ hh=>absurd hh h⟩
 rw [if_neg (λ hh=>hh (by simpa using h))] at e0
 intro b7
 refine nilC 900 75 2 ?_
 refine w_loopF TT_ok (λ z:LpG (Lin×SlH×SlH)=>[(8,.v (.int .i64 z.k))]) (λ z=>[(900,.e (bufE 75 2 (.slice z.a z.n z.c) (z.es.map lqC).flatten)),(7,.c b7 32 (tabC t a++[.slice z.a z.n z.c])),(2,.c b2 32 (rdyC rdy0 ta0 (none,0))),(1,.c b1 27 (tabC t a))])
  (λ z v=>LqF z.es v) ⟨none,0,0,[],0⟩ (λ z=>z.k≤t.rules.length∧z.n=z.es.length∧z.es.map (·.1)=(t.rules.take z.k).map lineV∧∀ j,j<z.k→lineE t (t.rules.getD j ru0)=0) (λ z=>t.rules.length - z.k) (λ z=>lqf_m z.es) ?_
 refine And.intro ⟨⟨Nat.zero_le _,rfl,rfl,λ j hj=>absurd hj (Nat.not_lt_zero j)⟩,gs (fv:=λ v _ q hq=>absurd hq List.not_mem_nil)⟩ ?_
 rintro ⟨a1,n1,c1,es,k⟩ ⟨hk,hn1,hes,hz⟩
 dsimp only at hk hn1 hes hz ⊢
 have hlk:=hb.k
 refine cnd (λ h1=>?_) (λ h1=>?_)
 ·have hkl:k<t.rules.length:=by omega
  have hel:=es_len hes hk
  have hfe:=fir_er (f:=λ i=>lineE t (t.rules.getD i ru0)) hz
  have htm:=λ g=>take_map (f:=lineV) (γ:=SlH×SlH) (g:=g) ru0 hes hkl
  have hbr:=hb.r _ (getD_mem t.rules k ru0 hkl)
  obtain ⟨r,hr⟩:∃ r,t.rules.getD k ru0=r:=⟨_,rfl⟩
  rw [hr] at htm hbr hfe
  refine w_cutF TT_ok (λ y:Nat×SlH×SlH×Int=>[(9,.o 9 0),(10,.v (.int .i64 y.2.2.2)),(11,.v (.int .i64 (lineE t r)))]) (λ y=>[(9,.c y.1 75 (lnC y.2.1 y.2.2.1)),(900,.e (bufE 75 2 (.slice a1 n1 c1) (es.map lqC).flatten)),(7,.c b7 32 (tabC t a++[.slice a1 n1 c1])),(2,.c b2 32 (rdyC rdy0 ta0 (none,0))),(1,.c b1 27 (tabC t a))])
   (λ y v=>LqF es v∧LzF t r y.2 v) (λ _=>True) (λ y _ _ hle hx=>⟨lqf_m _ _ _ hle hx.1,lzf_m _ _ _ _ _ hle hx.2⟩) ?_
  refine And.intro ?_ ?_
  ·refine regPt TT_ok (.m [0,1,3,2,4,5] (.n 6 (.m [7,8,9,10] (.n 11 (.n 12 (.m [13,14] .e) .z) .z)) (.n 11 (.n 6 (.m [7,8,9,10] (.n 12 (.m [13,14] .e) .z)) .z) .z))) [9] ?_
   refine ixL (R:=RuR) hc.r k ru0 (λ cs hcs=>?_)
   rw [hr] at hcs
   obtain ⟨pa,pb,rfl,g1,g2⟩:=hcs
   refine kq ⟨?_,?_⟩
   ·refine cA TT_ok (λ w v h1 h2 h3=>c_Rrule t a r pa pb hbr.2.1 hbr.2.2 hbr.1 w v h3 (tab_m _ _ _ _ h1 hc) (txtl_m _ _ _ _ h1 g1) (txtl_m _ _ _ _ h1 g2)) (λ y=>lzf_m t r y) (λ y=>?_)
    refine kq ?_
    refine kq ?_
    intro b9
    refine kq ?_
    refine kq ?_
    refine kq ?_
    exact ⟨(b9,y),trivial,gsJ ⟨rfl,rfl,rfl,rfl,rfl,trivial⟩⟩
   ·intro b9
    refine kq ?_
    refine cA TT_ok (λ w v h1 h2 h3=>c_Rrule t a r pa pb hbr.2.1 hbr.2.2 hbr.1 w v h3 (tab_m _ _ _ _ h1 hc) (txtl_m _ _ _ _ h1 g1) (txtl_m _ _ _ _ h1 g2)) (λ y=>lzf_m t r y) (λ y=>?_)
    refine kq ?_
    refine kq ?_
    refine kq ?_
    refine kq ?_
    exact ⟨(b9,y),trivial,gsJ ⟨rfl,rfl,rfl,rfl,rfl,trivial⟩⟩
  rintro ⟨b9,y1,y2,yk⟩ _
  dsimp only
  refine cnd (λ h2=>?_) (λ h2=>?_)
  ·have h2:lineE t r≠0:=h2
   have:=hfe h2 hkl
   rw [this] at e0
   subst e0
   exact ⟨((none,0),k,yk),(her ((none,0),k,yk) h2).symm,λ v _ _ hh=>absurd hh h2⟩
  have h2:lineE t r=0:=by simpa using h2
  intro b47
  refine ap TT_ok 900 (AppT.of (bytes:=48) (sz:=1) (by kernel_rfl) (by kernel_rfl) (by kernel_rfl)) rfl rfl rfl rfl rfl rfl rfl (by rw [row_flat (sz:=2) (λ _=>rfl)]; show (_+2)*49≤_; omega) (λ a3 n3 c3 e3=>?_)
  have hn3:n3=(es++[(lineV r,y1,y2)]).length:=by
   rw [row_flat (sz:=2) (λ _=>rfl)] at e3
   have e3:n3*2=es.length*2+2:=e3
   rw [List.length_append]; show n3=es.length+1; omega
  have efl:((es++[(lineV r,y1,y2)]).map lqC).flatten=(es.map lqC).flatten++(lnC y1 y2++[]):=by rw [List.map_append,List.flatten_append]; rfl
  refine wi ?_
  refine ⟨⟨a3,n3,c3,es++[(lineV r,y1,y2)],k+1⟩,⟨⟨hkl,hn3,htm (y1,y2),upto_snoc hz (by rw [hr]; exact h2)⟩,by show t.rules.length - (k+1)<t.rules.length - k; omega⟩,gs rfl (by rw [efl]; rfl) (λ v hF=>lqf_snoc hF.1 (hF.2 h2))⟩
 obtain rfl:k=t.rules.length:=by omega
 rw [show firstE (λ i=>lineE t (t.rules.getD i ru0)) t.rules.length=0 from fir_ok hz] at e0
 rw [List.take_length] at hes
 refine And.intro rfl ?_
 rw [← row_map lqC lq0 es]
 refine sealW (g:=λ i=>lqC (es.getD i lq0)) (l:=List.range es.length) 900 rfl (by simp [hn1]) ?_
 refine goW TT_ok ?_
 subst e0
 have hl1:n1=(makeV t).ls.length:=by rw [hn1]; have:=congrArg List.length hes; simpa [makeV] using this
 have hfin:=(hok ((a1,c1),0,0) rfl).symm
 rw [rdyC,← hl1] at hfin
 refine ⟨((a1,c1),0,0),hfin,λ v hle hF _=>⟨tab_m _ _ _ _ hle hc,?_⟩⟩
 ·have:=LR.of_row (R:=LinR) (g:=λ q:Lin×SlH×SlH=>q.1) hF.2 hn1 (λ q hq=>(hF.1 q hq).r)
  rw [hes] at this; exact this
end Go.Proofs.YtbmmnalndollkaaGreatDoor
set_option maxRecDepth 100000
namespace Go.Proofs.YtbmmnalndollkaaGreatDoor
open Go Go.Dx Go.RowKit
structure RdyB (r:Rdy):Prop where
 ins:r.t.ins.length≤1000000
 ls:r.ls.length≤1000000
 l:∀ l∈r.ls,l.cs.length=r.t.ins.length∧l.os.length≤1000000∧(∀ c∈l.cs,∀ t∈c.ts,GT t)∧(∀ x∈l.os,Nd x∧SmX x)
 no:∀ l∈r.ls,1≤l.os.length
theorem c_Input (r:Rdy) (a:TA) (x b:AC) (row:List Val) (hvb:∀ v∈row,valB v) (w0:World) (h0:View) (hv:VLe h0 (Full w0)) (hr:RdyH h0 r a x) (hrow:SlC 52 3 (flatR valC) h0 (.slice b.1 row.length b.2) row) :
  Calls Tryz.prog 60 #[.agg (rdyC r a x).toArray,.slice b.1 row.length b.2] w0 (Ret w0 h0 λ u _=>u = .int .i64 (inputE r row)):=by
 have hlm:=slc_lm hrow
 have hci:=cols_len r.t.ins
 have e21:¬ (row.length=r.t.ins.length∧∀ i,i<row.length→inG r row i)→inputE r row=21:=λ h=>if_neg h
 have e00:(row.length=r.t.ins.length∧∀ i,i<row.length→inG r row i)→inputE r row=0:=λ h=>if_pos h
 generalize inputE r row=E at e21 e00 ⊢
 refine ent (args:=[.agg (rdyC r a x).toArray,.slice b.1 row.length b.2]) TT_ok [] [] Tryz.func60 rfl Tryz.ntmps60 rfl rfl hv ?_
 intro b2
 refine cnd (λ h=>?_) (λ h=>?_)
 ·rw [e21 (λ hh=>by omega)]; exact rfl
 have hlen:row.length=r.t.ins.length:=by omega
 refine w_loop TT_ok (λ k:Nat=>[(16,.v (.int .i64 k))]) 0 (λ k=>k≤row.length∧∀ i,i<k→inG r row i) (λ k=>row.length - k) ?_
 refine And.intro ⟨⟨Nat.zero_le _,λ j hj=>absurd hj (Nat.not_lt_zero j)⟩,gs⟩ ?_
 intro k ⟨hk,hn⟩
 refine cnd (λ h1=>?_) (λ h1=>?_)
 ·have hkl:k<row.length:=by omega
  refine ixs hrow k v0 ?_
  intro b6
  refine And.intro (by kernel_rfl) ?_
  refine cb (λ w hw=>c_VCheck _ (hvb _ (getD_mem row k v0 hkl)) w h0 hw) ?_
  refine ixsg hr.t.i.1 k c0 ?_ (by intros; omega)
  refine kg1 ?_
  refine cbg (λ _ w hw=>c_Fits _ _ w h0 hw) ?_
  refine cnd (λ h2=>?_) (λ h2=>?_)
  ·rw [e21 (λ hh=>by
    have hg:=hh.2 k hkl
    rcases h2 with h2 | h2
    ·rw [if_pos hg.1] at h2; exact h2 rfl
    ·rw [hg.2] at h2; cases h2)]
   exact rfl
  ·refine wi ?_
   refine ⟨k+1,⟨⟨hkl,upto_snoc hn ⟨?_,h2.2⟩⟩,by omega⟩,gs⟩
   have h3:=h2.1
   split at h3
   ·assumption
   ·exact absurd h3 (by decide)
 ·rw [e00 ⟨hlen,λ i hi=>hn i (by omega)⟩]; exact rfl
theorem getD_line {r:Rdy} (hb:RdyB r) {i:Nat} (hi:i<r.ls.length):(r.ls.getD i lin0).cs.length=r.t.ins.length∧(r.ls.getD i lin0).os.length≤1000000∧(∀ c∈(r.ls.getD i lin0).cs,∀ t∈c.ts,GT t)∧(∀ x∈(r.ls.getD i lin0).os,Nd x∧SmX x):=hb.l _ (getD_mem r.ls i lin0 hi)
set_option maxHeartbeats 2000000 in
theorem c_holdsH (r:Rdy) (a:TA) (x b:AC) (row:List Val) (i:Nat) (hb:RdyB r) (hi:i<r.ls.length) (hl:row.length=r.t.ins.length) (hvb:∀ v∈row,valB v) (w0:World) (h0:View) (hv:VLe h0 (Full w0)) (hr:RdyH h0 r a x) (hrow:SlC 52 3 (flatR valC) h0 (.slice b.1 row.length b.2) row) :
  Calls Tryz.prog 61 #[.agg (rdyC r a x).toArray,.int .i64 (i:Nat),.slice b.1 row.length b.2] w0 (Ret w0 h0 λ u _=>u=kbR2 (ruleS r row i)):=by
 have hlm:=slc_lm hrow
 have hci:=cols_len r.t.ins
 have hg:=getD_line hb hi
 have hbi:=hb.ins
 have e0:ruleS r row i=allS (cellH r row i) (r.ls.getD i lin0).cs.length:=rfl
 rw [e0]; clear e0
 have eC:∀ k,cellH r row i k=holdsC ((r.ls.getD i lin0).cs.getD k cel0) (row.getD k v0) (colsO r.t.ins) row:=λ _=>rfl
 refine ent (args:=[.agg (rdyC r a x).toArray,.int .i64 (i:Nat),.slice b.1 row.length b.2]) TT_ok [] [] Tryz.func61 rfl Tryz.ntmps61 rfl rfl hv ?_
 intro b3
 refine ixL (R:=LinR) hr.l i lin0 (λ cs hcs=>?_)
 generalize r.ls.getD i lin0=ln at hg eC hcs ⊢
 obtain ⟨la,lb,rfl,hlin⟩:=hcs
 refine w_loop TT_ok (λ k:Nat=>[(19,.v (.int .i64 k))]) 0 (λ k=>k≤ln.cs.length∧∀ j,j<k→cellH r row i j=(true,0)) (λ k=>ln.cs.length - k) ?_
 refine And.intro ⟨⟨Nat.zero_le _,λ j hj=>absurd hj (Nat.not_lt_zero j)⟩,gs⟩ ?_
 intro k ⟨hk,hn⟩
 refine cnd (λ h1=>?_) (λ h1=>?_)
 ·have hkl:k<ln.cs.length:=by omega
  have hgt:=hg.2.2.1 _ (getD_mem ln.cs k cel0 hkl)
  have hec:=eC k
  refine ixL (R:=CelR) hlin.1 k cel0 (λ cs hcs=>?_)
  generalize ln.cs.getD k cel0=c at hgt hec hcs ⊢
  obtain ⟨y,rfl,ht⟩:=hcs
  intro b9
  refine And.intro (by kernel_rfl) ?_
  refine ixs hrow k v0 ?_ (by omega)
  refine cb (λ w hw=>c_CHoldsK hec.symm y.1 y.2 a.i.1 a.i.2 b.1 b.2 hgt (hvb _ (getD_mem row k v0 (by omega))) (by omega) hvb w h0 hw ht hr.t.i.1 hrow) ?_
  generalize hp:cellH r row i k=p at *
  refine cnd (λ h2=>?_) (λ h2=>?_)
  ·have hne:cellH r row i k≠(true,0):=λ hh=>by
    rw [hp] at hh; subst hh
    rcases h2 with h2 | h2
    ·exact h2 rfl
    ·cases h2
   rw [alls_er hn hne hkl,hp]; exact rfl
  ·refine wi ?_
   refine ⟨k+1,⟨⟨hkl,upto_snoc hn ?_⟩,by omega⟩,gs⟩
   rw [hp]
   obtain ⟨p1,p2⟩:=p
   have h3:p2=0:=by simpa using h2.1
   have h4:p1=true:=by simpa using h2.2
   rw [h3,h4]
 ·rw [alls_ok λ j hj=>hn j (by omega)]; exact rfl
end Go.Proofs.YtbmmnalndollkaaGreatDoor
set_option maxRecDepth 100000
namespace Go.Proofs.YtbmmnalndollkaaGreatDoor
open Go Go.Dx Go.RowKit
def nC (i:Nat):List Value:=[.int .i64 (i:Int)]
def ruV (q:List Nat×Nat×Int) (z:AC):Value := .tuple #[.slice z.1 q.1.length z.2,.int .i64 (q.2.1:Int),.int .i64 q.2.2]
set_option maxHeartbeats 4000000 in
theorem c_HRules (r:Rdy) (a:TA) (x b:AC) (row:List Val) (hb:RdyB r) (hvb:∀ v∈row,valB v) (w0:World) (h0:View) (hv:VLe h0 (Full w0)) (hr:RdyH h0 r a x) (hrow:SlC 52 3 (flatR valC) h0 (.slice b.1 row.length b.2) row) :
  Calls Tryz.prog 29 #[.agg (rdyC r a x).toArray,.slice b.1 row.length b.2] w0 (Ret w0 h0 λ u hh=>∃ z:AC,u=ruV (rulesR r row) z∧SlC 3 1 (flatR nC) hh (.slice z.1 (rulesR r row).1.length z.2) (rulesR r row).1):=by
 have hbl:=hb.ls
 have eI:inputE r row≠0→rulesR r row=([],0,inputE r row):=λ h=>if_pos h
 have eR:inputE r row=0→rulesR r row=rulesS r.t.pol (ruleS r row) r.ls.length:=λ h=>if_neg (λ hh=>hh h)
 have hin:inputE r row=0→row.length=r.t.ins.length:=λ h=>by
  unfold inputE at h
  split at h
  ·rename_i hh; exact hh.1
  ·exact absurd h (by decide)
 generalize rulesR r row=q at eI eR ⊢
 refine entA (args:=[.agg (rdyC r a x).toArray,.slice b.1 row.length b.2]) TT_ok [4] [] Tryz.func29 rfl Tryz.ntmps29 rfl rfl hv (λ _=>Mono.slF) ?_
 intro b2
 refine And.intro rfl ?_
 refine goW TT_ok ?_
 refine cb (λ w hw=>c_Input r a x b row hvb w h0 hw hr hrow) ?_
 refine cnd (λ h=>?_) (λ h=>?_)
 ·have h:inputE r row≠0:=h
  refine And.intro rfl ?_
  refine goW TT_ok ?_
  rw [eI h]
  exact ⟨(none,0),rfl,λ v _ _=>SlC.nil (by simp [maxLen])⟩
 have h:inputE r row=0:=by simpa using h
 rw [eR h]
 have hl:=hin h
 clear eI eR hin
 have hS:∀ j,stopR r.t.pol (ruleS r row) j=(decide ((ruleS r row j).2≠0)||((ruleS r row j).1&&decide (r.t.pol=2))):=λ j=>rfl
 refine nilC 900 3 1 ?_
 refine w_loopF TT_ok (λ z:(Option Addr×Nat×Nat)×Nat=>[(21,.v (.int .i64 z.2)),(8,.v (.slice z.1.1 z.1.2.1 z.1.2.2))]) (λ z=>[(900,.e (bufE 3 1 (.slice z.1.1 z.1.2.1 z.1.2.2) ((heldR (ruleS r row) z.2).map nC).flatten)),(2,.c b2 32 (rdyC r a x))])
  (λ z v=>True) ((none,0,0),0) (λ z=>z.2≤r.ls.length∧z.1.2.1=(heldR (ruleS r row) z.2).length∧∀ j,j<z.2→stopR r.t.pol (ruleS r row) j=false) (λ z=>r.ls.length - z.2) (λ z _ _ _ _=>trivial) ?_
 refine And.intro ⟨⟨Nat.zero_le _,rfl,λ j hj=>absurd hj (Nat.not_lt_zero j)⟩,gs (fv:=λ v _=>trivial)⟩ ?_
 rintro ⟨⟨a1,n1,c1⟩,k⟩ ⟨hk,hn1,hz⟩
 dsimp only at hk hn1 hz ⊢
 have hle:(heldR (ruleS r row) k).length≤k:=by
  have:=List.length_filter_le (λ i=>(ruleS r row i).1) (List.range k)
  rw [List.length_range] at this; exact this
 refine cnd (λ h1=>?_) (λ h1=>?_)
 ·have hkl:k<r.ls.length:=by omega
  refine cb (λ w hw=>c_holdsH r a x b row k hb hkl hl hvb w h0 hw hr hrow) ?_
  have hsn:=held_snoc (ruleS r row) k
  have hsk:=hS k
  have hrs:=rules_some (pol:=r.t.pol) (f:=ruleS r row) (n:=r.ls.length) (k:=k) hz
  generalize hp:ruleS r row k=p at hsn hsk hrs ⊢
  obtain ⟨p1,p2⟩:=p
  dsimp only at hsn hsk hrs
  refine cnd (λ h2=>?_) (λ h2=>?_)
  ·have h2:p2≠0:=h2
   refine And.intro rfl ?_
   refine goW TT_ok ?_
   rw [hrs (by rw [hsk,decide_eq_true h2,Bool.true_or]) hkl,if_pos h2]
   exact ⟨(none,0),rfl,λ v _ _=>SlC.nil (by simp [maxLen])⟩
  have h2:p2=0:=by simpa using h2
  subst h2
  have hd:decide ((0:Int)≠0)=false:=by decide
  rw [hd,Bool.false_or] at hsk
  refine cnd (λ h3=>?_) (λ h3=>?_)
  ·obtain ⟨h3,h4⟩:p1=true∧r.t.pol=2:=h3
   subst h3
   rw [hrs (by rw [hsk,h4]; rfl) hkl,if_neg (by decide)]
   intro b45
   refine And.intro rfl ?_
   refine shutW 45 (row_sl (g:=nC) (l:=[k]) (sz:=1) (n:=1) (cp:=1) rfl) ?_ Mono.slF
   refine goW TT_ok ?_
   exact ⟨(some ⟨b45,0,none⟩,1),rfl,λ v _ hF=>hF.2⟩
  have h5:stopR r.t.pol (ruleS r row) k=false:=by
   rw [hsk]
   rcases h3 with h3 | h3
   ·have h3:p1=false:=h3
    rw [h3]; rfl
   ·rw [decide_eq_false h3]; simp
  refine cnd (λ h4=>?_) (λ h4=>?_)
  ·have h4:p1=true:=h4
   rw [if_pos h4] at hsn
   intro b50
   refine ap TT_ok 900 (AppT.of (bytes:=8) (sz:=0) (by kernel_rfl) (by kernel_rfl) (by kernel_rfl)) rfl rfl rfl rfl rfl rfl rfl (by rw [row_flat (sz:=1) (λ _=>rfl)]; show (_+1)*9≤_; omega) (λ a3 n3 c3 e3=>?_)
   refine wi ?_
   have hn3:n3=(heldR (ruleS r row) (k+1)).length:=by
    rw [row_flat (sz:=1) (λ _=>rfl)] at e3
    have e3:n3*1=(heldR (ruleS r row) k).length*1+1:=e3
    rw [hsn,List.length_append]; show n3=_+1; omega
   refine ⟨((a3,n3,c3),k+1),⟨⟨hkl,hn3,upto_snoc hz h5⟩,by show r.ls.length - (k+1)<r.ls.length - k; omega⟩,gs rfl (by rw [hsn,List.map_append,List.flatten_append]; rfl) (λ v _=>trivial)⟩
  ·have h4:p1=false:=by simpa using h4
   rw [if_neg (by rw [h4]; decide)] at hsn
   refine wi ?_
   refine ⟨((a1,n1,c1),k+1),⟨⟨hkl,by rw [hsn]; exact hn1,upto_snoc hz h5⟩,by show r.ls.length - (k+1)<r.ls.length - k; omega⟩,gs rfl (by rw [hsn]; rfl) (λ v _=>trivial)⟩
 ·obtain rfl:k=r.ls.length:=by omega
  rw [rules_none hz]
  refine And.intro rfl ?_
  refine sealW (g:=nC) (l:=heldR (ruleS r row) r.ls.length) 900 rfl (by simp [hn1]) ?_
  refine goW TT_ok ?_
  refine ⟨(a1,c1),?_,λ v _ hF=>?_⟩
  ·rw [ruV]; show _=Value.tuple #[.slice a1 (heldR (ruleS r row) r.ls.length).length c1,_,_]
   rw [← hn1]; rfl
  ·show SlC _ _ _ _ (.slice a1 (heldR (ruleS r row) r.ls.length).length c1) _
   rw [← hn1]; exact hF.2
end Go.Proofs.YtbmmnalndollkaaGreatDoor
set_option maxRecDepth 100000
namespace Go.Proofs.YtbmmnalndollkaaGreatDoor
open Go Go.Dx Go.RowKit
abbrev RwQ:=List Val×AC
def rwC (q:RwQ):List Value:=[.slice q.2.1 q.1.length q.2.2]
def RwF (es:List RwQ) (h:View):Prop:=∀ q∈es,SlC 52 3 (flatR valC) h (.slice q.2.1 q.1.length q.2.2) q.1
theorem rwf_m (es:List RwQ):Mono λ h=>RwF es h:=λ _ _ hle hx q hq=>(hx q hq).monoF hle
theorem rwf_snoc {es:List RwQ} {q:RwQ} {h:View} (h1:RwF es h) (h2:SlC 52 3 (flatR valC) h (.slice q.2.1 q.1.length q.2.2) q.1):RwF (es++[q]) h:=λ p hp=>by
 rcases List.mem_append.1 hp with hp | hp
 ·exact h1 p hp
 ·have:p=q:=by simpa using hp
  subst this; exact h2
def rw0:RwQ:=([],none,0)
end Go.Proofs.YtbmmnalndollkaaGreatDoor
set_option maxRecDepth 100000
namespace Go.Proofs.YtbmmnalndollkaaGreatDoor
open Go Go.Dx Go.RowKit
end Go.Proofs.YtbmmnalndollkaaGreatDoor
set_option maxRecDepth 100000
namespace Go.Proofs.YtbmmnalndollkaaGreatDoor
open Go Go.Dx Go.RowKit
end Go.Proofs.YtbmmnalndollkaaGreatDoor
set_option maxRecDepth 100000
namespace Go.Proofs.YtbmmnalndollkaaGreatDoor
open Go Go.Dx Go.RowKit
end Go.Proofs.YtbmmnalndollkaaGreatDoor
set_option maxRecDepth 100000
namespace Go.Proofs.YtbmmnalndollkaaGreatDoor
open Go Go.Dx Go.RowKit
theorem ext_getD {α:Type} {l m:List α} (d:α) (h:l.length=m.length) (he:∀ j,j<l.length→l.getD j d=m.getD j d):l=m:=by
 refine List.ext_getElem h λ j h1 h2=>?_
 have:=he j h1
 simpa [List.getD,h1,h2] using this
theorem c_RSameRow12 (l m:List Val) (a b:AC) (w0:World) (h0:View) (hv:VLe h0 (Full w0)) (hl:SlC 52 3 (flatR valC) h0 (.slice a.1 l.length a.2) l) (hm:SlC 52 3 (flatR valC) h0 (.slice b.1 m.length b.2) m) :
  Calls Tryz.prog 20 #[.slice a.1 l.length a.2,.slice b.1 m.length b.2] w0 (Ret w0 h0 λ u _=>u = .bool (decide (l=m))):=by
 have hlm:=slc_lm hl
 refine ent (args:=[.slice a.1 l.length a.2,.slice b.1 m.length b.2]) TT_ok [] [] Tryz.func20 rfl Tryz.ntmps20 rfl rfl hv ?_
 refine cnd (λ h=>?_) (λ h=>?_)
 ·rw [decide_eq_false (p:=l=m) (λ hh=>by subst hh; exact h rfl)]; exact rfl
 have hn:l.length=m.length:=by omega
 refine w_loop TT_ok (λ k:Nat=>[(5,.v (.int .i64 k))]) 0 (λ k=>k≤l.length∧∀ j,j<k→l.getD j v0=m.getD j v0) (λ k=>l.length - k) ?_
 refine And.intro ⟨⟨Nat.zero_le _,λ j hj=>absurd hj (Nat.not_lt_zero j)⟩,gs⟩ ?_
 intro k ⟨hk,hd⟩
 refine cnd (λ h1=>?_) (λ h1=>?_)
 ·refine And.intro (by kernel_rfl) ?_
  refine ixs hl k v0 ?_
  refine ixs hm k v0 ?_
  refine aq eqV (l.getD k v0) (m.getD k v0) ?_
  refine cnd (λ h2=>?_) (λ h2=>?_)
  ·rw [decide_eq_false (p:=l=m) (λ hh=>by subst hh; exact h2 rfl)]; exact rfl
  ·refine wi ?_
   exact ⟨k+1,⟨⟨by omega,upto_snoc hd h2⟩,by omega⟩,gs⟩
 ·rw [decide_eq_true (p:=l=m) (ext_getD v0 hn λ j hj=>hd j (by omega))]; exact rfl
theorem c_RSameRows (l m:List (List Val)) (a b:AC) (w0:World) (h0:View) (hv:VLe h0 (Full w0)) (hl:LR 49 1 RwR h0 a.1 a.2 l) (hm:LR 49 1 RwR h0 b.1 b.2 m) :
  Calls Tryz.prog 16 #[.slice a.1 l.length a.2,.slice b.1 m.length b.2] w0 (Ret w0 h0 λ u _=>u = .bool (decide (l=m))):=by
 have hlm:=hl.lm
 refine ent (args:=[.slice a.1 l.length a.2,.slice b.1 m.length b.2]) TT_ok [] [] Tryz.func16 rfl Tryz.ntmps16 rfl rfl hv ?_
 refine cnd (λ h=>?_) (λ h=>?_)
 ·rw [decide_eq_false (p:=l=m) (λ hh=>by subst hh; exact h rfl)]; exact rfl
 have hn:l.length=m.length:=by omega
 refine w_loop TT_ok (λ k:Nat=>[(5,.v (.int .i64 k))]) 0 (λ k=>k≤l.length∧∀ j,j<k→l.getD j []=m.getD j []) (λ k=>l.length - k) ?_
 refine And.intro ⟨⟨Nat.zero_le _,λ j hj=>absurd hj (Nat.not_lt_zero j)⟩,gs⟩ ?_
 intro k ⟨hk,hd⟩
 refine cnd (λ h1=>?_) (λ h1=>?_)
 ·refine And.intro (by kernel_rfl) ?_
  have hdk:l.getD k []=m.getD k []→∀ j,j<k+1→l.getD j []=m.getD j []:=λ h=>upto_snoc hd h
  have hlx:l.getD k []≠m.getD k []→¬ l=m:=λ h hh=>by subst hh; exact h rfl
  refine ixL (R:=RwR) hl k [] (λ cs hcs=>?_)
  generalize l.getD k []=r1 at hcs hdk hlx
  obtain ⟨y1,rfl,g1⟩:=hcs
  refine ixL (R:=RwR) hm k [] (λ cs2 hcs2=>?_)
  generalize m.getD k []=r2 at hcs2 hdk hlx
  obtain ⟨y2,rfl,g2⟩:=hcs2
  refine cb (λ w hw=>c_RSameRow12 r1 r2 y1 y2 w h0 hw g1 g2) ?_
  refine cnd (λ h2=>?_) (λ h2=>?_)
  ·rw [decide_eq_false (p:=l=m) (hlx (by simpa using h2))]; exact rfl
  ·refine wi ?_
   exact ⟨k+1,⟨⟨by omega,hdk (by simpa using h2)⟩,by omega⟩,gs⟩
 ·rw [decide_eq_true (p:=l=m) (ext_getD [] hn λ j hj=>hd j (by omega))]; exact rfl
end Go.Proofs.YtbmmnalndollkaaGreatDoor
namespace Go.Proofs.YtbmmnalndollkaaGreatDoor
open Go Go.Dx Go.RowKit Go.ChangeShapes Go.WideShapes Go.ChangeAt
section
variable {H:Type} {enc:TypeId×Value→H} {W:World}
theorem sl_cell {t e fuel:Nat} {cs:List Value} {x:DataW H×List MemPlace} (ht:Tryz.prog.underlying t=some (.slice e)) (h:DataW.trod enc Tryz.prog W 0 (λ _=>true) true fuel t cs=some x):∃ v,cs=[v]:=by
 rcases DataW.trod_slice ht h with ⟨hcs,_⟩ | ⟨a,len,cap,elems,rest,n,_,hcs,_⟩
 ·exact ⟨_,hcs⟩
 ·exact ⟨_,hcs⟩
theorem open_valsC {fuel:Nat} {cs:List Value} {x:DataW H×List MemPlace} (h:DataW.trod enc Tryz.prog W 0 (λ _=>true) true fuel 49 cs=some x) :
  ∃ (a:AC) (l:List Val),cs=[.slice a.1 l.length a.2]∧SlC 52 3 (flatR valC) (Full W) (.slice a.1 l.length a.2) l∧∀ v∈l,valB v∧v.s.length≤9223372036854775807:=by
 obtain ⟨v,rfl⟩:=sl_cell (e:=52) (by kernel_rfl) h
 obtain ⟨ad,cap,n,cc,rfl,hs,hk⟩:=open_sl (sz:=3) (e:=52) (by kernel_rfl) (by kernel_rfl) (by decide) h
 have:Inhabited Val:=⟨v0⟩
 obtain ⟨g,hg⟩:=Go.Deep.choose_lt (λ i hi=>by
  obtain ⟨m,z,_,hz⟩:=hk i hi
  exact open_valC hz:∀ i,i<n→∃ x:Val,cc i=valC x∧valB x∧x.s.length≤9223372036854775807)
 have h1:=sl_map hs (λ i hi=>(hg i hi).1)
 refine ⟨(ad,cap),(List.range n).map g,by simp,?_,λ x hx=>?_⟩
 ·simp only [List.length_range,List.length_map] at h1 ⊢
  exact h1
 ·obtain ⟨i,hi,rfl⟩:=List.mem_map.1 hx
  exact (hg i (List.mem_range.1 hi)).2
end
section
variable {H:Type} {enc:TypeId×Value→H} {W:World}
theorem open_txsC {fuel:Nat} {cs:List Value} {x:DataW H×List MemPlace} (h:DataW.trod enc Tryz.prog W 0 (λ _=>true) true fuel 84 cs=some x) :
  ∃ (a:AC) (l:List (List UInt8)),cs=[.slice a.1 l.length a.2]∧TxL (Full W) a l:=by
 obtain ⟨v,rfl⟩:=sl_cell (e:=9) (by kernel_rfl) h
 obtain ⟨ad,cap,n,cc,rfl,hs,hk⟩:=open_sl (sz:=1) (e:=9) (by kernel_rfl) (by kernel_rfl) (by decide) h
 have:Inhabited (List UInt8):=⟨[]⟩
 obtain ⟨g,hg⟩:=Go.Deep.choose_lt (λ i hi=>by
  obtain ⟨m,z,_,hz⟩:=hk i hi
  obtain ⟨s,e,_⟩:=trod_s (by kernel_rfl) hz
  exact ⟨s,e⟩:∀ i,i<n→∃ x:List UInt8,cc i=[vs x])
 have h1:=sl_map (f:=λ s:List UInt8=>[vs s]) hs hg
 refine ⟨(ad,cap),(List.range n).map g,by simp,?_⟩
 show SlC _ _ _ _ _ _
 simp only [List.length_range,List.length_map] at h1 ⊢
 exact h1
theorem open_coC {fuel:Nat} {cs:List Value} {x:DataW H×List MemPlace} (h:DataW.trod enc Tryz.prog W 0 (λ _=>true) true fuel 66 cs=some x):∃ p:CoO,cs=colC p.1∧OrH (Full W) p:=by
 obtain ⟨hl,n0,y0,_,h0⟩:=trod_at (FldIs.of (P:=Tryz.prog) (t:=66) (i:=0) (off:=0) (ty:=9) (sz:=1) (by kernel_rfl)) h
 obtain ⟨_,n1,y1,_,h1⟩:=trod_at (FldIs.of (P:=Tryz.prog) (t:=66) (i:=1) (off:=1) (ty:=50) (sz:=1) (by kernel_rfl)) h
 obtain ⟨_,n2,y2,_,h2⟩:=trod_at (FldIs.of (P:=Tryz.prog) (t:=66) (i:=2) (off:=2) (ty:=49) (sz:=1) (by kernel_rfl)) h
 have hl':cs.length=3:=hl.trans (by kernel_rfl)
 match cs,hl' with
 | [a,b,c],_ =>
  obtain ⟨s,e0,_⟩:=trod_s (by kernel_rfl) h0
  obtain ⟨k,e1,_⟩:=trod_i (by kernel_rfl) h1
  obtain ⟨q,l,e2,s2,hv⟩:=open_valsC h2
  simp at e0 e1 e2
  subst e0 e1 e2
  exact ⟨(⟨s,k,q.1,l.length,q.2⟩,l),rfl,rfl,s2,hv⟩
theorem open_cosC {fuel:Nat} {cs:List Value} {x:DataW H×List MemPlace} (h:DataW.trod enc Tryz.prog W 0 (λ _=>true) true fuel 22 cs=some x) :
  ∃ (a:AC) (l:List CoO),cs=[.slice a.1 (colsO l).length a.2]∧CoL (Full W) a l:=by
 obtain ⟨v,rfl⟩:=sl_cell (e:=66) (by kernel_rfl) h
 obtain ⟨ad,cap,n,cc,rfl,hs,hk⟩:=open_sl (sz:=3) (e:=66) (by kernel_rfl) (by kernel_rfl) (by decide) h
 have:Inhabited CoO:=⟨co0⟩
 obtain ⟨g,hg⟩:=Go.Deep.choose_lt (λ i hi=>by
  obtain ⟨m,z,_,hz⟩:=hk i hi
  exact open_coC hz:∀ i,i<n→∃ x:CoO,cc i=colC x.1∧OrH (Full W) x)
 have h1:=sl_map (f:=colC) (g:=λ i=>(g i).1) hs (λ i hi=>(hg i hi).1)
 have e:colsO ((List.range n).map g)=(List.range n).map λ i=>(g i).1:=by simp [colsO]
 refine ⟨(ad,cap),(List.range n).map g,by simp [e],?_,λ p hp=>?_⟩
 ·rw [e]
  simp only [List.length_range,List.length_map] at h1 ⊢
  exact h1
 ·obtain ⟨i,hi,rfl⟩:=List.mem_map.1 hp
  exact (hg i (List.mem_range.1 hi)).2
theorem open_ruC {fuel:Nat} {cs:List Value} {x:DataW H×List MemPlace} (h:DataW.trod enc Tryz.prog W 0 (λ _=>true) true fuel 86 cs=some x):∃ r,RuR (Full W) cs r:=by
 obtain ⟨hl,n0,y0,_,h0⟩:=trod_at (FldIs.of (P:=Tryz.prog) (t:=86) (i:=0) (off:=0) (ty:=84) (sz:=1) (by kernel_rfl)) h
 obtain ⟨_,n1,y1,_,h1⟩:=trod_at (FldIs.of (P:=Tryz.prog) (t:=86) (i:=1) (off:=1) (ty:=84) (sz:=1) (by kernel_rfl)) h
 have hl':cs.length=2:=hl.trans (by kernel_rfl)
 match cs,hl' with
 | [a,b],_ =>
  obtain ⟨p,l,e0,s0⟩:=open_txsC h0
  obtain ⟨q,m,e1,s1⟩:=open_txsC h1
  simp at e0 e1
  subst e0 e1
  exact ⟨(l,m),p,q,rfl,s0,s1⟩
theorem open_rusC {fuel:Nat} {cs:List Value} {x:DataW H×List MemPlace} (h:DataW.trod enc Tryz.prog W 0 (λ _=>true) true fuel 25 cs=some x) :
  ∃ (a:AC) (l:List (List (List UInt8)×List (List UInt8))),cs=[.slice a.1 l.length a.2]∧LR 86 2 RuR (Full W) a.1 a.2 l:=by
 obtain ⟨v,rfl⟩:=sl_cell (e:=86) (by kernel_rfl) h
 obtain ⟨ad,cap,l,rfl,hl⟩:=open_lr (R:=RuR) (sz:=2) (e:=86) ru0 (by kernel_rfl) (by kernel_rfl) (by decide) (λ n cs y hy=>open_ruC hy) h
 exact ⟨(ad,cap),l,rfl,hl⟩
theorem open_tabC {fuel:Nat} {cs:List Value} {x:DataW H×List MemPlace} (h:DataW.trod enc Tryz.prog W 0 (λ _=>true) true fuel 27 cs=some x):∃ (t:Tab) (a:TA),cs=tabC t a∧TabH (Full W) t a:=by
 obtain ⟨hl,n0,y0,_,h0⟩:=trod_at (FldIs.of (P:=Tryz.prog) (t:=27) (i:=0) (off:=0) (ty:=9) (sz:=1) (by kernel_rfl)) h
 obtain ⟨_,n1,y1,_,h1⟩:=trod_at (FldIs.of (P:=Tryz.prog) (t:=27) (i:=1) (off:=1) (ty:=22) (sz:=1) (by kernel_rfl)) h
 obtain ⟨_,n2,y2,_,h2⟩:=trod_at (FldIs.of (P:=Tryz.prog) (t:=27) (i:=2) (off:=2) (ty:=22) (sz:=1) (by kernel_rfl)) h
 obtain ⟨_,n3,y3,_,h3⟩:=trod_at (FldIs.of (P:=Tryz.prog) (t:=27) (i:=3) (off:=3) (ty:=23) (sz:=1) (by kernel_rfl)) h
 obtain ⟨_,n4,y4,_,h4⟩:=trod_at (FldIs.of (P:=Tryz.prog) (t:=27) (i:=4) (off:=4) (ty:=24) (sz:=1) (by kernel_rfl)) h
 obtain ⟨_,n5,y5,_,h5⟩:=trod_at (FldIs.of (P:=Tryz.prog) (t:=27) (i:=5) (off:=5) (ty:=25) (sz:=1) (by kernel_rfl)) h
 have hl':cs.length=6:=hl.trans (by kernel_rfl)
 match cs,hl' with
 | [a,b,c,d,e,f],_ =>
  obtain ⟨s,e0,_⟩:=trod_s (by kernel_rfl) h0
  obtain ⟨ai,li,e1,s1⟩:=open_cosC h1
  obtain ⟨ao,lo,e2,s2⟩:=open_cosC h2
  obtain ⟨p,e3,_⟩:=trod_i (by kernel_rfl) h3
  obtain ⟨q,e4,_⟩:=trod_i (by kernel_rfl) h4
  obtain ⟨ar,lr,e5,s5⟩:=open_rusC h5
  simp at e0 e1 e2 e3 e4 e5
  subst e0 e1 e2 e3 e4 e5
  exact ⟨⟨s,li,lo,p,q,lr⟩,⟨ai,ao,ar⟩,rfl,s1,s2,s5⟩
set_option maxRecDepth 100000 in
theorem open_tab {v:Value} {d:DataW H} {ps:List MemPlace} {b0:Nat} (hok:Value.okWide Tryz.prog W .any b0 27 v) (h:DataW.Trod enc Tryz.prog W 0 (λ _=>true) true 27 v d ps) :
  ∃ (t:Tab) (a:TA),v = .agg (tabC t a).toArray∧TabH (Full W) t a:=by
 obtain ⟨fs,_,hu,_⟩:=(FldIs.of (P:=Tryz.prog) (t:=27) (i:=0) (off:=0) (ty:=9) (sz:=1) (by kernel_rfl))
 obtain ⟨cs,rfl,_⟩:=okWide_struct (P:=Tryz.prog) (t:=27) hu hok
 obtain ⟨fuel,h⟩:=h
 obtain ⟨t,a,e,h1⟩:=open_tabC h
 refine ⟨t,a,?_,h1⟩
 congr 1
 apply Array.toList_inj.1; simpa [Value.cells] using e
end
end Go.Proofs.YtbmmnalndollkaaGreatDoor
set_option maxRecDepth 100000
namespace Go.Proofs.YtbmmnalndollkaaGreatDoor
open Go Go.Dx Go.RowKit
end Go.Proofs.YtbmmnalndollkaaGreatDoor
set_option maxRecDepth 100000
namespace Go.Proofs.YtbmmnalndollkaaGreatDoor
open Go Go.Dx Go.RowKit
theorem exsT_app (a b:List Tst):exsT (a++b)=exsT a++exsT b:=by
 induction a with
 | nil=>rfl
 | cons t l ih=>rw [List.cons_append,exsT,exsT,ih]; rfl
theorem exsT_take (l:List Tst) (k:Nat) (h:k<l.length):exsT (l.take (k+1))=exsT (l.take k)++[(l.getD k tst0).a,(l.getD k tst0).b]:=by
 rw [take_snocD l k tst0 h,exsT_app]; rfl
theorem exs_le (l:List Tst) (k:Nat):(nmL (exsT (l.take k))).length≤(nmL (exsT l)).length:=by
 have e:exsT l=exsT (l.take k)++exsT (l.drop k):=by rw [← exsT_app,List.take_append_drop]
 rw [e,nmL_app,List.length_append]; omega
theorem exs_mem {l:List Tst} {k:Nat} (h:k<l.length):(nmS (l.getD k tst0).a).length+(nmS (l.getD k tst0).b).length≤(nmL (exsT l)).length:=by
 have h1:=exs_le l (k+1)
 rw [exsT_take l k h,nmL_app,List.length_append] at h1
 have:nmL [(l.getD k tst0).a,(l.getD k tst0).b]=nmS (l.getD k tst0).a++(nmS (l.getD k tst0).b++[]):=rfl
 rw [this,List.length_append,List.append_nil] at h1
 omega
def HsF (hs:List (Option Addr×Nat×List (List UInt8))) (h:View):Prop:=∀ q∈hs,SlC 9 1 (flatR λ t=>[vs t]) h (.slice q.1 q.2.2.length q.2.1) q.2.2
theorem hs_m (hs:List (Option Addr×Nat×List (List UInt8))):Mono λ h=>HsF hs h:=λ _ _ hle hx q hq=>Mono.slF _ _ hle (hx q hq)
set_option maxHeartbeats 4000000 in
theorem c_CNames (c:Cel) (ad:Option Addr) (cap:Nat) (hlen:(nmL (exsT c.ts)).length≤20000000) (w0:World) (h0:View) (hv:VLe h0 (Full w0)) (hx:TL h0 ad cap c.ts) :
  Calls Tryz.prog 81 #[.agg (celC c ad cap).toArray] w0 (Ret w0 h0 λ u hh=>∃ a:Option Addr×Nat,u = .slice a.1 (namesC c).length a.2∧SlC 9 1 (flatR λ t=>[vs t]) hh (.slice a.1 (namesC c).length a.2) (namesC c)):=by
 have hlm:=hx.lm
 refine entA (args:=[.agg (celC c ad cap).toArray]) TT_ok [21,24,43] [] Tryz.func81 rfl Tryz.ntmps81 rfl rfl hv (λ _=>Mono.slF) ?_
 intro b1
 refine nilC 900 9 1 ?_
 refine w_loopB TT_ok (λ z:NmG×Nat=>[(13,.v (.int .i64 z.2)),(3,.v (.slice z.1.a z.1.n z.1.cp))]) (λ z=>[(900,.e (bufE 9 1 (.slice z.1.a z.1.n z.1.cp) (z.1.l.map λ t=>[vs t]).flatten)),(1,.c b1 71 (celC c ad cap))]) (⟨none,0,0,[]⟩,0) (λ z=>z.2≤c.ts.length∧z.1.n=z.1.l.length∧z.1.l=(nmL (exsT (c.ts.take z.2))).foldl addS []) (λ z=>c.ts.length - z.2) ?_
 refine And.intro ⟨⟨Nat.zero_le _,rfl,rfl⟩,gs⟩ ?_
 rintro ⟨⟨a2,n2,c2,l2⟩,i⟩ ⟨hi,hn2,e2⟩
 dsimp only at hi hn2 e2 ⊢
 have hl2:l2.length≤20000000:=by
  have h1:=adds_len (nmL (exsT (c.ts.take i))) []
  have h2:=exs_le c.ts i
  rw [e2]; simp only [List.length_nil] at h1; omega
 refine cnd (λ h=>?_) (λ h=>?_)
 ·have hil:i<c.ts.length:=by omega
  have hab:=exs_mem hil
  have htk:=exsT_take c.ts i hil
  refine ixT hx i (λ aa ca ab cb' g1 g2 g3=>?_)
  generalize c.ts.getD i tst0=t at *
  intro b5
  have hes:∀ p∈[(t.a,aa,ca),(t.b,ab,cb')],XL h0 p.2.1 p.2.2 p.1.l:=λ p hp=>by
   have:p=(t.a,aa,ca)∨p=(t.b,ab,cb'):=by simpa using hp
   rcases this with rfl | rfl
   ·exact g1.1
   ·exact g2.1
  have hnm:∀ p∈[(t.a,aa,ca),(t.b,ab,cb')],(nmS p.1).length≤20000000:=λ p hp=>by
   have:p=(t.a,aa,ca)∨p=(t.b,ab,cb'):=by simpa using hp
   rcases this with rfl | rfl
   ·show (nmS t.a).length≤_; omega
   ·show (nmS t.b).length≤_; omega
  have hrow:exC t.a.op t.a.v t.a.s (.slice aa t.a.l.length ca)++exC t.b.op t.b.v t.b.s (.slice ab t.b.l.length cb')=((List.range 2).map (rowC [(t.a,aa,ca),(t.b,ab,cb')])).flatten:=rfl
  refine goPu TT_ok (.agg (exC t.a.op t.a.v t.a.s (.slice aa t.a.l.length ca)++exC t.b.op t.b.v t.b.s (.slice ab t.b.l.length cb')).toArray) (λ w hS=>pu_build_ar (places:=[(0,6),(6,6)]) (zero:=exC 0 v0 [] (.slice none 0 0)++exC 0 v0 [] (.slice none 0 0)) (ArrB.of (m:=2) (e:=114) (sz:=6) (by kernel_rfl) (by kernel_rfl) (by kernel_rfl) (λ i hi=>by
   have:i=0∨i=1:=by simp at hi; omega
   rcases this with rfl | rfl <;> rfl)) (by rfl) (by rfl)) ?_
  refine w_loopF TT_ok (λ z:(NmG×Nat)×List (Option Addr×Nat×List (List UInt8))=>[(22,.v (.int .i64 z.1.2)),(3,.v (.slice z.1.1.a z.1.1.n z.1.1.cp))]) (λ z=>[(5,.c b5 116 (tstC t aa ca ab cb')),(15,.k none (adB ad) (adO ad+i*15) (tstC t aa ca ab cb')),(900,.e (bufE 9 1 (.slice z.1.1.a z.1.1.n z.1.1.cp) (z.1.1.l.map λ t=>[vs t]).flatten)),(1,.c b1 71 (celC c ad cap))]) (λ z h=>HsF z.2 h) ((⟨a2,n2,c2,l2⟩,0),[]) (λ z=>z.1.2≤2∧z.1.1.n=z.1.1.l.length∧z.1.1.l=(nmL ([t.a,t.b].take z.1.2)).foldl addS l2) (λ z=>2 - z.1.2) (λ z=>hs_m _) ?_
  refine And.intro ⟨⟨Nat.zero_le _,hn2,rfl⟩,gs rfl rfl (λ _ _ q hq=>absurd hq List.not_mem_nil) (.inl λ _ _=>trivial)⟩ ?_
  rintro ⟨⟨⟨a4,n4,c4,l4⟩,j⟩,hs⟩ ⟨hj,hn4,e4⟩
  dsimp only at hj hn4 e4 ⊢
  have hl4:l4.length≤60000000:=by
   have h1:=adds_len (nmL ([t.a,t.b].take j)) l2
   have h2:=nmL_drop [t.a,t.b] j
   have h3:nmL [t.a,t.b]=nmS t.a++(nmS t.b++[]):=rfl
   rw [h3,List.length_append,List.append_nil] at h2
   rw [e4]; omega
  refine cnd (λ h2=>?_) (λ h2=>?_)
  ·have hj2:j<2:=by omega
   refine goPu TT_ok (.agg (rowC [(t.a,aa,ca),(t.b,ab,cb')] j).toArray) (λ w hS=>pu_index_arA (e:=114) (nn:=2) (sz:=6) (i:=(j:Int)) ⟨by kernel_rfl,SzIs.of (by kernel_rfl)⟩ (by kernel_rfl) (ev_sl rfl rfl) (ev_sl rfl rfl) (by omega) (by omega) (by
    have:j=0∨j=1:=by omega
    rcases this with rfl | rfl <;> rfl) (by
    have:j=0∨j=1:=by omega
    rcases this with rfl | rfl <;> exact Nat.le_of_ble_eq_true rfl)) ?_
   have hm:=getD_mem [(t.a,aa,ca),(t.b,ab,cb')] j xe0 hj2
   have hx4:=hes _ hm
   have hn4':=hnm _ hm
   have hnt:nmL ([t.a,t.b].take (j+1))=nmL ([t.a,t.b].take j)++nmS ([(t.a,aa,ca),(t.b,ab,cb')].getD j xe0).1:=by
    have:=nmL_take [t.a,t.b] j hj2
    rw [this]
    have:j=0∨j=1:=by omega
    rcases this with rfl | rfl <;> rfl
   unfold rowC
   generalize [(t.a,aa,ca),(t.b,ab,cb')].getD j (ex0,none,0)=q at hx4 hn4' hnt ⊢
   intro b7
   refine cA TT_ok (λ w v h1 h2 h3=>c_Names q.1 q.2.1 q.2.2 hn4' w v h3 (hx4.mono h1)) (λ _=>Mono.slF) (λ nm=>?_)
   have hMl:=names_len q.1
   have hacc:=names_kids l4 q.1
   generalize namesS q.1=M at hMl hacc ⊢
   refine w_loopB TT_ok (λ z:NmG×Nat=>[(28,.v (.int .i64 z.2)),(3,.v (.slice z.1.a z.1.n z.1.cp))]) (λ z=>[(7,.c b7 114 (exC q.1.op q.1.v q.1.s (.slice q.2.1 q.1.l.length q.2.2))),(5,.c b5 116 (tstC t aa ca ab cb')),(15,.k none (adB ad) (adO ad+i*15) (tstC t aa ca ab cb')),(900,.e (bufE 9 1 (.slice z.1.a z.1.n z.1.cp) (z.1.l.map λ t=>[vs t]).flatten)),(1,.c b1 71 (celC c ad cap))]) (⟨a4,n4,c4,l4⟩,0) (λ z=>z.2≤M.length∧z.1.n=z.1.l.length∧z.1.l=(M.take z.2).foldl addS l4) (λ z=>M.length - z.2) ?_
   refine And.intro ⟨⟨Nat.zero_le _,hn4,rfl⟩,gs⟩ ?_
   rintro ⟨⟨a6,n6,c6,l6⟩,r⟩ ⟨hrl,hn6,e6⟩
   dsimp only at hrl hn6 e6 ⊢
   have hl6:l6.length≤100000000:=by
    have h1:=adds_len (M.take r) l4
    rw [List.length_take] at h1
    rw [e6]; omega
   refine cnd (λ h5=>?_) (λ h5=>?_)
   ·have hrl2:r<M.length:=by omega
    refine ixf (λ v hF=>hF.2) r [] ?_
    have hst:(M.take (r+1)).foldl addS l4=addS l6 (M.getD r []):=by
     rw [take_snocD M r [] hrl2,List.foldl_append,← e6]; rfl
    refine co (x := .bool (l6.contains (M.getD r []))) ?_ ?_
    ·intro w hS
     have h1:=own_sl (T:=9) (sz:=1) (g:=λ t=>[vs t]) (k:=900) (a0:=a6) (nn:=n6) (cp:=c6) (l:=l6) rfl hn6 (by intros; rfl) hS
     rw [hn6] at h1 ⊢
     exact c_ContainsT a6 c6 l6 (M.getD r []) w (Full w) (VLe.refl _) h1
    refine cnd (λ h6=>?_) (λ h6=>?_)
    ·have h6:l6.contains (M.getD r [])=false:=by simpa using h6
     intro b38
     refine ap TT_ok 900 (AppT.of (bytes:=16) (sz:=0) (by kernel_rfl) (by kernel_rfl) (by kernel_rfl)) rfl rfl rfl rfl rfl rfl rfl (by rw [fl1]; show (l6.length+1)*17≤140737488355328; omega) (λ a0 nn cp' hnn=>?_)
     rw [fl1] at hnn
     have hnn:nn*1=l6.length+1:=hnn
     refine wi ?_
     refine ⟨(⟨a0,nn,cp',l6++[M.getD r []]⟩,r+1),⟨⟨hrl2,by show nn=(l6++[_]).length; rw [List.length_append]; show nn=l6.length+1; omega,by rw [hst,addS,if_neg (by rw [h6]; decide)]⟩,by show M.length - (r+1)<M.length - r; omega⟩,gs rfl ?_⟩
     show [_,_,_,(900,OB.e (bufE 9 1 (.slice a0 nn cp') _)),_]=[_,_,_,(900,OB.e (bufE 9 1 (.slice a0 nn cp') _)),_]
     rw [List.map_append,List.flatten_append]; rfl
    ·have h6:l6.contains (M.getD r [])=true:=by simpa using h6
     refine wi ?_
     exact ⟨(⟨a6,n6,c6,l6⟩,r+1),⟨⟨hrl2,hn6,by rw [hst,addS,if_pos h6]⟩,by show M.length - (r+1)<M.length - r; omega⟩,gs⟩
   ·have hre:r=M.length:=by omega
    rw [hre,List.take_length,hacc] at e6
    refine wi ?_
    refine ⟨((⟨a6,n6,c6,l6⟩,j+1),hs++[(nm.1,nm.2,M)]),⟨⟨by show j+1≤2; omega,hn6,by rw [hnt,List.foldl_append,← e4]; exact e6⟩,by show 2 - (j+1)<2 - j; omega⟩,gs rfl rfl (λ v hF p hp=>?_) (.inl λ v hF=>⟨λ p hp=>hF p (List.mem_append_left _ hp),hF (nm.1,nm.2,M) (List.mem_append_right _ (List.mem_singleton.2 rfl))⟩)⟩
    rcases List.mem_append.1 hp with hp | hp
    ·exact hF.1 p hp
    ·have:p=(nm.1,nm.2,M):=by simpa using hp
     subst this; exact hF.2
  ·have hje:j=2:=by omega
   subst hje
   refine wi ?_
   exact ⟨(⟨a4,n4,c4,l4⟩,i+1),⟨⟨hil,hn4,by rw [htk,nmL_app,List.foldl_append,← e2]; exact e4⟩,by show c.ts.length - (i+1)<c.ts.length - i; omega⟩,gs (fv:=λ _ _=>trivial)⟩
 ·have hie:i=c.ts.length:=by omega
  rw [hie,List.take_length] at e2
  have e2:l2=namesC c:=e2
  subst e2
  subst hn2
  refine And.intro rfl ?_
  refine sealW (g:=λ t=>[vs t]) (l:=namesC c) 900 rfl rfl ?_
  refine goW TT_ok ?_
  exact ⟨(a2,c2),rfl,λ v _ hF=>hF.2⟩
structure LpE where
 a:Option Addr
 n:Nat
 c:Nat
 es:List (Ex×Option Addr×Nat)
 i:Nat
end Go.Proofs.YtbmmnalndollkaaGreatDoor
namespace Go.Proofs.YtbmmnalndollkaaGreatDoor
open Go Go.Dx Go.RowKit
def trimT (s:List UInt8):List UInt8:=(s.reverse.dropWhile λ b=>b == 126).reverse
def upT (s:List UInt8):List UInt8:=s.take (s.length - 1)++[s.getD (s.length - 1) 0+1]
theorem trim_step {s:List UInt8} (h:0<s.length) (h1:s.getD (s.length - 1) 0=126):trimT s=trimT (s.take (s.length - 1)):=by
 obtain ⟨l,x,rfl⟩:∃ l x,s=l++[x]:=⟨s.dropLast,s.getLast (by intro e; simp [e] at h),(List.dropLast_concat_getLast _).symm⟩
 have e:(l++[x]).getD ((l++[x]).length - 1) 0=x:=by simp [List.getD]
 rw [e] at h1
 subst h1
 simp [trimT]
theorem trim_end {s:List UInt8} (h:s.length=0∨s.getD (s.length - 1) 0≠126):trimT s=s:=by
 by_cases h0:s.length=0
 ·have:s=[]:=List.eq_nil_of_length_eq_zero h0
  subst this; rfl
 obtain ⟨l,x,rfl⟩:∃ l x,s=l++[x]:=⟨s.dropLast,s.getLast (by intro e; simp [e] at h0),(List.dropLast_concat_getLast _).symm⟩
 have e:(l++[x]).getD ((l++[x]).length - 1) 0=x:=by simp [List.getD]
 have h1:x≠126:=by
  rcases h with h | h
  ·exact absurd h h0
  ·rwa [e] at h
 simp [trimT,h1]
theorem trim_len (s:List UInt8):(trimT s).length≤s.length:=by
 unfold trimT
 rw [List.length_reverse]
 have:=(List.dropWhile_sublist (λ b:UInt8=>b == 126) (l:=s.reverse)).length_le
 rwa [List.length_reverse] at this
def behV (v:Val):Val×Bool :=
 if v.k=1 then (if v.n=9223372036854775807 then (v,false) else (⟨v.k,v.n+1,v.s⟩,true))
 else if v.k=2 then
  (if v.s.length<40 then (⟨v.k,v.n,v.s++[32]⟩,true) else if trimT v.s=[] then (v,false) else (⟨v.k,v.n,upT (trimT v.s)⟩,true))
 else if v.k=3 then (⟨v.k,v.n+1,v.s⟩,decide (v.n+1=1)) else (v,false)
def leaV (k:Int):Val:=⟨k,if k=1 then -9223372036854775808 else 0,[]⟩
def addP (kind:Int) (v:Val):List Val:=if v.k=kind then (if (behV v).2=true then [v,(behV v).1] else [v]) else []
noncomputable def errX:List Ex→Int
 | []=>0
 | x::l=>if (evalS [] [] x).2≠0 then (evalS [] [] x).2 else errX l
noncomputable def ptsX (kind:Int):List Ex→List Val
 | []=>[]
 | x::l=>addP kind (evalS [] [] x).1++ptsX kind l
theorem errX_app (a b:List Ex):errX (a++b)=if errX a≠0 then errX a else errX b:=by
 induction a with
 | nil=>simp [errX]
 | cons x l ih =>
  rw [List.cons_append,errX,errX,ih]
  by_cases h:(evalS [] [] x).2=0
  ·simp [h]
  ·simp [h]
theorem ptsX_app (kind:Int) (a b:List Ex):ptsX kind (a++b)=ptsX kind a++ptsX kind b:=by
 induction a with
 | nil=>rfl
 | cons x l ih=>rw [List.cons_append,ptsX,ptsX,ih,List.append_assoc]
def exsC (ts:List Tst):List Ex:=ts.flatMap parT
def exsK (r:Rdy) (k:Nat):List Ex:=r.ls.flatMap λ l=>exsC (l.cs.getD k cel0).ts
def kdK (r:Rdy) (k:Nat):Int:=(r.t.ins.getD k co0).1.kind
noncomputable def rawP (r:Rdy) (k:Nat):List Val:=v0::leaV (kdK r k)::ptsX (kdK r k) (exsK r k)
def putV:List Val→Val→List Val
 | [],v=>[v]
 | x::l,v=>if cmpV v x<0 then v::x::l else if cmpV v x=0 then x::l else x::putV l v
noncomputable def ptsS (r:Rdy) (k:Nat):List Val:=(rawP r k).foldl putV []
def constS (r:Rdy):Bool:=r.ls.all λ l=>l.cs.all λ c=>decide ((namesC c).length=0)
noncomputable def poiS (r:Rdy) (k:Int):List Val×Int :=
 if k<0∨(r.t.ins.length:Int)≤k∨constS r=false then ([],2) else if errX (exsK r k.toNat)≠0 then ([],errX (exsK r k.toNat)) else (ptsS r k.toNat,0)
def likV (pts:List Val) (v:Val):Val:=pts.foldl (λ o p=>if cmpV p v≤0 then p else o) v0
noncomputable def hpS (c:Cel) (v:Val):Bool:=(holdsC c v [] []).1
def cptV:List Val→List Val
 | []=>[]
 | x::l=>match cptV l with
  | []=>[x]
  | y::m=>if x=y then y::m else x::y::m
def ltV (a b:Val):Bool:=decide (cmpV a b<0)
def SSV (l:List Val):Prop:=l.Pairwise λ x y=>cmpV x y<0
theorem cmpV_tr {a b c:Val} (h:cmpV a b<0) (k:cmpV b c<0):cmpV a c<0:=by
 rw [cmp_less (less_trans (less_of h) (less_of k))]; decide
theorem cmpV_le_tr {a b c:Val} (h:cmpV a b≤0) (k:cmpV b c≤0):cmpV a c≤0:=by
 by_cases h1:cmpV a b=0
 ·rw [cmpV_zero] at h1; subst h1; exact k
 by_cases k1:cmpV b c=0
 ·rw [cmpV_zero] at k1; subst k1; exact h
 exact Int.le_of_lt (cmpV_tr (a:=a) (b:=b) (c:=c) (by omega) (by omega))
theorem ord_V:Ord3 ltV:=by
 refine ⟨λ x y z h1 h2=>?_,λ x y h=>?_,λ x=>?_⟩
 ·simp only [ltV,decide_eq_false_iff_not,Int.not_lt] at h1 h2 ⊢
  have g1:cmpV x y≤0:=by have:=cmpV_swap x y; omega
  have g2:cmpV y z≤0:=by have:=cmpV_swap y z; omega
  have:=cmpV_le_tr g1 g2
  have:=cmpV_swap x z; omega
 ·simp only [ltV,decide_eq_true_eq] at h
  simp only [ltV,decide_eq_false_iff_not,Int.not_lt]
  have:=cmpV_swap x y; omega
 ·simp only [ltV,decide_eq_false_iff_not,Int.not_lt]
  have:=cmp_same x; omega
theorem ltV_uniq (x y:Val) (h1:ltV x y=false) (h2:ltV y x=false):x=y:=by
 simp only [ltV,decide_eq_false_iff_not,Int.not_lt] at h1 h2
 have:=cmpV_swap x y
 exact cmpV_zero.1 (by omega)
theorem ss_nd {l:List Val} (h:SSV l):l.Nodup:=List.Pairwise.imp (λ {a b} hab e=>by subst e; rw [cmp_same] at hab; omega) h
theorem ss_srt {l:List Val} (h:SSV l):Srt ltV l:=List.Pairwise.imp (λ {a b} hab=>by
 simp only [ltV,decide_eq_false_iff_not,Int.not_lt]; have:=cmpV_swap a b; omega) h
theorem ss_uniq {l m:List Val} (hl:SSV l) (hm:SSV m) (h:∀ x,x∈l↔x∈m):l=m :=
 srt_uniq ord_V ltV_uniq (ss_srt hl) (ss_srt hm) ((List.perm_ext_iff_of_nodup (ss_nd hl) (ss_nd hm)).2 h)
theorem put_mem (l:List Val) (v x:Val):x∈putV l v↔x=v∨x∈l:=by
 induction l with
 | nil=>simp [putV]
 | cons y l ih =>
  rw [putV]
  split
  ·simp
  ·split
   ·rename_i h1 h2
    rw [cmpV_zero] at h2; subst h2; simp
   ·simp only [List.mem_cons,ih]
    constructor
    ·rintro (h | h | h) <;> simp [h]
    ·rintro (h | h | h) <;> simp [h]
theorem put_ss (l:List Val) (v:Val) (h:SSV l):SSV (putV l v):=by
 induction l with
 | nil=>exact List.pairwise_singleton _ _
 | cons y l ih =>
  obtain ⟨h1,h2⟩:=List.pairwise_cons.1 h
  rw [putV]
  split
  ·rename_i hv
   exact List.pairwise_cons.2 ⟨λ z hz=>by
    rcases List.mem_cons.1 hz with rfl | hz
    ·exact hv
    ·exact cmpV_tr hv (h1 z hz),h⟩
  ·split
   ·exact h
   ·rename_i g1 g2
    refine List.pairwise_cons.2 ⟨λ z hz=>?_,ih h2⟩
    rcases (put_mem l v z).1 hz with rfl | hz
    ·have:=cmpV_swap z y; omega
    ·exact h1 z hz
theorem puts_ss (l:List Val):∀ o,SSV o→SSV (l.foldl putV o):=by
 induction l with
 | nil=>exact λ o h=>h
 | cons x l ih=>exact λ o h=>ih _ (put_ss o x h)
theorem puts_mem (l:List Val):∀ o x,x∈l.foldl putV o↔x∈o∨x∈l:=by
 induction l with
 | nil=>intro o x; simp
 | cons y l ih =>
  intro o x
  rw [List.foldl_cons,ih,put_mem]
  simp only [List.mem_cons]
  constructor
  ·rintro ((h | h) | h) <;> simp [h]
  ·rintro (h | h | h) <;> simp [h]
theorem cpt_nil {l:List Val}:cptV l=[]↔l=[]:=by
 cases l with
 | nil=>simp [cptV]
 | cons x l =>
  simp only [cptV]
  split <;> simp <;> split <;> simp
theorem cpt_mem (l:List Val) (x:Val):x∈cptV l↔x∈l:=by
 induction l with
 | nil=>simp [cptV]
 | cons y l ih =>
  simp only [cptV]
  split
  ·rename_i h
   rw [h] at ih
   rw [List.mem_cons,List.mem_cons,← ih]
  ·rename_i z m h
   rw [h] at ih
   split
   ·rename_i he
    subst he
    rw [List.mem_cons (l:=l),← ih]
    simp
   ·rw [List.mem_cons,List.mem_cons (l:=l),← ih]
theorem cpt_ss {l:List Val} (h:Srt ltV l):SSV (cptV l):=by
 induction l with
 | nil=>exact List.Pairwise.nil
 | cons y l ih =>
  obtain ⟨h1,h2⟩:=List.pairwise_cons.1 h
  have ih:=ih h2
  have hm:=cpt_mem l
  simp only [cptV]
  split
  ·exact List.pairwise_singleton _ _
  ·rename_i z m e
   rw [e] at ih hm
   split
   ·exact ih
   ·rename_i hne
    have hz:cmpV y z<0:=by
     have:=h1 z ((hm z).1 (List.mem_cons_self ..))
     simp only [ltV,decide_eq_false_iff_not,Int.not_lt] at this
     have h3:=cmpV_swap y z
     have h4:cmpV y z≠0:=λ hh=>hne (cmpV_zero.1 hh)
     omega
    refine List.pairwise_cons.2 ⟨λ x hx=>?_,ih⟩
    rcases List.mem_cons.1 hx with rfl | hx
    ·exact hz
    ·exact cmpV_tr hz ((List.pairwise_cons.1 ih).1 x hx)
theorem cpt_put {l m:List Val} (h:Srt ltV m) (hp:m.Perm l):cptV m=l.foldl putV [] :=
 ss_uniq (cpt_ss h) (puts_ss l [] List.Pairwise.nil) λ x=>by rw [cpt_mem,puts_mem,hp.mem_iff]; simp
end Go.Proofs.YtbmmnalndollkaaGreatDoor
set_option maxRecDepth 100000
namespace Go.Proofs.YtbmmnalndollkaaGreatDoor
open Go Go.Dx Go.RowKit
theorem c_trimB (s:List UInt8) (hs:s.length≤9223372036854775807) (w0:World) (h0:View) (hv:VLe h0 (Full w0)):Calls Tryz.prog 131 #[vs s,v8 126] w0 (Ret w0 h0 λ u _=>u=vs (trimT s)):=by
 refine ent (args:=[vs s,v8 126]) TT_ok [] [] Tryz.func131 rfl Tryz.ntmps131 rfl rfl hv ?_
 refine w_loop TT_ok (λ t:List UInt8=>[(0,.v (vs t))]) s (λ t=>trimT t=trimT s∧t.length≤s.length) (λ t=>t.length) ?_
 refine And.intro ⟨⟨rfl,Nat.le_refl _⟩,gs⟩ ?_
 rintro t ⟨h1,h2⟩
 refine ⟨((t.length:Int) - 1),λ _=>wrap_i64 (by omega) (by omega),?_⟩
 refine ⟨t.length - 1,λ hg=>by have hg:0<(t.length:Int):=of_decide_eq_true hg; omega,?_⟩
 refine cnd (λ h=>?_) (λ h=>?_)
 ·obtain ⟨h3,h4⟩:=h
  have h5:t.getD (t.length - 1) 0=126:=by
   have e:(t.getD (t.length - 1) 0).toNat=(126:UInt8).toNat:=by exact_mod_cast h4
   exact UInt8.toNat_inj.1 e
  have hp:0<t.length:=by omega
  refine wi ?_
  refine ⟨t.length - 1,⟨by omega,by omega⟩,?_⟩
  exact ⟨t.take (t.length - 1),⟨⟨by rw [← trim_step hp h5,h1],by rw [List.length_take]; omega⟩,by rw [List.length_take]; omega⟩,gs⟩
 ·have e:trimT t=t:=trim_end (by
   rcases h with h | h
   ·exact .inl (by omega)
   ·exact .inr λ hh=>h (by rw [hh]))
  rw [← h1,e]
  exact rfl
theorem c_trimR (s:List UInt8) (hs:s.length≤9223372036854775807) (w0:World) (h0:View) (hv:VLe h0 (Full w0)):Calls Tryz.prog 84 #[vs s,vs [126]] w0 (Ret w0 h0 λ u _=>u=vs (trimT s)):=by
 refine ent (args:=[vs s,vs [126]]) TT_ok [] [] Tryz.func84 rfl Tryz.ntmps84 rfl rfl hv ?_
 refine cnd (λ h=>?_) (λ h=>?_)
 ·have h:s=[]:=by
   rcases h with h | h
   ·exact h
   ·cases h
  subst h
  exact rfl
 refine ⟨0,λ _=>⟨rfl,by decide⟩,?_⟩
 refine cndT rfl ?_
 refine ⟨0,⟨rfl,by decide⟩,?_⟩
 refine cl (c_trimB s hs) ?_
 exact rfl
theorem u8_up {x:UInt8}:IntKind.u8.wrap ((x.toNat:Int)+1)=((x+1).toNat:Int):=by
 have h:=x.toNat_lt
 rw [UInt8.toNat_add]
 simp only [IntKind.wrap,IntKind.bits,IntKind.signed]
 have:(1:UInt8).toNat=1:=rfl
 rw [this]
 simp
theorem trim_ne {s:List UInt8} (h:¬ trimT s=[]):0<(trimT s).length:=Nat.pos_of_ne_zero λ e=>h (List.eq_nil_of_length_eq_zero e)
theorem behV_1 {v:Val} (h:v.k=1) (hn:v.n=9223372036854775807):behV v=(v,false):=by unfold behV; rw [if_pos h,if_pos hn]
theorem behV_2 {v:Val} (h:v.k=1) (hn:¬ v.n=9223372036854775807):behV v=(⟨v.k,v.n+1,v.s⟩,true):=by unfold behV; rw [if_pos h,if_neg hn]
theorem behV_3 {v:Val} (h:v.k=2) (hn:v.s.length<40):behV v=(⟨v.k,v.n,v.s++[32]⟩,true):=by unfold behV; rw [if_neg (by omega),if_pos h,if_pos hn]
theorem behV_4 {v:Val} (h:v.k=2) (hn:¬ v.s.length<40) (ht:trimT v.s=[]):behV v=(v,false):=by unfold behV; rw [if_neg (by omega),if_pos h,if_neg hn,if_pos ht]
theorem behV_5 {v:Val} (h:v.k=2) (hn:¬ v.s.length<40) (ht:¬ trimT v.s=[]):behV v=(⟨v.k,v.n,upT (trimT v.s)⟩,true):=by unfold behV; rw [if_neg (by omega),if_pos h,if_neg hn,if_neg ht]
theorem behV_6 {v:Val} (h:v.k=3):behV v=(⟨v.k,v.n+1,v.s⟩,decide (v.n+1=1)):=by unfold behV; rw [if_neg (by omega),if_neg (by omega),if_pos h]
theorem behV_7 {v:Val} (h1:¬ v.k=1) (h2:¬ v.k=2) (h3:¬ v.k=3):behV v=(v,false):=by unfold behV; rw [if_neg h1,if_neg h2,if_neg h3]
def vbV (p:Val×Bool):Value := .tuple #[.agg (valC p.1).toArray,.bool p.2]
set_option maxHeartbeats 1000000 in
theorem c_behind (v:Val) (hvb:valB v) (hs:v.s.length≤1000000) (h3:v.k=3→v.n≤1) (w0:World) (h0:View) (hv:VLe h0 (Full w0)):Calls Tryz.prog 47 #[.agg (valC v).toArray] w0 (Ret w0 h0 λ u _=>u=vbV (behV v)):=by
 have hb:=hvb.2
 refine ent (args:=[.agg (valC v).toArray]) TT_ok [1000018] [] Tryz.func47 rfl Tryz.ntmps47 rfl rfl hv ?_
 intro b1 b2
 refine cnd (λ h=>?_) (λ h=>?_)
 ·have h:v.k=1:=h
  refine cnd (λ h1=>?_) (λ h1=>?_)
  ·have h1:v.n=9223372036854775807:=h1
   rw [behV_1 h h1]; exact rfl
  ·have h1:¬ v.n=9223372036854775807:=h1
   refine ew (v.n+1) (wrap_i64 (by have:=hb.1; omega) (by have:=hb.2; omega)) ?_
   rw [behV_2 h h1]; exact rfl
 have hk1:¬ v.k=1:=h
 refine cnd (λ h=>?_) (λ h=>?_)
 ·have h:v.k=2:=h
  refine cnd (λ h1=>?_) (λ h1=>?_)
  ·have h1:v.s.length<40:=by
    have h1:(v.s.length:Int)<40:=h1
    omega
   refine ct ?_ (by simp; omega)
   rw [behV_3 h h1]; exact rfl
  have h1:¬ v.s.length<40:=by
   have h1:¬ (v.s.length:Int)<40:=h1
   omega
  refine cl (c_trimR v.s (by omega)) ?_
  have htl:=trim_len v.s
  refine cnd (λ h2=>?_) (λ h2=>?_)
  ·have h2:trimT v.s=[]:=h2
   rw [behV_4 h h1 h2]; exact rfl
  have h2:¬ trimT v.s=[]:=h2
  have hp:=trim_ne h2
  rw [behV_5 h h1 h2]
  generalize trimT v.s=t at *
  refine wi ?_
  refine And.intro (by kernel_rfl) ?_
  refine ⟨t.length - 1,⟨by omega,by omega⟩,?_⟩
  refine ⟨t.length - 1,⟨by omega,by omega⟩,?_⟩
  refine ew _ (u8_up (x:=t.getD (t.length - 1) 0)) ?_
  refine ew [t.getD (t.length - 1) 0+1] rfl ?_
  refine ct ?_ (by simp; omega)
  exact rfl
 have hk2:¬ v.k=2:=h
 refine cnd (λ h=>?_) (λ h=>?_)
 ·have h:v.k=3:=h
  have:=h3 h
  refine ew (v.n+1) (wrap_i64 (by have:=hb.1; omega) (by omega)) ?_
  rw [behV_6 h]
  refine regQ TT_ok [0,1,2,3] [4,5] [2] true ?_
  refine kq ?_
  exact rfl
 ·have h:¬ v.k=3:=h
  rw [behV_7 hk1 hk2 h]
  exact rfl
theorem c_least31 (k:Int) (w0:World) (h0:View) (hv:VLe h0 (Full w0)):Calls Tryz.prog 45 #[.int .i64 k] w0 (Ret w0 h0 λ u _=>u = .agg (valC (leaV k)).toArray):=by
 refine ent (args:=[.int .i64 k]) TT_ok [] [] Tryz.func45 rfl Tryz.ntmps45 rfl rfl hv ?_
 intro b2 b3
 refine cnd (λ h=>?_) (λ h=>?_)
 ·have h:k=1:=h
  subst h
  exact rfl
 ·have h:¬ k=1:=h
  have e:leaV k=⟨k,0,[]⟩:=by unfold leaV; rw [if_neg h]
  rw [e]
  exact rfl
theorem putV_len (l:List Val) (v:Val):(putV l v).length≤l.length+1:=by
 induction l with
 | nil=>simp [putV]
 | cons y l ih =>
  rw [putV]
  split
  ·simp
  ·split
   ·simp
   ·simp only [List.length_cons]; omega
theorem valC_map (l:List Val) (x:Val):((l++[x]).map valC).flatten=(l.map valC).flatten++valC x:=by simp
end Go.Proofs.YtbmmnalndollkaaGreatDoor
set_option maxRecDepth 100000
namespace Go.Proofs.YtbmmnalndollkaaGreatDoor
open Go Go.Dx Go.RowKit
structure CB (c:Cel):Prop where
 g:∀ t∈c.ts,GT t
 n:(nmL (exsT c.ts)).length≤20000000
 l:c.ts.length≤1000000
def nmB (c:Cel):Bool:=decide (0<(namesC c).length)
theorem c_const1 (c:Cel) (x:AC) (hb:CB c) (w0:World) (h0:View) (hv:VLe h0 (Full w0)) (hx:TL h0 x.1 x.2 c.ts) :
  Calls Tryz.prog 80 #[.agg (celC c x.1 x.2).toArray] w0 (Ret w0 h0 λ u _=>u = .bool (nmB c)):=by
 refine ent (args:=[.agg (celC c x.1 x.2).toArray]) TT_ok [] [] Tryz.func80 rfl Tryz.ntmps80 rfl rfl hv ?_
 intro b1
 refine cA TT_ok (λ w v h1 h2 h3=>c_CNames c x.1 x.2 hb.n w v h3 (hx.mono h1)) (λ _=>Mono.slF) (λ xs=>?_)
 refine congrArg Value.bool ?_
 unfold nmB
 simp
set_option maxHeartbeats 1000000 in
theorem c_IndexCC (l:List Cel) (a:AC) (hb:∀ c∈l,CB c) (w0:World) (h0:View) (hv:VLe h0 (Full w0)) (hx:LR 71 3 CelR h0 a.1 a.2 l) :
  Calls Tryz.prog 125 #[.slice a.1 l.length a.2,.func (.func 80) #[] #[]] w0 (Ret w0 h0 λ u _=>u = .int .i64 (idxS nmB l)):=by
 have hlm:=hx.lm
 refine ent (args:=[.slice a.1 l.length a.2,.func (.func 80) #[] #[]]) TT_ok [] [] Tryz.func125 rfl Tryz.ntmps125 rfl rfl hv ?_
 refine w_loop TT_ok (λ k:Nat=>[(8,.v (.int .i64 k))]) 0 (λ k=>k≤l.length∧∀ j,j<k→nmB (l.getD j cel0)=false) (λ k=>l.length - k) ?_
 refine And.intro ⟨⟨Nat.zero_le _,λ j hj=>absurd hj (Nat.not_lt_zero j)⟩,gs⟩ ?_
 intro k ⟨hk,hn⟩
 refine cnd (λ h=>?_) (λ h=>?_)
 ·have hun:=λ h=>upto_snoc hn h
  have hhit:=λ h=>idx_hit (p:=nmB) (l:=l) cel0 (by omega) hn h
  have hbk:=hb _ (getD_mem l k cel0 (by omega))
  refine ixL (R:=CelR) hx k cel0 (λ cs hcs=>?_)
  generalize l.getD k cel0=c at hun hhit hbk hcs ⊢
  obtain ⟨y,rfl,g⟩:=hcs
  refine cb (λ w hw'=>c_const1 c y hbk w h0 hw' g) ?_
  refine cnd (λ h4=>?_) (λ h4=>?_)
  ·exact congrArg (Value.int .i64) (hhit h4).symm
  ·refine wi ?_
   exact ⟨k+1,⟨⟨by omega,hun (by simpa using h4)⟩,by omega⟩,gs⟩
 ·exact congrArg (Value.int .i64) (idx_none (p:=nmB) cel0 (λ j hj=>hn j (by omega))).symm
theorem c_ContainsCC (l:List Cel) (a:AC) (hb:∀ c∈l,CB c) (w0:World) (h0:View) (hv:VLe h0 (Full w0)) (hx:LR 71 3 CelR h0 a.1 a.2 l) :
  Calls Tryz.prog 79 #[.slice a.1 l.length a.2,.func (.func 80) #[] #[]] w0 (Ret w0 h0 λ u _=>u = .bool (l.any nmB)):=by
 refine ent (args:=[.slice a.1 l.length a.2,.func (.func 80) #[] #[]]) TT_ok [] [] Tryz.func79 rfl Tryz.ntmps79 rfl rfl hv ?_
 refine cb (λ w hw=>c_IndexCC l a hb w h0 hw hx) ?_
 exact congrArg Value.bool (idx_any (p:=nmB) (l:=l))
structure ScB (r:Rdy):Prop where
 b:RdyB r
 c:∀ l∈r.ls,∀ c∈l.cs,CB c
theorem const_line {r:Rdy}:constS r=r.ls.all λ l => !l.cs.any nmB:=by
 unfold constS
 congr 1
 funext l
 induction l.cs with
 | nil=>rfl
 | cons c m ih =>
  rw [List.all_cons,List.any_cons,ih]
  unfold nmB
  by_cases h:(namesC c).length=0
  ·simp [h]
  ·have:0<(namesC c).length:=by omega
   simp [h,this]
theorem all_none {α:Type} {p:α→Bool} {l:List α} (d:α) (h:∀ j,j<l.length→p (l.getD j d)=true):l.all p=true:=by
 rw [List.all_eq_true]
 intro x hx
 obtain ⟨i,hi,rfl⟩:=mem_getD (d:=d) hx
 exact h i hi
theorem all_hit {α:Type} {p:α→Bool} {l:List α} (d:α) {k:Nat} (hk:k<l.length) (h:p (l.getD k d)=false):l.all p=false:=by
 cases ha:l.all p with
 | false=>rfl
 | true=>rw [List.all_eq_true] at ha; rw [ha _ (getD_mem l k d hk)] at h; cases h
set_option maxHeartbeats 1000000 in
theorem c_constant (r:Rdy) (a:TA) (x:AC) (hb:ScB r) (w0:World) (h0:View) (hv:VLe h0 (Full w0)) (hr:RdyH h0 r a x) :
  Calls Tryz.prog 44 #[.agg (rdyC r a x).toArray] w0 (Ret w0 h0 λ u _=>u = .bool (constS r)):=by
 have hbl:=hb.b.ls
 rw [const_line]
 refine ent (args:=[.agg (rdyC r a x).toArray]) TT_ok [] [] Tryz.func44 rfl Tryz.ntmps44 rfl rfl hv ?_
 intro b1
 refine w_loopB TT_ok (λ k:Nat=>[(8,.v (.int .i64 k))]) (λ _=>[(1,.c b1 32 (rdyC r a x))]) 0 (λ k=>k≤r.ls.length∧∀ j,j<k→(!(r.ls.getD j lin0).cs.any nmB)=true) (λ k=>r.ls.length - k) ?_
 refine And.intro ⟨⟨Nat.zero_le _,λ j hj=>absurd hj (Nat.not_lt_zero j)⟩,gs⟩ ?_
 intro k ⟨hk,hn⟩
 refine cnd (λ h=>?_) (λ h=>?_)
 ·have hkl:k<r.ls.length:=by omega
  have hcb:=hb.c _ (getD_mem r.ls k lin0 hkl)
  have hun:=λ h=>upto_snoc hn h
  have hhit:=λ h=>all_hit (p:=λ l:Lin => !l.cs.any nmB) lin0 hkl h
  refine ixL (R:=LinR) hr.l k lin0 (λ cs hcs=>?_)
  generalize r.ls.getD k lin0=ln at hcb hun hhit hcs ⊢
  obtain ⟨la,lb,rfl,hlin⟩:=hcs
  intro b4
  refine cb (λ w hw=>c_ContainsCC ln.cs la hcb w h0 hw hlin.1) ?_
  refine cnd (λ h1=>?_) (λ h1=>?_)
  ·exact congrArg Value.bool (hhit (by show (!ln.cs.any nmB)=false; rw [h1]; rfl)).symm
  ·refine wi ?_
   exact ⟨k+1,⟨⟨by omega,hun (by rw [h1]; rfl)⟩,by omega⟩,gs⟩
 ·exact congrArg Value.bool (all_none (p:=λ l:Lin => !l.cs.any nmB) lin0 (λ j hj=>hn j (by omega))).symm
theorem hold_err2 {c:Cel} {v:Val} {col:List Col} {row:List Val} (h:(holdsC c v col row).2≠0):(holdsC c v col row).1=false:=by
 unfold holdsC at h ⊢
 split
 ·rename_i hm
  rw [if_pos hm] at h
  have key:∀ l:List Tst,(holdL c.any c.neg v col row l).2≠0→(holdL c.any c.neg v col row l).1=false:=by
   intro l
   induction l with
   | nil=>intro h; exact absurd rfl h
   | cons t l ih =>
    intro h
    rw [holdL] at h ⊢
    split
    ·rfl
    ·rename_i h1
     rw [if_neg h1] at h
     split
     ·rename_i h2; rw [if_pos h2] at h; exact absurd rfl h
     ·rename_i h2; rw [if_neg h2] at h; exact ih h
  exact key c.ts h
 ·rfl
theorem c_holds31 (c:Cel) (x:AC) (v:Val) (hb:CB c) (hvb:valB v) (w0:World) (h0:View) (hv:VLe h0 (Full w0)) (hx:TL h0 x.1 x.2 c.ts) :
  Calls Tryz.prog 73 #[.agg (celC c x.1 x.2).toArray,.agg (valC v).toArray] w0 (Ret w0 h0 λ u _=>u = .bool (hpS c v)):=by
 refine ent (args:=[.agg (celC c x.1 x.2).toArray,.agg (valC v).toArray]) TT_ok [] [] Tryz.func73 rfl Tryz.ntmps73 rfl rfl hv ?_
 intro b2 b3
 refine cb (λ w hw=>c_CHolds c x.1 x.2 v none 0 [] none 0 [] hb.g hvb (Nat.zero_le _) (λ _ h=>absurd h List.not_mem_nil) w h0 hw hx (SlC.nil (by simp [maxLen])) (SlC.nil (by simp [maxLen]))) ?_
 have he:=hold_err2 (c:=c) (v:=v) (col:=[]) (row:=[])
 unfold hpS
 generalize holdsC c v [] []=p at he ⊢
 obtain ⟨p1,p2⟩:=p
 refine congrArg Value.bool ?_
 show (p1&&decide (p2=0))=p1
 by_cases h:p2=0
 ·simp [h]
 ·have:p1=false:=he h
  simp [this]
end Go.Proofs.YtbmmnalndollkaaGreatDoor
set_option maxRecDepth 100000
namespace Go.Proofs.YtbmmnalndollkaaGreatDoor
open Go Go.Dx Go.RowKit
structure PtS where
 a:Option Addr
 n:Nat
 cp:Nat
 l:List Val
 e:Int
def ptR (b4 b5 b7:Nat) (s:PtS) (k4:Nat:=904) (k5:Nat:=905) (k7:Nat:=907):BL :=
 [(k4,.c b4 49 [.slice none 0 0]),(k5,.c b5 36 [.int .i64 s.e]),(k7,.c b7 49 [.slice s.a s.n s.cp]),(900,.e (bufE 52 3 (.slice s.a s.n s.cp) (s.l.map valC).flatten))]
def ptJ (b4 b5 b7 l:Nat) (rec:Loop):Option Code×PtS→BL:=JL (λ s=>ptR b4 b5 b7 s) 902 l rec
def ptΦ (kind:Int) (v:Val) (e:Int) (s:PtS) (j:Option Code) (s':PtS):Prop :=
 s'.n=s'.l.length∧((e≠0∧j=some .ret∧s'.e=e)∨(e=0∧j=none∧s'.l=s.l++addP kind v∧s'.e=s.e))
def ptΨ (kind:Int) (es:List Ex) (s:PtS) (j:Option Code) (s':PtS):Prop :=
 s'.n=s'.l.length∧((errX es≠0∧j=some .ret∧s'.e=errX es)∨(errX es=0∧j=none∧s'.l=s.l++ptsX kind es∧s'.e=s.e))
theorem exsC_take (l:List Tst) (k:Nat) (h:k<l.length):exsC (l.take (k+1))=exsC (l.take k)++parT (l.getD k tst0):=by
 unfold exsC
 rw [take_snocD l k tst0 h,List.flatMap_append]; simp
theorem exsC_split (l:List Tst) (k:Nat) (h:k<l.length):exsC l=exsC (l.take k)++(parT (l.getD k tst0)++exsC (l.drop (k+1))):=by
 have e:l=l.take k++(l.getD k tst0::l.drop (k+1)):=by
  have:=List.take_append_drop k l
  rw [List.drop_eq_getElem_cons h] at this
  simp [List.getD,h]
 have:exsC l=exsC (l.take k++(l.getD k tst0::l.drop (k+1))):=by rw [← e]
 rw [this]
 simp [exsC,List.flatMap_append]
theorem addP_len (kind:Int) (v:Val):(addP kind v).length≤2:=by
 unfold addP
 split
 ·split <;> simp
 ·simp
theorem ptsX_len (kind:Int) (l:List Ex):(ptsX kind l).length≤2*l.length:=by
 induction l with
 | nil=>simp [ptsX]
 | cons x l ih =>
  have:=addP_len kind (evalS [] [] x).1
  rw [ptsX,List.length_append,List.length_cons]; omega
theorem parT_len (t:Tst):(parT t).length≤2:=by
 unfold parT; split <;> simp
theorem exsC_len (l:List Tst):(exsC l).length≤2*l.length:=by
 induction l with
 | nil=>simp [exsC]
 | cons t l ih =>
  have:=parT_len t
  have e:exsC (t::l)=parT t++exsC l:=by simp [exsC]
  rw [e,List.length_append,List.length_cons]; omega
theorem parT_eq (t:Tst):parT t=t.a::(if t.k=6 then [t.b] else []):=by
 unfold parT; split <;> rfl
theorem errX_go {a b:List Ex} (h:errX a=0):errX (a++b)=errX b:=by rw [errX_app,if_neg (by simp [h])]
theorem errX_hit {x:Ex} {l:List Ex} (h:(evalS [] [] x).2≠0):errX (x::l)=(evalS [] [] x).2:=if_pos h
theorem errX_on {x:Ex} {l:List Ex} (h:(evalS [] [] x).2=0):errX (x::l)=errX l:=if_neg (by simp [h])
theorem c_EvalP {p:Val×Int} (x:Ex) (ax:Option Addr) (cx:Nat) (hp:evalS [] [] x=p) (w0:World) (h0:View) (hv:VLe h0 (Full w0)) (hx:GX h0 ax cx x) :
  Calls Tryz.prog 83 #[.agg (exC x.op x.v x.s (.slice ax x.l.length cx)).toArray,.slice none 0 0,.slice none 0 0] w0 (Ret w0 h0 λ u _=>u=evR p):=by
 subst hp
 exact c_Eval x ax cx none 0 [] none 0 [] (Nat.zero_le _) (λ _ h=>absurd h List.not_mem_nil) w0 h0 hv hx (SlC.nil (by simp [maxLen])) (SlC.nil (by simp [maxLen]))
set_option maxHeartbeats 4000000 in
theorem c_told1 (kind : Int) (b4 b5 b7 l : Nat) (rec : Loop) (h00 : View) (hy : ∀ (v : Val) (e : Int) (s : PtS), okV v → s.n = s.l.length → s.l.length + 2 ≤ 10000000 → ∀ w v', VLe h00 v' → VLe v' (Full w) → (∀ b ∈ ids (oes (ptJ b4 b5 b7 l rec (none, s))), v' b = none) → OwnJ w (oes (ptJ b4 b5 b7 l rec (none, s))) →
      YC Tryz.prog (ptJ b4 b5 b7 l rec) (none, s) l [.agg (valC v).toArray, .int .i64 e] w fun u z => u = .bool z.1.isNone ∧ ptΦ kind v e s z.1 z.2)
    (c : Cel) (x : AC) (hc : CB c) (bc : Nat) (s : PtS) (hn : s.n = s.l.length) (hlen : s.l.length + 4 * c.ts.length ≤ 10000000) (w0 : World) (h0 : View) (hle : VLe h00 h0) (hv : VLe h0 (Full w0)) (hno : ∀ b ∈ ids (oes (ptJ b4 b5 b7 l rec (none, s))), h0 b = none) (ho : OwnJ w0 (oes (ptJ b4 b5 b7 l rec (none, s)))) (hx : TL h0 x.1 x.2 c.ts)
    (hb : h0 bc = some (.cells (celC c x.1 x.2).toArray 71 (0, 0))) :
    Calls Tryz.prog 82 #[.func (.yield l) #[] #[], .pointer (some ⟨bc, 0, none⟩)] w0 (RetJ (ptJ b4 b5 b7 l rec) (none, s) w0 fun u z => u = .tuple #[] ∧ ptΨ kind (exsC c.ts) s z.1 z.2) := by
  have hlm := hx.lm
  refine entJR (ptJ b4 b5 b7 l rec) (none, s) (g := fun _ => .tuple #[]) (Ψ := fun z => ptΨ kind (exsC c.ts) s z.1 z.2) (args := [.func (.yield l) #[] #[], .pointer (some ⟨bc, 0, none⟩)]) TT_ok [4000027, 4000028, 4000029, 4000030] [] [.v (.func (.yield l) #[] #[]), .v (.pointer (some ⟨bc, 0, none⟩))] Tryz.func82 rfl Tryz.ntmps82 rfl rfl hv hno ho rfl ?_
  refine ⟨.slice x.1 c.ts.length x.2, gc_mk fun _ => fun v' w g1 _ g3 => by rw [cell_row (g3 _ _ (g1 _ _ hb))]; rfl, ?_⟩
  refine w_loopB TT_ok (fun z : Nat × PtS => [(8, .v (.int .i64 z.1))]) (fun z => ptJ b4 b5 b7 l rec (none, z.2)) (0, s) (fun z => z.1 ≤ c.ts.length ∧ errX (exsC (c.ts.take z.1)) = 0 ∧ z.2.n = z.2.l.length ∧ z.2.l = s.l ++ ptsX kind (exsC (c.ts.take z.1)) ∧ z.2.e = s.e) (fun z => c.ts.length - z.1) ?_
  refine And.intro ⟨⟨Nat.zero_le _, rfl, hn, (List.append_nil _).symm, rfl⟩, gsJ ⟨rfl, rfl, rfl, rfl, rfl, trivial⟩⟩ ?_
  rintro ⟨k, y⟩ ⟨hk, hz, hyn, hyl, hye⟩
  dsimp only at hk hz hyn hyl hye ⊢
  have hyle : y.l.length ≤ s.l.length + 4 * k := by
    have h1 := ptsX_len kind (exsC (c.ts.take k))
    have h2 := exsC_len (c.ts.take k)
    rw [List.length_take] at h2
    rw [hyl, List.length_append]; omega
  refine cnd (fun h => ?_) (fun h => ?_)
  · have hkl : k < c.ts.length := by omega
    have hgt := hc.g _ (getT_mem c.ts k hkl)
    have htk := exsC_take c.ts k hkl
    have hsp := exsC_split c.ts k hkl
    refine ixT hx k (fun aa ca ab cb' g1 g2 g3 => ?_)
    generalize c.ts.getD k tst0 = t at *
    intro b4'
    obtain ⟨p, hp⟩ : ∃ p, evalS [] [] t.a = p := ⟨_, rfl⟩
    refine cb (fun w hw => c_EvalP (p := p) t.a aa ca hp w h0 hw (g1.gx hgt.1)) ?_
    have hok : okV p.1 := by rw [← hp]; exact eval_ok (g1.gx hgt.1) (fun _ h => absurd h List.not_mem_nil)
    refine yJ TT_ok (ptJ b4 b5 b7 l rec) (none, y) (g := fun z => .bool z.1.isNone) (fun w v h1 h2 h3 h4 h5 => hy p.1 p.2 y hok hyn (by omega) w v (hle.trans h1) h3 h4 h5) ?_ (hl := ⟨rfl, rfl, rfl, rfl, rfl, trivial⟩)
    rintro ⟨j, y2⟩ ⟨hy2n, hy2⟩
    dsimp only at hy2n hy2
    rcases hy2 with ⟨e1, e2, e3⟩ | ⟨e1, e2, e3, e4⟩
    · subst e2
      have ee : errX (exsC c.ts) = p.2 := by
        rw [hsp, errX_go hz, parT_eq, List.cons_append, errX_hit (by rw [hp]; exact e1), hp]
      refine cndT rfl ?_
      exact ⟨(some .ret, y2), rfl, ⟨hy2n, .inl ⟨by rw [ee]; exact e1, rfl, by rw [ee]; exact e3⟩⟩, rfl, rfl, rfl, rfl, rfl, rfl, trivial⟩
    · subst e2
      refine cndF rfl ?_
      have hy2le : y2.l.length + 2 ≤ 10000000 := by
        have := addP_len kind p.1
        rw [e3, List.length_append]; omega
      refine And.intro (fun hg => ?_) (fun hg => ?_)
      · have hg : t.k = 6 := of_decide_eq_true hg
        have hpt : parT t = [t.a, t.b] := by rw [parT_eq, if_pos hg]
        obtain ⟨q, hq⟩ : ∃ q, evalS [] [] t.b = q := ⟨_, rfl⟩
        refine cb (fun w hw => c_EvalP (p := q) t.b ab cb' hq w h0 hw (g2.gx hgt.2.1)) ?_
        have hgt2 : bq true (decide (t.k = 6)) = true := decide_eq_true hg
        refine And.intro (fun _ => ?_) (fun h => absurd (hgt2.symm.trans h) (by decide))
        refine And.intro (fun _ => ?_) (fun h => absurd (hgt2.symm.trans h) (by decide))
        refine And.intro (fun _ => ?_) (fun h => absurd (hgt2.symm.trans h) (by decide))
        have hok2 : okV q.1 := by rw [← hq]; exact eval_ok (g2.gx hgt.2.1) (fun _ h => absurd h List.not_mem_nil)
        refine yJ TT_ok (ptJ b4 b5 b7 l rec) (none, y2) (g := fun z => .bool z.1.isNone) (fun w v h1 h2 h3 h4 h5 => hy q.1 q.2 y2 hok2 hy2n hy2le w v (hle.trans h1) h3 h4 h5) ?_ (hl := ⟨rfl, rfl, rfl, rfl, rfl, trivial⟩)
        rintro ⟨j, y3⟩ ⟨hy3n, hy3⟩
        dsimp only at hy3n hy3
        rcases hy3 with ⟨f1, f2, f3⟩ | ⟨f1, f2, f3, f4⟩
        · subst f2
          have ee : errX (exsC c.ts) = q.2 := by
            rw [hsp, errX_go hz, hpt, List.cons_append, errX_on (by rw [hp]; exact e1), List.cons_append, errX_hit (by rw [hq]; exact f1), hq]
          refine cndT (by rw [decide_eq_true hg]; rfl) ?_
          exact ⟨(some .ret, y3), rfl, ⟨hy3n, .inl ⟨by rw [ee]; exact f1, rfl, by rw [ee]; exact f3⟩⟩, rfl, rfl, rfl, rfl, rfl, rfl, trivial⟩
        · subst f2
          refine cndF (by simp) ?_
          refine wi ?_
          refine ⟨(k + 1, y3), ⟨⟨hkl, ?_, hy3n, ?_, f4.trans (e4.trans hye)⟩, by show c.ts.length - (k + 1) < c.ts.length - k; omega⟩, gsJ ⟨rfl, rfl, rfl, rfl, rfl, trivial⟩⟩
          · rw [htk, errX_go hz, hpt, errX_on (by rw [hp]; exact e1), errX_on (by rw [hq]; exact f1)]; rfl
          · rw [f3, e3, hyl, htk, ptsX_app, hpt, ptsX, ptsX, hp, hq]
            simp [ptsX]
      · have hg : ¬ t.k = 6 := of_decide_eq_false hg
        have hpt : parT t = [t.a] := by rw [parT_eq, if_neg hg]
        have hgf2 : bq true (decide (t.k = 6)) = false := decide_eq_false hg
        refine ⟨.bool false, ?_⟩
        refine And.intro (fun h => absurd (hgf2.symm.trans h) (by decide)) (fun _ => ?_)
        refine ⟨.bool false, ?_⟩
        refine And.intro (fun h => absurd (hgf2.symm.trans h) (by decide)) (fun _ => ?_)
        refine ⟨.bool false, ?_⟩
        refine And.intro (fun h => absurd (hgf2.symm.trans h) (by decide)) (fun _ => ?_)
        refine ⟨.bool false, ?_⟩
        refine cndF (by simp [hg]) ?_
        refine wi ?_
        refine ⟨(k + 1, y2), ⟨⟨hkl, ?_, hy2n, ?_, e4.trans hye⟩, by show c.ts.length - (k + 1) < c.ts.length - k; omega⟩, gsJ ⟨rfl, rfl, rfl, rfl, rfl, trivial⟩⟩
        · rw [htk, errX_go hz, hpt, errX_on (by rw [hp]; exact e1)]; rfl
        · rw [e3, hyl, htk, ptsX_app, hpt, ptsX, hp]
          simp [ptsX]
  · have e : k = c.ts.length := by omega
    rw [e, List.take_length] at hz hyl
    exact ⟨(none, y), rfl, ⟨hyn, .inr ⟨hz, rfl, hyl, hye⟩⟩, rfl, rfl, rfl, rfl, rfl, rfl, trivial⟩
end Go.Proofs.YtbmmnalndollkaaGreatDoor
namespace Go.Proofs.YtbmmnalndollkaaGreatDoor
open Go Go.Dx Go.RowKit Go.Sort
theorem keep_grow {w w':World} (h:Keep [] w w'):∃ q os,w'=grow (w.drewN q) os:=by
 refine ⟨w'.drawn - w.drawn,w'.heap.extract w.heap.size w'.heap.size,?_⟩
 have hsz:=h.size
 have hh:w'.heap=w.heap++w'.heap.extract w.heap.size w'.heap.size:=by
  apply Array.ext_getElem?
  intro k
  by_cases hk:k<w.heap.size
  ·rw [h.block k hk (by simp),Array.getElem?_append_left hk]
  ·rw [Array.getElem?_append_right (by omega),Array.getElem?_extract]
   by_cases hk2:k<w'.heap.size
   ·rw [if_pos (by omega)]; congr 1; omega
   ·rw [if_neg (by omega),Array.getElem?_eq_none (by omega)]
 have h1:=h.os
 have h2:=h.tape
 have h3:=h.output
 have h4:=h.drawn
 unfold grow World.drewN
 rw [← hh]
 obtain ⟨hp,tp,dr,o,out⟩:=w'
 simp only at h1 h2 h3 h4 ⊢
 subst h1 h2 h3
 rw [show w.drawn+(dr - w.drawn)=dr by omega]
theorem flatK_list {α:Type} [Inhabited α] (enc:α→List Value) (k:Nat) (hk:∀ x,(enc x).length=k) (d:Array α):(flatK enc k d).toList=(d.toList.map enc).flatten:=by
 have hlen:(d.toList.map enc).flatten.length=d.size*k:=by rw [row_flat (sz:=k) hk]; simp
 apply List.ext_getElem
 ·rw [hlen]; simp
 ·intro t h1 h2
  have ht:t<d.size*k:=by simpa using h1
  have k0:0<k:=by
   rcases Nat.eq_zero_or_pos k with h | h
   ·subst h; simp at ht
   ·exact h
  have hd:t / k<d.size:=Nat.div_lt_of_lt_mul (by rwa [Nat.mul_comm])
  have hm:t % k<k:=Nat.mod_lt _ k0
  have e:=flat_at (sz:=k) hk d.toList (t / k) default (by simpa using hd)
  have e2:((d.toList.map enc).flatten)[t]?=(enc (d.toList.getD (t / k) default))[t % k]?:=by
   rw [← e,List.getElem?_take_of_lt hm,List.getElem?_drop]
   congr 1
   have:=Nat.div_add_mod t k
   rw [Nat.mul_comm] at this; omega
  have e3:(flatK enc k d)[t]! = (enc d[t / k]!)[t % k]! := get_flatK enc k d t ht
  have e4:d[t / k]! = d.toList.getD (t / k) default:=by
   rw [getElem!_pos d _ hd]; simp [List.getD,hd]
  have hl:t % k<(enc (d.toList.getD (t / k) default)).length:=by rw [hk]; exact hm
  rw [List.getElem?_eq_getElem h2,List.getElem?_eq_getElem hl] at e2
  rw [Option.some.inj e2]
  rw [e4,getElem!_pos (enc _) _ hl,getElem!_pos (flatK enc k d) t (by simpa using ht)] at e3
  simpa using e3
section
variable {α:Type} [Inhabited α] {enc:α→List Value} {k:Nat} {w:World} {T blk off n cap:Nat} {l:List α}
theorem sort_holds (hk:∀ x,(enc x).length=k) (hB:BufC T k (.slice (some ⟨blk,off,none⟩) n cap) (l.map enc).flatten w.heap[blk]?) (hn:n=l.length):HoldsK enc k w blk off l.toArray∧blk<w.heap.size:=by
 rcases hB with ⟨h,_⟩ | ⟨g,o,n',c',cur,fz,hv,hh,hf,hx,h1,h2,h3,h4⟩
 ·cases h
 cases hv
 have hlt:blk<w.heap.size:=(Array.getElem?_eq_some_iff.1 hh).1
 refine ⟨λ j hj=>?_,hlt⟩
 have hj:j<l.length*k:=by simpa using hj
 have hnk:n*k≤cap*k:=Nat.mul_le_mul_right _ h1
 have hfl:=flatK_list enc k hk l.toArray
 have hc:cur[off+j]?=some (flatK enc k l.toArray)[j]! := by
  have e:(flatK enc k l.toArray)[j]?=cur[off+j]?:=by
   rw [← Array.getElem?_toList,hfl]
   show (l.map enc).flatten[j]?=_
   rw [← h4,List.getElem?_take_of_lt (by rw [hn]; exact hj),List.getElem?_drop,Array.getElem?_toList]
  rw [← e,getElem!_pos _ _ (by simpa using hj),Array.getElem?_eq_getElem]
 have hjs:off+j<cur.size:=(Array.getElem?_eq_some_iff.1 hc).1
 constructor
 ·simp only [World.cell?,hh,Option.isSome_none,Bool.false_eq_true,if_false]
  exact hc
 ·simp only [World.frozen?,hh]
  exact hf _ hjs
theorem sort_world (hk:∀ x,(enc x).length=k) (hB:BufC T k (.slice (some ⟨blk,off,none⟩) n cap) (l.map enc).flatten w.heap[blk]?) (hn:n=l.length) (d':Array α) (hs:d'.size=l.length) (m:Nat) (os:Array Obj) :
  Keep [blk] w (sortWorldK enc k w blk off m d' os)∧BufC T k (.slice (some ⟨blk,off,none⟩) n cap) (d'.toList.map enc).flatten (sortWorldK enc k w blk off m d' os).heap[blk]?:=by
 rcases hB with ⟨h,_⟩ | ⟨g,o,n',c',cur,fz,hv,hh,hf,hx,h1,h2,h3,h4⟩
 ·cases h
 cases hv
 have hlt:blk<w.heap.size:=(Array.getElem?_eq_some_iff.1 hh).1
 have hnk:n*k≤cap*k:=Nat.mul_le_mul_right _ h1
 have hfl:=flatK_list enc k hk d'
 have hheap:(sortWorldK enc k w blk off m d' os).heap=(w.heap.modify blk (onCells (putCells id off (flatK enc k d'))))++os:=rfl
 have hget:∀ i,i<w.heap.size→(sortWorldK enc k w blk off m d' os).heap[i]?=if blk=i then (w.heap[i]?).map (onCells (putCells id off (flatK enc k d'))) else w.heap[i]?:=by
  intro i hi
  rw [hheap,Array.getElem?_append_left (by simpa using hi),Array.getElem?_modify]
 refine ⟨⟨rfl,rfl,rfl,Nat.le_add_right _ _,by rw [hheap]; simp,λ i hi hne=>?_⟩,?_⟩
 ·rw [hget i hi,if_neg (λ e=>hne (by simp [e]))]
 ·have hcell:(sortWorldK enc k w blk off m d' os).heap[blk]?=some (.cells (putCells id off (flatK enc k d') cur) T fz):=by
   rw [hget blk hlt,if_pos rfl,hh]; rfl
  have hsz:(putCells id off (flatK enc k d') cur).size=cur.size:=by simp [putCells]
  refine .inr ⟨blk,off,n,cap,_,fz,rfl,hcell,by rw [hsz]; exact hf,?_,h1,h2,by rw [hsz]; exact h3,?_⟩
  ·rw [row_flat (sz:=k) hk,Array.length_toList,hs,hn]
  ·rw [← hfl]
   apply List.ext_getElem?
   intro i
   have hfs:(flatK enc k d').size=n*k:=by rw [size_flatK,hs,hn]
   by_cases hi:i<n*k
   ·have hoi:off+i<cur.size:=by omega
    rw [List.getElem?_take_of_lt hi,List.getElem?_drop,Array.getElem?_toList,Array.getElem?_toList]
    unfold putCells
    rw [Array.getElem?_mapIdx,Array.getElem?_eq_getElem hoi]
    simp only [Option.map_some]
    rw [if_pos ⟨by omega,by rw [hfs]; omega⟩,show off+i - off=i by omega,getElem!_pos _ _ (by rw [hfs]; exact hi),Array.getElem?_eq_getElem (by rw [hfs]; exact hi)]
    rfl
   ·rw [List.getElem?_eq_none (by rw [List.length_take]; omega),List.getElem?_eq_none (by rw [Array.length_toList,hfs]; omega)]
theorem perm_of {d d':Array α} (h:PermIn 0 d.size d d'):d'.toList.Perm d.toList:=by
 have h1:=h.2.2
 have e1:d'.extract 0 d.size=d':=by rw [← h.1]; simp
 have e2:d.extract 0 d.size=d:=by simp
 rwa [e1,e2] at h1
theorem srt_of {lt:α→α→Bool} {d':Array α} {m:Nat} (hs:d'.size=m) (h:SortedIn lt 0 m d'):Srt lt d'.toList:=by
 refine List.pairwise_iff_getElem.2 λ i j hi hj hij=>?_
 have hi':i<d'.size:=by simpa using hi
 have hj':j<d'.size:=by simpa using hj
 have:=h i j (Nat.zero_le _) hij (by omega)
 rw [getElem!_pos d' j hj',getElem!_pos d' i hi'] at this
 simpa using this
def soJ (T k:Nat) (enc:α→List Value) (a:Option Addr) (n cap:Nat) (l:List α):BL:=[(900,.e (bufE T k (.slice a n cap) (l.map enc).flatten))]
theorem sort_ret {P:Program} {f:Nat} {fv:Value} {cf:α→α→Int} (hk:∀ x,(enc x).length=k) (a:Option Addr) (hn:n=l.length) (hl0:0<l.length) (hmax:l.length<4611686018427387904)
  (H:∀ blk off,HoldsK enc k w blk off l.toArray→blk<w.heap.size→Calls P f #[.slice (some ⟨blk,off,none⟩) l.toArray.size cap,fv] w λ e w' =>
   e = .returned (.tuple #[])∧∃ d' n os,PermIn 0 l.toArray.size l.toArray d'∧SortedIn (Go.Proofs.ltOf cf) 0 l.toArray.size d'∧w'=sortWorldK enc k w blk off n d' os)
  (ho:OwnJ w (oes (soJ T k enc a n cap l))):Calls P f #[.slice a n cap,fv] w (RetJ (soJ T k enc a n cap) l w λ u l'=>u = .tuple #[]∧(l'.Perm l∧Srt (Go.Proofs.ltOf cf) l')):=by
 have hb:=ho.own _ (List.mem_singleton.2 rfl)
 have hb:BufC T k (.slice a n cap) (l.map enc).flatten ((Value.slice a n cap).ownBlock.bind λ b=>w.heap[b]?):=hb
 obtain ⟨blk,off,rfl⟩:∃ blk off,a=some ⟨blk,off,none⟩:=by
  rcases hb with ⟨h,_⟩ | ⟨g,o,n',c',cur,fz,hv,_⟩
  ·cases h; omega
  ·cases hv; exact ⟨g,o,rfl⟩
 have hb:BufC T k (.slice (some ⟨blk,off,none⟩) n cap) (l.map enc).flatten w.heap[blk]?:=hb
 obtain ⟨h1,h2⟩:=sort_holds hk hb hn
 have hc:=H blk off h1 h2
 rw [show l.toArray.size=n by rw [hn]; simp] at hc
 refine hc.mono ?_
 rintro e w' ⟨rfl,d',m,os,hp,hs,rfl⟩
 have hsz:d'.size=l.length:=by have:=hp.1; simpa using this
 rw [show n=l.toArray.size by rw [hn]; simp] at hp
 obtain ⟨hkp,hB⟩:=sort_world hk hb hn d' hsz m os
 refine ⟨_,d'.toList,rfl,⟨rfl,by simpa using perm_of hp,srt_of (by rw [hsz,hn]) hs⟩,hkp,⟨λ e he=>?_,?_,λ b hb'=>?_⟩,λ b hb' => .inl hb'⟩
 ·rw [List.mem_singleton.1 he]; exact hB
 ·show List.Nodup [blk]; simp
 ·have hb':b∈[blk]:=hb'
  have:b=blk:=by simpa using hb'
  subst this
  exact Nat.lt_of_lt_of_le h2 hkp.size
end
end Go.Proofs.YtbmmnalndollkaaGreatDoor
namespace Go.Proofs
open Go.Shelf
def Tryz.laysSlF06_f37_ren:Go.Shelf.Ren:=⟨λ | 6=>37 | 15=>75 | 14=>74 | 28=>119 | 29=>120 | 20=>111 | 21=>112 | 22=>113 | 23=>114 | 24=>115 | 25=>116 | 26=>117 | 27=>118 | 46=>167 | 47=>168 | 48=>169 | 49=>170 | 50=>171 | 57=>213 | n=>n,λ | 22=>35 | 24=>81 | 25=>96 | 3=>3 | 39=>138 | 0=>0 | 53=>190 | 55=>192 | 4=>4 | 46=>183 | 45=>182 | 50=>187 | 5=>5 | 9=>9 | 66=>238 | 70=>242 | 76=>273 | 77=>260 | n=>n,λ | n=>n⟩
theorem Tryz.laysSlF06_f37:Go.Proofs.SlLaysF0.n6 Tryz.prog Tryz.laysSlF06_f37_ren:={
 mixed:=by kernel_rfl
 f6:=⟨Tryz.f37.name,by decide,Tryz.func37.trans (congrArg some (by kernel_rfl))⟩
 f14:=⟨Tryz.f74.name,by decide,Tryz.func74.trans (congrArg some (by kernel_rfl))⟩
 f15:=Tryz.func75.trans (congrArg some (by kernel_rfl))
 f20:=⟨Tryz.f111.name,by decide,Tryz.func111.trans (congrArg some (by kernel_rfl))⟩
 f21:=⟨Tryz.f112.name,by decide,Tryz.func112.trans (congrArg some (by kernel_rfl))⟩
 f22:=⟨Tryz.f113.name,by decide,Tryz.func113.trans (congrArg some (by kernel_rfl))⟩
 f23:=⟨Tryz.f114.name,by decide,Tryz.func114.trans (congrArg some (by kernel_rfl))⟩
 f24:=⟨Tryz.f115.name,by decide,Tryz.func115.trans (congrArg some (by kernel_rfl))⟩
 f25:=⟨Tryz.f116.name,by decide,Tryz.func116.trans (congrArg some (by kernel_rfl))⟩
 f26:=⟨Tryz.f117.name,by decide,Tryz.func117.trans (congrArg some (by kernel_rfl))⟩
 f27:=⟨Tryz.f118.name,by decide,Tryz.func118.trans (congrArg some (by kernel_rfl))⟩
 f28:=Tryz.func119.trans (congrArg some (by kernel_rfl))
 f29:=Tryz.func120.trans (congrArg some (by kernel_rfl))
 f46:=⟨Tryz.f167.name,by decide,Tryz.func167.trans (congrArg some (by kernel_rfl))⟩
 f47:=Tryz.func168.trans (congrArg some (by kernel_rfl))
 f48:=Tryz.func169.trans (congrArg some (by kernel_rfl))
 f49:=⟨Tryz.f170.name,by decide,Tryz.func170.trans (congrArg some (by kernel_rfl))⟩
 f50:=⟨Tryz.f171.name,by decide,Tryz.func171.trans (congrArg some (by kernel_rfl))⟩
 f57:=⟨Tryz.f213.name,by decide,Tryz.func213.trans (congrArg some (by kernel_rfl))⟩
 t0:=Tryz.underlying0
 a0:=Tryz.isAgg0
 z0:=Tryz.sizeOf0
 v0:=Tryz.zeroValue0
 t3:=Tryz.underlying3
 a3:=Tryz.isAgg3
 z3:=Tryz.sizeOf3
 v3:=Tryz.zeroValue3
 t4:=Tryz.underlying4
 a4:=Tryz.isAgg4
 z4:=Tryz.sizeOf4
 v4:=Tryz.zeroValue4
 t5:=Tryz.underlying5
 a5:=Tryz.isAgg5
 z5:=Tryz.sizeOf5
 v5:=Tryz.zeroValue5
 t9:=Tryz.underlying9
 a9:=Tryz.isAgg9
 z9:=Tryz.sizeOf9
 v9:=Tryz.zeroValue9
 t22:=Tryz.underlying35
 a22:=Tryz.isAgg35
 z22:=Tryz.sizeOf35
 v22:=Tryz.zeroValue35
 t25:=Tryz.underlying96
 a25:=Tryz.isAgg96
 z25:=Tryz.sizeOf96
 v25:=Tryz.zeroValue96
 t39:=Tryz.underlying138
 a39:=Tryz.isAgg138
 z39:=Tryz.sizeOf138
 v39:=Tryz.zeroValue138
 t45:=Tryz.underlying182
 a45:=Tryz.isAgg182
 z45:=Tryz.sizeOf182
 v45:=Tryz.zeroValue182
 t46:=Tryz.underlying183
 a46:=Tryz.isAgg183
 z46:=Tryz.sizeOf183
 v46:=Tryz.zeroValue183
 t50:=Tryz.underlying187
 a50:=Tryz.isAgg187
 z50:=Tryz.sizeOf187
 v50:=Tryz.zeroValue187
 t53:=Tryz.underlying190
 a53:=Tryz.isAgg190
 z53:=Tryz.sizeOf190
 v53:=Tryz.zeroValue190
 t55:=Tryz.underlying192
 a55:=Tryz.isAgg192
 z55:=Tryz.sizeOf192
 v55:=Tryz.zeroValue192
 t66:=Tryz.underlying238
 a66:=Tryz.isAgg238
 z66:=Tryz.sizeOf238
 v66:=Tryz.zeroValue238
 t70:=Tryz.underlying242
 a70:=Tryz.isAgg242
 z70:=Tryz.sizeOf242
 v70:=Tryz.zeroValue242
 t76:=Tryz.underlying273
 a76:=Tryz.isAgg273
 z76:=Tryz.sizeOf273
 v76:=Tryz.zeroValue273
 t77:=Tryz.underlying260
 a77:=Tryz.isAgg260
 z77:=Tryz.sizeOf260
 v77:=Tryz.zeroValue260 }
open Go.RowKit Go.Lib Go.Sort in
theorem Tryz.slices_SortFunc {α:Type} [Inhabited α] (k:Nat) (aE:∀ w,(isAgg 81).run Tryz.prog w = .ok true w) (zE:∀ w,(Go.sizeOf 81).run Tryz.prog w = .ok k w) (enc:α→List Value) (hk:∀ x,(enc x).length=k) (h1:∀ x,∀ v∈enc x,v.oneCell'=true) (cf:α→α→Int) (hO:SWO (ltOf cf)) (g:Nat) (cb:Array Value) (blk off cap:Nat) (d:Array α) (w:World) (eg:∀ args w,(callFunc g args).run Tryz.prog w = .ok (.enter g args) w) (hcmp:CmpLays Tryz.prog g cb enc k cf blk off d.size w) (hH:HoldsK enc k w blk off d) (hblk:blk<w.heap.size) (hsz:d.size<4611686018427387904) :
  Calls Tryz.prog 37 #[.slice (some ⟨blk,off,none⟩) d.size cap,.func (.func g) #[] cb] w λ e w' =>
   e = .returned (.tuple #[])∧∃ d' n os,PermIn 0 d.size d d'∧SortedIn (ltOf cf) 0 d.size d'∧w'=sortWorldK enc k w blk off n d' os:=AnyQ.slices_SortFunc Tryz.laysSlF06_f37 k aE zE enc hk h1 cf hO g cb blk off cap d w eg hcmp hH hblk hsz
open Go.RowKit Go.Lib Go.Sort in
theorem Tryz.slices_SortFunc_none {α:Type} [Inhabited α] (p:Option Addr) (cap:Nat) (fv:Value) (w:World) :
  Calls Tryz.prog 37 #[.slice p 0 cap,fv] w λ e w'=>e = .returned (.tuple #[])∧w'=w:=AnyF.slices_SortFunc_none Tryz.laysSlF06_f37 p cap fv w
end Go.Proofs
namespace Go.Proofs
open Go.Shelf
def Tryz.laysV48_ren:Go.Shelf.Ren:=⟨λ | 6=>48 | 15=>75 | 14=>85 | 28=>119 | 29=>120 | 20=>135 | 21=>136 | 22=>137 | 23=>138 | 24=>139 | 25=>140 | 26=>141 | 27=>142 | 46=>188 | 47=>168 | 48=>169 | 49=>189 | 50=>190 | 57=>227 | n=>n,λ | 22=>49 | 24=>52 | 25=>108 | 3=>3 | 39=>138 | 0=>0 | 53=>190 | 55=>192 | 4=>4 | 46=>183 | 45=>182 | 50=>187 | 5=>5 | 9=>9 | 66=>238 | 70=>242 | 76=>273 | 77=>260 | n=>n,λ | n=>n⟩
theorem Tryz.laysV48:Go.Proofs.SlLaysF0.n6 Tryz.prog Tryz.laysV48_ren:={
 mixed:=by kernel_rfl
 f6:=⟨Tryz.f48.name,by decide,Tryz.func48.trans (congrArg some (by kernel_rfl))⟩
 f14:=⟨Tryz.f85.name,by decide,Tryz.func85.trans (congrArg some (by kernel_rfl))⟩
 f15:=Tryz.func75.trans (congrArg some (by kernel_rfl))
 f20:=⟨Tryz.f135.name,by decide,Tryz.func135.trans (congrArg some (by kernel_rfl))⟩
 f21:=⟨Tryz.f136.name,by decide,Tryz.func136.trans (congrArg some (by kernel_rfl))⟩
 f22:=⟨Tryz.f137.name,by decide,Tryz.func137.trans (congrArg some (by kernel_rfl))⟩
 f23:=⟨Tryz.f138.name,by decide,Tryz.func138.trans (congrArg some (by kernel_rfl))⟩
 f24:=⟨Tryz.f139.name,by decide,Tryz.func139.trans (congrArg some (by kernel_rfl))⟩
 f25:=⟨Tryz.f140.name,by decide,Tryz.func140.trans (congrArg some (by kernel_rfl))⟩
 f26:=⟨Tryz.f141.name,by decide,Tryz.func141.trans (congrArg some (by kernel_rfl))⟩
 f27:=⟨Tryz.f142.name,by decide,Tryz.func142.trans (congrArg some (by kernel_rfl))⟩
 f28:=Tryz.func119.trans (congrArg some (by kernel_rfl))
 f29:=Tryz.func120.trans (congrArg some (by kernel_rfl))
 f46:=⟨Tryz.f188.name,by decide,Tryz.func188.trans (congrArg some (by kernel_rfl))⟩
 f47:=Tryz.func168.trans (congrArg some (by kernel_rfl))
 f48:=Tryz.func169.trans (congrArg some (by kernel_rfl))
 f49:=⟨Tryz.f189.name,by decide,Tryz.func189.trans (congrArg some (by kernel_rfl))⟩
 f50:=⟨Tryz.f190.name,by decide,Tryz.func190.trans (congrArg some (by kernel_rfl))⟩
 f57:=⟨Tryz.f227.name,by decide,Tryz.func227.trans (congrArg some (by kernel_rfl))⟩
 t0:=Tryz.underlying0
 a0:=Tryz.isAgg0
 z0:=Tryz.sizeOf0
 v0:=Tryz.zeroValue0
 t3:=Tryz.underlying3
 a3:=Tryz.isAgg3
 z3:=Tryz.sizeOf3
 v3:=Tryz.zeroValue3
 t4:=Tryz.underlying4
 a4:=Tryz.isAgg4
 z4:=Tryz.sizeOf4
 v4:=Tryz.zeroValue4
 t5:=Tryz.underlying5
 a5:=Tryz.isAgg5
 z5:=Tryz.sizeOf5
 v5:=Tryz.zeroValue5
 t9:=Tryz.underlying9
 a9:=Tryz.isAgg9
 z9:=Tryz.sizeOf9
 v9:=Tryz.zeroValue9
 t22:=Tryz.underlying49
 a22:=Tryz.isAgg49
 z22:=Tryz.sizeOf49
 v22:=Tryz.zeroValue49
 t25:=Tryz.underlying108
 a25:=Tryz.isAgg108
 z25:=Tryz.sizeOf108
 v25:=Tryz.zeroValue108
 t39:=Tryz.underlying138
 a39:=Tryz.isAgg138
 z39:=Tryz.sizeOf138
 v39:=Tryz.zeroValue138
 t45:=Tryz.underlying182
 a45:=Tryz.isAgg182
 z45:=Tryz.sizeOf182
 v45:=Tryz.zeroValue182
 t46:=Tryz.underlying183
 a46:=Tryz.isAgg183
 z46:=Tryz.sizeOf183
 v46:=Tryz.zeroValue183
 t50:=Tryz.underlying187
 a50:=Tryz.isAgg187
 z50:=Tryz.sizeOf187
 v50:=Tryz.zeroValue187
 t53:=Tryz.underlying190
 a53:=Tryz.isAgg190
 z53:=Tryz.sizeOf190
 v53:=Tryz.zeroValue190
 t55:=Tryz.underlying192
 a55:=Tryz.isAgg192
 z55:=Tryz.sizeOf192
 v55:=Tryz.zeroValue192
 t66:=Tryz.underlying238
 a66:=Tryz.isAgg238
 z66:=Tryz.sizeOf238
 v66:=Tryz.zeroValue238
 t70:=Tryz.underlying242
 a70:=Tryz.isAgg242
 z70:=Tryz.sizeOf242
 v70:=Tryz.zeroValue242
 t76:=Tryz.underlying273
 a76:=Tryz.isAgg273
 z76:=Tryz.sizeOf273
 v76:=Tryz.zeroValue273
 t77:=Tryz.underlying260
 a77:=Tryz.isAgg260
 z77:=Tryz.sizeOf260
 v77:=Tryz.zeroValue260 }
end Go.Proofs
set_option maxRecDepth 100000
namespace Go.Proofs.YtbmmnalndollkaaGreatDoor
open Go Go.Dx Go.RowKit
instance :Inhabited Val:=⟨v0⟩
theorem swo_of {α:Type} {lt:α→α→Bool} (h:Ord3 lt) (htot:∀ x y z,lt x y=true→lt y z=true→lt x z=true):Go.Sort.SWO lt:=⟨h.rf,htot,λ x y z h1 h2=>h.tr z y x h2 h1⟩
set_option maxHeartbeats 1000000 in
theorem c_SortV (l:List Val) (a:Option Addr) (n cap:Nat) (hn:n=l.length) (hl0:0<l.length) (hmax:l.length<4611686018427387904) (w:World) (ho:OwnJ w (oes (soJ 52 3 valC a n cap l))) :
  Calls Tryz.prog 48 #[.slice a n cap,.func (.func 49) #[] #[]] w (RetJ (soJ 52 3 valC a n cap) l w λ u l'=>u = .tuple #[]∧(l'.Perm l∧Srt ltV l')):=by
 refine sort_ret (T:=52) (k:=3) (enc:=valC) (cf:=cmpV) (λ _=>rfl) a hn hl0 hmax (λ blk off hH hblk=>?_) ho
 refine Go.Proofs.AnyQ.slices_SortFunc Tryz.laysV48 3 Tryz.isAgg52 Tryz.sizeOf52 valC (λ _=>rfl) (λ x v hv=>?_) cmpV ?_ 49 #[] blk off cap l.toArray w (enters_of Tryz.func49 (by kernel_rfl) rfl) (λ m os dk _ x y=>?_) hH hblk (by simpa using hmax)
 ·have hv:v = .int .i64 x.k∨v = .int .i64 x.n∨v=vs x.s:=by simpa [valC] using hv
  rcases hv with rfl | rfl | rfl <;> rfl
 ·refine swo_of ord_V λ x y z h1 h2=>?_
  simp only [Go.Proofs.ltOf,decide_eq_true_eq] at h1 h2 ⊢
  exact cmpV_tr h1 h2
 ·refine (c_VCompare x y _ (Full _) (VLe.refl _)).mono ?_
  rintro e w' ⟨v,rfl,hk,rfl⟩
  exact ⟨rfl,keep_grow hk⟩
end Go.Proofs.YtbmmnalndollkaaGreatDoor
set_option maxRecDepth 100000
namespace Go.Proofs.YtbmmnalndollkaaGreatDoor
open Go Go.Dx Go.RowKit
theorem cpt_snoc2 (m:List Val) (y x:Val):cptV (m++[y]++[x])=if y=x then cptV (m++[y]) else cptV (m++[y])++[x]:=by
 induction m with
 | nil =>
  show cptV [y,x]=if y=x then cptV [y] else cptV [y]++[x]
  simp only [cptV]
  split
  ·rename_i h; subst h; rfl
  ·rfl
 | cons z m ih =>
  have hne:cptV (m++[y])≠[]:=λ h=>by
   have:=cpt_nil.1 h; simp at this
  obtain ⟨h,t,he⟩:∃ h t,cptV (m++[y])=h::t:=List.exists_cons_of_ne_nil hne
  have e1:cptV (z::m++[y])=if z=h then h::t else z::h::t:=by
   show cptV (z::(m++[y]))=_
   simp only [cptV,he]
  rw [e1]
  show cptV (z::(m++[y]++[x]))=_
  simp only [cptV,ih]
  by_cases hyx:y=x
  ·simp only [if_pos hyx,he]
  ·simp only [if_neg hyx,he,List.cons_append]
   split <;> rfl
theorem cpt_step (l:List Val) (j:Nat) (h1:1≤j) (h2:j<l.length):cptV (l.take (j+1))=if l.getD (j - 1) v0=l.getD j v0 then cptV (l.take j) else cptV (l.take j)++[l.getD j v0]:=by
 have e1:l.take (j+1)=l.take j++[l.getD j v0]:=take_snocD l j v0 h2
 have e2:l.take j=l.take (j - 1)++[l.getD (j - 1) v0]:=by
  have:=take_snocD l (j - 1) v0 (by omega)
  rwa [show j - 1+1=j by omega] at this
 rw [e1,e2,cpt_snoc2]
theorem cpt_one (l:List Val):cptV (l.take 1)=l.take 1:=by
 cases l with
 | nil=>rfl
 | cons x l=>rfl
theorem flat_take (g:Val→List Value) (hg:∀ x,(g x).length=3) (l:List Val) (k:Nat):((l.map g).flatten).take (k*3)=((l.take k).map g).flatten:=by
 by_cases hk:k≤l.length
 ·have e:(l.map g).flatten=((l.take k).map g).flatten++((l.drop k).map g).flatten:=by
   rw [← List.flatten_append,← List.map_append,List.take_append_drop]
  rw [e,List.take_append_of_le_length]
  ·rw [List.take_of_length_le]
   rw [row_flat (sz:=3) hg,List.length_take]; omega
  ·rw [row_flat (sz:=3) hg,List.length_take]; omega
 ·rw [List.take_of_length_le (l:=l) (by omega),List.take_of_length_le]
  rw [row_flat (sz:=3) hg]
  exact Nat.mul_le_mul_right 3 (by omega)
theorem own_le {c:Cx} {B:BL} {F:FV} {w:World} {T sz k n cp:Nat} {a:Option Addr} {xs:List Value} (hB:lkA B k=some (.e (bufE T sz (.slice a n cp) xs))) (hS:Sx c B F w):n≤cp:=by
 rcases own_buf hB hS with ⟨h1,_⟩ | ⟨g,off,n',cap,cur,fz,h1,_,_,_,h2,_⟩
 ·cases h1; exact Nat.le_refl _
 ·cases h1; exact h2
theorem valAt (l:List Val) (k:Nat) (h:k<l.length):(((l.map valC).flatten).drop (k*3)).take 3=valC (l.getD k v0):=flat_at (g:=valC) (sz:=3) (λ _=>rfl) l k v0 h
theorem valSet (l:List Val) (k:Nat) (v:Val) (h:k<l.length):((l.map valC).flatten).take (k*3)++valC v++((l.map valC).flatten).drop (k*3+(valC v).length)=((l.set k v).map valC).flatten:=(flat_set (g:=valC) (sz:=3) (λ _=>rfl) l k v h).symm
structure CpS where
 k:Nat
 i:Nat
 cur:List Val
def cpI (l:List Val) (n k0:Nat) (z:CpS):Prop:=1≤z.i∧k0+z.i≤n∧z.k≤k0+z.i - 1∧z.cur.length=n∧z.cur.take z.k=cptV (l.take (k0+z.i))∧z.cur.drop (k0+z.i - 1)=l.drop (k0+z.i - 1)
theorem drop_getDV {l m:List Val} {i j:Nat} (h:l.drop i=m.drop i) (hij:i≤j):l.getD j v0=m.getD j v0:=by
 have e:∀ q:List Val,q.getD j v0=(q.drop i).getD (j - i) v0:=λ q=>by
  simp [List.getD,show i+(j - i)=j by omega]
 rw [e l,e m,h]
theorem set_take (l:List Val) (k:Nat) (v:Val) (h:k<l.length):(l.set k v).take (k+1)=l.take k++[v]:=by
 rw [take_snocD (l.set k v) k v0 (by simpa using h),List.take_set_of_le (Nat.le_refl _)]
 simp [List.getD,h]
theorem set_drop (l:List Val) (k i:Nat) (v:Val) (h:k<i):(l.set k v).drop i=l.drop i:=by rw [List.drop_set_of_lt h]
def cpJ (a:Option Addr) (cap:Nat) (z:Nat×List Val):BL:=soJ 52 3 valC a z.1 cap z.2
set_option maxHeartbeats 4000000 in
theorem c_Compact (l:List Val) (a:Option Addr) (n cap:Nat) (hn:n=l.length) (hl:l.length≤10000000) (w0:World) (h0:View) (hv:VLe h0 (Full w0)) (hno:∀ b∈ids (oes (cpJ a cap (n,l))),h0 b=none) (ho:OwnJ w0 (oes (cpJ a cap (n,l)))) :
  Calls Tryz.prog 50 #[.slice a n cap] w0 (RetJ (cpJ a cap) (n,l) w0 λ u z=>u = .slice a z.1 cap∧(z.1=z.2.length∧z.2=cptV l)):=by
 refine entJ (cpJ a cap) (n,l) (g:=λ z => .slice a z.1 cap) (Ψ:=λ z=>z.1=z.2.length∧z.2=cptV l) (args:=[.slice a n cap]) TT_ok [1000006,1000011,49,50,51] [] [.v (.slice a n cap)] Tryz.func50 rfl Tryz.ntmps50 rfl rfl hv hno ho rfl ?_
 refine cnd (λ h=>?_) (λ h=>?_)
 ·refine ⟨(n,l),rfl,⟨hn,?_⟩,rfl,rfl,trivial⟩
  match l,hn,hl with
  | [],_,_=>rfl
  | [x],_,_=>rfl
  | x::y::l,hn,_=>simp only [List.length_cons] at hn; omega
 refine w_loopB TT_ok (λ k:Nat=>[(3,.v (.int .i64 k))]) (λ _=>cpJ a cap (n,l)) 1 (λ k=>1≤k∧k≤n∧cptV (l.take k)=l.take k) (λ k=>n - k) ?_
 refine And.intro ⟨⟨Nat.le_refl _,by omega,cpt_one l⟩,gsJ ⟨rfl,trivial⟩⟩ ?_
 rintro k ⟨hk1,hkn,hck⟩
 refine cnd (λ h1=>?_) (λ h1=>?_)
 ·have hkl:k<l.length:=by omega
  refine ownC (X:=(∃ b o,a=some ⟨b,o,none⟩)∧n≤cap) (λ w hS=>⟨own_ad (k:=900) rfl (by omega) hS,own_le (k:=900) rfl hS⟩) (λ ⟨⟨bb,oo,e⟩,hcap⟩=>?_)
  subst e
  have hst:=cpt_step l k hk1 hkl
  refine regW TT_ok [0,1,4,5,2,6,3,7,8,9] [] [] [18,19,23,24] ?_
  refine hIx (e:=52) (sz:=3) (m:=k) ⟨by kernel_rfl,SzIs.of (by kernel_rfl)⟩ rfl rfl rfl (by omega) ?_
  refine wiE ((k - 1:Nat):Int) (by omega) ?_
  refine hLdA (m:=k) (new:=valC (l.getD k v0)) 900 rfl (AggT.of (by kernel_rfl) (by kernel_rfl)) rfl rfl (by omega) (valAt l k hkl) rfl ?_
  refine hIx (e:=52) (sz:=3) (m:=k - 1) ⟨by kernel_rfl,SzIs.of (by kernel_rfl)⟩ rfl rfl rfl (by omega) ?_
  refine hLdA (m:=k - 1) (new:=valC (l.getD (k - 1) v0)) 900 rfl (AggT.of (by kernel_rfl) (by kernel_rfl)) rfl rfl (by omega) (valAt l (k - 1) (by omega)) rfl ?_
  refine aq eqV (l.getD k v0) (l.getD (k - 1) v0) ?_
  refine cnd (λ h2=>?_) (λ h2=>?_)
  ·rw [if_pos h2.symm] at hst
   refine ⟨k,⟨rfl,by omega,hcap⟩,?_⟩
   rw [if_neg (by omega),show (some (⟨bb,oo,none⟩:Addr)).map (·.add (k*3))=some ⟨bb,oo+k*3,none⟩ by rw [Option.map_some,add_mk]]
   refine w_loopB TT_ok (λ z:CpS=>[(3,.v (.int .i64 z.k)),(5,.v (.int .i64 z.i))]) (λ z=>cpJ (some ⟨bb,oo,none⟩) cap (n,z.cur)) ⟨k,1,l⟩ (cpI l n k) (λ z=>n - k - z.i) ?_
   refine And.intro ⟨⟨Nat.le_refl _,by show k+1≤n; omega,by show k≤k+1 - 1; omega,hn.symm,by show l.take k=cptV (l.take (k+1)); rw [hst,hck],rfl⟩,gsJ ⟨rfl,trivial⟩⟩ ?_
   rintro ⟨m,i,cur⟩ ⟨g1,g2,g3,g4,g5,g6⟩
   dsimp only at g1 g2 g3 g4 g5 g6 ⊢
   refine cnd (λ h3=>?_) (λ h3=>?_)
   ·have h3:k+i<n:=by omega
    have hs2:=cpt_step l (k+i) (by omega) (by omega)
    have c1:cur.getD (k+i) v0=l.getD (k+i) v0:=drop_getDV g6 (by omega)
    have c2:cur.getD (k+(i - 1)) v0=l.getD (k+i - 1) v0:=by rw [drop_getDV g6 (j:=k+(i - 1)) (by omega)]; congr 1; omega
    refine regW TT_ok [0,1,4,5,2,6,3,7,8,9] [] [] [37,38,42,43] ?_
    refine hIx (e:=52) (sz:=3) (m:=i) ⟨by kernel_rfl,SzIs.of (by kernel_rfl)⟩ rfl rfl rfl (by omega) ?_
    refine wiE ((i - 1:Nat):Int) (by omega) ?_
    refine hLdA (m:=k+i) (new:=valC (cur.getD (k+i) v0)) 900 rfl (AggT.of (by kernel_rfl) (by kernel_rfl)) rfl (by rw [Nat.add_mul,Nat.add_assoc]) (by omega) (valAt cur (k+i) (by omega)) rfl ?_
    refine hIx (e:=52) (sz:=3) (m:=i - 1) ⟨by kernel_rfl,SzIs.of (by kernel_rfl)⟩ rfl rfl rfl (by omega) ?_
    refine hLdA (m:=k+(i - 1)) (new:=valC (cur.getD (k+(i - 1)) v0)) 900 rfl (AggT.of (by kernel_rfl) (by kernel_rfl)) rfl (by rw [Nat.add_mul,Nat.add_assoc]) (by omega) (valAt cur (k+(i - 1)) (by omega)) rfl ?_
    refine aq eqV (cur.getD (k+i) v0) (cur.getD (k+(i - 1)) v0) ?_
    refine cnd (λ h4=>?_) (λ h4=>?_)
    ·rw [c1,c2] at h4
     rw [if_neg (λ e=>h4 e.symm)] at hs2
     have hmc:m<cur.length:=by omega
     refine goPu TT_ok (.pointer (some ⟨bb,oo+k*3+i*3,none⟩)) (λ w hS=>pu_iaddr_sla (e:=52) (sz:=3) (j:=i) (k := .i64) rfl ⟨by kernel_rfl,SzIs.of (by kernel_rfl)⟩ (ev_sl rfl rfl) (ev_sl rfl rfl) rfl (by omega)) ?_
     refine goPu TT_ok (.agg (valC (cur.getD (k+i) v0)).toArray) (λ w hS=>pu_loadA (AggT.of (by kernel_rfl) (by kernel_rfl)) (ev_sl rfl rfl) λ j v hj=>by
      rw [add_mk,show oo+k*3+i*3=oo+(k+i)*3 by omega]
      exact buf_cells (sz:=3) (own_buf (k:=900) rfl hS) (by omega) (valAt cur (k+i) (by omega)) rfl j v hj) ?_
     refine ixStB TT_ok (T:=52) (e:=52) (sz:=3) (m:=m) (new:=valC (cur.getD (k+i) v0)) 900 rfl ⟨by kernel_rfl,SzIs.of (by kernel_rfl)⟩ rfl rfl rfl (by omega) rfl rfl (by simp) rfl rfl (SzIs.of (by kernel_rfl)) rfl (λ b2 o2 hab=>?_)
     cases hab
     rw [valSet cur m _ hmc]
     refine wi ?_
     refine wi ?_
     refine ⟨⟨m+1,i+1,cur.set m (cur.getD (k+i) v0)⟩,⟨⟨by show 1≤i+1; omega,by show k+(i+1)≤n; omega,by show m+1≤k+(i+1) - 1; omega,by show (cur.set m _).length=n; rw [List.length_set]; exact g4,?_,?_⟩,by show n - k - (i+1)<n - k - i; omega⟩,gsJ ⟨rfl,trivial⟩⟩
     ·show (cur.set m _).take (m+1)=cptV (l.take (k+(i+1)))
      rw [set_take cur m _ hmc,g5,show k+(i+1)=k+i+1 by omega,hs2,c1]
     ·show (cur.set m _).drop (k+(i+1) - 1)=l.drop (k+(i+1) - 1)
      rw [set_drop cur m _ _ (by omega),show k+(i+1) - 1=(k+i - 1)+1 by omega,← List.drop_drop,← List.drop_drop,g6]
    ·rw [c1,c2] at h4
     rw [if_pos h4.symm] at hs2
     refine wi ?_
     refine ⟨⟨m,i+1,cur⟩,⟨⟨by show 1≤i+1; omega,by show k+(i+1)≤n; omega,by show m≤k+(i+1) - 1; omega,g4,by show cur.take m=cptV (l.take (k+(i+1))); rw [g5,show k+(i+1)=k+i+1 by omega,hs2],?_⟩,by show n - k - (i+1)<n - k - i; omega⟩,gsJ ⟨rfl,trivial⟩⟩
     show cur.drop (k+(i+1) - 1)=l.drop (k+(i+1) - 1)
     rw [show k+(i+1) - 1=(k+i - 1)+1 by omega,← List.drop_drop,← List.drop_drop,g6]
   ·have h3:k+i=n:=by omega
    rw [h3,hn,List.take_length] at g5
    refine ⟨m,⟨rfl,by omega,hcap⟩,?_⟩
    rw [if_neg (by omega),show (some (⟨bb,oo,none⟩:Addr)).map (·.add (m*3))=some ⟨bb,oo+m*3,none⟩ by rw [Option.map_some,add_mk]]
    refine clrB TT_ok (e:=52) (sz:=3) (m:=m) 900 rfl ⟨by kernel_rfl,SzIs.of (by kernel_rfl)⟩ (TT_ok.td rfl) rfl rfl rfl (by omega) ?_
    rw [flat_take valC (λ _=>rfl),g5]
    refine ⟨m,⟨rfl,by omega⟩,?_⟩
    have hml:m=(cptV l).length:=by rw [← g5,List.length_take]; omega
    exact ⟨(m,cptV l),rfl,⟨hml,rfl⟩,rfl,rfl,trivial⟩
  ·rw [if_neg (λ e=>h2 e.symm),hck] at hst
   refine wi ?_
   exact ⟨k+1,⟨⟨by omega,by omega,by rw [hst,← take_snocD l k v0 hkl]⟩,by omega⟩,gsJ ⟨rfl,trivial⟩⟩
 ·have e:k=n:=by omega
  rw [e,hn,List.take_length] at hck
  exact ⟨(n,l),rfl,⟨hn,hck.symm⟩,rfl,rfl,trivial⟩
end Go.Proofs.YtbmmnalndollkaaGreatDoor
set_option maxRecDepth 100000
namespace Go.Proofs.YtbmmnalndollkaaGreatDoor
open Go Go.Dx Go.RowKit
theorem c_told31 (c:Cel) (x:AC) (w0:World) (h0:View) (hv:VLe h0 (Full w0)):Calls Tryz.prog 46 #[.agg (celC c x.1 x.2).toArray] w0 (Ret w0 h0 λ u hh=>∃ b:Nat,u = .func (.func 82) #[] #[.pointer (some ⟨b,0,none⟩)]∧hh b=some (.cells (celC c x.1 x.2).toArray 71 (0,0))):=by
 refine entA (args:=[.agg (celC c x.1 x.2).toArray]) TT_ok [3] [] Tryz.func46 rfl Tryz.ntmps46 rfl rfl hv (λ _ _ _ hle hx=>hle _ _ hx) ?_
 intro b1
 refine shutG TT_ok (Φ:=λ h=>h b1=some (.cells (celC c x.1 x.2).toArray 71 (0,0))) 1 rfl (λ hh _ _ hb=>hb) ?_ (λ _ _ hle hx=>hle _ _ hx)
 exact ⟨b1,rfl,λ v _ hF=>hF.2⟩
theorem val_s {v:Val} (h:valOk v=true):v.s.length≤40:=by
 rcases valOk_cases h with ⟨_,_,h1⟩ | ⟨_,h1⟩ | ⟨_,_,h1⟩ | ⟨_,h1,_⟩
 ·rw [h1]; simp
 ·rw [h1]; simp
 ·unfold plainS at h1
  exact of_decide_eq_true (Bool.and_eq_true_iff.1 h1).1
 ·rw [h1]; simp
theorem val_b {v:Val} (h:valOk v=true) (hk:v.k=3):v.n≤1:=by
 rcases valOk_cases h with ⟨h1,_⟩ | ⟨h1,_⟩ | ⟨h1,_⟩ | ⟨_,_,h1⟩ <;> omega
theorem addP_no {kind:Int} {v:Val} (h:¬ v.k=kind):addP kind v=[]:=if_neg h
theorem addP_two {kind:Int} {v:Val} (h:v.k=kind) (h2:(behV v).2=true):addP kind v=[v,(behV v).1]:=by rw [addP,if_pos h,if_pos h2]
theorem addP_one {kind:Int} {v:Val} (h:v.k=kind) (h2:(behV v).2=false):addP kind v=[v]:=by rw [addP,if_pos h,if_neg (by rw [h2]; decide)]
def poV (p:List Val×Int) (z:AC):Value := .tuple #[.slice z.1 p.1.length z.2,.int .i64 p.2]
def PoE (p:List Val×Int) (B:BL) (us:List Value):Prop :=
 (p.1=[]∧tupV us=poV p (none,0))∨(∃ a n cp,tupV us = .tuple #[.slice a n cp,.int .i64 p.2]∧n=p.1.length∧lkA B 900=some (.e (bufE 52 3 (.slice a n cp) (p.1.map valC).flatten))∧delE B 900 λ _=>True)
def exsI (r:Rdy) (k i:Nat):List Ex:=(r.ls.take i).flatMap λ l=>exsC (l.cs.getD k cel0).ts
theorem exsI_snoc (r:Rdy) (k i:Nat) (h:i<r.ls.length):exsI r k (i+1)=exsI r k i++exsC ((r.ls.getD i lin0).cs.getD k cel0).ts:=by
 unfold exsI
 rw [take_snocD r.ls i lin0 h,List.flatMap_append]; simp
theorem exsI_all (r:Rdy) (k:Nat):exsI r k r.ls.length=exsK r k:=by unfold exsI exsK; rw [List.take_length]
theorem exsI_err {r:Rdy} {k i:Nat} (h:i<r.ls.length) (h0:errX (exsI r k i)=0) (he:errX (exsC ((r.ls.getD i lin0).cs.getD k cel0).ts)≠0):errX (exsK r k)=errX (exsC ((r.ls.getD i lin0).cs.getD k cel0).ts):=by
 have e:exsK r k=exsI r k (i+1)++(r.ls.drop (i+1)).flatMap λ l=>exsC (l.cs.getD k cel0).ts:=by
  unfold exsK exsI
  rw [← List.flatMap_append,List.take_append_drop]
 rw [e,exsI_snoc r k i h,List.append_assoc,errX_go h0,errX_app,if_pos he]
theorem exsI_len {r:Rdy} {k:Nat} (hts:∀ l∈r.ls,∀ c∈l.cs,c.ts.length≤1000):∀ i,i≤r.ls.length→(exsI r k i).length≤2000*i
 | 0,_=>by simp [exsI]
 | i+1,hi=>by
  have ih:=exsI_len (k:=k) hts i (by omega)
  rw [exsI_snoc r k i (by omega),List.length_append]
  have h1:=exsC_len ((r.ls.getD i lin0).cs.getD k cel0).ts
  have h2:((r.ls.getD i lin0).cs.getD k cel0).ts.length≤1000:=by
   by_cases hk:k<(r.ls.getD i lin0).cs.length
   ·exact hts _ (getD_mem r.ls i lin0 (by omega)) _ (getD_mem _ k cel0 hk)
   ·have:(r.ls.getD i lin0).cs.getD k cel0=cel0:=by rw [List.getD_eq_getElem?_getD,List.getElem?_eq_none (by omega)]; rfl
    rw [this]; simp [cel0]
  omega
theorem rawI_le {r:Rdy} {k i:Nat} {s:PtS} (hts:∀ l∈r.ls,∀ c∈l.cs,c.ts.length≤1000) (hn:r.ls.length≤1000) (hi:i≤r.ls.length) (h:s.l=v0::leaV (kdK r k)::ptsX (kdK r k) (exsI r k i)):s.l.length≤4000002∧2≤s.l.length:=by
 have h1:=exsI_len (k:=k) hts i hi
 have h2:=ptsX_len (kdK r k) (exsI r k i)
 rw [h]
 simp only [List.length_cons]
 omega
theorem no_K {B:BL} (h:noK B=true):∀ k g b o cs,(k,OB.k g b o cs)∈B→False:=λ k g b o cs hm=>noK_ne h _ _ _ _ _ hm
def poL (b6:Nat) (K:Nat) (x:AC) (n:Nat) (i:Nat):SL:=[(43,.v (.int .i64 i)),(41,.v (.slice x.1 n x.2)),(42,.v (.int .i64 n)),(1,.v (.int .i64 K)),(4,.o 4 0),(5,.o 5 0),(6,.v (.pointer (some ⟨b6,0,none⟩))),(7,.o 7 0)]
def poI (r:Rdy) (K:Nat) (s:PtS) (i:Nat):Prop:=i≤r.ls.length∧s.n=s.l.length∧s.e=0∧errX (exsI r K i)=0∧s.l=v0::leaV (kdK r K)::ptsX (kdK r K) (exsI r K i)
theorem toG {c:Cx} {L':SL} {B':BL} {F':FV} {a:Act} {w:World} (hD:Dn c L' [] B' a) (hS:Sx c B' F' w) (L1:SL) (B1:BL) (F1:FV) (hm:Mono F1) (hg:Goes L1 B1 F1 L' B' F'):Dn c L1 [] B1 a∧Sx c B1 F1 w:=⟨hg.dn hD,hg.sx hm hS⟩
theorem act_nil {a:Act} (h:a.defers=[]):a={ a with defers:=([]:List Nat).map mkD }:=by cases a; cases h; rfl
set_option maxHeartbeats 4000000 in
theorem c_Points (r:Rdy) (a:TA) (x:AC) (k:Int) (hb:ScB r) (hn:r.ls.length≤1000) (hts:∀ l∈r.ls,∀ c∈l.cs,c.ts.length≤1000) (w0:World) (h0:View) (hv:VLe h0 (Full w0)) (hr:RdyH h0 r a x) :
  Calls Tryz.prog 18 #[.agg (rdyC r a x).toArray,.int .i64 k] w0 (Ret w0 h0 λ u hh=>∃ z:AC,u=poV (poiS r k) z∧SlC 52 3 (flatR valC) hh (.slice z.1 (poiS r k).1.length z.2) (poiS r k).1):=by
 have hins:=hb.b.ins
 have hci:=cols_len r.t.ins
 have eA:(k<0∨(r.t.ins.length:Int)≤k∨constS r=false)→poiS r k=([],2):=λ h=>if_pos h
 have eB:¬ (k<0∨(r.t.ins.length:Int)≤k∨constS r=false)→poiS r k=if errX (exsK r k.toNat)≠0 then ([],errX (exsK r k.toNat)) else (ptsS r k.toNat,0):=λ h=>if_neg h
 generalize poiS r k=p at eA eB ⊢
 have hE:∀ (B:BL) (F:FV) (us:List Value) (w:World),PoE p B us→Sx ⟨Tryz.prog,TT,.wp,81,w0,h0,[],λ _=>False,[40],[]⟩ B F w→(Ret w0 h0 λ u hh=>∃ z:AC,u=poV p z∧SlC 52 3 (flatR valC) hh (.slice z.1 p.1.length z.2) p.1) (.returned (tupV us)) w:=by
  rintro B F us w (⟨h1,h2⟩ | ⟨a1,n1,c1,h1,h2,h3,h4⟩) hS
  ·rw [h2]
   exact hS.st.ret (λ _ _ hle ⟨b,e,hs⟩=>⟨b,e,hs.monoF hle⟩) λ hh hF=>⟨(none,0),rfl,by rw [h1]; exact SlC.nil (by simp [maxLen])⟩
  ·obtain ⟨B',_,_,hs⟩:=seal_sx (c:=⟨Tryz.prog,TT,.wp,81,w0,h0,[],λ _=>False,[40],[]⟩) (g:=valC) rfl h3 h2 (by intros; rfl) h4
   have hS':=hs w hS
   rw [h1]
   refine hS'.st.ret (λ _ _ hle ⟨b,e,hs⟩=>⟨b,e,hs.monoF hle⟩) λ hh hF=>⟨(a1,c1),?_,?_⟩
   ·rw [poV,← h2]
   ·rw [← h2]; exact hF.2
 refine entDM (E:=λ B F us=>PoE p B us) (args:=[.agg (rdyC r a x).toArray,.int .i64 k]) TT_ok [40] [] 4 Tryz.func18 rfl Tryz.ntmps18 rfl rfl hv hE ?_
 intro b2 b4 b5
 refine cbg (λ _ w hw=>c_constant r a x hb w h0 hw hr) ?_
 refine cnd (λ h=>?_) (λ h=>?_)
 ·have h:(k<0∨((colsO r.t.ins).length:Int)≤k)∨constS r=false:=by
   rcases h with (h | h) | h
   ·exact .inl (.inl h)
   ·exact .inl (.inr h)
   ·exact .inr (by simpa using h)
  have h:k<0∨(r.t.ins.length:Int)≤k∨constS r=false:=by
   rcases h with (h | h) | h
   ·exact .inl h
   ·exact .inr (.inl (by rw [← hci]; exact h))
   ·exact .inr (.inr h)
  rw [eA h]
  exact .inl ⟨rfl,rfl⟩
 have h1:0≤k:=by
  have:=h.1.1
  have this:¬ k<0:=this
  omega
 have h2:k<(r.t.ins.length:Int):=by
  have:=h.1.2
  have this:¬ ((colsO r.t.ins).length:Int)≤k:=this
  rw [← hci]; omega
 have h3:constS r=true:=by
  have:=h.2
  simpa using this
 have eB:=eB (by rw [h3]; simp; omega)
 clear eA h h3
 obtain ⟨K,rfl⟩:∃ K:Nat,k=(K:Int):=⟨k.toNat,by omega⟩
 rw [Int.toNat_natCast] at eB
 refine ixs hr.t.i.1 K c0 ?_
 rw [cols_get r.t.ins K (by omega)]
 have hkd:((r.t.ins.getD K co0).1).kind=kdK r K:=rfl
 generalize (r.t.ins.getD K co0).1=col at hkd ⊢
 intro b6
 refine cb (λ w hw=>c_least31 col.kind w h0 hw) ?_
 rw [hkd]
 intro b39 b7
 intro a0 w hD hS
 refine c_seq (c_seq (hand (c:=⟨Tryz.prog,TT,.wp,81,w0,h0,[],λ _=>False,[40],[]⟩) TT_ok hD hS ?_ (λ _ _ _ h _ _=>h.elim)))
 refine ⟨rfl,rowE (k:=39) (n:=2) (cp:=2) (sz:=3) 900 rfl rfl rfl (by decide) (Nat.le_refl _) ⟨rfl,?_⟩⟩
 refine shutW 6 (Φ:=λ h=>h b6=some (.cells #[.int .i64 (kdK r K)] 50 (0,0))) (λ hh _ _ hb=>hb) ?_ (λ _ _ hle hx=>hle _ _ hx)
 refine goW TT_ok ?_
 intro a1 w1 hD1 hS1
 refine n_then (c_block ?_)
 obtain ⟨hD1,hS1⟩:=toG hD1 hS1 (poL b6 K x r.ls.length 0) (ptR b4 b5 b7 ⟨some ⟨b39,0,none⟩,2,2,[v0,leaV (kdK r K)],0⟩ 4 5 7) (λ h=>True∧h b6=some (.cells #[.int .i64 (kdK r K)] 50 (0,0))) (λ _ _ hle hx=>⟨trivial,hle _ _ hx.2⟩) (gsJ ⟨rfl,rfl,rfl,rfl,trivial⟩)
 have hS1:=hS1.st
 refine wp_loopG (λ (z:PtS×Nat) ac w=>∃ (Ds:List Nat) (a0:Act),ac={ a0 with defers:=Ds.map mkD }∧Dn ⟨Tryz.prog,TT,.wp,81,w0,h0,[],λ _=>False,[40],[]⟩ (poL b6 K x r.ls.length z.2) [] (ptR b4 b5 b7 z.1 4 5 7) a0∧St w0 h0 [] w (oes (ptR b4 b5 b7 z.1 4 5 7)++omD Ds) (λ h=>True∧h b6=some (.cells #[.int .i64 (kdK r K)] 50 (0,0)))∧poI r K z.1 z.2) (λ z=>r.ls.length - z.2) (⟨some ⟨b39,0,none⟩,2,2,[v0,leaV (kdK r K)],0⟩,0) ⟨[],a1,act_nil hD1.fr.df,hD1,by simpa [omD] using hS1,Nat.zero_le _,rfl,rfl,rfl,rfl⟩ ?_
 rintro ⟨s,i⟩ ac w ⟨Ds,a2,rfl,hD2,hS2,hi,hsn,hse,hz,hsl⟩
 dsimp only at hi hsn hse hz hsl hD2 hS2 ⊢
 obtain ⟨hown,hno⟩:=ownS hS2
 have hbv:=hS2.base_cv
 have hFv:=hS2.facts
 have hvw:=hS2.view
 generalize cv w0.heap.size h0 (ids (oes (ptR b4 b5 b7 s 4 5 7)++omD Ds)) w=V at hno hbv hFv hvw
 have hS3:Sx ⟨Tryz.prog,TT,.df (Ds.map mkD),81,w,V,ids (oes (ptR b4 b5 b7 s 4 5 7)),λ _=>False,[],[]⟩ (ptR b4 b5 b7 s 4 5 7) (λ _=>True) w:=sx_J rfl rfl hvw hno hown rfl
 have hD3:Dn ⟨Tryz.prog,TT,.df (Ds.map mkD),81,w,V,ids (oes (ptR b4 b5 b7 s 4 5 7)),λ _=>False,[],[]⟩ (poL b6 K x r.ls.length i) [] (ptR b4 b5 b7 s 4 5 7) a2:=⟨hD2.fr,hD2.inv⟩
 have hrV:=rdy_m r a x _ _ hbv hr
 refine wp_seq (handF TT_ok rfl hD3 hS3 ?_ (λ _ h=>h))
 intro a4 w4 hD4 hS4
 refine n_then ?_
 refine wp_seq (handF TT_ok rfl hD4 hS4 ?_ (λ _ h=>h))
 refine cnd (λ h=>?_) (λ h=>?_)
 ·have hil:i<r.ls.length:=by omega
  have hkl:K<(r.ls.getD i lin0).cs.length:=by rw [(hb.b.l _ (getD_mem r.ls i lin0 hil)).1]; omega
  have hcb:=hb.c _ (getD_mem r.ls i lin0 hil) _ (getD_mem _ K cel0 hkl)
  have hct:=hts _ (getD_mem r.ls i lin0 hil) _ (getD_mem _ K cel0 hkl)
  have hsn1:=exsI_snoc r K i hil
  have hser:=exsI_err (r:=r) (k:=K) hil hz
  intro a5 w5 hD5 hS5
  refine n_then ?_
  refine wp_seq (wp_block (wp_seq (handF TT_ok rfl hD5 hS5 ?_ (λ _ h=>h))))
  refine ixL (R:=LinR) hrV.l i lin0 (λ cs hcs=>?_)
  generalize r.ls.getD i lin0=ln at hkl hcb hct hsn1 hser hcs ⊢
  obtain ⟨la,lb,rfl,hlin⟩:=hcs
  intro b9
  intro a6 w6 hD6 hS6
  refine n_then ?_
  refine wp_seq (handF TT_ok rfl hD6 hS6 ?_ (λ _ h=>h))
  refine ixL (R:=CelR) hlin.1 K cel0 (λ cs hcs=>?_)
  generalize ln.cs.getD K cel0=c at hcb hct hsn1 hser hcs ⊢
  obtain ⟨y,rfl,hTL⟩:=hcs
  refine cA TT_ok (λ w v h1 h2 h3=>c_told31 c y w v h3) (λ _ _ _ hle hx=>hle _ _ hx) (λ be=>?_)
  intro a7 w7 hD7 hS7
  refine n_then (wp_block ?_)
  have e52:a7.eval (.tmp 52) = .func (.func 82) #[] #[.pointer (some ⟨be,0,none⟩)]:=hD7.fr.kv (t:=52) rfl
  have e4:a7.tmps.getD 4 undef = .pointer (some ⟨b4,0,none⟩):=hD7.fr.kv (t:=4) rfl
  have e5:a7.tmps.getD 5 undef = .pointer (some ⟨b5,0,none⟩):=hD7.fr.kv (t:=5) rfl
  have e6:a7.tmps.getD 6 undef = .pointer (some ⟨b6,0,none⟩):=hD7.fr.kv (t:=6) rfl
  have e7:a7.tmps.getD 7 undef = .pointer (some ⟨b7,0,none⟩):=hD7.fr.kv (t:=7) rfl
  have hsz:a7.tmps.size=81:=hD7.fr.sz
  have hsle:=rawI_le hts hn hi hsl
  refine rangeP (λ s=>ptR b4 b5 b7 s 4 5 7) s 902 903 (Ds.map mkD) (Ψ:=λ j s'=>ptΨ (kdK r K) (exsC c.ts) s j s') (lb:=[.pointer (some ⟨be,0,none⟩)]) hD7 hS7 e52 (TT_ok.call rfl) ⟨rfl,rfl,rfl,rfl,trivial⟩ rfl (λ _ _=>rfl) (λ _=>rfl) (λ _=>rfl) ?_ ?_
  ·intro rec l hr1 hr2 hr3 hr4 hr5 hr6 w8 v g1 g2 g3 g4 g5
   refine (c_told1 (kdK r K) b4 b5 b7 l rec v ?_ c y hcb be s hsn (by omega) w8 v (λ _ _ h=>h) g3 g4 g5 (hTL.mono g1) g2.2).mono ?_
   ·intro vv e s2 hok hn2 hl2 w9 v9 q1 q3 q4 q5
    have hl9:w9.heap[l]?=some (.loop (recP rec none)):=q5.own (some l,LoopC (recP rec none)) (by unfold ptJ; rw [oes_JL]; exact List.mem_append_right _ (List.mem_singleton.2 rfl))
    refine ⟨_,_,_,_,run_yield2 (r:=recP rec none) hl9 hr4,?_⟩
    obtain ⟨t53,tx53⟩:=set_tmp (v := .agg (valC vv).toArray) hsz (show 53<81 by decide)
    have hsz2:(a7.tmps.setIfInBounds 53 (.agg (valC vv).toArray)).size=81:=by rw [Array.size_setIfInBounds]; exact hsz
    obtain ⟨t54,tx54⟩:=set_tmp (v := .int .i64 e) hsz2 (show 54<81 by decide)
    have hb6:v9 b6=some (.cells #[.int .i64 (kdK r K)] 50 (0,0)):=q1 _ _ (g1 _ _ hFv.2)
    refine roundP TT_ok (λ s=>ptR b4 b5 b7 s 4 5 7) 902 hr1 hr2 s2 (Ψ:=λ j s'=>ptΦ (kdK r K) vv e s2 j s') [] [] [(54,.v (.int .i64 e)),(53,.v (.agg (valC vv).toArray)),(4,.o 4 0),(5,.o 5 0),(6,.v (.pointer (some ⟨b6,0,none⟩))),(7,.o 7 0)] (n:=81) q3 q4 q5 (by rw [Array.size_setIfInBounds,Array.size_setIfInBounds,show (recP rec none).tmps=a7.tmps from hr3]; exact hsz) ?_ ?_
    ·intro t u hu
     show (((recP rec none).tmps.setIfInBounds 53 (.agg (valC vv).toArray)).setIfInBounds 54 (.int .i64 e)).getD t undef=u
     rw [show (recP rec none).tmps=a7.tmps from hr3]
     by_cases c54:t=54
     ·subst c54; rw [t54]; exact Option.some.inj hu
     rw [tx54 t c54]
     by_cases c53:t=53
     ·subst c53; rw [t53]; exact Option.some.inj hu
     rw [tx53 t c53]
     by_cases c4:t=4
     ·subst c4; rw [e4]; exact Option.some.inj hu
     by_cases c5:t=5
     ·subst c5; rw [e5]; exact Option.some.inj hu
     by_cases c6:t=6
     ·subst c6; rw [e6]; exact Option.some.inj hu
     by_cases c7:t=7
     ·subst c7; rw [e7]; exact Option.some.inj hu
     have hn:lkA [(54,SV.v (.int .i64 e)),(53,.v (.agg (valC vv).toArray)),(4,.o 4 0),(5,.o 5 0),(6,.v (.pointer (some ⟨b6,0,none⟩))),(7,.o 7 0)] t=none:=by
      rw [lkA_ne (Ne.symm c54),lkA_ne (Ne.symm c53),lkA_ne (Ne.symm c4),lkA_ne (Ne.symm c5),lkA_ne (Ne.symm c6),lkA_ne (Ne.symm c7)]; rfl
     rw [kv_none hn] at hu; cases hu
    ·unfold endJ
     generalize LoopC { rec with state := .busy }=LC
     rw [hr5]
     intro b10
     refine ⟨rfl,?_⟩
     show vcC _ rec.body _ _ _ _ _ _
     rw [hr6]
     refine cnd (λ h=>?_) (λ h=>?_)
     ·exact ⟨{ s2 with e:=e },⟨hn2,.inl ⟨h,rfl,rfl⟩⟩,rfl,rfl,rfl,rfl,rfl,rfl,trivial⟩
     have he:e=0:=by simpa using h
     refine ⟨.int .i64 (kdK r K),gc_mk λ _=>λ v' w g1' _ g3'=>by rw [cell_row (g3' _ _ (g1' _ _ hb6))]; rfl,?_⟩
     refine cnd (λ h1=>?_) (λ h1=>?_)
     ·exact ⟨s2,⟨hn2,.inr ⟨he,rfl,by rw [addP_no h1,List.append_nil],rfl⟩⟩,rfl,rfl,rfl,rfl,rfl,rfl,trivial⟩
     have hk1:vv.k=kdK r K:=by simpa using h1
     intro b64
     refine ap TT_ok 900 (AppT.of (bytes:=32) (sz:=2) (by kernel_rfl) (by kernel_rfl) (by kernel_rfl)) rfl rfl rfl rfl rfl rfl rfl (by rw [row_flat (sz:=3) (λ _=>rfl)]; show (s2.l.length*3+3)*33≤140737488355328; omega) (λ a3 n3 c3 e3=>?_)
     rw [row_flat (sz:=3) (λ _=>rfl)] at e3
     have e3:n3*3=s2.l.length*3+3:=e3
     refine cb (λ w hw=>c_behind vv hok.2 (by have:=val_s hok.1; omega) (val_b hok.1) w _ hw) ?_
     have ha1:=addP_two (kind:=kdK r K) hk1
     have ha2:=addP_one (kind:=kdK r K) hk1
     generalize behV vv=q at ha1 ha2 ⊢
     obtain ⟨q1',q2'⟩:=q
     dsimp only at ha1 ha2
     intro b12
     refine cnd (λ h2=>?_) (λ h2=>?_)
     ·have h2:q2'=true:=h2
      have hov:(s2.l++[vv]).length=s2.l.length+1:=by simp
      intro b74
      refine ap TT_ok 900 (AppT.of (bytes:=32) (sz:=2) (by kernel_rfl) (by kernel_rfl) (by kernel_rfl)) rfl rfl rfl rfl rfl rfl rfl (by
       show (((s2.l.map valC).flatten++valC vv).length+3)*33≤140737488355328
       rw [← valC_map,row_flat (sz:=3) (λ _=>rfl)]; omega) (λ a4 n4 c4 e4=>?_)
      have e4:n4*3=((s2.l.map valC).flatten++valC vv).length+3:=e4
      rw [← valC_map,row_flat (sz:=3) (λ _=>rfl)] at e4
      refine ⟨⟨a4,n4,c4,s2.l++[vv]++[q1'],s2.e⟩,⟨?_,.inr ⟨he,rfl,?_,rfl⟩⟩,rfl,rfl,rfl,rfl,?_,rfl,trivial⟩
      ·show n4=(s2.l++[vv]++[q1']).length
       rw [List.length_append]; show n4=(s2.l++[vv]).length+1; omega
      ·show s2.l++[vv]++[q1']=s2.l++addP (kdK r K) vv
       rw [ha1 h2]; simp
      ·exact congrArg some (by rw [valC_map,valC_map]; rfl)
     ·have h2:q2'=false:=by simpa using h2
      refine ⟨⟨a3,n3,c3,s2.l++[vv],s2.e⟩,⟨?_,.inr ⟨he,rfl,?_,rfl⟩⟩,rfl,rfl,rfl,rfl,?_,rfl,trivial⟩
      ·show n3=(s2.l++[vv]).length
       rw [List.length_append]; show n3=s2.l.length+1; omega
      ·show s2.l++[vv]=s2.l++addP (kdK r K) vv
       rw [ha2 h2]
      ·exact congrArg some (by rw [valC_map]; rfl)
   ·rintro e w9 ⟨u,z,rfl,⟨_,h1⟩,h3⟩
    exact ⟨u,z,rfl,h1,h3⟩
  ·intro j s' D w8 hΨ hDk hSk
   obtain ⟨hsn',hΨ⟩:=hΨ
   rcases hΨ with ⟨f1,f2,f3⟩ | ⟨f1,f2,f3,f4⟩
   ·subst f2
    refine wp_ret ?_
    have ep:p=([],errX (exsC c.ts)):=by rw [eB,hser f1,if_pos f1]
    have hS9:=(backS (J:=(903,.e (some D,DefC))::ptR b4 b5 b7 s' 4 5 7) hS2 hSk rfl rfl rfl ⟨rfl,rfl,rfl,rfl,rfl,trivial⟩).perm (O':=oes (ptR b4 b5 b7 s' 4 5 7)++omD (D::Ds)) List.perm_middle.symm
    show LeavesInM Fence.wide 1 Tryz.prog _ a7.tmps _ ((D::Ds).map mkD) .returning w8
    obtain ⟨hDf,_⟩:=toG hDk hSk (poL b6 K x r.ls.length i) (ptR b4 b5 b7 s' 4 5 7) (λ _=>True) Mono.tru (gsJ ⟨rfl,rfl,rfl,rfl,trivial⟩ (fv:=λ _ _=>trivial) (bk := .inr rfl))
    refine retMs (c:=⟨Tryz.prog,TT,.wp,81,w0,h0,[],λ _=>False,[40],[]⟩) TT_ok (rs:=[.cell 4 49,.cell 5 36]) (E:=λ B F us=>PoE p B us) (B:=ptR b4 b5 b7 s' 4 5 7) (L:=poL b6 K x r.ls.length i) rfl (no_K rfl) ?_ ⟨hDf.fr,hDf.inv⟩ (λ vs w h1 h2=>hE _ _ vs w h1 h2) (D::Ds) w8 hS9
    refine .inl ⟨by rw [ep],?_⟩
    rw [ep,← f3]; exact rfl
   ·subst f2
    refine n_block (n_block (n_then ?_))
    have hS9:=(backS (J:=(903,.e (some D,DefC))::ptR b4 b5 b7 s' 4 5 7) hS2 hSk rfl rfl rfl ⟨rfl,rfl,rfl,rfl,rfl,trivial⟩)
    have hDm:Dn ⟨Tryz.prog,TT,.df ((D::Ds).map mkD),81,w,V,ids (oes (ptR b4 b5 b7 s 4 5 7)),λ _=>False,[],[]⟩ _ [] _ a7:=⟨hDk.fr,hDk.inv⟩
    have hSm:Sx ⟨Tryz.prog,TT,.df ((D::Ds).map mkD),81,w,V,ids (oes (ptR b4 b5 b7 s 4 5 7)),λ _=>False,[],[]⟩ _ _ w8:=⟨hSk.st,hSk.bk⟩
    clear hS9
    refine handF TT_ok rfl hDm hSm ?_ (λ _ h=>h)
    refine wi ?_
    intro a9 w9 hD9 hS9
    have hS10:=(backS (J:=(903,.e (some D,DefC))::ptR b4 b5 b7 s' 4 5 7) hS2 hS9 rfl rfl rfl ⟨rfl,rfl,rfl,rfl,rfl,trivial⟩).perm (O':=oes (ptR b4 b5 b7 s' 4 5 7)++omD (D::Ds)) List.perm_middle.symm
    obtain ⟨hDf,_⟩:=toG hD9 hS9 (poL b6 K x r.ls.length (i+1)) (ptR b4 b5 b7 s' 4 5 7) (λ _=>True) Mono.tru (gsJ ⟨rfl,rfl,rfl,rfl,trivial⟩ (fv:=λ _ _=>trivial) (bk := .inr rfl))
    refine ⟨(s',i+1),⟨D::Ds,a9,rfl,⟨hDf.fr,hDf.inv⟩,hS10,hil,hsn',f4.trans hse,?_,?_⟩,by show r.ls.length - (i+1)<r.ls.length - i; omega⟩
    ·rw [hsn1,errX_go hz]; exact f1
    ·rw [f3,hsl,hsn1,ptsX_app]; rfl
 ·refine ⟨rfl,λ a5 w5 hD5 hS5=>?_⟩
  refine x_then (x_then (x_here (n_then ?_)))
  have hS6:=backS (J:=ptR b4 b5 b7 s 4 5 7) hS2 hS5 rfl rfl rfl ⟨rfl,rfl,rfl,rfl,trivial⟩
  obtain ⟨hD6,_⟩:=toG hD5 hS5 (poL b6 K x r.ls.length i) (ptR b4 b5 b7 s 4 5 7) (λ _=>True) Mono.tru (gsJ ⟨rfl,rfl,rfl,rfl,trivial⟩)
  have hie:i=r.ls.length:=by omega
  rw [hie,exsI_all] at hz hsl
  rw [if_neg (λ hh=>hh hz)] at eB
  obtain ⟨hown5,hno5⟩:=ownS hS6
  have hbv5:=hS6.base_cv
  have hFv5:=hS6.facts
  have hvw5:=hS6.view
  have hsle:=rawI_le (i:=r.ls.length) hts hn (Nat.le_refl _) (by rw [exsI_all]; exact hsl)
  generalize cv w0.heap.size h0 (ids (oes (ptR b4 b5 b7 s 4 5 7)++omD Ds)) w5=V5 at hno5 hbv5 hFv5 hvw5
  have hS7:Sx ⟨Tryz.prog,TT,.df (Ds.map mkD),81,w5,V5,ids (oes (ptR b4 b5 b7 s 4 5 7)),λ _=>False,[],[]⟩ (ptR b4 b5 b7 s 4 5 7) (λ _=>True) w5:=sx_J rfl rfl hvw5 hno5 hown5 rfl
  have hD7:Dn ⟨Tryz.prog,TT,.df (Ds.map mkD),81,w5,V5,ids (oes (ptR b4 b5 b7 s 4 5 7)),λ _=>False,[],[]⟩ (poL b6 K x r.ls.length i) [] (ptR b4 b5 b7 s 4 5 7) a5:=⟨hD6.fr,hD6.inv⟩
  refine handF TT_ok rfl hD7 hS7 ?_ (λ _ h=>h)
  refine cJ TT_ok (soJ 52 3 valC s.a s.n s.cp) s.l (g:=λ _ => .tuple #[]) (λ w v h1 h2 h3 h4 h5=>c_SortV s.l s.a s.n s.cp hsn (by omega) (by omega) w h5) ?_ (hl:=⟨rfl,trivial⟩)
  rintro l' ⟨hpm,hsr⟩
  have hll:=hpm.length_eq
  refine cJ TT_ok (cpJ s.a s.cp) (s.n,l') (g:=λ z => .slice s.a z.1 s.cp) (λ w v h1 h2 h3 h4 h5=>c_Compact l' s.a s.n s.cp (by omega) (by omega) w v h3 h4 h5) ?_ (hl:=⟨rfl,trivial⟩)
  rintro ⟨n',l2⟩ ⟨hn',hl2⟩
  dsimp only at hn' hl2
  intro a9 w9 hD9 hS9
  have ep:p=(l2,0):=by rw [eB,hl2,ptsS,rawP,← hsl,cpt_put hsr hpm]
  have hS10:=backS (J:=[(4,.c b4 49 [.slice s.a n' s.cp]),(5,.c b5 36 [.int .i64 0]),(900,.e (bufE 52 3 (.slice s.a n' s.cp) (l2.map valC).flatten))]) hS6 hS9 rfl rfl rfl ⟨rfl,rfl,rfl,trivial⟩
  obtain ⟨hDf,_⟩:=toG hD9 hS9 [(4,.o 4 0),(5,.o 5 0)] [(4,.c b4 49 [.slice s.a n' s.cp]),(5,.c b5 36 [.int .i64 0]),(900,.e (bufE 52 3 (.slice s.a n' s.cp) (l2.map valC).flatten))] (λ _=>True) Mono.tru (gsJ ⟨rfl,rfl,rfl,trivial⟩ (fv:=λ _ _=>trivial) (bk := .inr rfl))
  show LeavesInM Fence.wide 1 Tryz.prog _ a9.tmps _ (Ds.map mkD) .returning w9
  refine retMs (c:=⟨Tryz.prog,TT,.wp,81,w0,h0,[],λ _=>False,[40],[]⟩) TT_ok (rs:=[.cell 4 49,.cell 5 36]) (E:=λ B F us=>PoE p B us) (B:=[(4,.c b4 49 [.slice s.a n' s.cp]),(5,.c b5 36 [.int .i64 0]),(900,.e (bufE 52 3 (.slice s.a n' s.cp) (l2.map valC).flatten))]) (L:=[(4,.o 4 0),(5,.o 5 0)]) rfl (no_K rfl) ?_ ⟨hDf.fr,hDf.inv⟩ (λ vs w h1 h2=>hE _ _ vs w h1 h2) Ds w9 hS10
  subst ep
  exact .inr ⟨s.a,n',s.cp,rfl,hn',rfl,trivial⟩
end Go.Proofs.YtbmmnalndollkaaGreatDoor
set_option maxRecDepth 100000
namespace Go.Proofs.YtbmmnalndollkaaGreatDoor
open Go Go.Dx Go.RowKit
noncomputable def accP (kd:Int) (es:List Ex):List Val:=(v0::leaV kd::ptsX kd es).foldl putV []
theorem puts_len (l:List Val):∀ o:List Val,(l.foldl putV o).length≤o.length+l.length:=by
 induction l with
 | nil=>intro o; simp
 | cons x l ih =>
  intro o
  have h1:=ih (putV o x)
  have h2:=putV_len o x
  simp only [List.foldl_cons,List.length_cons]; omega
theorem accP_len (kd:Int) (es:List Ex):(accP kd es).length≤2+2*es.length:=by
 have h1:=puts_len (v0::leaV kd::ptsX kd es) []
 have h2:=ptsX_len kd es
 unfold accP
 simp only [List.length_cons,List.length_nil] at h1; omega
end Go.Proofs.YtbmmnalndollkaaGreatDoor
set_option maxRecDepth 100000
namespace Go.Proofs.YtbmmnalndollkaaGreatDoor
open Go Go.Dx Go.RowKit
def tLt (n:Int):Tst:=⟨2,numX n,ex0,false,false⟩
def cLt (n:Int):Cel:=⟨false,false,[tLt n]⟩
def v3:Val:=⟨1,3,[]⟩
theorem hlex_5:lexS [60,32,53]=([⟨4,[60],0,0⟩,⟨2,[],5,2⟩],0,0):=by rw [lex_run _ (by decide)]; decide +kernel
theorem hlex_1:lexS [49]=([⟨2,[],1,0⟩],0,0):=by rw [lex_run _ (by decide)]; decide +kernel
theorem hlex_2:lexS [50]=([⟨2,[],2,0⟩],0,0):=by rw [lex_run _ (by decide)]; decide +kernel
theorem hparse_5:parseC [60,32,53]=(cLt 5,0,0):=by unfold parseC; rw [hlex_5]; kernel_rfl
theorem hparse_1:parseT [49]=(numX 1,0,0):=by unfold parseT; rw [hlex_1]; kernel_rfl
theorem hparse_2:parseT [50]=(numX 2,0,0):=by unfold parseT; rw [hlex_2]; kernel_rfl
theorem cols_1 {c:Col} (hn:nameOk c.name=true) (hk:c.kind=1):colsS [c]=0:=by
 have hb:¬ badN [c] 0:=by
  have e:([c].getD 0 c0)=c:=rfl
  unfold badN
  rw [e,hn]
  obtain ⟨k,h1,h2⟩:=at_le (l:=[c]) (i:=0) Nat.one_pos
  rw [e] at h1
  rintro (h | h)
  ·cases h
  ·apply h; rw [h1]; omega
 have hk:¬ badK (([c].getD 0 c0).kind):=by
  have e:([c].getD 0 c0)=c:=rfl
  rw [e]; unfold badK; omega
 rw [colsS,if_neg (show ¬ 6<[c].length from (by decide:¬ 6<1)),cg_next (show 0<[c].length from Nat.one_pos) hb hk,cg_over (show ¬ 0+1<[c].length from (by decide:¬ 1<1))]
theorem typ_lt (n:Int) (h:0≤n) (hd:deepS (numX n)≤12):typC (cLt n) 1 [⟨[97],1,none,0,0⟩]=0:=by
 have hr:rightS (numX n)=true:=right_num h
 have hk:kindT [⟨[97],1,none,0,0⟩] (numX n)=(1,0):=by
  rw [kindT,if_pos hr]; unfold numX KX; rw [kindS]; rfl
 have hc:rightC (cLt n)=true:=by
  have e:rightC (cLt n)=(decide (1≤1)&&decide (1≤12)&&[tLt n].all soundT):=rfl
  rw [e]
  have hs:soundT (tLt n)=true:=by
   show (partX (numX n)&&(sameX ex0 ex0&&(!false && !false)))=true
   rw [partX,hr,decide_eq_true hd]; kernel_rfl
  rw [List.all_cons,hs]; rfl
 rw [typC,if_neg (by rw [hc]; decide)]
 show typTL 1 _ [tLt n]=0
 have h1:typT1 (tLt n) 1 [⟨[97],1,none,0,0⟩]=0:=by
  have hk':kindT [⟨[97],1,none,0,0⟩] (tLt n).a=(1,0):=hk
  rw [typT1,hk',if_neg (by decide),if_neg (show ¬ (tLt n).k=6 from (by decide:¬ (2:Int)=6)),if_pos (by rfl)]
 rw [typTL,h1,if_neg (by decide),typTL]
theorem right_lt (n:Int) (h:0≤n) (hd:deepS (numX n)≤12):rightC (cLt n)=true:=by
 rcases Bool.eq_false_or_eq_true (rightC (cLt n)) with e | e
 ·exact e
 ·have:=typ_lt n h hd
  rw [typC,if_pos e] at this; exact absurd this (by decide)
theorem kind_num (n:Int) (h:0≤n) (l:List Col):kindT l (numX n)=(1,0):=by
 rw [kindT,if_pos (right_num h)]; unfold numX KX; rw [kindS]; rfl
end Go.Proofs.YtbmmnalndollkaaGreatDoor
set_option maxRecDepth 100000
namespace Go.Proofs.YtbmmnalndollkaaGreatDoor
open Go Go.Dx Go.RowKit
theorem LR.of_rows {α β:Type} {T sz:Nat} {R:View→List Value→α→Prop} {f:β→List Value} {g:β→α} {d:β} {es:List β} {h:View} {ad:Option Addr} {n cap:Nat} (hs:SlC T sz (flatR f) h (.slice ad n cap) es) (hn:n=es.length) (hR:∀ q∈es,R h (f q) (g q)):LR T sz R h ad cap (es.map g) :=
 LR.of_row (d:=d) (SlC.reidx hs (by simp) (λ i x y hi hj=>by
  have h1:=(List.getElem?_eq_some_iff.1 hj)
  obtain ⟨h1,h2⟩:=h1
  simp at h2; subst h2
  simp [List.getD,hi])) hn hR
theorem c_MakeK {t:Tab} {r:Rdy} (he:makeE t=0) (hr:makeV t=r) (a:TA) (hb:TabB t) (w0:World) (h0:View) (hv:VLe h0 (Full w0)) (hc:TabH h0 t a) :
  Calls Tryz.prog 10 #[.agg (tabC t a).toArray] w0 (Ret w0 h0 λ u hh=>∃ z:AC,u = .tuple #[.agg (rdyC r a z).toArray,.int .i64 0,.int .i64 0,.int .i64 0]∧RdyH hh r a z):=by
 subst hr
 exact (c_Make t a hb w0 h0 hv hc).mono (Ret.mono λ u hh ⟨z,e,h⟩=>⟨z.1,by rw [e,mkV,if_pos he],h he⟩)
def ruS (s t:List UInt8):List (List UInt8)×List (List UInt8):=([s],[t])
abbrev RuQ:=(List (List UInt8)×List (List UInt8))×AC×AC
def rqC (q:RuQ):List Value:=ruC q.1 q.2.1 q.2.2
end Go.Proofs.YtbmmnalndollkaaGreatDoor
set_option maxRecDepth 100000
namespace Go.Proofs.YtbmmnalndollkaaGreatDoor
open Go Go.Dx Go.RowKit
noncomputable def layE (r:Rdy):Int:=firstE (λ k=>(poiS r (k:Nat)).2) r.t.ins.length
noncomputable def layN (r:Rdy) (n:Nat):List (List Val):=(List.range n).map λ k=>(poiS r (k:Nat)).1
noncomputable def layL (r:Rdy):List (List Val):=layN r r.t.ins.length
def ta31:TA:=⟨(none,0),(none,0),(none,0)⟩
def grdC (r:Rdy) (a:TA) (x:AC) (z:AC) (n:Nat):List Value:=rdyC r a x++[.slice z.1 n z.2]
theorem rwF_lr {v:View} {es:List RwQ} {a:Option Addr} {n cp:Nat} (hs:SlC 49 1 (flatR rwC) v (.slice a n cp) es) (hn:n=es.length) (h:RwF es v):LR 49 1 RwR v a cp (es.map (·.1)) :=
 LR.of_rows (d:=([],none,0)) hs hn λ q hq=>⟨q.2,rfl,h q hq⟩
theorem layN_snoc (r:Rdy) (k:Nat):layN r (k+1)=layN r k++[(poiS r (k:Nat)).1]:=by
 unfold layN; rw [List.range_succ,List.map_append]; rfl
theorem layN_len (r:Rdy) (k:Nat):(layN r k).length=k:=by simp [layN]
structure LaS where
 a:Option Addr
 n:Nat
 cp:Nat
 es:List RwQ
 k:Nat
def laI (r:Rdy) (z:LaS):Prop:=z.k≤r.t.ins.length∧z.n=z.es.length∧z.es.map (·.1)=layN r z.k∧∀ j,j<z.k→(poiS r (j:Nat)).2=0
theorem rw_flat (es:List RwQ) (q:RwQ):((es++[q]).map rwC).flatten=(es.map rwC).flatten++rwC q:=by simp
noncomputable def layV (r:Rdy) (a:TA) (x z:AC):Value:=if layE r=0 then .tuple #[.agg (grdC r a x z (layL r).length).toArray,.int .i64 0] else .tuple #[.agg (grdC rdy0 ta31 (none,0) (none,0) 0).toArray,.int .i64 (layE r)]
set_option maxHeartbeats 4000000 in
theorem c_lay (r:Rdy) (a:TA) (x:AC) (hb:ScB r) (hn:r.ls.length≤1000) (hts:∀ l∈r.ls,∀ c∈l.cs,c.ts.length≤1000) (w0:World) (h0:View) (hv:VLe h0 (Full w0)) (hr:RdyH h0 r a x) :
  Calls Tryz.prog 35 #[.agg (rdyC r a x).toArray] w0 (Ret w0 h0 λ u hh=>∃ z:AC,u=layV r a x z∧(layE r=0→LR 49 1 RwR hh z.1 z.2 (layL r))):=by
 have hins:=hb.b.ins
 have hci:=cols_len r.t.ins
 refine entA (args:=[.agg (rdyC r a x).toArray]) TT_ok [34] [] Tryz.func35 rfl Tryz.ntmps35 rfl rfl hv (λ z=>λ a b hle hx he=>LR.mono (R:=RwR) rwR_m hle (hx he)) ?_
 intro b1 b2 b4
 refine nilC 900 49 1 ?_
 refine w_loopF TT_ok (λ z:LaS=>[(14,.v (.int .i64 z.k))]) (λ z=>[(900,.e (bufE 49 1 (.slice z.a z.n z.cp) (z.es.map rwC).flatten)),(4,.c b4 91 (grdC r a x (z.a,z.cp) z.n)),(2,.c b2 91 (grdC rdy0 ta31 (none,0) (none,0) 0)),(1,.c b1 32 (rdyC r a x))]) (λ z v=>RwF z.es v) ⟨none,0,0,[],0⟩ (laI r) (λ z=>r.t.ins.length - z.k) (λ z=>rwf_m z.es) ?_
 refine And.intro ⟨⟨Nat.zero_le _,rfl,rfl,λ j hj=>absurd hj (Nat.not_lt_zero j)⟩,gs rfl rfl (λ v _ q hq=>absurd hq List.not_mem_nil) (.inr rfl)⟩ ?_
 rintro ⟨a1,n1,c1,es,k⟩ ⟨hk,hn1,hes,hz⟩
 dsimp only at hk hn1 hes hz ⊢
 have hesl:es.length=k:=by rw [← List.length_map (f:=λ q:RwQ=>q.1),hes,layN_len]
 refine cnd (λ h=>?_) (λ h=>?_)
 ·have hkl:k<r.t.ins.length:=by
   have h:(k:Int)<(colsO r.t.ins).length:=h
   omega
  refine cA TT_ok (λ w v h1 h2 h3=>c_Points r a x (k:Nat) hb hn hts w v h3 (rdy_m r a x _ _ h1 hr)) (λ _=>Mono.slF) (λ z=>?_)
  have hfe:=λ he=>fir_er (f:=λ k=>(poiS r (k:Nat)).2) (n:=r.t.ins.length) (k:=k) hz he hkl
  have hsn:=layN_snoc r k
  have hup:=λ he=>upto_snoc (P:=λ j=>(poiS r ((j:Nat):Int)).2=0) hz he
  generalize poiS r (k:Nat)=q at hfe hsn hup ⊢
  obtain ⟨q1,q2⟩:=q
  refine cnd (λ h1=>?_) (λ h1=>?_)
  ·have h1:q2≠0:=h1
   have he:=hfe h1
   exact ⟨(none,0),by rw [layV,if_neg (show ¬ layE r=0 by rw [show layE r=q2 from he]; exact h1),show layE r=q2 from he]; rfl,λ v _ _ h0=>absurd ((show layE r=q2 from he) ▸ h0) h1⟩
  have h1:q2=0:=by simpa using h1
  intro b30
  refine ap TT_ok 900 (AppT.of (bytes:=24) (sz:=0) (by kernel_rfl) (by kernel_rfl) (by kernel_rfl)) rfl rfl rfl rfl rfl rfl rfl (by rw [row_flat (sz:=1) (λ _=>rfl)]; show (_+1)*25≤_; omega) (λ a3 n3 c3 e3=>?_)
  rw [row_flat (sz:=1) (λ _=>rfl)] at e3
  have e3:n3*1=es.length*1+1:=e3
  refine wi ?_
  refine ⟨⟨a3,n3,c3,es++[(q1,z)],k+1⟩,⟨⟨hkl,?_,?_,hup h1⟩,by show r.t.ins.length - (k+1)<r.t.ins.length - k; omega⟩,gs rfl (by rw [rw_flat]; rfl) (λ v hF=>rwf_snoc hF.1 hF.2) (.inr rfl)⟩
  ·show n3=(es++[(q1,z)]).length
   rw [List.length_append]; show n3=es.length+1; omega
  ·show (es++[(q1,z)]).map (·.1)=layN r (k+1)
   rw [List.map_append,hes,hsn]; rfl
 ·have hke:k=r.t.ins.length:=by
   have h:¬ (k:Int)<(colsO r.t.ins).length:=h
   omega
  have he:layE r=0:=fir_ok (f:=λ k=>(poiS r (k:Nat)).2) (λ j hj=>hz j (by omega))
  have hL:layL r=es.map (·.1):=by rw [hes,hke]; rfl
  subst hn1
  refine And.intro rfl ?_
  refine sealW (g:=rwC) (l:=es) 900 rfl rfl ?_
  refine goW TT_ok ?_
  refine ⟨(a1,c1),by rw [layV,if_pos he,hL,List.length_map]; rfl,λ v _ hF _=>?_⟩
  rw [hL]
  exact rwF_lr hF.2 rfl hF.1
noncomputable def allV (r:Rdy) (z:AC):Value:=if layE r=0 then .tuple #[.slice z.1 (layL r).length z.2,.int .i64 0] else .tuple #[.slice none 0 0,.int .i64 (layE r)]
end Go.Proofs.YtbmmnalndollkaaGreatDoor
set_option maxRecDepth 100000
namespace Go.Proofs.YtbmmnalndollkaaGreatDoor
open Go Go.Dx Go.RowKit
theorem c_tog1 (la lb:Lin) (pa pa' pb pb':AC) (k b7 b8 b9:Nat) (v:Val) (hka:k<la.cs.length) (hkb:k<lb.cs.length) (hca:CB (la.cs.getD k cel0)) (hcb:CB (lb.cs.getD k cel0)) (hvb:valB v) (w0:World) (h0:View) (hv:VLe h0 (Full w0))
  (hla:LR 71 3 CelR h0 pa.1 pa.2 la.cs) (hlb:LR 71 3 CelR h0 pb.1 pb.2 lb.cs) (h7:h0 b7=some (.cells (liC la pa pa').toArray 75 (0,0))) (h8:h0 b8=some (.cells (liC lb pb pb').toArray 75 (0,0))) (h9:h0 b9=some (.cells #[.int .i64 k] 3 (0,0))) :
  Calls Tryz.prog 72 #[.agg (valC v).toArray,.pointer (some ⟨b7,0,none⟩),.pointer (some ⟨b9,0,none⟩),.pointer (some ⟨b8,0,none⟩)] w0 (Ret w0 h0 λ u _=>u = .bool (hpS (la.cs.getD k cel0) v&&hpS (lb.cs.getD k cel0) v)):=by
 refine ent (args:=[.agg (valC v).toArray,.pointer (some ⟨b7,0,none⟩),.pointer (some ⟨b9,0,none⟩),.pointer (some ⟨b8,0,none⟩)]) TT_ok [1000001] [] Tryz.func72 rfl Tryz.ntmps72 rfl rfl hv ?_
 intro b4
 refine regPh TT_ok [([0,2,5,1,3,4],[6]),([7,8,10,13,9,11,12],[14,15,16])] [] ?_
 refine ew (.int .i64 k) (λ v' w h1 _ h3=>by rw [cell_row (h3 _ _ (h1 _ _ h9))]; rfl) ?_
 refine ew (.slice pa.1 la.cs.length pa.2) (λ v' w h1 _ h3=>by rw [cell_row (h3 _ _ (h1 _ _ h7))]; rfl) ?_
 refine ixL (R:=CelR) hla k cel0 (λ cs hcs=>?_)
 generalize la.cs.getD k cel0=ca at hca hcs ⊢
 obtain ⟨xa,rfl,hxa⟩:=hcs
 refine kq ?_
 refine cb (λ w hw=>c_holds31 ca xa v hca hvb w h0 hw hxa) ?_
 generalize hpS ca v=p
 refine kq ?_
 cases p with
 | true =>
  refine cndT rfl ?_
  refine cndT rfl ?_
  refine ew (.int .i64 k) (λ v' w h1 _ h3=>by rw [cell_row (h3 _ _ (h1 _ _ h9))]; rfl) ?_
  refine cndT rfl ?_
  refine cndT rfl ?_
  refine ew (.slice pb.1 lb.cs.length pb.2) (λ v' w h1 _ h3=>by rw [cell_row (h3 _ _ (h1 _ _ h8))]; rfl) ?_
  refine cndT rfl ?_
  refine ixL (R:=CelR) hlb k cel0 (λ cs hcs=>?_)
  generalize lb.cs.getD k cel0=cc at hcb hcs ⊢
  obtain ⟨xb,rfl,hxb⟩:=hcs
  refine cndT rfl ?_
  refine kq ?_
  refine cbg (λ _ w hw=>c_holds31 cc xb v hcb hvb w h0 hw hxb) ?_
  refine kq ?_
  refine kq ?_
  refine kq ?_
  exact rfl
 | false =>
  refine cndF rfl ?_
  refine cndF rfl ?_
  refine cndF rfl ?_
  refine cndF rfl ?_
  refine cndF rfl ?_
  refine cndF rfl ?_
  refine kq ?_
  refine cbg (x := .bool false) (λ hg=>absurd hg (by decide)) ?_
  refine kq ?_
  refine kq ?_
  refine kq ?_
  exact rfl
noncomputable def togP (la lb:Lin) (k:Nat) (v:Val):Bool:=hpS (la.cs.getD k cel0) v&&hpS (lb.cs.getD k cel0) v
theorem c_IdxTg (la lb:Lin) (pa pa' pb pb' al:AC) (k b7 b8 b9:Nat) (l:List Val) (hka:k<la.cs.length) (hkb:k<lb.cs.length) (hca:CB (la.cs.getD k cel0)) (hcb:CB (lb.cs.getD k cel0)) (hvb:∀ v∈l,valB v) (w0:World) (h0:View) (hv:VLe h0 (Full w0)) (hs:SlC 52 3 (flatR valC) h0 (.slice al.1 l.length al.2) l)
  (hla:LR 71 3 CelR h0 pa.1 pa.2 la.cs) (hlb:LR 71 3 CelR h0 pb.1 pb.2 lb.cs) (h7:h0 b7=some (.cells (liC la pa pa').toArray 75 (0,0))) (h8:h0 b8=some (.cells (liC lb pb pb').toArray 75 (0,0))) (h9:h0 b9=some (.cells #[.int .i64 k] 3 (0,0))) :
  Calls Tryz.prog 110 #[.slice al.1 l.length al.2,.func (.func 72) #[] #[.pointer (some ⟨b7,0,none⟩),.pointer (some ⟨b9,0,none⟩),.pointer (some ⟨b8,0,none⟩)]] w0 (Ret w0 h0 λ u _=>u = .int .i64 (idxS (togP la lb k) l)):=by
 have hlm:=slc_lm hs
 refine ent (args:=[.slice al.1 l.length al.2,.func (.func 72) #[] #[.pointer (some ⟨b7,0,none⟩),.pointer (some ⟨b9,0,none⟩),.pointer (some ⟨b8,0,none⟩)]]) TT_ok [] [] Tryz.func110 rfl Tryz.ntmps110 rfl rfl hv ?_
 refine w_loop TT_ok (λ k:Nat=>[(8,.v (.int .i64 k))]) 0 (λ i=>i≤l.length∧∀ j,j<i→togP la lb k (l.getD j v0)=false) (λ i=>l.length - i) ?_
 refine And.intro ⟨⟨Nat.zero_le _,λ j hj=>absurd hj (Nat.not_lt_zero j)⟩,gs⟩ ?_
 intro i ⟨hi,hn⟩
 refine cnd (λ h=>?_) (λ h=>?_)
 ·have hil:i<l.length:=by omega
  refine ixs hs i v0 ?_
  have hun:=λ h=>upto_snoc hn h
  have hhit:=λ h=>idx_hit (p:=togP la lb k) (l:=l) v0 (by omega) hn h
  refine cb (λ w hw'=>c_tog1 la lb pa pa' pb pb' k b7 b8 b9 (l.getD i v0) hka hkb hca hcb (hvb _ (getD_mem l i v0 hil)) w h0 hw' hla hlb h7 h8 h9) ?_
  refine cnd (λ h4=>?_) (λ h4=>?_)
  ·exact congrArg (Value.int .i64) (hhit (by unfold togP; simpa using h4)).symm
  ·refine wi ?_
   exact ⟨i+1,⟨⟨by omega,hun (by unfold togP; generalize hpS (la.cs.getD k cel0) (l.getD i v0)=u1 at h4 ⊢; generalize hpS (lb.cs.getD k cel0) (l.getD i v0)=u2 at h4 ⊢; cases u1 <;> cases u2 <;> simp_all)⟩,by omega⟩,gs⟩
 ·exact congrArg (Value.int .i64) (idx_none (p:=togP la lb k) v0 (λ j hj=>hn j (by omega))).symm
theorem any_idx {α:Type} (p:α→Bool) (l:List α):decide ((0:Int)≤idxS p l)=l.any p:=by
 unfold idxS
 rw [← List.findIdx?_isSome]
 cases h:List.findIdx? p l with
 | none=>rfl
 | some i=>show decide ((0:Int)≤(i:Int))=true; simp
theorem c_HasTg (la lb:Lin) (pa pa' pb pb' al:AC) (k b7 b8 b9:Nat) (l:List Val) (hka:k<la.cs.length) (hkb:k<lb.cs.length) (hca:CB (la.cs.getD k cel0)) (hcb:CB (lb.cs.getD k cel0)) (hvb:∀ v∈l,valB v) (w0:World) (h0:View) (hv:VLe h0 (Full w0)) (hs:SlC 52 3 (flatR valC) h0 (.slice al.1 l.length al.2) l)
  (hla:LR 71 3 CelR h0 pa.1 pa.2 la.cs) (hlb:LR 71 3 CelR h0 pb.1 pb.2 lb.cs) (h7:h0 b7=some (.cells (liC la pa pa').toArray 75 (0,0))) (h8:h0 b8=some (.cells (liC lb pb pb').toArray 75 (0,0))) (h9:h0 b9=some (.cells #[.int .i64 k] 3 (0,0))) :
  Calls Tryz.prog 71 #[.slice al.1 l.length al.2,.func (.func 72) #[] #[.pointer (some ⟨b7,0,none⟩),.pointer (some ⟨b9,0,none⟩),.pointer (some ⟨b8,0,none⟩)]] w0 (Ret w0 h0 λ u _=>u = .bool (l.any (togP la lb k))):=by
 refine ent (args:=[.slice al.1 l.length al.2,.func (.func 72) #[] #[.pointer (some ⟨b7,0,none⟩),.pointer (some ⟨b9,0,none⟩),.pointer (some ⟨b8,0,none⟩)]]) TT_ok [] [] Tryz.func71 rfl Tryz.ntmps71 rfl rfl hv ?_
 refine cb (λ w hw'=>c_IdxTg la lb pa pa' pb pb' al k b7 b8 b9 l hka hkb hca hcb hvb w h0 hw' hs hla hlb h7 h8 h9) ?_
 refine congrArg Value.bool ?_
 exact any_idx (togP la lb k) l
noncomputable def tgrS (pts:List (List Val)) (la lb:Lin):Bool:=(List.range pts.length).all λ k=>(pts.getD k []).any (togP la lb k)
structure GrB (r:Rdy) (pts:List (List Val)):Prop where
 l:∀ q∈r.ls,q.cs.length=pts.length
 c:∀ q∈r.ls,∀ c∈q.cs,CB c
 v:∀ q∈pts,∀ v∈q,valB v
set_option maxHeartbeats 2000000 in
theorem c_together (r:Rdy) (a:TA) (x z:AC) (pts:List (List Val)) (i k:Nat) (hg:GrB r pts) (hi:i<r.ls.length) (hk:k<r.ls.length) (w0:World) (h0:View) (hv:VLe h0 (Full w0)) (hr:RdyH h0 r a x) (hp:LR 49 1 RwR h0 z.1 z.2 pts) :
  Calls Tryz.prog 36 #[.agg (grdC r a x z pts.length).toArray,.int .i64 i,.int .i64 k] w0 (Ret w0 h0 λ u _=>u = .bool (tgrS pts (r.ls.getD i lin0) (r.ls.getD k lin0))):=by
 have hlm:=hp.lm
 have hgl:=hg.l _ (getD_mem r.ls i lin0 hi)
 have hgk:=hg.l _ (getD_mem r.ls k lin0 hk)
 have hcl:=hg.c _ (getD_mem r.ls i lin0 hi)
 have hck:=hg.c _ (getD_mem r.ls k lin0 hk)
 refine ent (args:=[.agg (grdC r a x z pts.length).toArray,.int .i64 i,.int .i64 k]) TT_ok [1000001] [] Tryz.func36 rfl Tryz.ntmps36 rfl rfl hv ?_
 intro b3
 refine regPt TT_ok (.m [0,3,6,9,1,7,2,8,4,10,5,11] (.n 12 (.n 13 (.n 14 (.n 15 .e .z) .z) .z) (.n 13 (.n 12 (.n 14 (.n 15 .e .z) .z) .z) .z))) [7,8] ?_
 refine ixL (R:=LinR) hr.l i lin0 (λ cs hcs=>?_)
 generalize r.ls.getD i lin0=la at hgl hcl hcs ⊢
 obtain ⟨pa,pa',rfl,hla⟩:=hcs
 refine ixL (R:=LinR) hr.l k lin0 (λ cs hcs=>?_)
 generalize r.ls.getD k lin0=lb at hgk hck hcs ⊢
 obtain ⟨pb,pb',rfl,hlb⟩:=hcs
 refine kq ⟨?_,?_⟩
 all_goals
  intro b7
  refine kq ?_
  intro b8
  refine kq ?_
  refine kq ?_
  refine kq ?_
  refine w_loop TT_ok (λ n:Nat=>[(26,.v (.int .i64 n))]) 0 (λ n=>n≤pts.length∧∀ j,j<n→(pts.getD j []).any (togP la lb j)=true) (λ n=>pts.length - n) ?_
  refine And.intro ⟨⟨Nat.zero_le _,λ j hj=>absurd hj (Nat.not_lt_zero j)⟩,gs⟩ ?_
  intro n ⟨hn,hz⟩
  refine cnd (λ h=>?_) (λ h=>?_)
  ·have hnl:n<pts.length:=by omega
   have hvn:=hg.v _ (getD_mem pts n [] hnl)
   have hup:=λ h=>upto_snoc hz h
   have hbad:(pts.getD n []).any (togP la lb n)=false→tgrS pts la lb=false:=λ h=>by
    rw [tgrS,List.all_eq_false]
    exact ⟨n,List.mem_range.2 hnl,by rw [h]; decide⟩
   refine ixL (R:=RwR) hp n [] (λ cs hcs=>?_)
   generalize pts.getD n []=l at hvn hup hbad hcs ⊢
   obtain ⟨y,rfl,hy⟩:=hcs
   intro b9
   refine co (λ w hS=>c_HasTg la lb pa pa' pb pb' y n _ _ b9 l (by omega) (by omega) (hcl _ (getD_mem _ n cel0 (by omega))) (hck _ (getD_mem _ n cel0 (by omega))) hvn w (Full w) (VLe.refl _) (hy.monoF hS.st.base) (LR.mono (R:=CelR) celR_m hS.st.base hla.1) (LR.mono (R:=CelR) celR_m hS.st.base hlb.1) (hS.wok.own 7 _ _ _ rfl) (hS.wok.own 8 _ _ _ rfl) (hS.wok.own 9 _ _ _ rfl)) ?_
   refine cnd (λ h4=>?_) (λ h4=>?_)
   ·have h4:l.any (togP la lb n)=false:=by simpa using h4
    exact congrArg Value.bool (hbad h4).symm
   ·refine wi ?_
    exact ⟨n+1,⟨⟨by omega,hup (by simpa using h4)⟩,by omega⟩,gs⟩
  ·have hne:n=pts.length:=by omega
   subst hne
   refine congrArg Value.bool (Eq.symm ?_)
   rw [tgrS,List.all_eq_true]
   exact λ j hj=>hz j (List.mem_range.1 hj)
end Go.Proofs.YtbmmnalndollkaaGreatDoor
set_option maxRecDepth 100000
namespace Go.Proofs.YtbmmnalndollkaaGreatDoor
open Go Go.Dx Go.RowKit
end Go.Proofs.YtbmmnalndollkaaGreatDoor
set_option maxRecDepth 100000
namespace Go.Proofs.YtbmmnalndollkaaGreatDoor
open Go Go.Dx Go.RowKit
noncomputable def covS (row:List Val) (l:Lin):Bool:=(List.range l.cs.length).all λ k=>hpS (l.cs.getD k cel0) (row.getD k v0)
theorem cov_no {row:List Val} {l:Lin} {k:Nat} (h:k<l.cs.length) (h1:hpS (l.cs.getD k cel0) (row.getD k v0)=false):covS row l=false:=by
 rw [covS,List.all_eq_false]
 exact ⟨k,List.mem_range.2 h,by rw [h1]; decide⟩
theorem cov_yes {row:List Val} {l:Lin} (h:∀ k,k<l.cs.length→hpS (l.cs.getD k cel0) (row.getD k v0)=true):covS row l=true:=by
 rw [covS,List.all_eq_true]
 exact λ j hj=>h j (List.mem_range.1 hj)
set_option maxHeartbeats 1000000 in
theorem c_cov1 (l:Lin) (pa pa' y:AC) (row:List Val) (b3:Nat) (hl:l.cs.length=row.length) (hc:∀ c∈l.cs,CB c) (hvb:∀ v∈row,valB v) (w0:World) (h0:View) (hv:VLe h0 (Full w0))
  (hla:LR 71 3 CelR h0 pa.1 pa.2 l.cs) (hy:SlC 52 3 (flatR valC) h0 (.slice y.1 row.length y.2) row) (h3:h0 b3=some (.cells #[.slice y.1 row.length y.2] 49 (0,0))) :
  Calls Tryz.prog 124 #[.agg (liC l pa pa').toArray,.pointer (some ⟨b3,0,none⟩)] w0 (Ret w0 h0 λ u _=>u = .bool (covS row l)):=by
 have hlm:=hla.lm
 refine ent (args:=[.agg (liC l pa pa').toArray,.pointer (some ⟨b3,0,none⟩)]) TT_ok [1000004] [] Tryz.func124 rfl Tryz.ntmps124 rfl rfl hv ?_
 intro b2
 refine w_loop TT_ok (λ n:Nat=>[(9,.v (.int .i64 n))]) 0 (λ n=>n≤l.cs.length∧∀ j,j<n→hpS (l.cs.getD j cel0) (row.getD j v0)=true) (λ n=>l.cs.length - n) ?_
 refine And.intro ⟨⟨Nat.zero_le _,λ j hj=>absurd hj (Nat.not_lt_zero j)⟩,gs⟩ ?_
 intro n ⟨hn,hz⟩
 refine cnd (λ h=>?_) (λ h=>?_)
 ·have hnl:n<l.cs.length:=by omega
  have hup:=λ h=>upto_snoc hz h
  have hno:=cov_no (row:=row) hnl
  have hca:=hc _ (getD_mem l.cs n cel0 hnl)
  have hvi:=hvb _ (getD_mem row n v0 (by omega))
  refine ixL (R:=CelR) hla n cel0 (λ cs hcs=>?_)
  obtain ⟨xa,rfl,hxa⟩:=hcs
  intro b5
  refine regPh TT_ok [([0,1,2,3,4],[5]),([6],[])] [] ?_
  refine ew (.slice y.1 row.length y.2) (λ v' w h1 _ h3'=>by rw [cell_row (h3' _ _ (h1 _ _ h3))]; rfl) ?_
  refine ixs hy n v0 ?_
  refine kq ?_
  refine cb (λ w hw=>c_holds31 (l.cs.getD n cel0) xa (row.getD n v0) hca hvi w h0 hw hxa) ?_
  refine kq ?_
  refine kq ?_
  generalize hpS (l.cs.getD n cel0) (row.getD n v0)=p at hup hno ⊢
  refine cnd (λ h4=>?_) (λ h4=>?_)
  ·exact congrArg Value.bool (hno (by simpa using h4)).symm
  ·refine wi ?_
   exact ⟨n+1,⟨⟨hnl,hup (by simpa using h4)⟩,by omega⟩,gs⟩
 ·exact congrArg Value.bool (cov_yes λ k hk=>hz k (by omega)).symm
theorem c_IdxCov (r:Rdy) (x y:AC) (row:List Val) (b3:Nat) (hl:∀ l∈r.ls,l.cs.length=row.length) (hc:∀ l∈r.ls,∀ c∈l.cs,CB c) (hvb:∀ v∈row,valB v) (w0:World) (h0:View) (hv:VLe h0 (Full w0))
  (hls:LR 75 2 LinR h0 x.1 x.2 r.ls) (hy:SlC 52 3 (flatR valC) h0 (.slice y.1 row.length y.2) row) (h3:h0 b3=some (.cells #[.slice y.1 row.length y.2] 49 (0,0))) :
  Calls Tryz.prog 173 #[.slice x.1 r.ls.length x.2,.func (.func 124) #[] #[.pointer (some ⟨b3,0,none⟩)]] w0 (Ret w0 h0 λ u _=>u = .int .i64 (idxS (covS row) r.ls)):=by
 have hlm:=hls.lm
 refine ent (args:=[.slice x.1 r.ls.length x.2,.func (.func 124) #[] #[.pointer (some ⟨b3,0,none⟩)]]) TT_ok [] [] Tryz.func173 rfl Tryz.ntmps173 rfl rfl hv ?_
 refine w_loop TT_ok (λ k:Nat=>[(8,.v (.int .i64 k))]) 0 (λ i=>i≤r.ls.length∧∀ j,j<i→covS row (r.ls.getD j lin0)=false) (λ i=>r.ls.length - i) ?_
 refine And.intro ⟨⟨Nat.zero_le _,λ j hj=>absurd hj (Nat.not_lt_zero j)⟩,gs⟩ ?_
 intro i ⟨hi,hn⟩
 refine cnd (λ h=>?_) (λ h=>?_)
 ·have hil:i<r.ls.length:=by omega
  refine ixL (R:=LinR) hls i lin0 (λ cs hcs=>?_)
  have hun:=λ h=>upto_snoc hn h
  have hhit:=λ h=>idx_hit (p:=covS row) (l:=r.ls) lin0 (by omega) hn h
  have hl1:=hl _ (getD_mem r.ls i lin0 hil)
  have hc1:=hc _ (getD_mem r.ls i lin0 hil)
  obtain ⟨pa,pa',rfl,hla⟩:=hcs
  refine cb (λ w hw'=>c_cov1 (r.ls.getD i lin0) pa pa' y row b3 hl1 hc1 hvb w h0 hw' hla.1 hy h3) ?_
  refine cnd (λ h4=>?_) (λ h4=>?_)
  ·exact congrArg (Value.int .i64) (hhit h4).symm
  ·refine wi ?_
   exact ⟨i+1,⟨⟨by omega,hun (by simpa using h4)⟩,by omega⟩,gs⟩
 ·exact congrArg (Value.int .i64) (idx_none (p:=covS row) lin0 (λ j hj=>hn j (by omega))).symm
theorem c_HasCov (r:Rdy) (x y:AC) (row:List Val) (b3:Nat) (hl:∀ l∈r.ls,l.cs.length=row.length) (hc:∀ l∈r.ls,∀ c∈l.cs,CB c) (hvb:∀ v∈row,valB v) (w0:World) (h0:View) (hv:VLe h0 (Full w0))
  (hls:LR 75 2 LinR h0 x.1 x.2 r.ls) (hy:SlC 52 3 (flatR valC) h0 (.slice y.1 row.length y.2) row) (h3:h0 b3=some (.cells #[.slice y.1 row.length y.2] 49 (0,0))) :
  Calls Tryz.prog 123 #[.slice x.1 r.ls.length x.2,.func (.func 124) #[] #[.pointer (some ⟨b3,0,none⟩)]] w0 (Ret w0 h0 λ u _=>u = .bool (r.ls.any (covS row))):=by
 refine ent (args:=[.slice x.1 r.ls.length x.2,.func (.func 124) #[] #[.pointer (some ⟨b3,0,none⟩)]]) TT_ok [] [] Tryz.func123 rfl Tryz.ntmps123 rfl rfl hv ?_
 refine cb (λ w hw'=>c_IdxCov r x y row b3 hl hc hvb w h0 hw' hls hy h3) ?_
 refine congrArg Value.bool ?_
 exact any_idx (covS row) r.ls
theorem c_covered (r:Rdy) (a:TA) (x z y:AC) (n:Nat) (row:List Val) (hl:∀ l∈r.ls,l.cs.length=row.length) (hc:∀ l∈r.ls,∀ c∈l.cs,CB c) (hvb:∀ v∈row,valB v) (w0:World) (h0:View) (hv:VLe h0 (Full w0))
  (hls:LR 75 2 LinR h0 x.1 x.2 r.ls) (hy:SlC 52 3 (flatR valC) h0 (.slice y.1 row.length y.2) row) :
  Calls Tryz.prog 78 #[.agg (grdC r a x z n).toArray,.slice y.1 row.length y.2] w0 (Ret w0 h0 λ u _=>u = .bool (r.ls.any (covS row))):=by
 refine ent (args:=[.agg (grdC r a x z n).toArray,.slice y.1 row.length y.2]) TT_ok [] [] Tryz.func78 rfl Tryz.ntmps78 rfl rfl hv ?_
 intro b2 b3
 refine co (λ w hS=>c_HasCov r x y row b3 hl hc hvb w (Full w) (VLe.refl _) (LR.mono (R:=LinR) linR_m hS.st.base hls) (hy.monoF hS.st.base) (hS.wok.own 3 _ _ _ rfl)) ?_
 exact rfl
end Go.Proofs.YtbmmnalndollkaaGreatDoor
namespace Go.Proofs.YtbmmnalndollkaaGreatDoor
open Go Go.Dx Go.RowKit
abbrev Pr:=Fin 1000001×Fin 1000001
def mkP (i k:Nat):Pr:=(Fin.ofNat 1000001 i,Fin.ofNat 1000001 k)
instance :Inhabited Pr:=⟨mkP 0 0⟩
def prC (p:Pr):List Value:=[.int .i64 (p.1.val:Int),.int .i64 (p.2.val:Int)]
theorem mkP_eq {i k:Nat} (hi:i≤1000000) (hk:k≤1000000):(mkP i k).1.val=i∧(mkP i k).2.val=k:=⟨Nat.mod_eq_of_lt (by omega),Nat.mod_eq_of_lt (by omega)⟩
theorem prC_mk {i k:Nat} (hi:i≤1000000) (hk:k≤1000000):prC (mkP i k)=[.int .i64 (i:Int),.int .i64 (k:Int)]:=by
 unfold prC; rw [(mkP_eq hi hk).1,(mkP_eq hi hk).2]
theorem pr_ext {p q:Pr} (h1:p.1.val=q.1.val) (h2:p.2.val=q.2.val):p=q:=Prod.ext (Fin.ext h1) (Fin.ext h2)
def cmpPr (a b:Pr):Int:=if a.1.val=b.1.val then (a.2.val:Int) - b.2.val else (a.1.val:Int) - b.1.val
def ltPr (a b:Pr):Bool:=decide (cmpPr a b<0)
theorem ltPr_iff (a b:Pr):ltPr a b=true↔a.1.val<b.1.val∨(a.1.val=b.1.val∧a.2.val<b.2.val):=by
 unfold ltPr cmpPr
 rw [decide_eq_true_eq]
 split <;> omega
theorem ltPr_no (a b:Pr):ltPr a b=false↔¬ (a.1.val<b.1.val∨(a.1.val=b.1.val∧a.2.val<b.2.val)):=by
 rw [← ltPr_iff]; simp
theorem ord_Pr:Ord3 ltPr:=by
 refine ⟨λ x y z h1 h2=>?_,λ x y h=>?_,λ x=>?_⟩
 ·rw [ltPr_no] at *; omega
 ·rw [ltPr_iff] at h; rw [ltPr_no]; omega
 ·rw [ltPr_no]; omega
theorem ltPr_tr {x y z:Pr} (h1:ltPr x y=true) (h2:ltPr y z=true):ltPr x z=true:=by
 rw [ltPr_iff] at *; omega
def pairC (T:Nat→Nat→Bool) (n:Nat):List Pr:=(List.range n).flatMap λ k=>((List.range k).filter λ i=>T i k).map λ i=>mkP i k
def rowQ (T:Nat→Nat→Bool) (i n:Nat):List Pr:=((List.range n).filter λ k=>decide (i<k)&&T i k).map λ k=>mkP i k
def pairR (T:Nat→Nat→Bool) (n m:Nat):List Pr:=(List.range m).flatMap λ i=>rowQ T i n
theorem mem_pairC {T:Nat→Nat→Bool} {n:Nat} (hn:n≤1000000) (p:Pr):p∈pairC T n↔p.1.val<p.2.val∧p.2.val<n∧T p.1.val p.2.val=true:=by
 unfold pairC
 simp only [List.mem_flatMap,List.mem_map,List.mem_filter,List.mem_range]
 constructor
 ·rintro ⟨k,hk,i,⟨hi,ht⟩,rfl⟩
  rw [(mkP_eq (i:=i) (k:=k) (by omega) (by omega)).1,(mkP_eq (i:=i) (k:=k) (by omega) (by omega)).2]
  exact ⟨hi,hk,ht⟩
 ·rintro ⟨h1,h2,h3⟩
  have h4:=mkP_eq (i:=p.1.val) (k:=p.2.val) (by omega) (by omega)
  exact ⟨p.2.val,h2,p.1.val,⟨h1,h3⟩,pr_ext h4.1 h4.2⟩
theorem mem_pairR {T:Nat→Nat→Bool} {n:Nat} (hn:n≤1000000) (p:Pr):p∈pairR T n n↔p.1.val<p.2.val∧p.2.val<n∧T p.1.val p.2.val=true:=by
 unfold pairR rowQ
 simp only [List.mem_flatMap,List.mem_map,List.mem_filter,List.mem_range,Bool.and_eq_true,decide_eq_true_eq]
 constructor
 ·rintro ⟨i,hi,k,⟨hk,ht1,ht⟩,rfl⟩
  rw [(mkP_eq (i:=i) (k:=k) (by omega) (by omega)).1,(mkP_eq (i:=i) (k:=k) (by omega) (by omega)).2]
  exact ⟨ht1,hk,ht⟩
 ·rintro ⟨h1,h2,h3⟩
  have h4:=mkP_eq (i:=p.1.val) (k:=p.2.val) (by omega) (by omega)
  exact ⟨p.1.val,by omega,p.2.val,⟨h2,h1,h3⟩,pr_ext h4.1 h4.2⟩
theorem pairR_pw {T:Nat→Nat→Bool} {n:Nat} (hn:n≤1000000):(pairR T n n).Pairwise λ x y=>ltPr x y=true:=by
 unfold pairR rowQ
 rw [List.pairwise_flatMap]
 refine ⟨λ i hi=>?_,?_⟩
 ·rw [List.pairwise_map]
  refine List.Pairwise.imp_of_mem ?_ (List.Pairwise.filter _ List.pairwise_lt_range)
  intro a b ha hb hab
  have ha:=List.mem_range.1 (List.mem_filter.1 ha).1
  have hb:=List.mem_range.1 (List.mem_filter.1 hb).1
  have hi:=List.mem_range.1 hi
  rw [ltPr_iff,(mkP_eq (i:=i) (k:=a) (by omega) (by omega)).1,(mkP_eq (i:=i) (k:=a) (by omega) (by omega)).2,(mkP_eq (i:=i) (k:=b) (by omega) (by omega)).1,(mkP_eq (i:=i) (k:=b) (by omega) (by omega)).2]
  exact .inr ⟨rfl,hab⟩
 ·refine List.Pairwise.imp_of_mem ?_ List.pairwise_lt_range
  intro i j hi hj hij x hx y hy
  have hi:=List.mem_range.1 hi
  have hj:=List.mem_range.1 hj
  obtain ⟨a,ha,rfl⟩:=List.mem_map.1 hx
  obtain ⟨b,hb,rfl⟩:=List.mem_map.1 hy
  have ha:=List.mem_range.1 (List.mem_filter.1 ha).1
  have hb:=List.mem_range.1 (List.mem_filter.1 hb).1
  rw [ltPr_iff,(mkP_eq (i:=i) (k:=a) (by omega) (by omega)).1,(mkP_eq (i:=j) (k:=b) (by omega) (by omega)).1]
  exact .inl hij
theorem pairC_nd {T:Nat→Nat→Bool} {n:Nat} (hn:n≤1000000):(pairC T n).Nodup:=by
 unfold pairC List.Nodup
 rw [List.pairwise_flatMap]
 refine ⟨λ k hk=>?_,?_⟩
 ·rw [List.pairwise_map]
  refine List.Pairwise.imp_of_mem ?_ (List.Pairwise.filter _ List.pairwise_lt_range)
  intro a b ha hb hab he
  have ha:=List.mem_range.1 (List.mem_filter.1 ha).1
  have hb:=List.mem_range.1 (List.mem_filter.1 hb).1
  have hk:=List.mem_range.1 hk
  have h1:=(mkP_eq (i:=a) (k:=k) (by omega) (by omega)).1
  have h2:=(mkP_eq (i:=b) (k:=k) (by omega) (by omega)).1
  rw [he] at h1; omega
 ·refine List.Pairwise.imp_of_mem ?_ List.pairwise_lt_range
  intro i j hi hj hij x hx y hy he
  have hi:=List.mem_range.1 hi
  have hj:=List.mem_range.1 hj
  obtain ⟨a,ha,rfl⟩:=List.mem_map.1 hx
  obtain ⟨b,hb,rfl⟩:=List.mem_map.1 hy
  have ha:=List.mem_range.1 (List.mem_filter.1 ha).1
  have hb:=List.mem_range.1 (List.mem_filter.1 hb).1
  have h1:=(mkP_eq (i:=a) (k:=i) (by omega) (by omega)).2
  have h2:=(mkP_eq (i:=b) (k:=j) (by omega) (by omega)).2
  rw [he] at h1; omega
theorem pair_sorted {T:Nat→Nat→Bool} {n:Nat} (hn:n≤1000000) {l:List Pr} (hp:l.Perm (pairC T n)) (hs:Srt ltPr l):l=pairR T n n:=by
 refine srt_uniq ord_Pr (λ x y h1 h2=>?_) hs ?_ (hp.trans ?_)
 ·rw [ltPr_no] at h1 h2
  exact pr_ext (by omega) (by omega)
 ·exact (pairR_pw hn).imp λ h=>ord_Pr.as _ _ h
 ·refine (List.perm_ext_iff_of_nodup (pairC_nd hn) ?_).2 λ p=>(mem_pairC hn p).trans (mem_pairR hn p).symm
  refine (pairR_pw hn).imp λ {a b} h he=>?_
  subst he
  have:=ord_Pr.as _ _ h
  rw [h] at this; cases this
theorem pairC_snoc (T:Nat→Nat→Bool) (k:Nat):pairC T (k+1)=pairC T k++((List.range k).filter λ i=>T i k).map λ i=>mkP i k:=by
 unfold pairC; rw [List.range_succ,List.flatMap_append]; simp
theorem rangeF_snoc (p:Nat→Bool) (k:Nat):(List.range (k+1)).filter p=(List.range k).filter p++if p k then [k] else []:=by
 rw [List.range_succ,List.filter_append]
 congr 1
 cases h:p k <;> simp [h]
theorem rowT_snoc (T:Nat→Nat→Bool) (k i:Nat):(((List.range (i+1)).filter λ i=>T i k).map λ i=>mkP i k)=(((List.range i).filter λ i=>T i k).map λ i=>mkP i k)++if T i k then [mkP i k] else []:=by
 rw [rangeF_snoc,List.map_append]
 cases h:T i k <;> simp
theorem pairC_len (T:Nat→Nat→Bool):∀ n,(pairC T n).length≤n*n
 | 0=>by simp [pairC]
 | n+1=>by
  rw [pairC_snoc,List.length_append,List.length_map]
  have h1:=pairC_len T n
  have h2:=List.length_filter_le (λ i=>T i n) (List.range n)
  rw [List.length_range] at h2
  rw [Nat.add_mul,Nat.mul_add]; omega
end Go.Proofs.YtbmmnalndollkaaGreatDoor
namespace Go.Proofs.YtbmmnalndollkaaGreatDoor
open Go Go.Dx Go.RowKit
theorem plain_inv31 {s:List UInt8} (h:plainS s=true):s.length≤40∧∀ b∈s,32≤b.toNat∧b.toNat≤126:=by
 simp only [plainS,Bool.and_eq_true,decide_eq_true_eq,List.all_eq_true] at h
 exact ⟨h.1,λ b hb=>by have:=h.2 b hb; omega⟩
theorem plain_mk31 {s:List UInt8} (h:s.length≤40) (hb:∀ b∈s,32≤b.toNat∧b.toNat≤126):plainS s=true:=by
 simp only [plainS,Bool.and_eq_true,decide_eq_true_eq,List.all_eq_true]
 exact ⟨h,λ b hb'=>by have:=hb b hb'; omega⟩
theorem trim_split (s:List UInt8):∃ n,s=trimT s++List.replicate n 126:=by
 have h:=List.takeWhile_append_dropWhile (p:=λ b:UInt8=>b == 126) (l:=s.reverse)
 refine ⟨(s.reverse.takeWhile λ b:UInt8=>b == 126).length,?_⟩
 have h2:s=(s.reverse.dropWhile λ b:UInt8=>b == 126).reverse++(s.reverse.takeWhile λ b:UInt8=>b == 126).reverse:=by
  rw [← List.reverse_append,h,List.reverse_reverse]
 have h3:(s.reverse.takeWhile λ b:UInt8=>b == 126).reverse=List.replicate (s.reverse.takeWhile λ b:UInt8=>b == 126).length 126:=by
  refine List.eq_replicate_iff.2 ⟨List.length_reverse,λ b hb=>?_⟩
  have hb:=List.mem_reverse.1 hb
  have hall:=List.all_takeWhile (p:=λ b:UInt8=>b == 126) (l:=s.reverse)
  have:=List.all_eq_true.1 hall b hb
  simpa using this
 rw [h3] at h2
 exact h2
theorem trim_last {s:List UInt8} (h:trimT s≠[]):∃ l x,trimT s=l++[x]∧x≠126∧upT (trimT s)=l++[x+1]:=by
 refine ⟨(trimT s).dropLast,(trimT s).getLast h,(List.dropLast_concat_getLast h).symm,?_,?_⟩
 ·intro hx
  unfold trimT at h hx
  have hd:(s.reverse.dropWhile λ b:UInt8=>b == 126)≠[]:=λ e=>h (by rw [e]; rfl)
  rw [List.getLast_reverse] at hx
  have:=List.head_dropWhile_not (p:=λ b:UInt8=>b == 126) (l:=s.reverse) (w:=hd)
  rw [hx] at this; simp at this
 ·unfold upT
  have hl:0<(trimT s).length:=List.length_pos_iff.2 h
  rw [← List.dropLast_eq_take]
  congr 2
  rw [List.getLast_eq_getElem]
  simp [List.getD,List.getElem?_eq_getElem (show (trimT s).length - 1<(trimT s).length by omega)]
theorem behV_ok {v:Val} (h:okV v) (h2:(behV v).2=true):okV (behV v).1∧(behV v).1.k=v.k:=by
 obtain ⟨hv,hb1,hb2⟩:=h
 rcases valOk_cases hv with ⟨k0,e1,e2⟩ | ⟨k1,e2⟩ | ⟨k2,e1,e2⟩ | ⟨k3,e1,e2⟩
 ·have e:behV v=(v,false):=by unfold behV; rw [if_neg (by omega),if_neg (by omega),if_neg (by omega)]
  rw [e] at h2; cases h2
 ·unfold behV at h2 ⊢
  rw [if_pos k1] at h2 ⊢
  split at h2
  ·cases h2
  ·rename_i hn
   rw [if_neg hn]
   have hb2:i64 v.n:=hb2
   unfold i64 at hb2
   refine ⟨⟨?_,hb1,?_⟩,rfl⟩
   ·simp [valOk,k1,e2]
   ·show i64 (v.n+1); unfold i64; omega
 ·obtain ⟨hl,hp⟩:=plain_inv31 e2
  unfold behV at h2 ⊢
  rw [if_neg (by omega),if_pos k2] at h2 ⊢
  split at h2
  ·rename_i hn
   rw [if_pos hn]
   refine ⟨⟨?_,hb1,hb2⟩,rfl⟩
   have:plainS (v.s++[32])=true:=plain_mk31 (by rw [List.length_append]; show v.s.length+1≤40; omega) (λ b hb=>by
    rcases List.mem_append.1 hb with hb | hb
    ·exact hp b hb
    ·rw [List.mem_singleton.1 hb]; decide)
   simp [valOk,k2,e1,this]
  ·rename_i hn
   rw [if_neg hn]
   split at h2
   ·cases h2
   ·rename_i ht
    rw [if_neg ht]
    refine ⟨⟨?_,hb1,hb2⟩,rfl⟩
    obtain ⟨l,x,e3,hx,e4⟩:=trim_last ht
    obtain ⟨m,hm⟩:=trim_split v.s
    have hmem:∀ b∈trimT v.s,b∈v.s:=λ b hb=>by rw [hm]; exact List.mem_append_left _ hb
    have hxp:=hp x (hmem x (by rw [e3]; simp))
    have hlen:=trim_len v.s
    have:plainS (upT (trimT v.s))=true:=by
     rw [e4]
     refine plain_mk31 ?_ λ b hb=>?_
     ·rw [e3] at hlen; simp only [List.length_append,List.length_singleton] at hlen ⊢; omega
     ·rcases List.mem_append.1 hb with hb | hb
      ·exact hp b (hmem b (by rw [e3]; exact List.mem_append_left _ hb))
      ·rw [List.mem_singleton.1 hb]
       have hx2:x.toNat≠126:=λ e=>hx (UInt8.toNat.inj (by rw [e]; rfl))
       rw [UInt8.toNat_add]
       show 32≤(x.toNat+1) % 256∧(x.toNat+1) % 256≤126
       rw [Nat.mod_eq_of_lt (by omega)]; omega
    simp [valOk,k2,e1,this]
 ·unfold behV at h2 ⊢
  rw [if_neg (by omega),if_neg (by omega),if_pos k3] at h2 ⊢
  have h2:v.n+1=1:=by simpa using h2
  refine ⟨⟨?_,hb1,?_⟩,rfl⟩
  ·simp [valOk,k3,e1,h2]
  ·show i64 (v.n+1); unfold i64; omega
theorem lea_ok {k:Int} (h:1≤k∧k≤3):okV (leaV k):=by
 have:k=1∨k=2∨k=3:=by omega
 rcases this with rfl | rfl | rfl
 ·exact ⟨by decide,show i64 1 by unfold i64; omega,show i64 (-9223372036854775808) by unfold i64; omega⟩
 ·exact ⟨by decide,show i64 2 by unfold i64; omega,show i64 0 by unfold i64; omega⟩
 ·exact ⟨by decide,show i64 3 by unfold i64; omega,show i64 0 by unfold i64; omega⟩
theorem addP_ok {kd:Int} {v:Val} (h:okV v):∀ x∈addP kd v,okV x∧x.k=kd:=by
 intro x hx
 unfold addP at hx
 split at hx
 ·rename_i hk
  split at hx
  ·rename_i h2
   have h3:=behV_ok h h2
   rcases List.mem_cons.1 hx with rfl | hx
   ·exact ⟨h,hk⟩
   ·rw [List.mem_singleton.1 hx]; exact ⟨h3.1,h3.2.trans hk⟩
  ·rw [List.mem_singleton.1 hx]; exact ⟨h,hk⟩
 ·cases hx
theorem ptsX_ok {kd:Int}:∀ {l:List Ex},(∀ y∈l,okV (evalS [] [] y).1)→∀ x∈ptsX kd l,okV x∧x.k=kd
 | [],_,x,hx=>by cases hx
 | y::l,h,x,hx=>by
  unfold ptsX at hx
  rcases List.mem_append.1 hx with hx | hx
  ·exact addP_ok (h y (List.mem_cons_self ..)) x hx
  ·exact ptsX_ok (l:=l) (λ z hz=>h z (List.mem_cons_of_mem _ hz)) x hx
theorem ptsS_ok {r:Rdy} {k:Nat} (hk:1≤kdK r k∧kdK r k≤3) (h:∀ y∈exsK r k,okV (evalS [] [] y).1):∀ x∈ptsS r k,okV x∧(x=v0∨x.k=kdK r k):=by
 intro x hx
 unfold ptsS rawP at hx
 rw [puts_mem] at hx
 rcases hx with hx | hx
 ·cases hx
 rcases List.mem_cons.1 hx with rfl | hx
 ·exact ⟨ok_v0,.inl rfl⟩
 rcases List.mem_cons.1 hx with rfl | hx
 ·exact ⟨lea_ok hk,.inr rfl⟩
 ·have:=ptsX_ok h x hx
  exact ⟨this.1,.inr this.2⟩
theorem ptsS_ss (r:Rdy) (k:Nat):SSV (ptsS r k):=puts_ss _ _ List.Pairwise.nil
theorem poiS_ok {r:Rdy} {k:Int} (hk:∀ j,j<r.t.ins.length→1≤kdK r j∧kdK r j≤3) (h:∀ j,j<r.t.ins.length→∀ y∈exsK r j,okV (evalS [] [] y).1):∀ x∈(poiS r k).1,okV x:=by
 intro x hx
 unfold poiS at hx
 split at hx
 ·cases hx
 ·rename_i hc
  split at hx
  ·cases hx
  ·have hj:k.toNat<r.t.ins.length:=by omega
   exact (ptsS_ok (hk _ hj) (h _ hj) x hx).1
end Go.Proofs.YtbmmnalndollkaaGreatDoor
set_option maxRecDepth 100000
namespace Go.Proofs.YtbmmnalndollkaaGreatDoor
open Go Go.Dx Go.RowKit
structure ScK (r:Rdy):Prop where
 b:ScB r
 k:∀ j,j<r.t.ins.length→1≤kdK r j∧kdK r j≤3
 n:r.ls.length≤1000
 t:∀ l∈r.ls,∀ c∈l.cs,c.ts.length≤1000
theorem exs_okV {h:View} {r:Rdy} {a:TA} {x:AC} (hr:RdyH h r a x) (hb:ScB r) (k:Nat):∀ y∈exsK r k,okV (evalS [] [] y).1:=by
 intro y hy
 obtain ⟨l,hl,hy⟩:=List.mem_flatMap.1 hy
 by_cases hk:k<l.cs.length
 ·have hm:=getD_mem l.cs k cel0 hk
  obtain ⟨cs,a1,b1,_,h2⟩:=hr.l.all _ hl
  obtain ⟨cs2,z,_,h3⟩:=h2.1.all _ hm
  obtain ⟨c,_,h4⟩:=h3
  have hg:=(hb.c l hl _ hm).g
  generalize l.cs.getD k cel0=cc at hy h4 hg
  obtain ⟨t,ht,hy⟩:=List.mem_flatMap.1 hy
  obtain ⟨j,hj⟩:=List.mem_iff_getElem?.1 ht
  obtain ⟨aa,ca,ab,cb,_,g1,g2,_⟩:=h4 j t hj
  have g:=hg t ht
  have hp:y=t.a∨y=t.b:=by
   rw [parT_eq] at hy
   split at hy
   ·simpa using hy
   ·exact .inl (by simpa using hy)
  rcases hp with rfl | rfl
  ·exact eval_ok (g1.gx g.1) (λ _ h=>absurd h List.not_mem_nil)
  ·exact eval_ok (g2.gx g.2.1) (λ _ h=>absurd h List.not_mem_nil)
 ·have:l.cs.getD k cel0=cel0:=by rw [List.getD_eq_getElem?_getD,List.getElem?_eq_none (by omega)]; rfl
  rw [this] at hy
  simp [exsC,cel0] at hy
theorem lay_ok {h:View} {r:Rdy} {a:TA} {x:AC} (hr:RdyH h r a x) (hb:ScK r):∀ q∈layL r,∀ v∈q,okV v:=by
 intro q hq v hv
 unfold layL layN at hq
 obtain ⟨k,hk,rfl⟩:=List.mem_map.1 hq
 exact poiS_ok hb.k (λ j _=>exs_okV hr hb.b j) v hv
theorem lay_gr {h:View} {r:Rdy} {a:TA} {x:AC} (hr:RdyH h r a x) (hb:ScK r):GrB r (layL r) :=
 ⟨λ q hq=>by rw [(hb.b.b.l q hq).1,layL,layN_len],hb.b.c,λ q hq v hv=>(lay_ok hr hb q hq v hv).2⟩
theorem arT:ArT Tryz.prog 81 2 3 1:=⟨by kernel_rfl,SzIs.of (by kernel_rfl)⟩
set_option maxHeartbeats 1000000 in
theorem c_OvCmp (x y:Pr) (w0:World) (h0:View) (hv:VLe h0 (Full w0)):Calls Tryz.prog 38 #[.agg (prC x).toArray,.agg (prC y).toArray] w0 (Ret w0 h0 λ u _=>u = .int .i64 (cmpPr x y)):=by
 obtain ⟨⟨x1,h1⟩,⟨x2,h2⟩⟩:=x
 obtain ⟨⟨y1,h3⟩,⟨y2,h4⟩⟩:=y
 refine ent (args:=[.agg (prC (⟨x1,h1⟩,⟨x2,h2⟩)).toArray,.agg (prC (⟨y1,h3⟩,⟨y2,h4⟩)).toArray]) TT_ok [5,7,10,12,15,17] [] Tryz.func38 rfl Tryz.ntmps38 rfl rfl hv ?_
 intro b2 b3
 refine goPo TT_ok (.o 2 0) (v := .pointer (some ⟨b2,0,none⟩)) rfl (λ w hS=>pu_iaddr_ar (k := .i64) (o:=0) (n:=2) (sz:=1) (i:=0) arT (ev_sl rfl rfl) (ev_sl rfl rfl) (by decide) (by decide)) ?_
 refine goPo TT_ok (.o 3 0) (v := .pointer (some ⟨b3,0,none⟩)) rfl (λ w hS=>pu_iaddr_ar (k := .i64) (o:=0) (n:=2) (sz:=1) (i:=0) arT (ev_sl rfl rfl) (ev_sl rfl rfl) (by decide) (by decide)) ?_
 refine cnd (λ h=>?_) (λ h=>?_)
 ·have h:¬ (x1:Int)=(y1:Int):=by simpa using h
  refine goPo TT_ok (.o 2 0) (v := .pointer (some ⟨b2,0,none⟩)) rfl (λ w hS=>pu_iaddr_ar (k := .i64) (o:=0) (n:=2) (sz:=1) (i:=0) arT (ev_sl rfl rfl) (ev_sl rfl rfl) (by decide) (by decide)) ?_
  refine goPo TT_ok (.o 3 0) (v := .pointer (some ⟨b3,0,none⟩)) rfl (λ w hS=>pu_iaddr_ar (k := .i64) (o:=0) (n:=2) (sz:=1) (i:=0) arT (ev_sl rfl rfl) (ev_sl rfl rfl) (by decide) (by decide)) ?_
  refine wi ?_
  refine congrArg (Value.int .i64) ?_
  unfold cmpPr
  rw [if_neg (by show ¬ x1=y1; omega)]
 ·have h:(x1:Int)=(y1:Int):=by simpa using h
  refine goPo TT_ok (.o 2 1) (v := .pointer (some ⟨b2,1,none⟩)) rfl (λ w hS=>pu_iaddr_ar (k := .i64) (o:=0) (n:=2) (sz:=1) (i:=1) arT (ev_sl rfl rfl) (ev_sl rfl rfl) (by decide) (by decide)) ?_
  refine goPo TT_ok (.o 3 1) (v := .pointer (some ⟨b3,1,none⟩)) rfl (λ w hS=>pu_iaddr_ar (k := .i64) (o:=0) (n:=2) (sz:=1) (i:=1) arT (ev_sl rfl rfl) (ev_sl rfl rfl) (by decide) (by decide)) ?_
  refine wi ?_
  refine congrArg (Value.int .i64) ?_
  unfold cmpPr
  rw [if_pos (by show x1=y1; omega)]
theorem c_SortP (l:List Pr) (a:Option Addr) (n cap:Nat) (hn:n=l.length) (hl0:0<l.length) (hmax:l.length<4611686018427387904) (w:World) (ho:OwnJ w (oes (soJ 81 2 prC a n cap l))) :
  Calls Tryz.prog 37 #[.slice a n cap,.func (.func 38) #[] #[]] w (RetJ (soJ 81 2 prC a n cap) l w λ u l'=>u = .tuple #[]∧(l'.Perm l∧Srt ltPr l')):=by
 refine sort_ret (T:=81) (k:=2) (enc:=prC) (cf:=cmpPr) (λ _=>rfl) a hn hl0 hmax (λ blk off hH hblk=>?_) ho
 refine Go.Proofs.AnyQ.slices_SortFunc Tryz.laysSlF06_f37 2 Tryz.isAgg81 Tryz.sizeOf81 prC (λ _=>rfl) (λ x v hv=>?_) cmpPr ?_ 38 #[] blk off cap l.toArray w (enters_of Tryz.func38 (by kernel_rfl) rfl) (λ m os dk _ x y=>?_) hH hblk (by simpa using hmax)
 ·have hv:v = .int .i64 x.1.val∨v = .int .i64 x.2.val:=by simpa [prC] using hv
  rcases hv with rfl | rfl <;> rfl
 ·exact swo_of ord_Pr λ x y z h1 h2=>ltPr_tr h1 h2
 ·refine (c_OvCmp x y _ (Full _) (VLe.refl _)).mono ?_
  rintro e w' ⟨v,rfl,hk,rfl⟩
  exact ⟨rfl,keep_grow hk⟩
theorem c_SortP0 (p:Option Addr) (cap:Nat) (fv:Value) (w0:World) (h0:View) (hv:VLe h0 (Full w0)) :
  Calls Tryz.prog 37 #[.slice p 0 cap,fv] w0 (Ret w0 h0 λ u _=>u = .tuple #[]):=by
 refine (Go.Proofs.AnyF.slices_SortFunc_none Tryz.laysSlF06_f37 p cap fv w0).mono ?_
 rintro e w' ⟨rfl,rfl⟩
 exact ⟨_,rfl,Keep.refl _ _,rfl⟩
theorem eqP:EqT Tryz.prog 81 prC:=EqT.ofArr 2 (.i .i64) (by kernel_rfl) (by kernel_rfl) (SzIs.of (by kernel_rfl)) (show Tryz.prog.underlying 3=some (.int .i64) by kernel_rfl)
 (λ a b i hi=>by
  match i,hi with
  | 0,_=>exact ⟨_,_,rfl,rfl,⟨_,rfl⟩,⟨_,rfl⟩⟩
  | 1,_=>exact ⟨_,_,rfl,rfl,⟨_,rfl⟩,⟨_,rfl⟩⟩)
 (λ a b=>by
  obtain ⟨⟨x1,h1⟩,⟨x2,h2⟩⟩:=a
  obtain ⟨⟨y1,h3⟩,⟨y2,h4⟩⟩:=b
  simp [prC,eqC,List.range_succ,Prod.ext_iff,Fin.ext_iff]
  rw [show decide ((x1:Int)=(y1:Int))=decide (x1=y1) from decide_eq_decide.2 (by omega),show decide ((x2:Int)=(y2:Int))=decide (x2=y2) from decide_eq_decide.2 (by omega)])
theorem c_SamePairs (l m:List Pr) (x y:AC) (w0:World) (h0:View) (hv:VLe h0 (Full w0)) (hx:SlC 81 2 (flatR prC) h0 (.slice x.1 l.length x.2) l) (hy:SlC 81 2 (flatR prC) h0 (.slice y.1 m.length y.2) m) :
  Calls Tryz.prog 15 #[.slice x.1 l.length x.2,.slice y.1 m.length y.2] w0 (Ret w0 h0 λ u _=>u = .bool (decide (l=m))):=by
 have hlm:=slc_lm hx
 refine ent (args:=[.slice x.1 l.length x.2,.slice y.1 m.length y.2]) TT_ok [] [] Tryz.func15 rfl Tryz.ntmps15 rfl rfl hv ?_
 refine cnd (λ h=>?_) (λ h=>?_)
 ·exact congrArg Value.bool (decide_eq_false (λ e=>h (by rw [e]))).symm
 have hle:l.length=m.length:=by omega
 refine w_loop TT_ok (λ k:Nat=>[(5,.v (.int .i64 k))]) 0 (λ k=>k≤l.length∧∀ j,j<k→l.getD j (mkP 0 0)=m.getD j (mkP 0 0)) (λ k=>l.length - k) ?_
 refine And.intro ⟨⟨Nat.zero_le _,λ j hj=>absurd hj (Nat.not_lt_zero j)⟩,gs⟩ ?_
 intro k ⟨hk,hn⟩
 refine cnd (λ h1=>?_) (λ h1=>?_)
 ·have hkl:k<l.length:=by omega
  have hup:=λ h=>upto_snoc hn h
  have hne:l.getD k (mkP 0 0)≠m.getD k (mkP 0 0)→l≠m:=λ h e=>h (by rw [e])
  refine And.intro (by kernel_rfl) ?_
  refine ixs hx k (mkP 0 0) ?_
  refine ixs hy k (mkP 0 0) ?_
  refine aq eqP (l.getD k (mkP 0 0)) (m.getD k (mkP 0 0)) ?_
  refine cnd (λ h2=>?_) (λ h2=>?_)
  ·exact congrArg Value.bool (decide_eq_false (hne (by simpa using h2))).symm
  ·refine wi ?_
   exact ⟨k+1,⟨⟨hkl,hup (by simpa using h2)⟩,by omega⟩,gs⟩
 ·refine congrArg Value.bool (decide_eq_true ?_).symm
  refine List.ext_getElem hle λ j h3 h4=>?_
  have:=hn j (by omega)
  simpa [List.getD,h3,h4] using this
end Go.Proofs.YtbmmnalndollkaaGreatDoor
set_option maxRecDepth 100000
namespace Go.Proofs.YtbmmnalndollkaaGreatDoor
open Go Go.Dx Go.RowKit
theorem c_layK {r:Rdy} {a:TA} {x:AC} (he:layE r=0) (hb:ScK r) (w0:World) (h0:View) (hv:VLe h0 (Full w0)) (hr:RdyH h0 r a x) :
  Calls Tryz.prog 35 #[.agg (rdyC r a x).toArray] w0 (Ret w0 h0 λ u hh=>∃ z:AC,u = .tuple #[.agg (grdC r a x z (layL r).length).toArray,.int .i64 0]∧LR 49 1 RwR hh z.1 z.2 (layL r)) :=
 (c_lay r a x hb.b hb.n hb.t w0 h0 hv hr).mono (Ret.mono λ u hh ⟨z,e,h⟩=>⟨z,by rw [e,layV,if_pos he],h he⟩)
theorem c_layN {r:Rdy} {a:TA} {x:AC} (he:layE r≠0) (hb:ScK r) (w0:World) (h0:View) (hv:VLe h0 (Full w0)) (hr:RdyH h0 r a x) :
  Calls Tryz.prog 35 #[.agg (rdyC r a x).toArray] w0 (Ret w0 h0 λ u _=>u = .tuple #[.agg (grdC rdy0 ta31 (none,0) (none,0) 0).toArray,.int .i64 (layE r)]) :=
 (c_lay r a x hb.b hb.n hb.t w0 h0 hv hr).mono (Ret.mono λ u hh ⟨z,e,h⟩=>by rw [e,layV,if_neg he])
theorem arB:ArrB Tryz.prog 81 [(0,1),(1,1)] [.int .i64 0,.int .i64 0]:=ArrB.of (m:=2) (e:=3) (sz:=1) (by kernel_rfl) (by kernel_rfl) (by kernel_rfl) (λ i hi=>by
 have:i=0∨i=1:=by simp at hi; omega
 rcases this with rfl | rfl <;> rfl)
noncomputable def ovT (r:Rdy) (i k:Nat):Bool:=tgrS (layL r) (r.ls.getD i lin0) (r.ls.getD k lin0)
noncomputable def ovS (r:Rdy):List Pr×Int:=if layE r=0 then (pairR (ovT r) r.ls.length r.ls.length,0) else ([],layE r)
def ovV (q:List Pr×Int) (z:AC):Value := .tuple #[.slice z.1 q.1.length z.2,.int .i64 q.2]
structure PrG where
 a:Option Addr
 n:Nat
 c:Nat
 l:List Pr
 k:Nat
theorem pr_flat (l:List Pr) {i k:Nat} (hi:i≤1000000) (hk:k≤1000000):((l++[mkP i k]).map prC).flatten=(l.map prC).flatten++[.int .i64 (i:Int),.int .i64 (k:Int)]:=by
 rw [List.map_append,List.flatten_append,← prC_mk hi hk]; simp
set_option maxHeartbeats 4000000 in
theorem c_Overlaps (r:Rdy) (a:TA) (x:AC) (hb:ScK r) (w0:World) (h0:View) (hv:VLe h0 (Full w0)) (hr:RdyH h0 r a x) :
  Calls Tryz.prog 11 #[.agg (rdyC r a x).toArray] w0 (Ret w0 h0 λ u hh=>∃ z:AC,u=ovV (ovS r) z∧SlC 81 2 (flatR prC) hh (.slice z.1 (ovS r).1.length z.2) (ovS r).1):=by
 have hg:=lay_gr hr hb
 have hn:=hb.n
 refine entA (args:=[.agg (rdyC r a x).toArray]) TT_ok [34,41] [] Tryz.func11 rfl Tryz.ntmps11 rfl rfl hv (λ _=>Mono.slF) ?_
 intro b1
 by_cases he:layE r≠0
 ·refine cb (λ w hw=>c_layN (a:=a) (x:=x) he hb w h0 hw hr) ?_
  intro b4
  refine cnd (λ h=>?_) (λ h=>absurd (by simpa using h) (by simpa using he))
  have e:ovS r=([],layE r):=if_neg he
  rw [e]
  exact ⟨(none,0),rfl,λ v _ _=>SlC.nil (by simp [maxLen])⟩
 have he:layE r=0:=by simpa using he
 have e:ovS r=(pairR (ovT r) r.ls.length r.ls.length,0):=if_pos he
 rw [e]; clear e
 refine cA TT_ok (λ w v h1 h2 h3=>c_layK (a:=a) (x:=x) he hb w v h3 (rdy_m r a x _ _ h1 hr)) (λ z=>LR.m (R:=RwR) rwR_m z _) (λ z=>?_)
 intro b4
 refine cnd (λ h=>absurd rfl h) (λ _=>?_)
 refine nilC 900 81 2 ?_
 refine w_loopF TT_ok (λ s:PrG=>[(20,.v (.int .i64 s.k)),(6,.v (.slice s.a s.n s.c))]) (λ s=>[(900,.e (bufE 81 2 (.slice s.a s.n s.c) (s.l.map prC).flatten)),(4,.c b4 91 (grdC r a x z (layL r).length)),(1,.c b1 32 (rdyC r a x))]) (λ _ v=>LR 49 1 RwR v z.1 z.2 (layL r)) ⟨none,0,0,[],0⟩ (λ s=>s.k≤r.ls.length∧s.n=s.l.length∧s.l=pairC (ovT r) s.k) (λ s=>r.ls.length - s.k) (λ _=>LR.m (R:=RwR) rwR_m z _) ?_
 refine And.intro ⟨⟨Nat.zero_le _,rfl,rfl⟩,gs rfl rfl (λ v hF=>hF.2) (.inr rfl)⟩ ?_
 rintro ⟨a1,n1,c1,l1,k⟩ ⟨hk,hn1,hl1⟩
 dsimp only at hk hn1 hl1 ⊢
 refine cnd (λ h=>?_) (λ h=>?_)
 ·have hkl:k<r.ls.length:=by omega
  have hsk:=pairC_snoc (ovT r) k
  refine w_loopF TT_ok (λ s:PrG=>[(24,.v (.int .i64 s.k)),(6,.v (.slice s.a s.n s.c))]) (λ s=>[(900,.e (bufE 81 2 (.slice s.a s.n s.c) (s.l.map prC).flatten)),(4,.c b4 91 (grdC r a x z (layL r).length)),(1,.c b1 32 (rdyC r a x))]) (λ _ v=>LR 49 1 RwR v z.1 z.2 (layL r)) ⟨a1,n1,c1,l1,0⟩ (λ s=>s.k≤k∧s.n=s.l.length∧s.l=pairC (ovT r) k++((List.range s.k).filter λ i=>ovT r i k).map λ i=>mkP i k) (λ s=>k - s.k) (λ _=>LR.m (R:=RwR) rwR_m z _) ?_
  refine And.intro ⟨⟨Nat.zero_le _,hn1,by rw [hl1]; simp⟩,gs rfl rfl (λ v hF=>hF) (.inr rfl)⟩ ?_
  rintro ⟨a2,n2,c2,l2,i⟩ ⟨hi,hn2,hl2⟩
  dsimp only at hi hn2 hl2 ⊢
  refine cnd (λ h1=>?_) (λ h1=>?_)
  ·have hil:i<k:=by omega
   have hln:=pairC_len (ovT r) k
   have hkk:k*k≤1000*1000:=Nat.mul_le_mul (by omega) (by omega)
   have hl2l:l2.length≤1001000:=by
    rw [hl2,List.length_append,List.length_map]
    have h2:=List.length_filter_le (λ j=>ovT r j k) (List.range i)
    rw [List.length_range] at h2; omega
   have hst:=rowT_snoc (ovT r) k i
   refine cf (λ w v h1 h2 h3=>c_together r a x z (layL r) i k hg (by omega) hkl w v h3 (rdy_m r a x _ _ h1 hr) h2) ?_
   have hT:ovT r i k=tgrS (layL r) (r.ls.getD i lin0) (r.ls.getD k lin0):=rfl
   rw [hT] at hst
   generalize tgrS (layL r) (r.ls.getD i lin0) (r.ls.getD k lin0)=t at hst ⊢
   refine cnd (λ h4=>?_) (λ h4=>?_)
   ·have h4:t=true:=h4
    rw [if_pos h4] at hst
    refine goPu TT_ok (.agg [.int .i64 (i:Int),.int .i64 (k:Int)].toArray) (λ w hS=>pu_build_ar (places:=[(0,1),(1,1)]) (zero:=[.int .i64 0,.int .i64 0]) arB (by rfl) (by rfl)) ?_
    intro b35
    refine ap TT_ok 900 (AppT.of (bytes:=16) (sz:=1) (by kernel_rfl) (by kernel_rfl) (by kernel_rfl)) rfl rfl rfl rfl rfl rfl rfl (by rw [row_flat (sz:=2) (λ _=>rfl)]; show (_+2)*17≤_; omega) (λ a3 n3 c3 e3=>?_)
    rw [row_flat (sz:=2) (λ _=>rfl)] at e3
    have e3:n3*2=l2.length*2+2:=e3
    refine wi ?_
    refine ⟨⟨a3,n3,c3,l2++[mkP i k],i+1⟩,⟨⟨hil,?_,?_⟩,by show k - (i+1)<k - i; omega⟩,gs rfl (by rw [pr_flat l2 (by omega) (by omega)]; rfl) (λ v hF=>hF) (.inr rfl)⟩
    ·show n3=(l2++[mkP i k]).length
     rw [List.length_append]; show n3=l2.length+1; omega
    ·show l2++[mkP i k]=_++(((List.range (i+1)).filter λ i=>ovT r i k).map λ i=>mkP i k)
     rw [hst,hl2,List.append_assoc]
   ·have h4:t=false:=by simpa using h4
    rw [if_neg (by rw [h4]; decide),List.append_nil] at hst
    refine wi ?_
    exact ⟨⟨a2,n2,c2,l2,i+1⟩,⟨⟨hil,hn2,by show l2=_++(((List.range (i+1)).filter λ i=>ovT r i k).map λ i=>mkP i k); rw [hst,hl2]⟩,by show k - (i+1)<k - i; omega⟩,gs rfl rfl (λ v hF=>hF) (.inr rfl)⟩
  ·have hie:i=k:=by omega
   subst hie
   refine wi ?_
   exact ⟨⟨a2,n2,c2,l2,i+1⟩,⟨⟨hkl,hn2,by show l2=pairC (ovT r) (i+1); rw [hsk]; exact hl2⟩,by show r.ls.length - (i+1)<r.ls.length - i; omega⟩,gs rfl rfl (λ v hF=>hF) (.inr rfl)⟩
 ·have hke:k=r.ls.length:=by omega
  subst hke
  have hln:=pairC_len (ovT r) r.ls.length
  have hkk:r.ls.length*r.ls.length≤1000*1000:=Nat.mul_le_mul (by omega) (by omega)
  rw [← hl1] at hln
  by_cases h0l:0<l1.length
  ·refine cJ TT_ok (soJ 81 2 prC a1 n1 c1) l1 (g:=λ _ => .tuple #[]) (λ w v h1 h2 h3 h4 h5=>c_SortP l1 a1 n1 c1 hn1 h0l (by omega) w h5) ?_ (hl:=⟨rfl,trivial⟩)
   rintro l' ⟨hpm,hsr⟩
   rw [hl1] at hpm
   have hl':=pair_sorted (by omega) hpm hsr
   have hll:n1=l'.length:=by rw [hn1,hl1]; exact hpm.length_eq.symm
   subst hll
   refine And.intro rfl ?_
   refine sealW (g:=prC) (l:=l') 900 rfl rfl ?_
   refine goW TT_ok ?_
   rw [← hl']
   exact ⟨(a1,c1),rfl,λ v _ hF=>hF.2⟩
  ·have hl0:l1=[]:=List.eq_nil_of_length_eq_zero (by omega)
   have hpr:pairR (ovT r) r.ls.length r.ls.length=[]:=by
    rw [← pair_sorted (l:=[]) (T:=ovT r) (n:=r.ls.length) (by omega) (by rw [← hl1,hl0]) List.Pairwise.nil]
   subst hl0
   have hn1:n1=0:=hn1
   subst hn1
   refine cb (λ w hw=>c_SortP0 a1 c1 _ w h0 hw) ?_
   refine And.intro rfl ?_
   refine sealW (g:=prC) (l:=[]) 900 rfl rfl ?_
   refine goW TT_ok ?_
   rw [hpr]
   exact ⟨(a1,c1),rfl,λ v _ hF=>hF.2⟩
end Go.Proofs.YtbmmnalndollkaaGreatDoor
set_option maxRecDepth 100000
namespace Go.Proofs.YtbmmnalndollkaaGreatDoor
open Go Go.Dx Go.RowKit
end Go.Proofs.YtbmmnalndollkaaGreatDoor
namespace Go.Proofs.YtbmmnalndollkaaGreatDoor
open Go Go.Dx Go.RowKit
def sufN (pts:List (List Val)) (k:Nat):Nat:=((pts.drop k).map List.length).foldr (·*·) 1
theorem suf_step {pts:List (List Val)} {k:Nat} (h:k<pts.length):sufN pts k=(pts.getD k []).length*sufN pts (k+1):=by
 unfold sufN
 rw [List.drop_eq_getElem_cons h]
 simp only [List.map_cons,List.foldr_cons]
 congr 1
 simp [List.getD,h]
theorem suf_end (pts:List (List Val)):sufN pts pts.length=1:=by unfold sufN; rw [List.drop_length]; rfl
theorem suf_pos {pts:List (List Val)} (hp:∀ q∈pts,0<q.length) (k:Nat):0<sufN pts k:=by
 unfold sufN
 have:∀ l:List (List Val),(∀ q∈l,0<q.length)→0<(l.map List.length).foldr (·*·) 1:=by
  intro l
  induction l with
  | nil=>intro _; simp
  | cons q l ih =>
   intro h
   simp only [List.map_cons,List.foldr_cons]
   exact Nat.mul_pos (h q (List.mem_cons_self ..)) (ih λ q hq=>h q (List.mem_cons_of_mem _ hq))
 exact this _ λ q hq=>hp q (List.mem_of_mem_drop hq)
theorem suf_dvd {pts:List (List Val)} {j:Nat}:∀ {k:Nat},j≤k→k≤pts.length→∃ q,sufN pts j=q*sufN pts k
 | 0,h,_=>⟨1,by rw [Nat.le_zero.1 h]; omega⟩
 | k+1,h,hk=>by
  by_cases hj:j=k+1
  ·exact ⟨1,by rw [hj]; omega⟩
  ·obtain ⟨q,hq⟩:=suf_dvd (pts:=pts) (j:=j) (k:=k) (by omega) (by omega)
   exact ⟨q*(pts.getD k []).length,by rw [hq,suf_step (by omega),Nat.mul_assoc]⟩
def preN (pts:List (List Val)) (k:Nat):Nat:=((pts.take k).map List.length).foldl (·*·) 1
theorem pre_step {pts:List (List Val)} {k:Nat} (h:k<pts.length):preN pts (k+1)=preN pts k*(pts.getD k []).length:=by
 unfold preN
 rw [take_snocD pts k [] h,List.map_append,List.foldl_append]; rfl
theorem pre_suf {pts:List (List Val)}:∀ {k:Nat},k≤pts.length→preN pts k*sufN pts k=sufN pts 0
 | 0,_=>by show 1*_=_; omega
 | k+1,h=>by
  have ih:=pre_suf (pts:=pts) (k:=k) (by omega)
  rw [pre_step (by omega),← ih,suf_step (pts:=pts) (k:=k) (by omega),Nat.mul_assoc]
theorem pre_all (pts:List (List Val)):preN pts pts.length=sufN pts 0:=by
 have:=pre_suf (pts:=pts) (Nat.le_refl _)
 rw [suf_end] at this; omega
def smaS (pts:List (List Val)):Bool:=(List.range pts.length).all λ k=>decide (preN pts (k+1)≤4096)
theorem sma_no {pts:List (List Val)} {k:Nat} (h:k<pts.length) (h1:4096<preN pts (k+1)):smaS pts=false:=by
 rw [smaS,List.all_eq_false]
 exact ⟨k,List.mem_range.2 h,by simp; omega⟩
theorem sma_yes {pts:List (List Val)} (h:∀ k,k<pts.length→preN pts (k+1)≤4096):smaS pts=true:=by
 rw [smaS,List.all_eq_true]
 exact λ k hk=>decide_eq_true (h k (List.mem_range.1 hk))
theorem sma_le {pts:List (List Val)} (h:smaS pts=true):sufN pts 0≤4096:=by
 rw [← pre_all]
 cases hl:pts.length with
 | zero=>show preN pts 0≤4096; unfold preN; simp
 | succ m =>
  rw [smaS,List.all_eq_true] at h
  have:=h m (List.mem_range.2 (by omega))
  simpa using this
def dig (pts:List (List Val)) (i k:Nat):Nat:=i / sufN pts (k+1) % (pts.getD k []).length
def rowI (pts:List (List Val)) (i:Nat):List Val:=(List.range pts.length).map λ k=>(pts.getD k []).getD (dig pts i k) v0
def digs (pts:List (List Val)) (i:Nat):List Nat:=(List.range pts.length).map (dig pts i)
theorem rowI_len (pts:List (List Val)) (i:Nat):(rowI pts i).length=pts.length:=by simp [rowI]
theorem digs_len (pts:List (List Val)) (i:Nat):(digs pts i).length=pts.length:=by simp [digs]
theorem digs_get {pts:List (List Val)} {i k:Nat} (h:k<pts.length):(digs pts i).getD k 0=dig pts i k:=by
 simp [digs,List.getD,h]
theorem rowI_get {pts:List (List Val)} {i k:Nat} (h:k<pts.length):(rowI pts i).getD k v0=(pts.getD k []).getD (dig pts i k) v0:=by
 simp [rowI,List.getD,h]
theorem dig_lt {pts:List (List Val)} (hp:∀ q∈pts,0<q.length) {i k:Nat} (h:k<pts.length):dig pts i k<(pts.getD k []).length:=Nat.mod_lt _ (hp _ (getD_mem pts k [] h))
theorem dig_mod {pts:List (List Val)} {i k:Nat} (h:k<pts.length):i % sufN pts k / sufN pts (k+1)=dig pts i k:=by
 rw [suf_step h,Nat.mul_comm,Nat.mod_mul_right_div_self]; rfl
theorem mod_mod_suf {pts:List (List Val)} {i k:Nat} (h:k<pts.length):i % sufN pts k % sufN pts (k+1)=i % sufN pts (k+1):=by
 rw [suf_step h]; exact Nat.mod_mul_left_mod _ _ _
theorem rowI_snoc {pts:List (List Val)} {i k:Nat} (h:k<pts.length):(rowI pts i).take (k+1)=(rowI pts i).take k++[(pts.getD k []).getD (dig pts i k) v0]:=by
 rw [take_snocD (rowI pts i) k v0 (by rw [rowI_len]; exact h),rowI_get h]
theorem rowI_mem {pts:List (List Val)} (hp:∀ q∈pts,0<q.length) {i:Nat}:∀ v∈rowI pts i,∃ q∈pts,v∈q:=by
 intro v hv
 obtain ⟨k,hk,rfl⟩:=List.mem_map.1 hv
 have hk:=List.mem_range.1 hk
 exact ⟨_,getD_mem pts k [] hk,getD_mem _ _ v0 (dig_lt hp hk)⟩
theorem dig_next {pts:List (List Val)} (hp:∀ q∈pts,0<q.length) {i k:Nat} (hk:k<pts.length) (h1:i % sufN pts (k+1)=sufN pts (k+1) - 1) (h2:dig pts i k+1<(pts.getD k []).length) :
  ∀ j,j<pts.length→dig pts (i+1) j=if j<k then dig pts i j else if j=k then dig pts i k+1 else 0:=by
 intro j hj
 have hS:=suf_pos hp (k+1)
 have hL:=hp _ (getD_mem pts k [] hk)
 obtain ⟨S,hSe⟩:∃ S,sufN pts (k+1)=S:=⟨_,rfl⟩
 obtain ⟨L,hLe⟩:∃ L,(pts.getD k []).length=L:=⟨_,rfl⟩
 have hi:i+1=(i / S+1)*S:=by
  have:=Nat.div_add_mod i S
  rw [hSe] at h1 hS
  rw [Nat.add_mul,Nat.mul_comm (i / S)]; omega
 have hd:(i+1) / S=i / S+1:=by rw [hi,Nat.mul_div_cancel _ (by omega)]
 have h2:i / S % L+1<L:=by rw [← hSe,← hLe]; exact h2
 have ha:(i / S+1) % L=i / S % L+1:=by
  rw [Nat.add_mod,Nat.mod_eq_of_lt (a:=1) (by omega),Nat.mod_eq_of_lt h2]
 have hq:(i / S+1) / L=i / S / L:=by
  have e1:=Nat.div_add_mod (i / S) L
  have e2:=Nat.div_add_mod (i / S+1) L
  rw [ha] at e2
  have:L*((i / S+1) / L)=L*(i / S / L):=by omega
  exact Nat.eq_of_mul_eq_mul_left (by omega) this
 have hSk:sufN pts k=S*L:=by rw [suf_step hk,hSe,hLe,Nat.mul_comm]
 split
 ·rename_i hjk
  unfold dig
  obtain ⟨q,hq2⟩:=suf_dvd (pts:=pts) (j:=j+1) (k:=k) (by omega) (by omega)
  rw [hq2,Nat.mul_comm q,← Nat.div_div_eq_div_mul,← Nat.div_div_eq_div_mul,hSk,← Nat.div_div_eq_div_mul,← Nat.div_div_eq_div_mul,hd,hq]
 ·split
  ·rename_i hjk
   subst hjk
   unfold dig
   rw [hSe,hLe,hd,ha]
  ·rename_i h3 h4
   unfold dig
   obtain ⟨q,hq2⟩:=suf_dvd (pts:=pts) (j:=k+1) (k:=j) (by omega) (by omega)
   have hSj:=suf_pos hp (j+1)
   rw [hi,← hSe,hq2,suf_step hj,show (i / (q*((pts.getD j []).length*sufN pts (j+1)))+1)*(q*((pts.getD j []).length*sufN pts (j+1)))=((i / (q*((pts.getD j []).length*sufN pts (j+1)))+1)*q*(pts.getD j []).length)*sufN pts (j+1) by simp only [Nat.mul_assoc],Nat.mul_div_cancel _ hSj,Nat.mul_mod_left]
theorem dig_full {pts:List (List Val)} (hp:∀ q∈pts,0<q.length) {i k:Nat} (hk:k<pts.length) (h1:i % sufN pts (k+1)=sufN pts (k+1) - 1) (h2:¬ dig pts i k+1<(pts.getD k []).length):i % sufN pts k=sufN pts k - 1:=by
 have hS:=suf_pos hp (k+1)
 have hlt:=dig_lt hp (i:=i) hk
 have h3:=dig_mod (pts:=pts) (i:=i) hk
 have h4:=mod_mod_suf (pts:=pts) (i:=i) hk
 have h5:=Nat.div_add_mod (i % sufN pts k) (sufN pts (k+1))
 rw [h3,h4,h1] at h5
 rw [← h5,suf_step hk,show (pts.getD k []).length=dig pts i k+1 by omega,Nat.add_mul,Nat.mul_comm]
 omega
theorem digs_zero (pts:List (List Val)):digs pts 0=List.replicate pts.length 0:=by
 unfold digs dig
 refine List.ext_getElem (by simp) λ j h1 h2=>by simp
theorem digs_next {pts:List (List Val)} {i:Nat} {l:List Nat} (hl:l.length=pts.length) (h:∀ j,j<pts.length→l.getD j 0=dig pts (i+1) j):l=digs pts (i+1):=by
 refine List.ext_getElem (by rw [hl,digs_len]) λ j h1 h2=>?_
 have h3:=h j (by omega)
 have h4:=digs_get (pts:=pts) (i:=i+1) (k:=j) (by omega)
 simp only [List.getD,List.getElem?_eq_getElem h1,Option.getD_some] at h3
 simp only [List.getD,List.getElem?_eq_getElem h2,Option.getD_some] at h4
 rw [h3,h4]
def uncF (pts:List (List Val)) (cov:List Val→Bool) (i:Nat):List (List Val):=((List.range i).map (rowI pts)).filter λ w => !cov w
theorem unc_snoc (pts:List (List Val)) (cov:List Val→Bool) (i:Nat):uncF pts cov (i+1)=uncF pts cov i++if cov (rowI pts i) then [] else [rowI pts i]:=by
 unfold uncF
 rw [List.range_succ,List.map_append,List.filter_append]
 congr 1
 cases h:cov (rowI pts i) <;> simp [h]
theorem unc_len (pts:List (List Val)) (cov:List Val→Bool) (i:Nat):(uncF pts cov i).length≤i:=by
 unfold uncF
 have:=List.length_filter_le (λ w => !cov w) ((List.range i).map (rowI pts))
 simpa using this
theorem unc_pre (pts:List (List Val)) (cov:List Val→Bool) {i:Nat}:∀ {n:Nat},i≤n→∃ l,uncF pts cov n=uncF pts cov i++l
 | 0,h=>⟨[],by rw [Nat.le_zero.1 h,List.append_nil]⟩
 | n+1,h=>by
  by_cases hn:i=n+1
  ·exact ⟨[],by rw [hn,List.append_nil]⟩
  ·obtain ⟨l,hl⟩:=unc_pre pts cov (i:=i) (n:=n) (by omega)
   exact ⟨_,by rw [unc_snoc,hl,List.append_assoc]⟩
theorem unc_take {pts:List (List Val)} {cov:List Val→Bool} {i n c:Nat} (h:i≤n) (hc:(uncF pts cov i).length=c):(uncF pts cov n).take c=uncF pts cov i:=by
 obtain ⟨l,hl⟩:=unc_pre pts cov h
 rw [hl,← hc,List.take_left]
def gapS (pts:List (List Val)) (cov:List Val→Bool) (c:Int):List (List Val):=(uncF pts cov (sufN pts 0)).take c.toNat
theorem gap_cap {pts:List (List Val)} {cov:List Val→Bool} (c:Int) (h:sufN pts 0≤4096):(uncF pts cov (sufN pts 0)).take (min c.toNat 4096)=gapS pts cov c:=by
 unfold gapS
 have:=unc_len pts cov (sufN pts 0)
 by_cases hc:c.toNat≤4096
 ·rw [Nat.min_eq_left hc]
 ·rw [Nat.min_eq_right (by omega),List.take_of_length_le (by omega),List.take_of_length_le (by omega)]
theorem dig_last {pts:List (List Val)} (hp:∀ q∈pts,0<q.length) {i k:Nat} (hk:k<pts.length) (h:i+1=sufN pts 0):¬ dig pts i k+1<(pts.getD k []).length:=by
 obtain ⟨q,hq⟩:=suf_dvd (pts:=pts) (j:=0) (k:=k) (Nat.zero_le _) (by omega)
 have hS:=suf_pos hp k
 have hS1:=suf_pos hp (k+1)
 have hst:=suf_step hk
 have h1:i % sufN pts k=sufN pts k - 1:=by
  have hq0:0<q:=by
   rcases Nat.eq_zero_or_pos q with h0 | h0
   ·rw [h0] at hq; omega
   ·exact h0
  obtain ⟨p,rfl⟩:∃ p,q=p+1:=⟨q - 1,by omega⟩
  have hi:i=(sufN pts k - 1)+sufN pts k*p:=by
   rw [hq,Nat.add_mul,Nat.mul_comm p] at h; omega
  rw [hi,Nat.add_mul_mod_self_left,Nat.mod_eq_of_lt (by omega)]
 have h2:=dig_mod (pts:=pts) (i:=i) hk
 rw [h1,hst] at h2
 have hL:=hp _ (getD_mem pts k [] hk)
 obtain ⟨L,hLe⟩:∃ L,(pts.getD k []).length=L+1:=⟨(pts.getD k []).length - 1,by omega⟩
 rw [hLe] at h2 ⊢
 have h3:(L+1)*sufN pts (k+1) - 1=(sufN pts (k+1) - 1)+sufN pts (k+1)*L:=by rw [Nat.add_mul,Nat.mul_comm L]; omega
 rw [h3,Nat.add_mul_div_left _ _ hS1,Nat.div_eq_of_lt (by omega)] at h2
 omega
end Go.Proofs.YtbmmnalndollkaaGreatDoor
set_option maxRecDepth 100000
namespace Go.Proofs.YtbmmnalndollkaaGreatDoor
open Go Go.Dx Go.RowKit
structure GrL (pts:List (List Val)):Prop where
 n:∀ q∈pts,q.length≤10000000
 p:∀ q∈pts,0<q.length
theorem lay_len {r:Rdy} (hb:ScK r) (he:layE r=0):GrL (layL r):=by
 have key:∀ k,k<r.t.ins.length→(poiS r (k:Nat)).1=ptsS r k:=λ k hk=>by
  have h0:(poiS r (k:Nat)).2=0:=fir_inv (f:=λ k=>(poiS r (k:Nat)).2) he k hk
  unfold poiS at h0 ⊢
  split at h0
  ·exact absurd h0 (by decide)
  ·rename_i hc
   rw [if_neg hc]
   split at h0
   ·rename_i h1; exact absurd h0 h1
   ·rename_i h1
    rw [if_neg h1,Int.toNat_natCast]
 refine ⟨λ q hq=>?_,λ q hq=>?_⟩
 ·obtain ⟨k,hk,rfl⟩:=List.mem_map.1 hq
  rw [key k (List.mem_range.1 hk)]
  have h1:=exsI_len (k:=k) hb.t r.ls.length (Nat.le_refl _)
  rw [exsI_all] at h1
  have h2:=accP_len (kdK r k) (exsK r k)
  have hn:=hb.n
  show (accP (kdK r k) (exsK r k)).length≤_
  omega
 ·obtain ⟨k,hk,rfl⟩:=List.mem_map.1 hq
  rw [key k (List.mem_range.1 hk)]
  have:v0∈ptsS r k:=by
   unfold ptsS
   rw [puts_mem]
   exact .inr (List.mem_cons_self ..)
  exact List.length_pos_iff.2 (List.ne_nil_of_mem this)
theorem c_small31 (r:Rdy) (a:TA) (x z:AC) (pts:List (List Val)) (hl:GrL pts) (w0:World) (h0:View) (hv:VLe h0 (Full w0)) (hp:LR 49 1 RwR h0 z.1 z.2 pts) :
  Calls Tryz.prog 41 #[.agg (grdC r a x z pts.length).toArray] w0 (Ret w0 h0 λ u _=>u = .bool (smaS pts)):=by
 have hlm:=hp.lm
 refine ent (args:=[.agg (grdC r a x z pts.length).toArray]) TT_ok [] [] Tryz.func41 rfl Tryz.ntmps41 rfl rfl hv ?_
 intro b1
 refine w_loop TT_ok (λ k:Nat=>[(9,.v (.int .i64 k)),(3,.v (.int .i64 (preN pts k)))]) 0 (λ k=>k≤pts.length∧preN pts k≤4096∧∀ j,j<k→preN pts (j+1)≤4096) (λ k=>pts.length - k) ?_
 refine And.intro ⟨⟨Nat.zero_le _,(by show 1≤4096; decide),λ j hj=>absurd hj (Nat.not_lt_zero j)⟩,gs⟩ ?_
 rintro k ⟨hk,hn,hz⟩
 refine cnd (λ h=>?_) (λ h=>?_)
 ·have hkl:k<pts.length:=by omega
  have hst:=pre_step hkl
  have hup:=λ h=>upto_snoc hz h
  have hno:=sma_no hkl
  have hlk:=hl.n _ (getD_mem pts k [] hkl)
  refine ixL (R:=RwR) hp k [] (λ cs hcs=>?_)
  generalize pts.getD k []=l at hst hlk hcs ⊢
  obtain ⟨y,rfl,hy⟩:=hcs
  have hm:preN pts k*l.length≤4096*10000000:=Nat.mul_le_mul hn hlk
  have hc:(preN pts k:Int)*(l.length:Int)=((preN pts (k+1):Nat):Int):=by rw [hst]; simp
  refine wi ?_ (by rw [hc,hst]; omega)
  rw [hc]
  refine cnd (λ h4=>?_) (λ h4=>?_)
  ·exact congrArg Value.bool (hno (by omega)).symm
  ·refine wi ?_
   exact ⟨k+1,⟨⟨hkl,by omega,hup (by omega)⟩,by omega⟩,gs⟩
 ·exact congrArg Value.bool (sma_yes λ k hk=>hz k (by omega)).symm
end Go.Proofs.YtbmmnalndollkaaGreatDoor
set_option maxRecDepth 100000
namespace Go.Proofs.YtbmmnalndollkaaGreatDoor
open Go Go.Dx Go.RowKit
noncomputable def covR (r:Rdy) (row:List Val):Bool:=r.ls.any (covS row)
noncomputable def gpS (r:Rdy) (c:Int):List (List Val)×Int:=if layE r≠0 then ([],layE r) else if smaS (layL r)=false then ([],5) else (gapS (layL r) (covR r) c,0)
def gpV (q:List (List Val)×Int) (z:AC):Value := .tuple #[.slice z.1 q.1.length z.2,.int .i64 q.2]
structure GpG where
 a:Option Addr
 n:Nat
 c:Nat
 es:List RwQ
 i:Nat
end Go.Proofs.YtbmmnalndollkaaGreatDoor
set_option maxRecDepth 100000
namespace Go.Proofs.YtbmmnalndollkaaGreatDoor
open Go Go.Dx Go.RowKit
def rwV (p:RwQ):Value := .slice p.2.1 p.1.length p.2.2
def chJ (q cap:Nat) (es:List RwQ):BL:=[(910,.e (some q,ChanC cap (es.map rwV) false))]
def rqJ (q cap l:Nat) (rec:Loop) (z:Option Code×List RwQ):BL:=JL (chJ q cap) 911 l rec z
def rowΦ (pts:List (List Val)) (cov:List Val→Bool) (cap i:Nat) (es:List RwQ) (j:Option Code) (es':List RwQ):Prop :=
 (cov (rowI pts i)=true∧j=none∧es'=es)∨(cov (rowI pts i)=false∧es.length<cap∧j=none∧es'.map (·.1)=es.map (·.1)++[rowI pts i])∨(cov (rowI pts i)=false∧¬ es.length<cap∧j=some (.exit 0)∧es'=es)
def rowΨ (pts:List (List Val)) (cov:List Val→Bool) (cap:Nat) (j:Option Code) (es:List RwQ):Prop:=(j=none∨j=some (.exit 0))∧es.map (·.1)=(uncF pts cov (sufN pts 0)).take cap
def dgC (l:List Nat):List Value:=l.map λ d:Nat => .int .i64 (d:Int)
theorem dg_at (l:List Nat) {k:Nat} (h:k<l.length):(dgC l)[k]?=some (.int .i64 ((l.getD k 0:Nat):Int)):=by simp [dgC,List.getD,h]
theorem dg_set (l:List Nat) (k d:Nat) (h:k<l.length):(dgC l).take (k*1)++[.int .i64 (d:Int)]++(dgC l).drop (k*1+1)=dgC (l.set k d):=by
 unfold dgC
 rw [List.set_eq_take_append_cons_drop,if_pos h,Nat.mul_one]
 simp
theorem dg_zero (m:Nat):dgC (List.replicate m 0)=List.replicate m (.int .i64 0):=by simp [dgC]
structure RoS where
 i:Nat
 es:List RwQ
def roI (pts:List (List Val)) (cov:List Val→Bool) (cap:Nat) (s:RoS):Prop:=s.i<sufN pts 0∧s.es.map (·.1)=uncF pts cov s.i∧s.es.length≤cap
structure CaS where
 K:Nat
 at':List Nat
def caI (pts:List (List Val)) (i:Nat) (s:CaS):Prop:=s.K≤pts.length∧s.at'.length=pts.length∧(∀ j,j<pts.length→s.at'.getD j 0=if j<s.K then dig pts i j else 0)∧i % sufN pts s.K=sufN pts s.K - 1
theorem intSl:SlT Tryz.prog 78 3 1:=⟨by kernel_rfl,SzIs.of (by kernel_rfl)⟩
theorem intOne:OneT Tryz.prog 3:=OneT.of (by kernel_rfl)
theorem set_getD (l:List Nat) (k j d:Nat) (h:k<l.length):(l.set k d).getD j 0=if j=k then d else l.getD j 0:=by
 by_cases hj:j=k
 ·subst hj; rw [if_pos rfl]; simp [List.getD,h]
 ·rw [if_neg hj]; simp [List.getD,List.getElem?_set,Ne.symm hj]
set_option maxHeartbeats 8000000 in
theorem c_rows1 (pts:List (List Val)) (cov:List Val→Bool) (q cap l:Nat) (rec:Loop) (h00:View) (hL:GrL pts) (hpl:pts.length≤1000000) (hsm:sufN pts 0≤4096)
  (hy:∀ (i:Nat) (es:List RwQ) (y:AC),i<sufN pts 0→es.map (·.1)=uncF pts cov i→es.length≤cap→∀ w v',VLe h00 v'→VLe v' (Full w)→(∀ b∈ids (oes (rqJ q cap l rec (none,es))),v' b=none)→OwnJ w (oes (rqJ q cap l rec (none,es))) →
   SlC 52 3 (flatR valC) v' (.slice y.1 (rowI pts i).length y.2) (rowI pts i)→RwF es v' →
   YJV Tryz.prog (rqJ q cap l rec) (none,es) l [.slice y.1 (rowI pts i).length y.2] w v' (λ u z=>u = .bool z.1.isNone∧rowΦ pts cov cap i es z.1 z.2) (λ z=>RwF z.2))
  (b1:Nat) (r:Rdy) (a:TA) (x z:AC) (w0:World) (h0:View) (hle:VLe h00 h0) (hv:VLe h0 (Full w0)) (hno:∀ b∈ids (oes (rqJ q cap l rec (none,[]))),h0 b=none) (ho:OwnJ w0 (oes (rqJ q cap l rec (none,[]))))
  (hb:h0 b1=some (.cells (grdC r a x z pts.length).toArray 91 (0,0))) (hp:LR 49 1 RwR h0 z.1 z.2 pts) :
  Calls Tryz.prog 122 #[.func (.yield l) #[] #[],.pointer (some ⟨b1,0,none⟩)] w0 (RetJV (rqJ q cap l rec) (none,[]) w0 h0 (λ u z=>u = .tuple #[]∧rowΨ pts cov cap z.1 z.2) (λ z=>RwF z.2)):=by
 have hlm:=hp.lm
 have hpts:∀ v' w,VLe h0 v'→VLe v' (Full w)→w.cell? ⟨b1,0+7,none⟩=some (.slice z.1 pts.length z.2):=λ v' w g1 g3=>by rw [cell_row (g3 _ _ (g1 _ _ hb))]; rfl
 refine entJV (rqJ q cap l rec) (none,[]) (g:=λ _ => .tuple #[]) (Ψ:=λ z=>rowΨ pts cov cap z.1 z.2) (Φ:=λ z=>RwF z.2) (λ z=>rwf_m z.2) (args:=[.func (.yield l) #[] #[],.pointer (some ⟨b1,0,none⟩)]) TT_ok [11,17,18,31,33,44,45,47,61,1000012] [] [.v (.func (.yield l) #[] #[]),.v (.pointer (some ⟨b1,0,none⟩))] Tryz.func122 rfl Tryz.ntmps122 rfl rfl hv hno ho rfl ?_
 refine ⟨.slice z.1 pts.length z.2,gc_mk λ _=>λ v' w g1 _ g3=>hpts v' w g1 g3,?_⟩
 refine mkI TT_ok 902 rfl (t:=78) (e:=3) (by kernel_rfl) (by kernel_rfl) rfl rfl hpl (λ bd=>?_)
 rw [← dg_zero,← digs_zero]
 have hn0:0<sufN pts 0:=suf_pos hL.p 0
 refine w_loopF TT_ok (λ _:RoS=>[]) (λ s=>(902,.e (bufE 3 1 (.slice (some ⟨bd,0,none⟩) pts.length pts.length) (dgC (digs pts s.i))))::rqJ q cap l rec (none,s.es)) (λ s v=>RwF s.es v) ⟨0,[]⟩ (roI pts cov cap) (λ s=>sufN pts 0 - s.i) (λ s=>rwf_m s.es) ?_
 refine And.intro ⟨⟨hn0,rfl,Nat.zero_le _⟩,gs rfl rfl (λ v _ q hq=>absurd hq List.not_mem_nil) (.inr rfl)⟩ ?_
 rintro ⟨i,es⟩ ⟨hi,hes,hec⟩
 dsimp only at hi hes hec ⊢
 refine nilC 901 52 3 ?_
 refine w_loopF TT_ok (λ s:(Option Addr×Nat×Nat)×Nat=>[(14,.v (.int .i64 s.2)),(4,.v (.slice s.1.1 s.1.2.1 s.1.2.2))]) (λ s=>(901,.e (bufE 52 3 (.slice s.1.1 s.1.2.1 s.1.2.2) (((rowI pts i).take s.2).map valC).flatten))::(902,.e (bufE 3 1 (.slice (some ⟨bd,0,none⟩) pts.length pts.length) (dgC (digs pts i))))::rqJ q cap l rec (none,es)) (λ _ v=>RwF es v) ((none,0,0),0) (λ s=>s.2≤pts.length∧s.1.2.1=s.2) (λ s=>pts.length - s.2) (λ _=>rwf_m es) ?_
 refine And.intro ⟨⟨Nat.zero_le _,rfl⟩,gs rfl rfl (λ v hF=>hF) (.inr rfl)⟩ ?_
 rintro ⟨⟨a2,n2,c2⟩,k⟩ ⟨hk,hn2⟩
 dsimp only at hk hn2 ⊢
 refine cnd (λ h=>?_) (λ h=>?_)
 ·have hkl:k<pts.length:=by omega
  have hdl:=dig_lt hL.p (i:=i) hkl
  have hrs:=rowI_snoc (pts:=pts) (i:=i) hkl
  have hrl:((rowI pts i).take k).length=k:=by rw [List.length_take,rowI_len]; omega
  refine ixB TT_ok (m:=k) 902 rfl intSl rfl rfl rfl hkl (λ b o hbo=>?_)
  cases hbo
  refine ldB TT_ok (m:=k) 902 rfl intOne rfl (by rw [dg_at _ (by rw [digs_len]; exact hkl),digs_get hkl]) ?_
  refine ⟨.slice z.1 pts.length z.2,gc_mk λ _=>λ v' w g1 _ g3=>hpts v' w g1 g3,?_⟩
  refine ixL (R:=RwR) hp k [] (λ cs hcs=>?_)
  generalize pts.getD k []=ll at hdl hrs hcs ⊢
  obtain ⟨y,rfl,hy2⟩:=hcs
  refine ixs hy2 (dig pts i k) v0 ?_
  intro b28
  refine ap TT_ok 901 (AppT.of (bytes:=32) (sz:=2) (by kernel_rfl) (by kernel_rfl) (by kernel_rfl)) rfl rfl rfl rfl rfl rfl rfl (by rw [row_flat (sz:=3) (λ _=>rfl),hrl]; show (_+3)*33≤_; omega) (λ a3 n3 c3 e3=>?_)
  rw [row_flat (sz:=3) (λ _=>rfl),hrl] at e3
  have e3:n3*3=k*3+3:=e3
  refine wi ?_
  exact ⟨((a3,n3,c3),k+1),⟨⟨hkl,by show n3=k+1; omega⟩,by show pts.length - (k+1)<pts.length - k; omega⟩,gs rfl (by rw [hrs,List.map_append,List.flatten_append]; rfl) (λ v hF=>hF) (.inr rfl)⟩
 have hke:k=pts.length:=by omega
 subst hke
 rw [show (rowI pts i).take pts.length=rowI pts i from List.take_of_length_le (by rw [rowI_len]; exact Nat.le_refl _)]
 have hn2:n2=(rowI pts i).length:=by rw [rowI_len]; exact hn2
 subst hn2
 refine And.intro rfl ?_
 refine sealV (g:=valC) (l:=rowI pts i) 901 (λ b hb=>by
  have hb:b∈[q,l]:=hb
  rcases List.mem_cons.1 hb with rfl | hb
  ·exact ⟨910,_,by decide,rfl⟩
  ·rw [List.mem_singleton.1 hb]; exact ⟨911,_,by decide,rfl⟩) rfl rfl ?_
 refine goW TT_ok ?_
 refine yV TT_ok (rqJ q cap l rec) (none,es) (g:=λ z => .bool z.1.isNone) (Φ:=λ z=>RwF z.2) (λ z=>rwf_m z.2) (λ w v h1 h2 h3 h4 h5=>hy i es (a2,c2) hi hes hec w v (hle.trans h1) h3 h4 h5 h2.2 h2.1) ?_ (hl:=⟨rfl,rfl,trivial⟩)
 rintro ⟨j,es'⟩ hΦ
 dsimp only at hΦ
 refine cnd (λ h1=>?_) (λ h1=>?_)
 ·have hj:j≠none:=λ e=>by rw [e] at h1; exact Bool.noConfusion (show true=false from h1)
  have hfin:rowΨ pts cov cap j es':=by
   rcases hΦ with ⟨_,e,_⟩ | ⟨_,_,e,_⟩ | ⟨hc,hlt,e,e2⟩
   ·exact absurd e hj
   ·exact absurd e hj
   ·refine ⟨.inr e,?_⟩
    rw [e2,hes]
    exact (unc_take (by omega) (by rw [← hes,List.length_map]; omega)).symm
  exact ⟨(j,es'),rfl,hfin,rfl,⟨rfl,rfl,trivial⟩,λ hh _ hF=>hF.2⟩
 have hj:j=none:=by
  cases j with
  | none=>rfl
  | some _=>exact absurd (show false=true from h1) (by decide)
 subst hj
 have hes':es'.map (·.1)=uncF pts cov (i+1)∧es'.length≤cap:=by
  rcases hΦ with ⟨hc,_,e⟩ | ⟨hc,hlt,_,e⟩ | ⟨_,_,e,_⟩
  ·rw [e,unc_snoc,if_pos hc,List.append_nil]; exact ⟨hes,hec⟩
  ·refine ⟨by rw [e,hes,unc_snoc,if_neg (by rw [hc]; decide)],?_⟩
   have:=congrArg List.length e
   rw [List.length_map,List.length_append,List.length_map] at this
   rw [this]; exact hlt
  ·cases e
 obtain ⟨hes2,hec2⟩:=hes'
 clear hΦ h1
 refine wi ?_
 refine w_loopF TT_ok (λ s:CaS=>[(7,.v (.int .i64 ((s.K:Int) - 1)))]) (λ s=>(902,.e (bufE 3 1 (.slice (some ⟨bd,0,none⟩) pts.length pts.length) (dgC s.at')))::rqJ q cap l rec (none,es')) (λ _ v=>RwF es' v) ⟨pts.length,digs pts i⟩ (caI pts i) (λ s=>s.K) (λ _=>rwf_m es') ?_
 refine And.intro ⟨⟨Nat.le_refl _,digs_len pts i,λ j hj=>by rw [if_pos hj]; exact digs_get hj,by rw [suf_end]; omega⟩,gsJ ⟨rfl,rfl,rfl,trivial⟩ rfl (λ v hF=>hF.2)⟩ ?_
 rintro ⟨K,d⟩ ⟨hK,hdl,hd,hmod⟩
 dsimp only at hK hdl hd hmod ⊢
 refine cnd (λ h1=>?_) (λ h1=>?_)
 ·obtain ⟨k,rfl⟩:∃ k,K=k+1:=⟨K - 1,by omega⟩
  have hkl:k<pts.length:=by omega
  have hdk:d.getD k 0=dig pts i k:=by rw [hd k hkl,if_pos (by omega)]
  have hlt:=dig_lt hL.p (i:=i) hkl
  have hlk:=hL.n _ (getD_mem pts k [] hkl)
  have hdn:=λ h=>dig_next hL.p hkl hmod h
  have hdf:=λ h=>dig_full hL.p hkl hmod h
  have hdla:=λ h=>dig_last hL.p (i:=i) hkl h
  refine ixB TT_ok (m:=k) 902 rfl intSl rfl rfl (by omega) hkl (λ b o hbo=>?_)
  cases hbo
  refine ldB TT_ok (m:=k) 902 rfl intOne rfl (by rw [dg_at _ (by omega),hdk]) ?_
  refine wi ?_
  refine ixStB TT_ok (T:=3) (e:=3) (sz:=1) (m:=k) (new:=[.int .i64 ((dig pts i k+1:Nat):Int)]) 902 rfl intSl rfl rfl (by omega) hkl rfl rfl (by simp) (by simp [Value.cells]) rfl (SzIs.of (by kernel_rfl)) rfl (λ b o hbo=>?_)
  cases hbo
  rw [show (k*1+[(Value.int .i64 ((dig pts i k+1:Nat):Int))].length)=k*1+1 from rfl,dg_set d k (dig pts i k+1) (by omega)]
  refine rdWp rfl ?_
  refine regW TT_ok [0,1,4,6,2,5,3,7,8,9,10] [] [] [50,51] ?_
  refine hIx (e:=3) (sz:=1) (m:=k) intSl rfl rfl (by omega) hkl ?_
  refine ⟨.slice z.1 pts.length z.2,gc_mk λ _=>λ v' w g1 _ g3=>hpts v' w g1 g3,?_⟩
  refine hLd (p:=k) 902 rfl intOne rfl (by omega) (by rw [dg_at _ (by rw [List.length_set]; omega),set_getD _ _ _ _ (by omega),if_pos rfl]) ?_
  refine ixL (R:=RwR) hp k [] (λ cs hcs=>?_)
  generalize hqe:pts.getD k []=ll at hdn hdf hdla hlk hcs ⊢
  obtain ⟨y,rfl,hy2⟩:=hcs
  have hsd:(d.set k (dig pts i k+1)).length=pts.length:=by rw [List.length_set]; exact hdl
  refine cnd (λ h2=>?_) (λ h2=>?_)
  ·have h2:dig pts i k+1<ll.length:=by have h2:((dig pts i k+1:Nat):Int)<(ll.length:Int):=h2; omega
   have hin:i+1<sufN pts 0:=by
    by_cases he:i+1=sufN pts 0
    ·exact absurd h2 (hdla he)
    ·omega
   have hdg:d.set k (dig pts i k+1)=digs pts (i+1):=digs_next hsd λ j hj=>by
    rw [set_getD _ _ _ _ (by omega),hdn h2 j hj,hd j hj]
    by_cases c1:j=k
    ·rw [if_pos c1,if_neg (by omega),if_pos c1]
    ·rw [if_neg c1]
     by_cases c2:j<k
     ·rw [if_pos (by omega),if_pos c2]
     ·rw [if_neg (by omega),if_neg c2,if_neg c1]
   rw [hdg]
   refine cnd (λ h3=>?_) (λ h3=>?_)
   ·exfalso; omega
   ·exact ⟨⟨i+1,es'⟩,⟨⟨hin,hes2,hec2⟩,by show sufN pts 0 - (i+1)<sufN pts 0 - i; omega⟩,gs rfl rfl (λ v hF=>hF) (.inr rfl)⟩
  ·have h2:¬ dig pts i k+1<ll.length:=λ h=>h2 (by show ((dig pts i k+1:Nat):Int)<(ll.length:Int); omega)
   refine ixStB TT_ok (T:=3) (e:=3) (sz:=1) (m:=k) (new:=[.int .i64 ((0:Nat):Int)]) 902 rfl intSl rfl rfl (by omega) hkl rfl rfl (by simp) (by simp [Value.cells]) rfl (SzIs.of (by kernel_rfl)) rfl (λ b o hbo=>?_)
   cases hbo
   rw [show (k*1+[(Value.int .i64 ((0:Nat):Int))].length)=k*1+1 from rfl,dg_set (d.set k (dig pts i k+1)) k 0 (by omega)]
   refine wiE ((k:Int) - 1) (by omega) ?_
   refine ⟨⟨k,(d.set k (dig pts i k+1)).set k 0⟩,⟨⟨by show k≤pts.length; omega,by show ((d.set k _).set k 0).length=_; rw [List.length_set]; exact hsd,?_,hdf h2⟩,Nat.lt_succ_self k⟩,gs rfl rfl (λ v hF=>hF) (.inr rfl)⟩
   intro j hj
   show ((d.set k _).set k 0).getD j 0=_
   rw [set_getD _ _ _ _ (by omega),set_getD _ _ _ _ (by omega)]
   by_cases c1:j=k
   ·rw [if_pos c1]
    show 0=if j<k then _ else 0
    rw [if_neg (by omega)]
   ·rw [if_neg c1,if_neg c1,hd j hj]
    show _=if j<k then _ else 0
    by_cases c2:j<k
    ·rw [if_pos (by omega),if_pos c2]
    ·rw [if_neg (by omega),if_neg c2]
 ·have hK0:K=0:=by omega
  subst hK0
  have hiN:i+1=sufN pts 0:=by rw [Nat.mod_eq_of_lt hi] at hmod; omega
  refine cnd (λ h3=>?_) (λ h3=>?_)
  ·refine ⟨(none,es'),rfl,⟨.inl rfl,?_⟩,rfl,⟨rfl,rfl,trivial⟩,λ hh _ hF=>hF⟩
   show es'.map (·.1)=_
   rw [List.take_of_length_le,hes2,hiN]
   rw [← hiN,← hes2,List.length_map]; exact hec2
  ·exfalso; omega
end Go.Proofs.YtbmmnalndollkaaGreatDoor
set_option maxRecDepth 100000
namespace Go.Proofs.YtbmmnalndollkaaGreatDoor
open Go Go.Dx Go.RowKit
theorem c_rows (r:Rdy) (a:TA) (x z:AC) (n:Nat) (w0:World) (h0:View) (hv:VLe h0 (Full w0)):Calls Tryz.prog 77 #[.agg (grdC r a x z n).toArray] w0 (Ret w0 h0 λ u hh=>∃ b:Nat,u = .func (.func 122) #[] #[.pointer (some ⟨b,0,none⟩)]∧hh b=some (.cells (grdC r a x z n).toArray 91 (0,0))):=by
 refine entA (args:=[.agg (grdC r a x z n).toArray]) TT_ok [3] [] Tryz.func77 rfl Tryz.ntmps77 rfl rfl hv (λ _ _ _ hle hx=>hle _ _ hx) ?_
 intro b1
 refine shutG TT_ok (Φ:=λ h=>h b1=some (.cells (grdC r a x z n).toArray 91 (0,0))) 1 rfl (λ hh _ _ hb=>hb) ?_ (λ _ _ hle hx=>hle _ _ hx)
 exact ⟨b1,rfl,λ v _ hF=>hF.2⟩
section chn
variable {c:Cx} (hT:c.T.Ok c.P)
include hT
theorem mkCh {al:List Oper} {K:KR} {d t e m by':Nat} {dir:ChanDir} {k1:IntKind} {x:Operand} {ty:TypeId} {pos:String} {af:Array Edge} {r:List Oper} {L:SL} {B:BL} {F:FV} (kn:Nat) (hk:lkA B kn=none) (ht:c.P.underlying t=some (.chan dir e)) (hz:(c.P.info? e).map (·.bytes)=some by')
  (hx:rdS L [] none x=some (.v (.int k1 (m:Int)))) (hm:m≤4096) (hb:by'≤1000)
  (h:∀ q,runs c al true K r ((d,.v (.chan (some q)))::L) [] ((kn,.e (some q,ChanC m [] false))::B) F) (hd:Nat.blt d c.n=true:=by rfl) :
  true=true∧WP c al (⟨some d,.makeChan t x,ty,pos,af,none⟩::r) L [] B F K:=by
 refine ⟨rfl,⟨λ Q a w hn hp hD hS=>?_⟩⟩
 obtain ⟨i,hi,hby⟩:∃ i,c.P.info? e=some i∧i.bytes=by':=by
  cases hi:c.P.info? e with
  | none=>rw [hi] at hz; cases hz
  | some i=>rw [hi] at hz; exact ⟨i,rfl,Option.some.inj hz⟩
 have hrun:Ds c.P (fl L [] B) ⟨some d,.makeChan t x,ty,pos,af,none⟩ w λ v' w'=>v' = .chan (some w.heap.size)∧w'=w.alloc (.chan m #[] false 0 0 false):=by
  intro ρ hρ
  unfold Dx.Does
  have hmm:by'*m≤1000*4096:=Nat.mul_le_mul hb hm
  have hr:=Go.Conc.run_makeChan (w:=w) ht hi k1 m (by omega) (by
   rw [hby]
   have:(by':Int)*(m:Int)=((by'*m:Nat):Int):=by simp
   omega)
  have:(execOp ρ ⟨some d,.makeChan t x,ty,pos,af,none⟩).run c.P w = .ok (.value (.chan (some w.heap.size))) (w.alloc (.chan m #[] false 0 0 false)):=by
   simp only [execOp,hρ x (by simp [Op.operands]) _ (ev_sl hx rfl),Sem.run_bind,hr,Result.andThen_ok,Sem.run_pure]
  rw [this]
  exact ⟨rfl,rfl⟩
 refine s_ds hD.fr hrun hd ?_
 rintro v' w' a' ⟨rfl,rfl⟩ hF'
 refine (runs_sound hT r _ _ _ _ (h w.heap.size) inv_nil).run Q a' _ hn hp ⟨by rw [fl_congr (nil_dv hk _)]; exact hF',inv_nil⟩ ⟨hS.st.new _ (C:=ChanC m [] false) ⟨0,0,rfl⟩,λ q g b o cs hq=>?_⟩
 rcases List.mem_cons.1 hq with hq | hq
 ·cases hq
 ·exact hS.bk _ _ _ _ _ hq
theorem clCh {al:List Oper} {K:KR} {t cap q:Nat} {buf:List Value} {x:Operand} {ty:TypeId} {pos:String} {af:Array Edge} {r:List Oper} {L:SL} {B:BL} {F:FV} (k:Nat) (hB:lkA B k=some (.e (some q,ChanC cap buf false)))
  (hx:rdS L [] none x=some (.v (.chan (some q)))) (h:setAK B k (.e (some q,ChanC cap buf true)) λ B'=>runs c al true K r L [] B' F) :
  true=true∧WP c al (⟨none,.call ⟨.builtin .close,⟨[x]⟩,⟨[t]⟩⟩,ty,pos,af,none⟩::r) L [] B F K:=by
 refine ⟨rfl,⟨λ Q ac w hn hp hD hS=>?_⟩⟩
 obtain ⟨i,hi,_⟩:=lkE_ix hB
 obtain ⟨s,rc,hq⟩:∃ s rc,w.heap[q]?=some (.chan cap buf.toArray false s rc false):=hS.st.at hi
 have hlt:q<w.heap.size:=(Array.getElem?_eq_some_iff.1 hq).1
 have hrun0:=Go.run_close_open (P:=c.P) #[t] ty hq
 have ex:ac.eval x = .chan (some q):=hD.fr.ev (ev_sl hx rfl)
 refine wpM_plain rfl λ K' hK=>opM_of_does ?_
 have hkeep:Keep [q] w { w with heap:=w.heap.setIfInBounds q (.chan cap buf.toArray true s rc false) }:=keep_chan (w:=w)
 obtain ⟨B',hr,hS',hdv⟩:=setAK_own hB h hS hkeep (show ChanC cap buf true ({ w with heap:=w.heap.setIfInBounds q (.chan cap buf.toArray true s rc false) }:World).heap[q]? from ⟨s,rc,by simp [hlt]⟩)
 unfold Dx.Does
 have hrun:(execOp ac.eval ⟨none,.call ⟨.builtin .close,⟨[x]⟩,⟨[t]⟩⟩,ty,pos,af,none⟩).run c.P w = .ok (.value (.tuple #[])) { w with heap:=w.heap.setIfInBounds q (.chan cap buf.toArray true s rc false) }:=by
  simp only [execOp,resolve,List.map_toArray,List.map_cons,List.map_nil,ex,Sem.run_bind,Sem.run_pure,Result.andThen_ok,invoke,builtin,hrun0]
 rw [hrun]
 exact hK _ _ ((runs_sound hT r _ _ _ _ hr inv_nil).run Q _ _ hn hp ⟨by rw [fl_congr hdv]; exact hD.fr,inv_nil⟩ hS')
open Go.Conc in
theorem cpSend {i d t cap q:Nat} {buf:List Value} {x y:Operand} {u zv:Value} {ty:TypeId} {pos:String} {af:Array Edge} {rest:List Oper} {L:SL} {B:BL} {F:FV} {kn:KN} {kx:Nat→KN} {kr:KN} (k:Nat) (hB:lkA B k=some (.e (some q,ChanC cap buf false))) (hz:∀ w,(zeroValue t).run c.P w = .ok zv w)
  (hx:rdS L [] none x=some (.v (.chan (some q)))) (hy:rdS L [] none y=some (.v u)) (hn:Nat.blt d c.n=true)
  (h1:buf.length<cap→setAK B k (.e (some q,ChanC cap (buf++[u]) false)) λ B'=>runs c (⟨some d,.select #[⟨x,some y,t⟩] false,ty,pos,af,none⟩::rest) true (λ L I B F=>pushK I L λ L=>kn L B F) rest ((d,.v (.tuple #[.int .i64 0,.bool false]))::L) [] B' F)
  (h2:¬ buf.length<cap→runs c (⟨some d,.select #[⟨x,some y,t⟩] false,ty,pos,af,none⟩::rest) true (λ L I B F=>pushK I L λ L=>kn L B F) rest ((d,.v (.tuple #[.int .i64 (-1),.bool false]))::L) [] B F) :
  CP c (.region i ⟨⟨some d,.select #[⟨x,some y,t⟩] false,ty,pos,af,none⟩::rest⟩ false) L B F kn kx kr:=by
 by_cases hlt:buf.length<cap
 ·obtain ⟨j,hj,hset⟩:=lkE_ix hB
  obtain ⟨B',hr,h3,h4,h5⟩:=hset (h1 hlt)
  refine cpComm hT (v := .tuple #[.int .i64 0,.bool false]) B' rfl hn rfl (λ cc h=>by cases h) (λ w ρ=>rfl) (λ a w hD hS=>?_) (dvO_setE hB h4) hr
  obtain ⟨s,rc,hq⟩:∃ s rc,w.heap[q]?=some (.chan cap buf.toArray false s rc false):=hS.st.at hj
  have hcm:=comm_send (P:=c.P) (ρ:=a.eval) (d:=some d) (ty:=ty) (pos:=pos) (af:=af) (u:=u) (hD.fr.ev (ev_sl hx rfl)) (hD.fr.ev (ev_sl hy rfl)) hz hq
  rw [if_pos hlt] at hcm
  refine ⟨_,hcm,⟨by rw [h3]; exact hS.st.write hj keep_chan ⟨s+1,rc,Go.Conc.heap_setChan _ _ _ _ _ _ _ _ (Array.getElem?_eq_some_iff.1 hq).1⟩,λ q' g b o cs hm=>?_⟩⟩
  rcases h5 _ hm with hm | hm
  ·exact hS.bk _ _ _ _ _ hm
  ·cases hm
 ·refine cpComm hT (v := .tuple #[.int .i64 (-1),.bool false]) B rfl hn rfl (λ cc h=>by cases h) (λ w ρ=>rfl) (λ a w hD hS=>?_) (λ _=>rfl) (h2 hlt)
  obtain ⟨j,hj,hset⟩:=lkE_ix hB
  obtain ⟨s,rc,hq⟩:∃ s rc,w.heap[q]?=some (.chan cap buf.toArray false s rc false):=hS.st.at hj
  have hcm:=comm_send (P:=c.P) (ρ:=a.eval) (d:=some d) (ty:=ty) (pos:=pos) (af:=af) (u:=u) (hD.fr.ev (ev_sl hx rfl)) (hD.fr.ev (ev_sl hy rfl)) hz hq
  rw [if_neg hlt] at hcm
  exact ⟨_,hcm,hS⟩
open Go.Conc in
theorem cpRecv {i d t e cap q:Nat} {dir:ChanDir} {buf:List Value} {x:Operand} {zv:Value} {ty:TypeId} {pos:String} {af:Array Edge} {rest:List Oper} {L:SL} {B:BL} {F:FV} {kn:KN} {kx:Nat→KN} {kr:KN} (k:Nat) (hB:lkA B k=some (.e (some q,ChanC cap buf true))) (ht:c.P.underlying t=some (.chan dir e)) (hz:∀ w,(zeroValue e).run c.P w = .ok zv w)
  (hx:rdS L [] none x=some (.v (.chan (some q)))) (hn:Nat.blt d c.n=true)
  (h1:buf=[]→runs c (⟨some d,.recv t x true,ty,pos,af,none⟩::rest) true (λ L I B F=>pushK I L λ L=>kn L B F) rest ((d,.v (.tuple #[zv,.bool false]))::L) [] B F)
  (h2:∀ u l,buf=u::l→setAK B k (.e (some q,ChanC cap l true)) λ B'=>runs c (⟨some d,.recv t x true,ty,pos,af,none⟩::rest) true (λ L I B F=>pushK I L λ L=>kn L B F) rest ((d,.v (.tuple #[u,.bool true]))::L) [] B' F) :
  CP c (.region i ⟨⟨some d,.recv t x true,ty,pos,af,none⟩::rest⟩ false) L B F kn kx kr:=by
 cases hb:buf with
 | nil =>
  refine cpComm hT (v := .tuple #[zv,.bool false]) B rfl hn rfl (λ cc h=>by cases h) (λ w ρ=>rfl) (λ a w hD hS=>?_) (λ _=>rfl) (h1 hb)
  obtain ⟨j,hj,hset⟩:=lkE_ix hB
  obtain ⟨s,rc,hq⟩:∃ s rc,w.heap[q]?=some (.chan cap buf.toArray true s rc false):=hS.st.at hj
  rw [hb] at hq
  have hcm:=comm_recv (P:=c.P) (ρ:=a.eval) (d:=some d) (ty:=ty) (pos:=pos) (af:=af) ht (hD.fr.ev (ev_sl hx rfl)) hz hq
  exact ⟨_,hcm,hS⟩
 | cons u l =>
  obtain ⟨j,hj,hset⟩:=lkE_ix hB
  obtain ⟨B',hr,h3,h4,h5⟩:=hset (h2 u l hb)
  refine cpComm hT (v := .tuple #[u,.bool true]) B' rfl hn rfl (λ cc h=>by cases h) (λ w ρ=>rfl) (λ a w hD hS=>?_) (dvO_setE hB h4) hr
  obtain ⟨s,rc,hq⟩:∃ s rc,w.heap[q]?=some (.chan cap buf.toArray true s rc false):=hS.st.at hj
  rw [hb] at hq
  have hcm:=comm_recv (P:=c.P) (ρ:=a.eval) (d:=some d) (ty:=ty) (pos:=pos) (af:=af) ht (hD.fr.ev (ev_sl hx rfl)) hz hq
  refine ⟨_,hcm,⟨by rw [h3]; exact hS.st.write hj keep_chan ⟨s,rc+1,Go.Conc.heap_setChan _ _ _ _ _ _ _ _ (Array.getElem?_eq_some_iff.1 hq).1⟩,λ q' g b o cs hm=>?_⟩⟩
  rcases h5 _ hm with hm | hm
  ·exact hS.bk _ _ _ _ _ hm
  ·cases hm
end chn
theorem zero_rows:∀ w,(zeroValue 49).run Tryz.prog w = .ok (.slice none 0 0) w:=by
 intro w
 obtain ⟨inf,z,hi,hz,hzc⟩:∃ inf z,Tryz.prog.info? 49=some inf∧inf.zero=some z∧z = .slice none 0 0:=by
  have h:(Tryz.prog.info? 49).bind (·.zero)=some (.slice none 0 0):=by kernel_rfl
  cases hi:Tryz.prog.info? 49 with
  | none=>rw [hi] at h; cases h
  | some inf=>rw [hi] at h; exact ⟨inf,_,rfl,h,rfl⟩
 subst hzc
 simp [zeroValue,typeInfo,hi,hz]
end Go.Proofs.YtbmmnalndollkaaGreatDoor
set_option maxRecDepth 100000
namespace Go.Proofs.YtbmmnalndollkaaGreatDoor
open Go Go.Dx Go.RowKit
def capS (c:Int):Nat:=min c.toNat 4096
def TT31:Go.Dx.Tab:=⟨(139,⟨.ot,1,false,[.chan none]⟩)::TT.tys,TT.fs⟩
theorem TT31_ok:Go.Dx.Tab.Ok Tryz.prog TT31:=⟨by kernel_rfl,by kernel_rfl,by kernel_rfl⟩
structure FdS where
 a:Option Addr
 n:Nat
 c:Nat
 e1:List RwQ
 e2:List RwQ
def fndE (res:List (List Val)) (B:BL) (F:FV) (us:List Value):Prop:=∃ y:AC,tupV us = .slice y.1 res.length y.2∧∀ v,F v→LR 49 1 RwR v y.1 y.2 res
set_option maxHeartbeats 16000000 in
theorem c_found (r:Rdy) (a:TA) (x z:AC) (pts:List (List Val)) (cnt:Int) (hL:GrL pts) (hpl:pts.length≤1000000) (hsm:sufN pts 0≤4096) (hlc:∀ l∈r.ls,l.cs.length=pts.length) (hcb:∀ l∈r.ls,∀ c∈l.cs,CB c) (hvb:∀ q∈pts,∀ v∈q,valB v) (w0:World) (h0:View) (hv:VLe h0 (Full w0))
  (hls:LR 75 2 LinR h0 x.1 x.2 r.ls) (hp:LR 49 1 RwR h0 z.1 z.2 pts) :
  Calls Tryz.prog 42 #[.agg (grdC r a x z pts.length).toArray,.int .i64 cnt] w0 (Ret w0 h0 λ u hh=>∃ y:AC,u = .slice y.1 (gapS pts (covR r) cnt).length y.2∧LR 49 1 RwR hh y.1 y.2 (gapS pts (covR r) cnt)):=by
 have hcap:(uncF pts (covR r) (sufN pts 0)).take (capS cnt)=gapS pts (covR r) cnt:=gap_cap cnt hsm
 generalize gapS pts (covR r) cnt=res at hcap ⊢
 have hcn:(if (4096:Int)<(if cnt<0 then 0 else cnt) then 4096 else (if cnt<0 then 0 else cnt))=((capS cnt:Nat):Int):=by unfold capS; split <;> split <;> omega
 have hE:∀ (B:BL) (F:FV) (us:List Value) (w:World),fndE res B F us→Sx ⟨Tryz.prog,TT31,.wp,34,w0,h0,[],λ _=>False,[12,13],[]⟩ B F w→(Ret w0 h0 λ u hh=>∃ y:AC,u = .slice y.1 res.length y.2∧LR 49 1 RwR hh y.1 y.2 res) (.returned (tupV us)) w:=by
  rintro B F us w ⟨y,h1,h2⟩ hS
  rw [h1]
  exact hS.st.ret (λ _ _ hle ⟨b,e,hs⟩=>⟨b,e,LR.mono (R:=RwR) rwR_m hle hs⟩) λ hh hF=>⟨y,rfl,h2 hh hF⟩
 refine entDM (E:=fndE res) (args:=[.agg (grdC r a x z pts.length).toArray,.int .i64 cnt]) TT31_ok [12,13] [] 1 Tryz.func42 rfl Tryz.ntmps42 rfl rfl hv hE ?_
 intro b2 a0 w hD hS
 refine c_scope (c_seq (hand (c:=⟨Tryz.prog,TT31,.wp,34,w0,h0,[],λ _=>False,[12,13],[]⟩) TT31_ok hD hS ?_ (λ _ _ _ h _ _=>h.elim)))
 refine ⟨if cnt<0 then 0 else cnt,rfl,?_⟩
 refine ⟨((capS cnt:Nat):Int),hcn,?_⟩
 refine mkCh TT31_ok (t:=139) (e:=49) (m:=capS cnt) (by':=24) (dir := .both) 910 rfl (by kernel_rfl) (by kernel_rfl) rfl (by unfold capS; omega) (by decide) (λ q=>?_)
 intro b5 a1 w1 hD1 hS1
 refine n_then (c_seq (c_label (n_then ?_)))
 refine c_seq (c_seq (hand (c:=⟨Tryz.prog,TT31,.wp,34,w0,h0,[],λ _=>False,[12,13],[]⟩) TT31_ok hD1 hS1 ?_ (λ _ _ _ h _ _=>h.elim)))
 refine And.intro rfl ?_
 refine shutW 5 (Φ:=λ h=>h b5=some (.cells #[.chan (some q)] 139 (0,0))) (λ hh _ _ hb=>hb) ?_ (λ _ _ hle hx=>hle _ _ hx)
 refine shutW 2 (Φ:=λ h=>h b2=some (.cells (grdC r a x z pts.length).toArray 91 (0,0))) (λ hh _ _ hb=>hb) ?_ (λ _ _ hle hx=>hle _ _ hx)
 refine goW TT31_ok ?_
 refine ⟨grdC r a x z pts.length,gc_mk λ _=>⟨rfl,λ v' w' g1 g2 g3 j u hj=>?_⟩,?_⟩
 ·rw [add_mk,cell_row (g3 _ _ g2.2),Nat.zero_add]; exact hj
 refine cA TT31_ok (λ w v h1 h2 h3=>c_rows r a x z pts.length w v h3) (λ _ _ _ hle hx=>hle _ _ hx) (λ be=>?_)
 intro a2 w2 hD2 hS2
 refine n_then (wp_block ?_)
 have e14:a2.eval (.tmp 14) = .func (.func 122) #[] #[.pointer (some ⟨be,0,none⟩)]:=hD2.fr.kv (t:=14) rfl
 have e2:a2.tmps.getD 2 undef = .pointer (some ⟨b2,0,none⟩):=hD2.fr.kv (t:=2) rfl
 have e5:a2.tmps.getD 5 undef = .pointer (some ⟨b5,0,none⟩):=hD2.fr.kv (t:=5) rfl
 have hsz:a2.tmps.size=34:=hD2.fr.sz
 have ha2:a2={ a2 with defers:=([]:List Nat).map mkD }:=act_nil hD2.fr.df
 rw [ha2]
 refine rangeV (c:=⟨Tryz.prog,TT31,.wp,34,w0,h0,[],λ _=>False,[12,13],[]⟩) (Φ:=λ es=>RwF es) (λ es=>rwf_m es) (chJ q (capS cnt)) [] 911 912 (([]:List Nat).map mkD) (Ψ:=λ j es=>rowΨ pts (covR r) (capS cnt) j es) (lb:=[.pointer (some ⟨be,0,none⟩)]) hD2 hS2 e14 (TT31_ok.call rfl) ⟨rfl,trivial⟩ rfl (λ _ _=>rfl) (λ _=>rfl) (λ _=>rfl) ?_ ?_
 ·intro rec l hr1 hr2 hr3 hr4 hr5 hr6 w8 v g1 g2 g3 g4 g5
  refine (c_rows1 pts (covR r) q (capS cnt) l rec v hL hpl hsm ?_ be r a x z w8 v (λ _ _ h=>h) g3 g4 g5 g2.2 (LR.mono (R:=RwR) rwR_m g1 hp)).mono ?_
  ·intro i es y hi hes hec w9 v9 q1 q3 q4 q5 hsl hrw
   have hl9:w9.heap[l]?=some (.loop (recP rec none)):=q5.own (some l,LoopC (recP rec none)) (by unfold rqJ; rw [oes_JL]; exact List.mem_append_right _ (List.mem_singleton.2 rfl))
   refine ⟨_,_,_,_,run_yield1 (r:=recP rec none) hl9 hr4,?_⟩
   obtain ⟨t15,tx15⟩:=set_tmp (v := .slice y.1 (rowI pts i).length y.2) hsz (show 15<34 by decide)
   have hb2:v9 b2=some (.cells (grdC r a x z pts.length).toArray 91 (0,0)):=q1 _ _ g2.1.2
   have hb5:v9 b5=some (.cells #[.chan (some q)] 139 (0,0)):=q1 _ _ g2.1.1.2
   have hls9:=LR.mono (R:=LinR) linR_m (g1.trans q1) hls
   have hcv:covR r (rowI pts i)=r.ls.any (covS (rowI pts i)):=rfl
   have hrl:(rowI pts i).length=pts.length:=rowI_len pts i
   have hrv:∀ v∈rowI pts i,valB v:=λ v hv=>by
    obtain ⟨qq,hq,hvq⟩:=rowI_mem hL.p v hv
    exact hvb qq hq v hvq
   refine roundV (Φ:=λ es=>RwF es) (λ es=>rwf_m es) TT31_ok (chJ q (capS cnt)) 911 hr1 hr2 es (Ψ:=λ j es'=>rowΦ pts (covR r) (capS cnt) i es j es') [1000007] [] [(15,.v (.slice y.1 (rowI pts i).length y.2)),(2,.v (.pointer (some ⟨b2,0,none⟩))),(5,.v (.pointer (some ⟨b5,0,none⟩)))] (n:=34) q3 q4 q5 (by rw [Array.size_setIfInBounds,show (recP rec none).tmps=a2.tmps from hr3]; exact hsz) ?_ ?_
   ·intro t u hu
    show ((recP rec none).tmps.setIfInBounds 15 (.slice y.1 (rowI pts i).length y.2)).getD t undef=u
    rw [show (recP rec none).tmps=a2.tmps from hr3]
    by_cases c15:t=15
    ·subst c15; rw [t15]; exact Option.some.inj hu
    rw [tx15 t c15]
    by_cases c2:t=2
    ·subst c2; rw [e2]; exact Option.some.inj hu
    by_cases c5:t=5
    ·subst c5; rw [e5]; exact Option.some.inj hu
    have hn:lkA [(15,SV.v (.slice y.1 (rowI pts i).length y.2)),(2,.v (.pointer (some ⟨b2,0,none⟩))),(5,.v (.pointer (some ⟨b5,0,none⟩)))] t=none:=by
     rw [lkA_ne (Ne.symm c15),lkA_ne (Ne.symm c2),lkA_ne (Ne.symm c5)]; rfl
    rw [kv_none hn] at hu; cases hu
   ·unfold endV
    generalize LoopC { rec with state := .busy }=LC
    rw [hr5]
    refine ⟨rfl,?_⟩
    show vcC _ rec.body _ _ _ _ _ _
    rw [hr6]
    refine ⟨grdC r a x z pts.length,gc_mk λ _=>⟨rfl,λ v' w' p1 _ p3 j u hj=>?_⟩,?_⟩
    ·rw [add_mk,cell_row (p3 _ _ (p1 _ _ hb2)),Nat.zero_add]; exact hj
    refine cb (λ w hw=>c_covered r a x z y pts.length (rowI pts i) (λ l hl=>by rw [hlc l hl,hrl]) hcb hrv w v9 hw hls9 hsl) ?_
    rw [← hcv]
    refine cnd (λ h1=>?_) (λ h1=>?_)
    ·exact ⟨es,.inl ⟨h1,rfl,rfl⟩,rfl,⟨rfl,rfl,trivial⟩,λ hh hle _=>rwf_m es _ _ hle hrw⟩
    refine ⟨.chan (some q),gc_mk λ _=>λ v' w' p1 _ p3=>by rw [cell_row (p3 _ _ (p1 _ _ hb5))]; rfl,?_⟩
    refine cpSend TT31_ok (cap:=capS cnt) (q:=q) (buf:=es.map rwV) (u := .slice y.1 (rowI pts i).length y.2) 910 rfl zero_rows rfl rfl rfl (λ hlt=>?_) (λ hlt=>?_)
    ·refine cnd (λ _=>?_) (λ h=>absurd h (by decide))
     refine ⟨es++[(rowI pts i,y)],.inr (.inl ⟨by simpa using h1,by simpa using hlt,rfl,by rw [List.map_append]; rfl⟩),rfl,⟨?_,rfl,trivial⟩,λ hh hle _=>rwf_snoc (rwf_m es _ _ hle hrw) (hsl.monoF hle)⟩
     show some (OB.e (some q,ChanC (capS cnt) (es.map rwV++[.slice y.1 (rowI pts i).length y.2]) false))=some (OB.e (some q,ChanC (capS cnt) ((es++[(rowI pts i,y)]).map rwV) false))
     rw [List.map_append]; rfl
    ·refine cnd (λ h=>absurd h (by decide)) (λ _=>?_)
     exact ⟨es,.inr (.inr ⟨by simpa using h1,by simpa using hlt,rfl,rfl⟩),rfl,⟨rfl,rfl,trivial⟩,λ hh hle _=>rwf_m es _ _ hle hrw⟩
  ·rintro e w9 ⟨u,z,rfl,⟨_,h1⟩,h3⟩
   exact ⟨u,z,rfl,h1,h3⟩
 ·intro j es D w8 hΨ hDk hSk
  obtain ⟨hj,hes⟩:=hΨ
  rw [hcap] at hes
  have hDm:Dn ⟨Tryz.prog,TT31,.df [mkD D],34,w0,h0,[],λ _=>False,[33,1000011],[]⟩ _ [] _ a2:=⟨hDk.fr,hDk.inv⟩
  have hSm:Sx ⟨Tryz.prog,TT31,.df [mkD D],34,w0,h0,[],λ _=>False,[33,1000011],[]⟩ _ _ w8:=⟨hSk.st,hSk.bk⟩
  rcases hj with rfl | rfl
  first | refine n_block (n_then ?_) | skip
  all_goals first | refine wp_exit (x_here (n_then ?_)) | skip
  all_goals
   refine handF (c:=⟨Tryz.prog,TT31,.df [mkD D],34,w0,h0,[],λ _=>False,[33,1000011],[]⟩) TT31_ok rfl hDm hSm ?_ (λ _ h=>h)
   refine ⟨.chan (some q),gc_mk λ _=>λ v' w' p1 p2 p3=>by rw [cell_row (p3 _ _ p2.1.1.1.2)]; rfl,?_⟩
   refine clCh TT31_ok 910 rfl rfl ?_
   refine ⟨.chan (some q),gc_mk λ _=>λ v' w' p1 p2 p3=>by rw [cell_row (p3 _ _ p2.1.1.1.2)]; rfl,?_⟩
   refine nilC 900 49 1 ?_
   refine w_loopF TT31_ok (λ s:FdS=>[(7,.v (.slice s.a s.n s.c))]) (λ s=>[(900,.e (bufE 49 1 (.slice s.a s.n s.c) (s.e1.map rwC).flatten)),(910,.e (some q,ChanC (capS cnt) (s.e2.map rwV) true)),(912,.e (some D,DefC))]) (λ _ v=>RwF es v) ⟨none,0,0,[],es⟩ (λ s=>s.e1++s.e2=es∧s.n=s.e1.length) (λ s=>s.e2.length) (λ _=>rwf_m es) ?_
   refine And.intro ⟨⟨rfl,rfl⟩,gsJ ⟨rfl,rfl,rfl,trivial⟩ rfl (λ v hF=>hF.2)⟩ ?_
   rintro ⟨a3,n3,c3,e1,e2'⟩ ⟨h12,hn3⟩
   dsimp only at h12 hn3 ⊢
   refine cpRecv TT31_ok (e:=49) (dir := .both) 910 rfl (by kernel_rfl) zero_rows rfl rfl (λ hnil=>?_) (λ u l' hu=>?_)
   ·have hnil:e2'=[]:=by
     cases e2' with
     | nil=>rfl
     | cons p l=>cases hnil
    subst hnil
    rw [List.append_nil] at h12
    subst h12
    subst hn3
    refine cnd (λ h=>absurd h (by decide)) (λ _=>?_)
    refine And.intro rfl ?_
    refine sealW (g:=rwC) (l:=e1) 900 rfl rfl ?_
    refine goW TT31_ok ?_
    intro a9 w9 hD9 hS9
    show LeavesInM Fence.wide 1 Tryz.prog _ a9.tmps _ ([D].map mkD) .returning w9
    obtain ⟨hDf,_⟩:=toG hD9 hS9 [(4,.v (.slice a3 e1.length c3))] [(910,.e (some q,ChanC (capS cnt) (([]:List RwQ).map rwV) true))] (λ v=>RwF e1 v∧SlC 49 1 (flatR rwC) v (.slice a3 e1.length c3) e1) (Mono.and (rwf_m e1) Mono.slF) (gsJ ⟨rfl,trivial⟩ rfl (λ v hF=>hF))
    refine retMs (c:=⟨Tryz.prog,TT31,.wp,34,w0,h0,[],λ _=>False,[12,13],[]⟩) TT31_ok (rs:=[.tmp 4]) (E:=fndE res) (B:=[(910,.e (some q,ChanC (capS cnt) (([]:List RwQ).map rwV) true))]) (L:=[(4,.v (.slice a3 e1.length c3))]) (F:=λ v=>RwF e1 v∧SlC 49 1 (flatR rwC) v (.slice a3 e1.length c3) e1) rfl (no_K rfl) ?_ ⟨hDf.fr,hDf.inv⟩ (λ vs w h1 h2=>hE _ _ vs w h1 h2) [D] w9 hS9.st
    refine ⟨(a3,c3),by rw [← hes,List.length_map]; rfl,λ v hF=>?_⟩
    rw [← hes]
    exact rwF_lr hF.2 rfl hF.1
   ·obtain ⟨p,e3,rfl⟩:∃ p e3,e2'=p::e3:=by
     cases e2' with
     | nil=>cases hu
     | cons p l=>exact ⟨p,l,rfl⟩
    obtain ⟨rfl,rfl⟩:rwV p=u∧e3.map rwV=l':=by
     rw [List.map_cons] at hu
     exact ⟨(List.cons.inj hu).1,(List.cons.inj hu).2⟩
    refine cnd (λ _=>?_) (λ h=>absurd h (by decide))
    intro b31
    have hel:e1.length≤es.length:=by rw [← h12,List.length_append]; omega
    have hel2:es.length≤4096:=by
     have:=congrArg List.length hes
     rw [List.length_map] at this
     rw [this,← hcap,List.length_take]
     unfold capS; omega
    refine ap TT31_ok 900 (AppT.of (bytes:=24) (sz:=0) (by kernel_rfl) (by kernel_rfl) (by kernel_rfl)) rfl rfl rfl rfl rfl rfl rfl (by rw [row_flat (sz:=1) (λ _=>rfl)]; show (_+1)*25≤_; omega) (λ a4 n4 c4 e4=>?_)
    rw [row_flat (sz:=1) (λ _=>rfl)] at e4
    have e4:n4*1=e1.length*1+1:=e4
    refine ⟨⟨a4,n4,c4,e1++[p],e3⟩,⟨⟨by show (e1++[p])++e3=es; rw [List.append_assoc]; exact h12,by show n4=(e1++[p]).length; rw [List.length_append]; show n4=e1.length+1; omega⟩,Nat.lt_succ_self _⟩,gs rfl (by rw [rw_flat]; rfl) (λ v hF=>hF) (.inr rfl)⟩
end Go.Proofs.YtbmmnalndollkaaGreatDoor
set_option maxRecDepth 100000
namespace Go.Proofs.YtbmmnalndollkaaGreatDoor
open Go Go.Dx Go.RowKit
set_option maxHeartbeats 2000000 in
theorem c_Gaps (r:Rdy) (a:TA) (x:AC) (cnt:Int) (hb:ScK r) (w0:World) (h0:View) (hv:VLe h0 (Full w0)) (hr:RdyH h0 r a x) :
  Calls Tryz.prog 13 #[.agg (rdyC r a x).toArray,.int .i64 cnt] w0 (Ret w0 h0 λ u hh=>∃ z:AC,u=gpV (gpS r cnt) z∧LR 49 1 RwR hh z.1 z.2 (gpS r cnt).1):=by
 have hg:=lay_gr hr hb
 have hok:=lay_ok hr hb
 have hcs:=hb.b.c
 refine entA (args:=[.agg (rdyC r a x).toArray,.int .i64 cnt]) TT_ok [] [] Tryz.func13 rfl Tryz.ntmps13 rfl rfl hv (λ z=>LR.m (R:=RwR) rwR_m z _) ?_
 intro b2
 by_cases he:layE r≠0
 ·refine cb (λ w hw=>c_layN (a:=a) (x:=x) he hb w h0 hw hr) ?_
  intro b6
  refine cnd (λ h=>?_) (λ h=>absurd (by simpa using h) (by simpa using he))
  have e:gpS r cnt=([],layE r):=if_pos he
  rw [e]
  exact ⟨(none,0),rfl,λ v _ _=>LR.nil v⟩
 have he:layE r=0:=by simpa using he
 have eN:smaS (layL r)=false→gpS r cnt=([],5):=λ h=>by unfold gpS; rw [if_neg (by rw [he]; decide),if_pos h]
 have eY:smaS (layL r)=true→gpS r cnt=(gapS (layL r) (covR r) cnt,0):=λ h=>by unfold gpS; rw [if_neg (by rw [he]; decide),if_neg (by rw [h]; decide)]
 generalize gpS r cnt=p at eN eY ⊢
 have hL:=lay_len hb he
 have hpl:(layL r).length≤1000000:=by rw [layL,layN_len]; exact hb.b.b.ins
 refine cA TT_ok (λ w v h1 h2 h3=>c_layK (a:=a) (x:=x) he hb w v h3 (rdy_m r a x _ _ h1 hr)) (λ z=>LR.m (R:=RwR) rwR_m z _) (λ z=>?_)
 intro b6
 refine cnd (λ h=>absurd rfl h) (λ _=>?_)
 generalize layL r=pts at *
 refine cf (λ w v h1 h2 h3=>c_small31 r a x z pts hL w v h3 h2.2) ?_
 refine cnd (λ h=>?_) (λ h=>?_)
 ·rw [eN (by simpa using h)]
  exact ⟨(none,0),rfl,λ v _ _=>LR.nil v⟩
 have hsm:smaS pts=true:=by simpa using h
 rw [eY hsm]
 refine cA TT_ok (λ w v h1 h2 h3=>c_found r a x z pts cnt hL hpl (sma_le hsm) hg.l hcs hg.v w v h3 (LR.mono (R:=LinR) linR_m h1 hr.l) h2.2) (λ y=>LR.m (R:=RwR) rwR_m y _) (λ y=>?_)
 exact ⟨y,rfl,λ v _ hF=>hF.2⟩
end Go.Proofs.YtbmmnalndollkaaGreatDoor
set_option maxRecDepth 100000
namespace Go.Proofs.YtbmmnalndollkaaGreatDoor
open Go Go.Dx Go.RowKit
def tIn:Tst:=⟨6,numX 3,numX 9,false,false⟩
def cIn:Cel:=⟨false,false,[tIn]⟩
def sIn:List UInt8:=[91,51,46,46,57,93]
def exT31:Tab:=⟨[116],[(⟨[97],1,none,0,0⟩,[])],[(⟨[111],1,none,0,0⟩,[])],2,0,[([[60,32,53]],[[49]]),([sIn],[[50]])]⟩
def exR31:Rdy:=⟨exT31,[⟨[cLt 5],[numX 1]⟩,⟨[cIn],[numX 2]⟩]⟩
theorem hlex_in:lexS sIn=([⟨4,[91],0,0⟩,⟨2,[],3,1⟩,⟨4,[46,46],0,2⟩,⟨2,[],9,4⟩,⟨4,[93],0,5⟩],0,0):=by rw [lex_run _ (by decide)]; decide +kernel
theorem hparse_in:parseC sIn=(cIn,0,0):=by unfold parseC; rw [hlex_in]; kernel_rfl
theorem make_v31:makeV exT31=exR31:=by
 show Rdy.mk exT31 [⟨[(parseC [60,32,53]).1],[(parseT [49]).1]⟩,⟨[(parseC sIn).1],[(parseT [50]).1]⟩]=_
 rw [hparse_5,hparse_in,hparse_1,hparse_2]; rfl
theorem right_in:rightC cIn=true:=by kernel_rfl
theorem typ_in:typC cIn 1 [⟨[97],1,none,0,0⟩]=0:=by
 have hk:∀ n:Int,0≤n→kindT [⟨[97],1,none,0,0⟩] (numX n)=(1,0):=λ n h=>by
  rw [kindT,if_pos (right_num h)]; unfold numX KX; rw [kindS]; rfl
 rw [typC,if_neg (by rw [right_in]; decide)]
 show typTL 1 _ [tIn]=0
 have h1:typT1 tIn 1 [⟨[97],1,none,0,0⟩]=0:=by
  have hk1:kindT [⟨[97],1,none,0,0⟩] tIn.a=(1,0):=hk 3 (by decide)
  have hk2:kindT [⟨[97],1,none,0,0⟩] tIn.b=(1,0):=hk 9 (by decide)
  rw [typT1,hk1,hk2,if_neg (by decide),if_pos (show tIn.k=6 from rfl),if_neg (show ¬ (0:Int)≠0 by decide),if_pos (by rfl)]
 rw [typTL,h1,if_neg (by decide),typTL]
theorem make_e31:makeE exT31=0:=by
 have hf:frameE exT31=0:=by
  have c1:colE exT31.ins false=0:=by
   show (if colsS [⟨[97],1,none,0,0⟩]≠0 then colsS [⟨[97],1,none,0,0⟩] else _)=_
   rw [cols_1 (by decide) rfl]; rfl
  have c2:colE exT31.outs false=0:=by
   show (if colsS [⟨[111],1,none,0,0⟩]≠0 then colsS [⟨[111],1,none,0,0⟩] else _)=_
   rw [cols_1 (by decide) rfl]; rfl
  have c2:colE exT31.outs (decide (exT31.pol=3))=0:=c2
  rw [frameE,c1,c2,show polOk exT31=true from by kernel_rfl,if_neg (show ¬ nameOk exT31.name=false from (by decide:¬ nameOk [116]=false)),if_neg (by decide),if_neg (by decide),if_neg (by decide),if_neg (show ¬ 24<exT31.rules.length from (by decide:¬ 24<2))]
 rw [makeE,hf,if_neg (by decide)]
 refine fir_ok λ j hj=>?_
 have hl:∀ (s t:List UInt8) (c:Cel) (m:Int),typC c 1 [⟨[97],1,none,0,0⟩]=0→0≤m→parseC s=(c,0,0)→parseT t=(numX m,0,0)→lineE exT31 ([s],[t])=0:=by
  intro s t c m hn hm h1 h2
  have e1:cellE exT31 0 s=0:=by
   rw [cellE,h1]
   show (if (0:Int)≠0 then (0:Int) else typC c 1 [⟨[97],1,none,0,0⟩])=0
   rw [hn]; rfl
  have e2:outE exT31 0 t=0:=by
   rw [outE,h2]
   show (if (0:Int)≠0 then (0:Int) else if (kindT [⟨[97],1,none,0,0⟩] (numX m)).2≠0 then _ else if fitS (kindT [⟨[97],1,none,0,0⟩] (numX m)).1 1=false then (14:Int) else 0)=0
   rw [kind_num m hm]; rfl
  rw [lineE,if_neg (by show ¬ ((1:Nat)≠1∨(1:Nat)≠1); omega)]
  have g1:firstE (λ k=>cellE exT31 k ([s].getD k [])) 1=0:=fir_ok λ j hj=>by
   have:j=0:=by omega
   subst this; exact e1
  have g2:firstE (λ k=>outE exT31 k ([t].getD k [])) 1=0:=fir_ok λ j hj=>by
   have:j=0:=by omega
   subst this; exact e2
  show (if firstE (λ k=>cellE exT31 k ([s].getD k [])) 1≠0 then firstE (λ k=>cellE exT31 k ([s].getD k [])) 1 else firstE (λ k=>outE exT31 k ([t].getD k [])) 1)=0
  rw [g1,g2]; rfl
 have hj:j=0∨j=1:=by have:j<2:=hj; omega
 rcases hj with rfl | rfl
 ·exact hl _ _ (cLt 5) 1 (typ_lt 5 (by decide) (by decide +kernel)) (by decide) hparse_5 hparse_1
 ·exact hl _ _ cIn 2 typ_in (by decide) hparse_in hparse_2
theorem ev_31 (n:Int) (h:0≤n):evalS [] [] (numX n)=(⟨1,n,[]⟩,0):=by rw [evalS,if_pos ⟨right_num h,rfl,by rfl⟩,ev_num]
def G1 (v:Val):Bool:=valOk v&&(fitT (tLt 5) v.k 1&&passT (tLt 5) v [⟨1,5,[]⟩])
def G2 (v:Val):Bool:=valOk v&&((fitT tIn v.k 1&&fitT tIn v.k 1)&&passT tIn v [⟨1,3,[]⟩,⟨1,9,[]⟩])
theorem hp_1 (v:Val):hpS (cLt 5) v=G1 v:=by
 unfold hpS G1 holdsC
 have hm:mayC (cLt 5) v [] []=valOk v:=by unfold mayC; rw [right_lt 5 (by decide) (by decide +kernel)]; simp
 rw [hm]
 cases hv:valOk v with
 | false=>rfl
 | true =>
  rw [if_pos rfl]
  show (holdL false false v [] [] [tLt 5]).1=_
  rw [holdL,ask_one (p:=(⟨1,5,[]⟩,0)) (by show ¬ (2:Int)=6; decide) (ev_31 5 (by decide)),if_neg (show ¬ (0:Int)≠0 by decide)]
  show _=(true&&_)
  rw [Bool.true_and]
  show ((if (if fitT (tLt 5) v.k 1=true then (passT (tLt 5) v [⟨1,5,[]⟩],(0:Int)) else (false,14)).2≠0 then _ else _:Bool×Int)).1=_
  cases hf:fitT (tLt 5) v.k 1 with
  | false=>rfl
  | true =>
   rw [if_pos rfl,if_neg (λ h=>h rfl)]
   cases hp:passT (tLt 5) v [⟨1,5,[]⟩] with
   | false=>rw [if_neg (by decide),holdL]; rfl
   | true=>rfl
theorem hp_2 (v:Val):hpS cIn v=G2 v:=by
 unfold hpS G2 holdsC
 have hm:mayC cIn v [] []=valOk v:=by unfold mayC; rw [right_in]; simp
 rw [hm]
 cases hv:valOk v with
 | false=>rfl
 | true =>
  rw [if_pos rfl]
  show (holdL false false v [] [] [tIn]).1=_
  rw [holdL,ask_two (p:=(⟨1,3,[]⟩,0)) (q:=(⟨1,9,[]⟩,0)) rfl (ev_31 3 (by decide)) (ev_31 9 (by decide)),if_neg (show ¬ (0:Int)≠0 by decide),if_neg (show ¬ (0:Int)≠0 by decide)]
  show _=(true&&_)
  rw [Bool.true_and]
  show ((if (if (fitT tIn v.k 1&&fitT tIn v.k 1)=true then (passT tIn v [⟨1,3,[]⟩,⟨1,9,[]⟩],(0:Int)) else (false,14)).2≠0 then _ else _:Bool×Int)).1=_
  cases hf:(fitT tIn v.k 1&&fitT tIn v.k 1) with
  | false=>rfl
  | true =>
   rw [if_pos rfl,if_neg (λ h=>h rfl)]
   cases hp:passT tIn v [⟨1,3,[]⟩,⟨1,9,[]⟩] with
   | false=>rw [if_neg (by decide),holdL]; rfl
   | true=>rfl
def P8:List Val:=[v0,⟨1, -9223372036854775808,[]⟩,⟨1,3,[]⟩,⟨1,4,[]⟩,⟨1,5,[]⟩,⟨1,6,[]⟩,⟨1,9,[]⟩,⟨1,10,[]⟩]
theorem poi_31:poiS exR31 0=(P8,0):=by
 have hc:constS exR31=true:=by kernel_rfl
 have hx:exsK exR31 0=[numX 5,numX 3,numX 9]:=rfl
 have h5:=ev_31 5 (by decide)
 have h3:=ev_31 3 (by decide)
 have h9:=ev_31 9 (by decide)
 have he:errX (exsK exR31 0)=0:=by
  rw [hx,errX,h5,if_neg (show ¬ (0:Int)≠0 by decide),errX,h3,if_neg (show ¬ (0:Int)≠0 by decide),errX,h9,if_neg (show ¬ (0:Int)≠0 by decide),errX]
 have hp:ptsS exR31 0=P8:=by
  have hr:rawP exR31 0=v0::leaV 1::(addP 1 ⟨1,5,[]⟩++(addP 1 ⟨1,3,[]⟩++(addP 1 ⟨1,9,[]⟩++[]))):=by
   unfold rawP
   rw [hx,ptsX,h5,ptsX,h3,ptsX,h9,ptsX]
   rfl
  rw [ptsS,hr]
  decide +kernel
 unfold poiS
 rw [if_neg (by rw [hc]; simp [exR31,exT31])]
 show (if errX (exsK exR31 0)≠0 then _ else (ptsS exR31 0,(0:Int)))=_
 rw [he,hp]; rfl
theorem layE_31:layE exR31=0:=by
 refine fir_ok λ j hj=>?_
 have:j=0:=by have:j<1:=hj; omega
 subst this
 show (poiS exR31 0).2=0
 rw [poi_31]
theorem layL_31:layL exR31=[P8]:=by
 show [(poiS exR31 0).1]=_
 rw [poi_31]
theorem ov_31:ovS exR31=([mkP 0 1],0):=by
 have ht:ovT exR31 0 1=true:=by
  unfold ovT tgrS
  rw [layL_31]
  show ((List.range 1).all λ k=>([P8].getD k []).any (togP ⟨[cLt 5],[numX 1]⟩ ⟨[cIn],[numX 2]⟩ k))=true
  rw [List.all_eq_true]
  intro k hk
  have:k=0:=by have:=List.mem_range.1 hk; omega
  subst this
  rw [List.any_eq_true]
  refine ⟨⟨1,3,[]⟩,by decide,?_⟩
  show (hpS (cLt 5) ⟨1,3,[]⟩&&hpS cIn ⟨1,3,[]⟩)=true
  rw [hp_1,hp_2]; kernel_rfl
 unfold ovS
 rw [if_pos layE_31]
 show (pairR (ovT exR31) 2 2,(0:Int))=_
 simp [pairR,rowQ,List.range_succ,ht]
def gR (w:List Val):Bool:=G1 (w.getD 0 v0)||(G2 (w.getD 0 v0)||false)
theorem cov_31:covR exR31=gR:=by
 funext w
 show (((List.range 1).all λ k=>hpS ([cLt 5].getD k cel0) (w.getD k v0))||(((List.range 1).all λ k=>hpS ([cIn].getD k cel0) (w.getD k v0))||false))=_
 show (((hpS (cLt 5) (w.getD 0 v0))&&true)||((hpS cIn (w.getD 0 v0)&&true)||false))=_
 rw [hp_1,hp_2,Bool.and_true,Bool.and_true]; rfl
theorem gp_31:gpS exR31 9=([[v0],[⟨1,10,[]⟩]],0):=by
 unfold gpS
 rw [layL_31,cov_31,layE_31,if_neg (show ¬ (0:Int)≠0 by decide),if_neg (by rw [show smaS [P8]=true from by kernel_rfl]; decide),show gapS [P8] gR 9=[[v0],[⟨1,10,[]⟩]] from by kernel_rfl]
end Go.Proofs.YtbmmnalndollkaaGreatDoor
set_option maxRecDepth 100000
namespace Go.Proofs.YtbmmnalndollkaaGreatDoor
open Go Go.Dx Go.RowKit
def snd17 (e:Int):Bool:=decide (e=0)||(decide (e=15)||(decide (e=16)||decide (e=5)))
theorem typ_all {kind:Int} {col:List Col}:∀ {l:List Tst},typTL kind col l=0→∀ t∈l,typT1 t kind col=0
 | [],_,t,ht=>by cases ht
 | u::l,h,t,ht=>by
  rw [typTL] at h
  by_cases h1:typT1 u kind col≠0
  ·rw [if_pos h1] at h; exact absurd h h1
  ·rw [if_neg h1] at h
   rcases List.mem_cons.1 ht with rfl | ht
   ·simpa using h1
   ·exact typ_all h t ht
section snd
variable {col:List Col} {row:List Val}
theorem eval_typed (hty:typS col row=true) (hall:row.all valOk=true) {x:Ex} (hr:rightS x=true) (h1:(kindT col x).2=0) :
  ((evalS col row x).2=0∧((evalS col row x).1.k=(kindT col x).1∨(evalS col row x).1.k=0))∨((evalS col row x).2=15∨(evalS col row x).2=16∨(evalS col row x).2=5):=by
 have hty:=of_decide_eq_true hty
 have hkt:kindT col x=kindS col x:=if_pos hr
 rw [hkt] at h1 ⊢
 have hes:evalS col row x=match evX col row (SizeOf.sizeOf x+1) x with
  | .ok v=>(v,0)
  | .error e=>(v0,e):=if_pos ⟨hr,hty.1,hall⟩
 have hT:=evX_typed hty.1 hty.2 (SizeOf.sizeOf x+1) x (Nat.lt_succ_self _) hr h1
 cases hev:evX col row (SizeOf.sizeOf x+1) x with
 | error e =>
  rw [hev] at hes hT
  rw [hes]
  exact .inr hT
 | ok v =>
  rw [hev] at hes hT
  rw [hes]
  exact .inl ⟨rfl,hT⟩
theorem fit_null {t:Tst} {kind k a b:Int} (h:fitT t kind k=true) (ha:a=kind∨a=0) (hb:b=k∨b=0):fitT t a b=true:=by
 unfold fitT at h ⊢
 simp only [Bool.and_eq_true,Bool.or_eq_true,decide_eq_true_eq,Bool.not_eq_true',decide_eq_false_iff_not] at h ⊢
 obtain ⟨h1,h2⟩:=h
 rw [fit_iff] at h1 ⊢
 refine ⟨by omega,?_⟩
 rcases h2 with h2 | ⟨h2,h3⟩
 ·exact .inl h2
 ·exact .inr ⟨by omega,by omega⟩
theorem ask_snd (hty:typS col row=true) (hall:row.all valOk=true) {t:Tst} {kind:Int} {v:Val} (hs:soundT t=true) (h1:typT1 t kind col=0) (hv:v.k=kind∨v.k=0):snd17 (askT t v col row).2=true:=by
 obtain ⟨k1,k6,pa,pb,_⟩:=sound_parts hs
 have ra:=(part_r pa).1
 unfold typT1 at h1
 have za:(kindT col t.a).2=0:=by
  by_cases h:(kindT col t.a).2≠0
  ·rw [if_pos h] at h1; exact absurd h1 h
  ·simpa using h
 rw [if_neg (λ hh=>hh za)] at h1
 have ea:=eval_typed hty hall ra za
 generalize hp:evalS col row t.a=p at ea
 by_cases h6:t.k=6
 ·rw [if_pos h6] at h1
  have rb:=(part_r (pb h6)).1
  have zb:(kindT col t.b).2=0:=by
   by_cases h:(kindT col t.b).2≠0
   ·rw [if_pos h] at h1; exact absurd h1 h
   ·simpa using h
  rw [if_neg (λ hh=>hh zb)] at h1
  have eb:=eval_typed hty hall rb zb
  generalize hq:evalS col row t.b=q at eb
  have hf:fitT t kind (kindT col t.a).1=true∧fitT t kind (kindT col t.b).1=true:=by
   by_cases h:(fitT t kind (kindT col t.a).1&&fitT t kind (kindT col t.b).1)=true
   ·simpa using h
   ·rw [if_neg h] at h1; exact absurd h1 (by decide)
  rw [ask_two h6 hp hq]
  rcases ea with ⟨z,ka⟩ | ea
  ·rw [if_neg (λ hh=>hh z)]
   rcases eb with ⟨z2,kb⟩ | eb
   ·rw [if_neg (λ hh=>hh z2),if_pos (by rw [fit_null hf.1 hv ka,fit_null hf.2 hv kb]; rfl)]; rfl
   ·rw [if_pos (by omega)]
    rcases eb with e | e | e <;> rw [e] <;> rfl
  ·rw [if_pos (by omega)]
   rcases ea with e | e | e <;> rw [e] <;> rfl
 ·rw [if_neg h6] at h1
  have hf:fitT t kind (kindT col t.a).1=true:=by
   by_cases h:fitT t kind (kindT col t.a).1=true
   ·exact h
   ·rw [if_neg h] at h1; exact absurd h1 (by decide)
  rw [ask_one h6 hp]
  rcases ea with ⟨z,ka⟩ | ea
  ·rw [if_neg (λ hh=>hh z),if_pos (fit_null hf hv ka)]; rfl
  ·rw [if_pos (by omega)]
   rcases ea with e | e | e <;> rw [e] <;> rfl
end snd
end Go.Proofs.YtbmmnalndollkaaGreatDoor
namespace Go.Proofs.YtbmmnalndollkaaGreatDoor
open Go Go.Dx Go.RowKit
theorem cb_nil (t:List UInt8):Lib.compareBytes [] t≤0:=by
 cases t with
 | nil=>simp [Lib.compareBytes]
 | cons c r=>simp [Lib.compareBytes]
theorem cb_cons (a c:UInt8) (s t:List UInt8):Lib.compareBytes (a::s) (c::t)=if a<c then -1 else if c<a then 1 else Lib.compareBytes s t:=by
 simp only [Lib.compareBytes]
theorem cb_cons_nil (a:UInt8) (s:List UInt8):Lib.compareBytes (a::s) []=1:=by simp [Lib.compareBytes]
theorem cb_blank:∀ (s t:List UInt8),Lib.compareBytes s t<0→(∀ b∈t,32≤b.toNat)→Lib.compareBytes (s++[32]) t≤0
 | [],[],h,_=>by simp [Lib.compareBytes] at h
 | [],c::r,_,hb=>by
  rw [List.nil_append,cb_cons]
  have:=hb c (List.mem_cons_self ..)
  split
  ·decide
  ·rename_i h1
   rw [UInt8.lt_iff_toNat_lt] at h1
   rw [if_neg (by rw [UInt8.lt_iff_toNat_lt]; show ¬ c.toNat<32; omega)]
   exact cb_nil r
 | a::s,[],h,_=>by rw [cb_cons_nil] at h; omega
 | a::s,c::r,h,hb=>by
  rw [cb_cons] at h
  rw [List.cons_append,cb_cons]
  split
  ·decide
  ·rename_i h1
   rw [if_neg h1] at h
   split
   ·rename_i h2; rw [if_pos h2] at h; omega
   ·rename_i h2
    rw [if_neg h2] at h
    exact cb_blank s r h λ b hb'=>hb b (List.mem_cons_of_mem _ hb')
theorem cb_full:∀ (n:Nat) (r:List UInt8),r.length≤n→(∀ b∈r,b.toNat≤126)→¬ Lib.compareBytes (List.replicate n 126) r<0
 | 0,r,h,_=>by
  rw [List.eq_nil_of_length_eq_zero (Nat.le_zero.1 h)]; simp [Lib.compareBytes]
 | n+1,[],_,_=>by rw [List.replicate_succ,cb_cons_nil]; decide
 | n+1,c::r,h,hb=>by
  rw [List.replicate_succ,cb_cons]
  have:=hb c (List.mem_cons_self ..)
  rw [if_neg (by rw [UInt8.lt_iff_toNat_lt]; show ¬ 126<c.toNat; omega)]
  split
  ·decide
  ·exact cb_full n r (by simpa using h) λ b hb'=>hb b (List.mem_cons_of_mem _ hb')
theorem u8_succ {x:UInt8} (h:x.toNat<126):(x+1).toNat=x.toNat+1:=by
 rw [UInt8.toNat_add]
 show (x.toNat+1) % 256=x.toNat+1
 exact Nat.mod_eq_of_lt (by omega)
theorem cb_up:∀ (l:List UInt8) (x:UInt8) (n:Nat) (t:List UInt8),x.toNat<126→Lib.compareBytes (l++x::List.replicate n 126) t<0→t.length≤l.length+1+n→(∀ b∈t,b.toNat≤126)→Lib.compareBytes (l++[x+1]) t≤0
 | [],x,n,[],_,h,_,_=>by rw [List.nil_append,cb_cons_nil] at h; omega
 | [],x,n,c::r,hx,h,hl,hb=>by
  rw [List.nil_append,cb_cons] at h
  rw [List.nil_append,cb_cons]
  have hs:=u8_succ hx
  split
  ·decide
  ·rename_i h1
   rw [UInt8.lt_iff_toNat_lt,hs] at h1
   by_cases h2:x<c
   ·rw [UInt8.lt_iff_toNat_lt] at h2
    rw [if_neg (by rw [UInt8.lt_iff_toNat_lt,hs]; omega)]
    exact cb_nil r
   ·rw [if_neg h2] at h
    by_cases h3:c<x
    ·rw [if_pos h3] at h; omega
    ·rw [if_neg h3] at h
     exact absurd h (cb_full n r (by simp only [List.length_cons,List.length_nil] at hl; omega) λ b hb'=>hb b (List.mem_cons_of_mem _ hb'))
 | a::l,x,n,[],_,h,_,_=>by rw [List.cons_append,cb_cons_nil] at h; omega
 | a::l,x,n,c::r,hx,h,hl,hb=>by
  rw [List.cons_append,cb_cons] at h
  rw [List.cons_append,cb_cons]
  split
  ·decide
  ·rename_i h1
   rw [if_neg h1] at h
   split
   ·rename_i h2; rw [if_pos h2] at h; omega
   ·rename_i h2
    rw [if_neg h2] at h
    exact cb_up l x n r hx h (by simp only [List.length_cons] at hl; omega) λ b hb'=>hb b (List.mem_cons_of_mem _ hb')
theorem cb_longer:∀ (s:List UInt8) (c:UInt8),Lib.compareBytes s (s++[c]) = -1
 | [],c=>by simp [Lib.compareBytes]
 | a::s,c=>by rw [List.cons_append,cb_cons,if_neg (UInt8.lt_irrefl a),if_neg (UInt8.lt_irrefl a)]; exact cb_longer s c
theorem cb_upper:∀ (l:List UInt8) (x:UInt8) (q:List UInt8),x.toNat<126→Lib.compareBytes (l++x::q) (l++[x+1]) = -1
 | [],x,q,h=>by rw [List.nil_append,List.nil_append,cb_cons,if_pos (by rw [UInt8.lt_iff_toNat_lt,u8_succ h]; omega)]
 | a::l,x,q,h=>by rw [List.cons_append,List.cons_append,cb_cons,if_neg (UInt8.lt_irrefl a),if_neg (UInt8.lt_irrefl a)]; exact cb_upper l x q h
theorem cmp_le {a b:Val} (hk:a.k=b.k) (h:a.n<b.n∨(a.n=b.n∧Lib.compareBytes a.s b.s≤0)):cmpV a b≤0:=by
 rcases h with h | ⟨h,h2⟩
 ·rw [cmp_less (.inr ⟨hk,.inl h⟩)]; decide
 ·unfold cmpV
  rw [show cmpI a.k b.k=0 by rw [hk]; simp [cmpI],if_neg (by decide),show cmpI a.n b.n=0 by rw [h]; simp [cmpI],if_neg (by decide)]
  exact h2
theorem lt_less {a b:Val} (h:lessV a b):cmpV a b<0:=by rw [cmp_less h]; decide
theorem beh_succ {v w:Val} (hv:okV v) (hw:okV w) (hk:w.k=v.k) (h:cmpV w v<0):(behV w).2=true∧cmpV (behV w).1 v≤0∧cmpV w (behV w).1<0:=by
 have hl:=less_of h
 unfold lessV at hl
 have hl:w.n<v.n∨(w.n=v.n∧Lib.compareBytes w.s v.s = -1):=by
  rcases hl with hl | hl
  ·omega
  ·exact hl.2
 rcases valOk_cases hw.1 with ⟨k0,e1,e2⟩ | ⟨k1,e2⟩ | ⟨k2,e1,e2⟩ | ⟨k3,e1,e2⟩
 ·rcases valOk_cases hv.1 with ⟨q0,f1,f2⟩ | ⟨q1,f2⟩ | ⟨q2,f1,f2⟩ | ⟨q3,f1,f2⟩ <;> try omega
  rw [e1,f1,e2,f2] at hl
  simp [Lib.compareBytes] at hl
 ·rcases valOk_cases hv.1 with ⟨q0,f1,f2⟩ | ⟨q1,f2⟩ | ⟨q2,f1,f2⟩ | ⟨q3,f1,f2⟩ <;> try omega
  rw [e2,f2] at hl
  have hl:w.n<v.n:=by
   rcases hl with hl | ⟨_,hl⟩
   ·exact hl
   ·simp [Lib.compareBytes] at hl
  have hb:i64 v.n:=hv.2.2
  unfold i64 at hb
  have e:behV w=(⟨w.k,w.n+1,w.s⟩,true):=by unfold behV; rw [if_pos k1,if_neg (by omega)]
  rw [e]
  refine ⟨rfl,cmp_le hk ?_,?_⟩
  ·by_cases h1:w.n+1<v.n
   ·exact .inl h1
   ·exact .inr ⟨by show w.n+1=v.n; omega,by show Lib.compareBytes w.s v.s≤0; rw [e2,f2]; simp [Lib.compareBytes]⟩
  ·exact lt_less (.inr ⟨rfl,.inl (by show w.n<w.n+1; omega)⟩)
 ·rcases valOk_cases hv.1 with ⟨q0,f1,f2⟩ | ⟨q1,f2⟩ | ⟨q2,f1,f2⟩ | ⟨q3,f1,f2⟩ <;> try omega
  have hl:Lib.compareBytes w.s v.s = -1:=by
   rcases hl with hl | hl
   ·omega
   ·exact hl.2
  obtain ⟨hvl,hvb⟩:=plain_inv31 f2
  obtain ⟨hwl,hwb⟩:=plain_inv31 e2
  by_cases h40:w.s.length<40
  ·have e:behV w=(⟨w.k,w.n,w.s++[32]⟩,true):=by unfold behV; rw [if_neg (by omega),if_pos k2,if_pos h40]
   rw [e]
   refine ⟨rfl,cmp_le hk (.inr ⟨by show w.n=v.n; omega,cb_blank _ _ (by omega) λ b hb=>(hvb b hb).1⟩),?_⟩
   exact lt_less (.inr ⟨rfl,.inr ⟨rfl,cb_longer w.s 32⟩⟩)
  ·obtain ⟨n,hn⟩:=trim_split w.s
   have ht:trimT w.s≠[]:=by
    intro ht
    rw [ht,List.nil_append] at hn
    have hnl:w.s.length=n:=by rw [hn]; simp
    rw [hn] at hl
    exact absurd (by omega) (cb_full n v.s (by omega) λ b hb=>(hvb b hb).2)
   have e:behV w=(⟨w.k,w.n,upT (trimT w.s)⟩,true):=by unfold behV; rw [if_neg (by omega),if_pos k2,if_neg h40,if_neg ht]
   obtain ⟨l,x,t1,t2,t3⟩:=trim_last ht
   rw [t1] at hn
   rw [e,t3]
   have hxm:x∈w.s:=by rw [hn]; simp
   have hx:x.toNat<126:=by
    have:=(hwb x hxm).2
    have hne:x.toNat≠126:=λ e=>t2 (UInt8.toNat.inj (by rw [e]; rfl))
    omega
   have hn2:w.s=l++x::List.replicate n 126:=by rw [hn,List.append_assoc]; rfl
   have hlen:w.s.length=l.length+1+n:=by rw [hn2]; simp; omega
   refine ⟨rfl,cmp_le hk (.inr ⟨by show w.n=v.n; omega,?_⟩),?_⟩
   ·rw [hn2] at hl
    exact cb_up l x n v.s hx (by omega) (by omega) λ b hb=>(hvb b hb).2
   ·exact lt_less (.inr ⟨rfl,.inr ⟨rfl,by
     show Lib.compareBytes w.s (l++[x+1]) = -1
     rw [hn2]; exact cb_upper l x _ hx⟩⟩)
 ·rcases valOk_cases hv.1 with ⟨q0,f1,f2⟩ | ⟨q1,f2⟩ | ⟨q2,f1,f2⟩ | ⟨q3,f1,f2⟩ <;> try omega
  rw [e1,f1] at hl
  have hl:w.n<v.n:=by
   rcases hl with hl | ⟨_,hl⟩
   ·exact hl
   ·simp [Lib.compareBytes] at hl
  have hw0:w.n=0:=by omega
  have hv1:v.n=1:=by omega
  have e:behV w=(⟨w.k,w.n+1,w.s⟩,true):=by
   unfold behV; rw [if_neg (by omega),if_neg (by omega),if_pos k3,hw0]; rfl
  rw [e]
  refine ⟨rfl,cmp_le hk (.inr ⟨by show w.n+1=v.n; omega,by show Lib.compareBytes w.s v.s≤0; rw [e1,f1]; simp [Lib.compareBytes]⟩),?_⟩
  exact lt_less (.inr ⟨rfl,.inl (by show w.n<w.n+1; omega)⟩)
theorem v0_least {v:Val} (h:valOk v=true):cmpV v0 v≤0:=by
 rcases valOk_cases h with ⟨k0,e1,e2⟩ | ⟨k1,_⟩ | ⟨k2,_⟩ | ⟨k3,_⟩
 ·exact cmp_le (by rw [k0]; rfl) (.inr ⟨by rw [e1]; rfl,cb_nil _⟩)
 all_goals
  exact Int.le_of_lt (lt_less (.inl (by show (0:Int)<v.k; omega)))
theorem ok_null {v:Val} (h:valOk v=true) (hk:v.k=0):v=v0:=by
 rcases valOk_cases h with ⟨k0,e1,e2⟩ | ⟨k1,_⟩ | ⟨k2,_⟩ | ⟨k3,_⟩ <;> try omega
 obtain ⟨k,n,s⟩:=v
 simp only at k0 e1 e2
 subst k0 e1 e2; rfl
theorem lea_least {v:Val} (h:okV v) (hk:1≤v.k∧v.k≤3):cmpV (leaV v.k) v≤0:=by
 rcases valOk_cases h.1 with ⟨k0,_⟩ | ⟨k1,e2⟩ | ⟨k2,e1,e2⟩ | ⟨k3,e1,e2⟩
 ·omega
 ·have hb:i64 v.n:=h.2.2
  unfold i64 at hb
  refine cmp_le rfl ?_
  show (if v.k=1 then (-9223372036854775808:Int) else 0)<v.n∨((if v.k=1 then (-9223372036854775808:Int) else 0)=v.n∧Lib.compareBytes [] v.s≤0)
  rw [if_pos k1]
  have:=cb_nil v.s
  omega
 ·refine cmp_le rfl ?_
  show (if v.k=1 then (-9223372036854775808:Int) else 0)<v.n∨((if v.k=1 then (-9223372036854775808:Int) else 0)=v.n∧Lib.compareBytes [] v.s≤0)
  rw [if_neg (by omega)]
  exact .inr ⟨by omega,cb_nil _⟩
 ·refine cmp_le rfl ?_
  show (if v.k=1 then (-9223372036854775808:Int) else 0)<v.n∨((if v.k=1 then (-9223372036854775808:Int) else 0)=v.n∧Lib.compareBytes [] v.s≤0)
  rw [if_neg (by omega)]
  have:=cb_nil v.s
  omega
theorem lik_go {v:Val}:∀ (P:List Val) (o:Val),SSV P→(∀ p∈P,cmpV o p≤0)→cmpV o v≤0 →
  (P.foldl (λ o p=>if cmpV p v≤0 then p else o) o=o∨P.foldl (λ o p=>if cmpV p v≤0 then p else o) o∈P)∧cmpV (P.foldl (λ o p=>if cmpV p v≤0 then p else o) o) v≤0∧cmpV o (P.foldl (λ o p=>if cmpV p v≤0 then p else o) o)≤0∧∀ p∈P,cmpV p v≤0→cmpV p (P.foldl (λ o p=>if cmpV p v≤0 then p else o) o)≤0
 | [],o,_,_,h=>⟨.inl rfl,h,by show cmpV o o≤0; rw [cmp_same]; decide,λ p hp=>by cases hp⟩
 | x::P,o,hs,ho,h=>by
  obtain ⟨s1,s2⟩:=List.pairwise_cons.1 hs
  rw [List.foldl_cons]
  by_cases hx:cmpV x v≤0
  ·rw [if_pos hx]
   obtain ⟨g1,g2,g3,g4⟩:=lik_go P x s2 (λ p hp=>Int.le_of_lt (s1 p hp)) hx
   refine ⟨.inr ?_,g2,cmpV_le_tr (ho x (List.mem_cons_self ..)) g3,λ p hp hpv=>?_⟩
   ·rcases g1 with g1 | g1
    ·rw [g1]; exact List.mem_cons_self ..
    ·exact List.mem_cons_of_mem _ g1
   ·rcases List.mem_cons.1 hp with rfl | hp
    ·exact g3
    ·exact g4 p hp hpv
  ·rw [if_neg hx]
   obtain ⟨g1,g2,g3,g4⟩:=lik_go P o s2 (λ p hp=>ho p (List.mem_cons_of_mem _ hp)) h
   refine ⟨?_,g2,g3,λ p hp hpv=>?_⟩
   ·rcases g1 with g1 | g1
    ·exact .inl g1
    ·exact .inr (List.mem_cons_of_mem _ g1)
   ·rcases List.mem_cons.1 hp with rfl | hp
    ·exact absurd hpv hx
    ·exact g4 p hp hpv
structure PtsG (kd:Int) (P:List Val):Prop where
 k13:1≤kd∧kd≤3
 ss:SSV P
 ok:∀ p∈P,okV p∧(p=v0∨p.k=kd)
 p0:v0∈P
 p1:leaV kd∈P
def WG (kd:Int) (P:List Val) (w:Val):Prop:=okV w∧(w.k=0∨(w.k=kd∧w∈P∧((behV w).2=true→(behV w).1∈P)))
theorem wg_v0 (kd:Int) (P:List Val):WG kd P v0:=⟨ok_v0,.inl rfl⟩
theorem lik_facts {kd:Int} {P:List Val} {v:Val} (hP:PtsG kd P) (hv:okV v) (hk:v.k=kd∨v.k=0) :
  likV P v∈P∧(likV P v).k=v.k∧cmpV (likV P v) v≤0∧(∀ p∈P,cmpV p v≤0→cmpV p (likV P v)≤0):=by
 obtain ⟨g1,g2,g3,g4⟩:=lik_go (v:=v) P v0 hP.ss (λ p hp=>v0_least (hP.ok p hp).1.1) (v0_least hv.1)
 have hm:likV P v∈P:=by
  rcases g1 with g1 | g1
  ·show P.foldl _ v0∈P
   rw [g1]; exact hP.p0
  ·exact g1
 refine ⟨hm,?_,g2,g4⟩
 rcases hk with hk | hk
 ·have hl:=g4 _ hP.p1 (by have:=lea_least hv (by rw [hk]; exact hP.k13); rwa [hk] at this)
  rcases (hP.ok _ hm).2 with h | h
  ·have hkd:=hP.k13
   exfalso
   have h2:cmpV (leaV kd) v0≤0:=by rw [← h]; exact hl
   rw [cmp_more (a:=leaV kd) (b:=v0) (λ hh=>by
    rcases hh with hh | hh
    ·have hh:kd<0:=hh; omega
    ·have:=hh.1; have:kd=0:=this; omega) (λ hh=>by
    have:kd=0:=congrArg Val.k hh
    omega)] at h2
   exact absurd h2 (by decide)
  ·rw [h,hk]
 ·have:v=v0:=ok_null hv.1 hk
  have g2:cmpV (likV P v) v≤0:=g2
  have h0:=v0_least (hP.ok _ hm).1.1
  rw [this] at g2 ⊢
  rw [this] at h0
  have:=cmpV_swap v0 (likV P v0)
  have e:cmpV v0 (likV P v0)=0:=by omega
  rw [← cmpV_zero.1 e]
theorem lik_cmp {kd:Int} {P:List Val} {v w:Val} (hP:PtsG kd P) (hv:okV v) (hk:v.k=kd∨v.k=0) (hw:WG kd P w):cmpV v w=cmpV (likV P v) w:=by
 obtain ⟨hm,hku,hle,hge⟩:=lik_facts hP hv hk
 generalize likV P v=u at hm hku hle hge
 have hu:=(hP.ok u hm).1
 rcases hk with hk | hk
 ·rcases hw.2 with h0 | ⟨h1,h2,h3⟩
  ·have hkd:=hP.k13
   have:w=v0:=ok_null hw.1.1 h0
   subst this
   have big:∀ x:Val,x.k=kd→cmpV x v0=1:=λ x hx=>cmp_more (λ hh=>by
    rcases hh with hh | hh
    ·have hh:x.k<0:=hh; omega
    ·have:x.k=0:=hh.1; omega) (λ hh=>by
    have:x.k=0:=congrArg Val.k hh
    omega)
   rw [big v hk,big u (by omega)]
  ·rcases cmpV_three v w with c | c | c
   ·have h4:cmpV u w<0:=by
     by_cases hh:cmpV u v=0
     ·rw [cmpV_zero.1 hh]; omega
     ·exact cmpV_tr (b:=v) (by omega) (by omega)
    rcases cmpV_three u w with d | d | d <;> omega
   ·have e:=cmpV_zero.1 c
    subst e
    have h4:=hge v h2 (by rw [cmp_same]; decide)
    have:=cmpV_swap u v
    have e:cmpV u v=0:=by omega
    rw [cmpV_zero.1 e]
   ·have hwv:cmpV w v<0:=by have:=cmpV_swap v w; omega
    obtain ⟨b1,b2,b3⟩:=beh_succ hv hw.1 (by omega) hwv
    have h4:=hge _ (h3 b1) b2
    have h5:cmpV w u<0:=by
     by_cases hh:cmpV (behV w).1 u=0
     ·rw [← cmpV_zero.1 hh]; exact b3
     ·exact cmpV_tr b3 (by omega)
    have:=cmpV_swap u w
    rcases cmpV_three u w with d | d | d <;> omega
 ·have e1:v=v0:=ok_null hv.1 hk
  have e2:u=v0:=ok_null hu.1 (by omega)
  rw [e1,e2]
end Go.Proofs.YtbmmnalndollkaaGreatDoor
namespace Go.Proofs.YtbmmnalndollkaaGreatDoor
open Go Go.Dx Go.RowKit
theorem nmL_le {m:Nat}:∀ (l:List Ex),(∀ y∈l,(nmS y).length≤m)→(nmL l).length≤l.length*m
 | [],_=>by simp [nmL]
 | x::l,h=>by
  have h1:=h x (List.mem_cons_self ..)
  have h2:=nmL_le l λ y hy=>h y (List.mem_cons_of_mem _ hy)
  rw [nmL,List.length_append,List.length_cons,Nat.succ_mul]; omega
theorem leaf0 {x:Ex} (hr:rightS x=true) (h:x.op=1∨x.op=2):x.l=[]:=by
 rw [right_eq] at hr
 have h1:=of_decide_eq_true (Bool.and_eq_true_iff.1 hr).1
 have e:cntS x.op=0:=by
  rcases h with h | h <;> rw [h] <;> decide
 exact List.eq_nil_of_length_eq_zero (by omega)
theorem nm_deep:∀ (n:Nat) (x:Ex),rightS x=true→deepS x≤n→(nmS x).length≤3 ^ n
 | 0,x,_,h=>by rw [deep_eq] at h; omega
 | n+1,x,hr,h=>by
  have hp:1≤3 ^ n:=Nat.one_le_pow _ _ (by decide)
  have hpw:3 ^ (n+1)=3*3 ^ n:=by rw [Nat.pow_succ,Nat.mul_comm]
  rw [nm_eq]
  by_cases h1:x.op=1
  ·rw [leaf0 hr (.inl h1),if_neg (by omega)]; simp [nmL]
  by_cases h2:x.op=2
  ·rw [leaf0 hr (.inr h2),if_pos h2]; simp only [nmL,List.append_nil,List.length_cons,List.length_nil]; omega
  obtain ⟨hop,hlen,hch⟩:=right_sub hr h1 h2
  have hc:=cnt_pos hop
  have hl3:x.l.length≤3:=by
   have e:cntS x.op≤3:=by
    by_cases a:x.op=3
    ·rw [hc.2.1 a]; decide
    by_cases b:x.op=16
    ·rw [hc.2.2.2 b]; decide
    ·rw [hc.2.2.1 (by omega)]; decide
   omega
  have hk:=nmL_le (m:=3 ^ n) x.l λ y hy=>nm_deep n y (hch y hy) (by have:=deep_sub hy; omega)
  have h5:x.l.length*3 ^ n≤3*3 ^ n:=Nat.mul_le_mul_right _ hl3
  rw [if_neg h2,List.nil_append,hpw]; omega
end Go.Proofs.YtbmmnalndollkaaGreatDoor
set_option maxRecDepth 100000
namespace Go.Proofs.YtbmmnalndollkaaGreatDoor
open Go Go.Dx Go.RowKit
theorem nm_mem31 {l:List Ex} {s:List UInt8}:s∈nmL l↔∃ y∈l,s∈nmS y:=by
 induction l with
 | nil=>simp [nmL]
 | cons x l ih=>rw [nmL]; simp [ih]
theorem nm_kid31 {x:Ex} (h:nmS x=[]) (j:Nat):nmS (x.l.getD j ex0)=[]:=by
 by_cases hj:j<x.l.length
 ·refine List.eq_nil_iff_forall_not_mem.2 λ s hs=>?_
  have:s∈nmS x:=by rw [nm_eq]; exact List.mem_append_right _ (nm_mem31.2 ⟨_,getD_mem x.l j ex0 hj,hs⟩)
  rw [h] at this; cases this
 ·rw [show x.l.getD j ex0=ex0 by simp [List.getD,List.getElem?_eq_none (Nat.le_of_not_lt hj)]]
  simp [ex0,nmS,nmL]
mutual
theorem kindS_nil {a b:List Col}:∀ x:Ex,nmS x=[]→kindS a x=kindS b x
 | .mk op v s l,h=>by
  rw [nmS] at h
  by_cases h1:op=1
  ·rw [kindS,kindS,if_pos h1,if_pos h1]
  by_cases h2:op=2
  ·rw [if_pos h2] at h; simp at h
  ·rw [kindS,kindS,if_neg h1,if_neg h1,if_neg h2,if_neg h2,kindL_nil l (by rw [if_neg h2] at h; simpa using h)]
theorem kindL_nil {a b:List Col}:∀ l:List Ex,nmL l=[]→kindL a l=kindL b l
 | [],_=>rfl
 | x::l,h=>by
  rw [nmL] at h
  have h2:=List.append_eq_nil_iff.1 h
  rw [kindL,kindL,kindS_nil x h2.1,kindL_nil l h2.2]
end
theorem adds_pre:∀ (r o:List (List UInt8)),o.length≤(r.foldl addS o).length
 | [],o=>Nat.le_refl _
 | s::r,o=>by
  have h1:=adds_pre r (addS o s)
  have h2:o.length≤(addS o s).length:=by
   unfold addS; split
   ·exact Nat.le_refl _
   ·simp
  rw [List.foldl_cons]; omega
theorem names_nil {c:Cel} (h:(namesC c).length=0):nmL (exsT c.ts)=[]:=by
 unfold namesC at h
 cases hl:nmL (exsT c.ts) with
 | nil=>rfl
 | cons s r =>
  rw [hl,List.foldl_cons] at h
  have h1:=adds_pre r (addS [] s)
  have h2:(addS [] s).length=1:=rfl
  omega
theorem exsT_mem {t:Tst}:∀ {ts:List Tst},t∈ts→t.a∈exsT ts∧t.b∈exsT ts
 | u::ts,h=>by
  rw [exsT]
  rcases List.mem_cons.1 h with rfl | h
  ·exact ⟨by simp,by simp⟩
  ·have:=exsT_mem h
   exact ⟨List.mem_cons_of_mem _ (List.mem_cons_of_mem _ this.1),List.mem_cons_of_mem _ (List.mem_cons_of_mem _ this.2)⟩
theorem nm_nilT {c:Cel} (h:(namesC c).length=0) {t:Tst} (ht:t∈c.ts):nmS t.a=[]∧nmS t.b=[]:=by
 have h0:=names_nil h
 have hm:=exsT_mem ht
 refine ⟨List.eq_nil_iff_forall_not_mem.2 λ s hs=>?_,List.eq_nil_iff_forall_not_mem.2 λ s hs=>?_⟩
 ·have:s∈nmL (exsT c.ts):=nm_mem31.2 ⟨_,hm.1,hs⟩
  rw [h0] at this; cases this
 ·have:s∈nmL (exsT c.ts):=nm_mem31.2 ⟨_,hm.2,hs⟩
  rw [h0] at this; cases this
theorem parT_or {t:Tst} {y:Ex} (h:y∈parT t):y=t.a∨y=t.b:=by
 unfold parT at h
 split at h
 ·simpa using h
 ·exact .inl (by simpa using h)
theorem nm_nilP {c:Cel} (h:(namesC c).length=0) {t:Tst} (ht:t∈c.ts) {y:Ex} (hy:y∈parT t):nmS y=[]:=by
 rcases parT_or hy with rfl | rfl
 ·exact (nm_nilT h ht).1
 ·exact (nm_nilT h ht).2
theorem evX_nil {l:List Col} {r:List Val}:∀ (k:Nat) (x:Ex),nmS x=[]→evX l r k x=evX [] [] k x
 | 0,_,_=>rfl
 | k+1,x,h=>by
  have hk:=nm_kid31 h
  have h0:=evX_nil (l:=l) (r:=r) k (x.l.getD 0 ex0) (hk 0)
  have h1:=evX_nil (l:=l) (r:=r) k (x.l.getD 1 ex0) (hk 1)
  have h2:=evX_nil (l:=l) (r:=r) k (x.l.getD 2 ex0) (hk 2)
  rw [evX,evX,h0,h1,h2]
  by_cases hx:x.op=2
  ·rw [nm_eq,if_pos hx] at h; simp at h
  ·rw [if_neg hx,if_neg hx]
theorem evalS_nil {l:List Col} {r:List Val} {x:Ex} (h:nmS x=[]) (hl:l.length=r.length) (hr:r.all valOk=true):evalS l r x=evalS [] [] x:=by
 unfold evalS
 rw [evX_nil _ x h]
 by_cases hx:rightS x=true
 ·rw [if_pos ⟨hx,hl,hr⟩,if_pos ⟨hx,rfl,rfl⟩]
 ·rw [if_neg λ hh=>hx hh.1,if_neg λ hh=>hx hh.1]
theorem told_nil {l:List Col} {r:List Val} (hl:l.length=r.length) (hr:r.all valOk=true):∀ (xs:List Ex),(∀ y∈xs,nmS y=[])→toldL l r xs=toldL [] [] xs
 | [],_=>rfl
 | x::xs,h=>by
  rw [toldL,toldL,evalS_nil (h x (List.mem_cons_self ..)) hl hr,told_nil hl hr xs λ y hy=>h y (List.mem_cons_of_mem _ hy)]
theorem ask_nil {l:List Col} {r:List Val} (hl:l.length=r.length) (hr:r.all valOk=true) {t:Tst} {v:Val} (h:∀ y∈parT t,nmS y=[]):askT t v l r=askT t v [] []:=by
 unfold askT; rw [told_nil hl hr _ h]
theorem hold_nil {l:List Col} {r:List Val} (hl:l.length=r.length) (hr:r.all valOk=true) {any neg:Bool} {v:Val}:∀ (ts:List Tst),(∀ t∈ts,∀ y∈parT t,nmS y=[])→holdL any neg v l r ts=holdL any neg v [] [] ts
 | [],_=>rfl
 | t::ts,h=>by
  rw [holdL,holdL,ask_nil hl hr (h t (List.mem_cons_self ..)),hold_nil hl hr ts λ u hu=>h u (List.mem_cons_of_mem _ hu)]
theorem holds_nil {c:Cel} {v:Val} {l:List Col} {r:List Val} (hn:(namesC c).length=0) (hl:l.length=r.length) (hr:r.all valOk=true):holdsC c v l r=holdsC c v [] []:=by
 unfold holdsC
 rw [hold_nil hl hr c.ts λ t ht y hy=>nm_nilP hn ht hy]
 have:mayC c v l r=mayC c v [] []:=by
  unfold mayC
  rw [hr,decide_eq_true hl]; rfl
 rw [this]
theorem pass_like {kd:Int} {P:List Val} {t:Tst} {v:Val} (hP:PtsG kd P) (hv:okV v) (hk:v.k=kd∨v.k=0) {told:List Val} (h:∀ w∈told,WG kd P w):passT t v told=passT t (likV P v) told:=by
 have hg:∀ i,WG kd P (told.getD i v0):=λ i=>by
  by_cases hi:i<told.length
  ·exact h _ (getD_mem told i v0 hi)
  ·rw [List.getD_eq_getElem?_getD,List.getElem?_eq_none (by omega)]; exact wg_v0 kd P
 have hf:=lik_facts hP hv hk
 have e0:=lik_cmp hP hv hk (hg 0)
 have e1:=lik_cmp hP hv hk (hg 1)
 have ed:decide (v=told.getD 0 v0)=decide (likV P v=told.getD 0 v0):=decide_eq_decide.2 ⟨λ h=>cmpV_zero.1 (by rw [← e0]; exact cmpV_zero.2 h),λ h=>cmpV_zero.1 (by rw [e0]; exact cmpV_zero.2 h)⟩
 unfold passT
 rw [ed,hf.2.1,e0,e1]
theorem told_mem:∀ {xs:List Ex} {w:Val},w∈(toldL [] [] xs).1→∃ y∈xs,w=(evalS [] [] y).1
 | [],w,h=>by cases h
 | x::xs,w,h=>by
  rw [toldL] at h
  split at h
  ·cases h
  ·rcases List.mem_cons.1 h with rfl | h
   ·exact ⟨x,List.mem_cons_self ..,rfl⟩
   ·obtain ⟨y,hy,e⟩:=told_mem h
    exact ⟨y,List.mem_cons_of_mem _ hy,e⟩
def AskG (kd:Int) (P:List Val) (t:Tst):Prop:=∀ y∈parT t,okV (evalS [] [] y).1∧((evalS [] [] y).1.k=kd→(evalS [] [] y).1∈P∧((behV (evalS [] [] y).1).2=true→(behV (evalS [] [] y).1).1∈P))
theorem ask_like {kd:Int} {P:List Val} {t:Tst} {v:Val} (hP:PtsG kd P) (hv:okV v) (hk:v.k=kd∨v.k=0) (h:AskG kd P t):askT t v [] []=askT t (likV P v) [] []:=by
 have hf:=lik_facts hP hv hk
 rcases hk with hk | hk
 ·unfold askT
  rw [hf.2.1]
  split
  ·rfl
  ·split
   ·rename_i h1 h2
    have hkd:=hP.k13
    rw [pass_like hP hv (.inl hk) λ w hw=>?_]
    obtain ⟨y,hy,e⟩:=told_mem hw
    have hfit:=List.all_eq_true.1 h2 w hw
    unfold fitT at hfit
    rw [Bool.and_eq_true,fit_iff] at hfit
    obtain ⟨g1,g2⟩:=h y hy
    rw [← e] at g1 g2
    refine ⟨g1,?_⟩
    by_cases h0:w.k=0
    ·exact .inl h0
    ·have:w.k=kd:=by omega
     exact .inr ⟨this,g2 this⟩
   ·rfl
 ·have e1:v=v0:=ok_null hv.1 hk
  have e2:likV P v=v0:=ok_null (hP.ok _ hf.1).1.1 (by rw [hf.2.1]; exact hk)
  rw [e2,e1]
theorem hold_likeL {kd:Int} {P:List Val} {any neg:Bool} {v:Val} (hP:PtsG kd P) (hv:okV v) (hk:v.k=kd∨v.k=0):∀ (ts:List Tst),(∀ t∈ts,AskG kd P t)→holdL any neg v [] [] ts=holdL any neg (likV P v) [] [] ts
 | [],_=>rfl
 | t::ts,h=>by
  rw [holdL,holdL,ask_like hP hv hk (h t (List.mem_cons_self ..)),hold_likeL hP hv hk ts λ u hu=>h u (List.mem_cons_of_mem _ hu)]
theorem holds_like {kd:Int} {P:List Val} {c:Cel} {v:Val} (hP:PtsG kd P) (hv:okV v) (hk:v.k=kd∨v.k=0) (h:∀ t∈c.ts,AskG kd P t):holdsC c v [] []=holdsC c (likV P v) [] []:=by
 have hf:=lik_facts hP hv hk
 unfold holdsC
 rw [hold_likeL hP hv hk c.ts h]
 have:mayC c v [] []=mayC c (likV P v) [] []:=by
  unfold mayC
  rw [hv.1,(hP.ok _ hf.1).1.1]
 rw [this]
theorem errX_inv:∀ {l:List Ex},errX l=0→∀ y∈l,(evalS [] [] y).2=0
 | x::l,h,y,hy=>by
  rw [errX] at h
  by_cases h1:(evalS [] [] x).2≠0
  ·rw [if_pos h1] at h; exact absurd h h1
  ·rw [if_neg h1] at h
   rcases List.mem_cons.1 hy with rfl | hy
   ·simpa using h1
   ·exact errX_inv h y hy
theorem ptsX_in {kd:Int}:∀ {l:List Ex} {y:Ex},y∈l→(evalS [] [] y).1.k=kd→(evalS [] [] y).1∈ptsX kd l∧((behV (evalS [] [] y).1).2=true→(behV (evalS [] [] y).1).1∈ptsX kd l)
 | x::l,y,hy,hk=>by
  rw [ptsX]
  rcases List.mem_cons.1 hy with rfl | hy
  ·unfold addP
   rw [if_pos hk]
   refine ⟨List.mem_append_left _ ?_,λ hb=>List.mem_append_left _ ?_⟩
   ·split <;> simp
   ·rw [if_pos hb]; simp
  ·have:=ptsX_in hy hk
   exact ⟨List.mem_append_right _ this.1,λ hb=>List.mem_append_right _ (this.2 hb)⟩
theorem pts_g {r:Rdy} {k:Nat} (hk:1≤kdK r k∧kdK r k≤3) (h:∀ y∈exsK r k,okV (evalS [] [] y).1):PtsG (kdK r k) (ptsS r k) :=
 ⟨hk,ptsS_ss r k,ptsS_ok hk h,by unfold ptsS rawP; rw [puts_mem]; exact .inr (by simp),by unfold ptsS rawP; rw [puts_mem]; exact .inr (by simp)⟩
theorem exsK_mem {r:Rdy} {k:Nat} {l:Lin} (hl:l∈r.ls) {t:Tst} (ht:t∈(l.cs.getD k cel0).ts) {y:Ex} (hy:y∈parT t):y∈exsK r k :=
 List.mem_flatMap.2 ⟨l,hl,List.mem_flatMap.2 ⟨t,ht,hy⟩⟩
theorem ask_g {r:Rdy} {k:Nat} (h:∀ y∈exsK r k,okV (evalS [] [] y).1) {l:Lin} (hl:l∈r.ls):∀ t∈(l.cs.getD k cel0).ts,AskG (kdK r k) (ptsS r k) t:=λ t ht y hy=>by
 have hm:=exsK_mem hl ht hy
 refine ⟨h y hm,λ hk=>?_⟩
 have:=ptsX_in hm hk
 unfold ptsS rawP
 refine ⟨?_,λ hb=>?_⟩
 ·rw [puts_mem]; exact .inr (List.mem_cons_of_mem _ (List.mem_cons_of_mem _ this.1))
 ·rw [puts_mem]; exact .inr (List.mem_cons_of_mem _ (List.mem_cons_of_mem _ (this.2 hb)))
theorem kindT_nil {cl:List Col} {x:Ex} (h:nmS x=[]):kindT cl x=kindT [] x:=by
 unfold kindT
 rw [kindS_nil (a:=cl) (b:=[]) x h]
theorem typ1_nil {cl:List Col} {t:Tst} {kind:Int} (ha:nmS t.a=[]) (hb:nmS t.b=[]):typT1 t kind cl=typT1 t kind []:=by
 unfold typT1; rw [kindT_nil ha,kindT_nil hb]
theorem typL_nil {cl:List Col} {kind:Int}:∀ (ts:List Tst),(∀ t∈ts,nmS t.a=[]∧nmS t.b=[])→typTL kind cl ts=typTL kind [] ts
 | [],_=>rfl
 | t::ts,h=>by
  have ht:=h t (List.mem_cons_self ..)
  rw [typTL,typTL,typ1_nil ht.1 ht.2,typL_nil ts λ u hu=>h u (List.mem_cons_of_mem _ hu)]
theorem typC_nil {cl:List Col} {c:Cel} {kind:Int} (hn:(namesC c).length=0):typC c kind cl=typC c kind []:=by
 unfold typC; rw [typL_nil c.ts λ t ht=>nm_nilT hn ht]
theorem told_zero {xs:List Ex} (h:∀ y∈xs,(evalS [] [] y).2=0):(toldL [] [] xs).2=0:=by
 rw [told_ok λ j hj=>h _ (getD_mem xs j ex0 hj)]
theorem ask_zero {t:Tst} {v:Val} (h:∀ y∈parT t,(evalS [] [] y).2=0) (hs:snd17 (askT t v [] []).2=true):(askT t v [] []).2=0:=by
 unfold askT at hs ⊢
 rw [told_zero h,if_neg (by decide)] at hs ⊢
 split
 ·rfl
 ·rename_i h1
  rw [if_neg h1] at hs
  exact absurd hs (by decide)
theorem hold_zero {any neg:Bool} {v:Val}:∀ (ts:List Tst),(∀ t∈ts,(askT t v [] []).2=0)→(holdL any neg v [] [] ts).2=0
 | [],_=>rfl
 | t::ts,h=>by
  rw [holdL,if_neg (by rw [h t (List.mem_cons_self ..)]; decide)]
  split
  ·rfl
  ·exact hold_zero ts λ u hu=>h u (List.mem_cons_of_mem _ hu)
theorem holds_zero {cl:List Col} {c:Cel} {kind:Int} {v:Val} (hn:(namesC c).length=0) (hty:typC c kind cl=0) (hv:valOk v=true) (hk:v.k=kind∨v.k=0) (he:∀ t∈c.ts,∀ y∈parT t,(evalS [] [] y).2=0):(holdsC c v [] []).2=0:=by
 rw [typC_nil hn] at hty
 have hr:rightC c=true:=by
  by_cases h:rightC c=true
  ·exact h
  ·rw [typC,if_pos (by simpa using h)] at hty; exact absurd hty (by decide)
 rw [typC,if_neg (by rw [hr]; decide)] at hty
 have hm:mayC c v [] []=true:=by
  unfold mayC
  rw [hr,hv]; rfl
 rw [holdsC,if_pos hm]
 exact hold_zero c.ts λ t ht=>ask_zero (he t ht) (ask_snd (col:=[]) (row:=[]) rfl rfl (right_sound hr t ht) (typ_all hty t ht) hk)
structure ScM (r:Rdy):Prop where
 cn:∀ l∈r.ls,l.cs.length=r.t.ins.length
 ty:∀ l∈r.ls,∀ k,k<r.t.ins.length→typC (l.cs.getD k cel0) (kdK r k) (colsO r.t.ins)=0
 kd:∀ k,k<r.t.ins.length→1≤kdK r k∧kdK r k≤3
 ok:∀ k,∀ y∈exsK r k,okV (evalS [] [] y).1
theorem const_nm {r:Rdy} (h:constS r=true) {l:Lin} (hl:l∈r.ls) {k:Nat} (hk:k<l.cs.length):(namesC (l.cs.getD k cel0)).length=0:=by
 have:=List.all_eq_true.1 (List.all_eq_true.1 h l hl) _ (getD_mem l.cs k cel0 hk)
 exact of_decide_eq_true this
theorem poi_inv {r:Rdy} {k:Nat} (h:(poiS r (k:Nat)).2=0):k<r.t.ins.length∧constS r=true∧errX (exsK r k)=0∧(poiS r (k:Nat)).1=ptsS r k:=by
 unfold poiS at h ⊢
 split at h
 ·exact absurd h (by decide)
 ·rename_i hc
  rw [if_neg hc]
  split at h
  ·rename_i h2
   exact absurd h h2
  ·rename_i h2
   rw [if_neg h2]
   have e:((k:Nat):Int).toNat=k:=by omega
   rw [e] at h2 ⊢
   refine ⟨by omega,?_,by simpa using h2,rfl⟩
   cases hh:constS r
   ·exact absurd (.inr (.inr hh)) hc
   ·rfl
theorem cell_like {r:Rdy} (hm:ScM r) {k:Nat} (hp:(poiS r (k:Nat)).2=0) {l:Lin} (hl:l∈r.ls) {v:Val} (hv:okV v) (hk:v.k=kdK r k∨v.k=0) :
  (holdsC (l.cs.getD k cel0) v [] []).2=0∧holdsC (l.cs.getD k cel0) v [] []=holdsC (l.cs.getD k cel0) (likV (ptsS r k) v) [] []:=by
 obtain ⟨h1,h2,h3,_⟩:=poi_inv hp
 have hn:=const_nm h2 hl (k:=k) (by rw [hm.cn l hl]; exact h1)
 exact ⟨holds_zero hn (hm.ty l hl k h1) hv.1 hk λ t ht y hy=>errX_inv h3 y (exsK_mem hl ht hy),holds_like (pts_g (hm.kd k h1) (hm.ok k)) hv hk (ask_g (hm.ok k) hl)⟩
end Go.Proofs.YtbmmnalndollkaaGreatDoor
