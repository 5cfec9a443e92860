/- Laws of walks, and what functions of the program compute: part 6. Each with the conditions that it names. -/
import Derived.Test.YtbmmnalndollkaaGreatDoorSde
set_option linter.unusedSimpArgs false
set_option linter.unusedVariables false
set_option maxRecDepth 100000
namespace Go.Proofs.YtbmmnalndollkaaGreatDoor
open Go Go.Dx Go.RowKit
theorem colO_get (l:List CoO) (k:Nat):((colsO l).getD k c0).kind=(l.getD k co0).1.kind:=by
 unfold colsO
 by_cases h:k<l.length
 ·simp [List.getD,h]
 ·simp [List.getD,List.getElem?_eq_none (show l.length≤k by omega)]
theorem input_inv {r:Rdy} (hm:ScM r) {row:List Val} (h:inputE r row=0) (hv:∀ v∈row,valB v):row.length=r.t.ins.length∧row.all valOk=true∧∀ k,k<r.t.ins.length→okV (row.getD k v0)∧((row.getD k v0).k=kdK r k∨(row.getD k v0).k=0):=by
 unfold inputE at h
 split at h
 ·rename_i hh
  refine ⟨hh.1,all_upV λ j hj=>(hh.2 j hj).1,λ k hk=>?_⟩
  have hk':k<row.length:=by rw [hh.1]; exact hk
  have hg:=hh.2 k hk'
  refine ⟨⟨hg.1,hv _ (getD_mem row k v0 hk')⟩,?_⟩
  have hf:=fit_iff.1 hg.2
  rw [colO_get] at hf
  have:=hm.kd k hk
  unfold kdK at this ⊢
  omega
 ·exact absurd h (by decide)
theorem alls_zero {f:Nat→Bool×Int}:∀ {n:Nat},(∀ j,j<n→(f j).2=0)→allS f n=((List.range n).all λ j=>(f j).1,0)
 | 0,_=>rfl
 | n+1,h=>by
  rw [allS,alls_zero (n:=n) λ j hj=>h j (by omega),List.range_succ,List.all_append]
  have h0:=h n (Nat.lt_succ_self _)
  cases hb:(List.range n).all λ j=>(f j).1
  ·rw [if_pos (by simp)]; simp
  ·rw [if_neg (by simp)]
   cases hf:(f n).1
   ·rw [if_neg (by intro e; rw [e] at hf; cases hf),h0]; simp [hf]
   ·rw [if_pos (by rw [← hf,← h0])]; simp [hf]
theorem lay_pts {r:Rdy} (he:layE r=0):(∀ k,k<r.t.ins.length→(poiS r (k:Nat)).2=0)∧(layL r).length=r.t.ins.length∧∀ k,k<r.t.ins.length→(layL r).getD k []=ptsS r k:=by
 have h0:∀ k,k<r.t.ins.length→(poiS r (k:Nat)).2=0:=λ k hk=>fir_inv (f:=λ k=>(poiS r (k:Nat)).2) he k hk
 refine ⟨h0,layN_len r _,λ k hk=>?_⟩
 unfold layL layN
 rw [show ((List.range r.t.ins.length).map λ k=>(poiS r (k:Nat)).1).getD k []=(poiS r (k:Nat)).1 by simp [List.getD,hk]]
 exact (poi_inv (h0 k hk)).2.2.2
theorem all_congr31 {l:List Nat} {p q:Nat→Bool} (h:∀ k∈l,p k=q k):l.all p=l.all q:=by
 induction l with
 | nil=>rfl
 | cons x l ih=>rw [List.all_cons,List.all_cons,h x (List.mem_cons_self ..),ih λ k hk=>h k (List.mem_cons_of_mem _ hk)]
theorem rule_cov {r:Rdy} (hm:ScM r) (he:layE r=0) {row:List Val} (hi:inputE r row=0) (hv:∀ v∈row,valB v) {i:Nat} (hil:i<r.ls.length):ruleS r row i=(covS row (r.ls.getD i lin0),0):=by
 obtain ⟨h1,h2,h3⟩:=input_inv hm hi hv
 have hl:=getD_mem r.ls i lin0 hil
 have hcn:=hm.cn _ hl
 have hc:∀ k,k<(r.ls.getD i lin0).cs.length→cellH r row i k=holdsC ((r.ls.getD i lin0).cs.getD k cel0) (row.getD k v0) [] []:=λ k hk=>by
  have hp:=poi_inv ((lay_pts he).1 k (by omega))
  exact holds_nil (const_nm hp.2.1 hl hk) (by rw [cols_len,h1]) h2
 unfold ruleS
 rw [alls_zero λ j hj=>by
  rw [hc j hj]
  exact (cell_like hm ((lay_pts he).1 j (by omega)) hl (h3 j (by omega)).1 (h3 j (by omega)).2).1]
 congr 1
 unfold covS
 refine all_congr31 λ k hk=>?_
 rw [hc k (List.mem_range.1 hk)]; rfl
theorem rules_cov {r:Rdy} (hm:ScM r) (hp:r.t.pol=6) (he:layE r=0) {row:List Val} (hi:inputE r row=0) (hv:∀ v∈row,valB v):rulesR r row=((List.range r.ls.length).filter λ i=>covS row (r.ls.getD i lin0),0,0):=by
 unfold rulesR
 rw [if_neg (by rw [hi]; decide),rules_none λ j hj=>by
  unfold stopR
  rw [rule_cov hm he hi hv hj,hp]; simp]
 congr 1
 unfold heldR
 refine List.filter_congr λ i hi'=>?_
 rw [rule_cov hm he hi hv (List.mem_range.1 hi')]
def likR (pts:List (List Val)) (row:List Val):List Val:=(List.range pts.length).map λ k=>likV (pts.getD k []) (row.getD k v0)
theorem likR_get {pts:List (List Val)} {row:List Val} {k:Nat} (h:k<pts.length):(likR pts row).getD k v0=likV (pts.getD k []) (row.getD k v0):=by
 simp [likR,List.getD,h]
theorem hp_like {r:Rdy} (hm:ScM r) (he:layE r=0) {row:List Val} (hi:inputE r row=0) (hv:∀ v∈row,valB v) {l:Lin} (hl:l∈r.ls) {k:Nat} (hk:k<r.t.ins.length):hpS (l.cs.getD k cel0) (row.getD k v0)=hpS (l.cs.getD k cel0) ((likR (layL r) row).getD k v0)∧(likR (layL r) row).getD k v0∈(layL r).getD k []:=by
 obtain ⟨h1,h2,h3⟩:=input_inv hm hi hv
 obtain ⟨g1,g2,g3⟩:=lay_pts he
 rw [likR_get (by omega),g3 k hk]
 refine ⟨?_,(lik_facts (pts_g (hm.kd k hk) (hm.ok k)) (h3 k hk).1 (h3 k hk).2).1⟩
 unfold hpS
 rw [← (cell_like hm (g1 k hk) hl (h3 k hk).1 (h3 k hk).2).2]
theorem cov_like {r:Rdy} (hm:ScM r) (he:layE r=0) {row:List Val} (hi:inputE r row=0) (hv:∀ v∈row,valB v) {l:Lin} (hl:l∈r.ls):covS row l=covS (likR (layL r) row) l:=by
 unfold covS
 have hcn:=hm.cn l hl
 refine Bool.eq_iff_iff.2 ?_
 rw [List.all_eq_true,List.all_eq_true]
 constructor
 ·intro h k hk
  rw [← (hp_like hm he hi hv hl (by have:=List.mem_range.1 hk; omega)).1]; exact h k hk
 ·intro h k hk
  rw [(hp_like hm he hi hv hl (by have:=List.mem_range.1 hk; omega)).1]; exact h k hk
theorem pair_told {r:Rdy} (hm:ScM r) (hn:r.ls.length≤1000000) (hp:r.t.pol=6) (he:layE r=0) {row:List Val} (hi:inputE r row=0) (hv:∀ v∈row,valB v) {a b:Nat} (ha:a<(rulesR r row).1.length) (hb:b<(rulesR r row).1.length) (hab:a<b) :
  mkP ((rulesR r row).1.getD a 0) ((rulesR r row).1.getD b 0)∈(ovS r).1:=by
 rw [rules_cov hm hp he hi hv] at ha hb ⊢
 simp only at ha hb ⊢
 have hma:=List.mem_filter.1 (getD_mem _ a 0 ha)
 have hmb:=List.mem_filter.1 (getD_mem _ b 0 hb)
 have hlt:((List.range r.ls.length).filter λ i=>covS row (r.ls.getD i lin0)).getD a 0<((List.range r.ls.length).filter λ i=>covS row (r.ls.getD i lin0)).getD b 0:=by
  have hpw:((List.range r.ls.length).filter λ i=>covS row (r.ls.getD i lin0)).Pairwise (·<·):=List.Pairwise.filter _ List.pairwise_lt_range
  rw [getD_lt _ a 0 ha,getD_lt _ b 0 hb]
  exact List.pairwise_iff_getElem.1 hpw a b ha hb hab
 generalize ((List.range r.ls.length).filter λ i=>covS row (r.ls.getD i lin0)).getD a 0=i at hma hlt ⊢
 generalize ((List.range r.ls.length).filter λ i=>covS row (r.ls.getD i lin0)).getD b 0=k at hmb hlt ⊢
 have hil:=List.mem_range.1 hma.1
 have hkl:=List.mem_range.1 hmb.1
 unfold ovS
 rw [if_pos he,mem_pairR hn,(mkP_eq (i:=i) (k:=k) (by omega) (by omega)).1,(mkP_eq (i:=i) (k:=k) (by omega) (by omega)).2]
 refine ⟨hlt,hkl,?_⟩
 unfold ovT tgrS
 obtain ⟨g1,g2,g3⟩:=lay_pts he
 rw [List.all_eq_true]
 intro j hj
 have hj:=List.mem_range.1 hj
 have hl1:=getD_mem r.ls i lin0 hil
 have hl2:=getD_mem r.ls k lin0 hkl
 have e1:=hp_like hm he hi hv hl1 (k:=j) (by omega)
 have e2:=hp_like hm he hi hv hl2 (k:=j) (by omega)
 rw [List.any_eq_true]
 refine ⟨_,e1.2,?_⟩
 unfold togP
 rw [← e1.1,← e2.1]
 have c1:=hma.2
 have c2:=hmb.2
 unfold covS at c1 c2
 rw [List.all_eq_true.1 c1 j (List.mem_range.2 (by rw [hm.cn _ hl1]; omega)),List.all_eq_true.1 c2 j (List.mem_range.2 (by rw [hm.cn _ hl2]; omega))]; rfl
theorem suf_0 (q:List Val) (pts:List (List Val)):sufN (q::pts) 0=q.length*sufN pts 0:=rfl
theorem dig_modS {pts:List (List Val)} {i k:Nat} (h:k<pts.length):dig pts (i % sufN pts 0) k=dig pts i k:=by
 rw [← dig_mod h,← dig_mod (i:=i) h]
 obtain ⟨q,hq⟩:=suf_dvd (pts:=pts) (j:=0) (k:=k) (Nat.zero_le _) (by omega)
 rw [Nat.mod_mod_of_dvd i ⟨q,by rw [hq,Nat.mul_comm]⟩]
theorem rowI_modS (pts:List (List Val)) (i:Nat):rowI pts (i % sufN pts 0)=rowI pts i:=by
 unfold rowI
 refine List.map_congr_left λ k hk=>?_
 rw [dig_modS (List.mem_range.1 hk)]
theorem rowI_cons (q:List Val) (pts:List (List Val)) (i:Nat):rowI (q::pts) i=q.getD (i / sufN pts 0 % q.length) v0::rowI pts i:=by
 unfold rowI
 rw [List.length_cons,List.range_succ_eq_map,List.map_cons,List.map_map]
 rfl
theorem rowI_of:∀ {pts:List (List Val)} {w:List Val},(∀ q∈pts,0<q.length)→w.length=pts.length→(∀ k,k<pts.length→w.getD k v0∈pts.getD k [])→∃ i,i<sufN pts 0∧rowI pts i=w
 | [],w,_,hl,_=>⟨0,by decide,by rw [List.eq_nil_of_length_eq_zero hl]; rfl⟩
 | q::pts,[],_,hl,_=>by simp at hl
 | q::pts,x::w,hp,hl,h=>by
  obtain ⟨i,hi,e⟩:=rowI_of (pts:=pts) (w:=w) (λ y hy=>hp y (List.mem_cons_of_mem _ hy)) (by simpa using hl) λ k hk=>by
   have:=h (k+1) (by simpa using hk)
   simpa using this
  have h0:x∈q:=by have:=h 0 (by simp); simpa using this
  obtain ⟨d,hd,ed⟩:=List.mem_iff_getElem.1 h0
  have hS:0<sufN pts 0:=by omega
  refine ⟨sufN pts 0*d+i,?_,?_⟩
  ·rw [suf_0]
   calc sufN pts 0*d+i<sufN pts 0*d+sufN pts 0:=by omega
    _=(d+1)*sufN pts 0:=by rw [Nat.add_mul,Nat.mul_comm]; omega
    _≤q.length*sufN pts 0:=Nat.mul_le_mul_right _ hd
  ·rw [rowI_cons,Nat.mul_add_div hS,Nat.div_eq_of_lt hi,Nat.add_zero,Nat.mod_eq_of_lt hd,← rowI_modS pts,Nat.mul_add_mod,Nat.mod_eq_of_lt hi,e,getD_lt q d v0 hd,ed]
theorem rowI_inj:∀ {pts:List (List Val)},(∀ q∈pts,q.Nodup)→∀ {i j:Nat},i<sufN pts 0→j<sufN pts 0→rowI pts i=rowI pts j→i=j
 | [],_,i,j,hi,hj,_=>by
  have:sufN [] 0=1:=rfl
  omega
 | q::pts,hn,i,j,hi,hj,h=>by
  rw [rowI_cons,rowI_cons] at h
  obtain ⟨h1,h2⟩:=List.cons.inj h
  rw [suf_0] at hi hj
  have hS:0<sufN pts 0:=by
   rcases Nat.eq_zero_or_pos (sufN pts 0) with h0 | h0
   ·rw [h0] at hi; omega
   ·exact h0
  have di:i / sufN pts 0<q.length:=Nat.div_lt_of_lt_mul (by rw [Nat.mul_comm]; exact hi)
  have dj:j / sufN pts 0<q.length:=Nat.div_lt_of_lt_mul (by rw [Nat.mul_comm]; exact hj)
  rw [Nat.mod_eq_of_lt di,Nat.mod_eq_of_lt dj,getD_lt q _ v0 di,getD_lt q _ v0 dj] at h1
  have hpw:=List.pairwise_iff_getElem.1 (hn q (List.mem_cons_self ..))
  have hd:i / sufN pts 0=j / sufN pts 0:=by
   rcases Nat.lt_trichotomy (i / sufN pts 0) (j / sufN pts 0) with c | c | c
   ·exact absurd h1 (hpw _ _ di dj c)
   ·exact c
   ·exact absurd h1.symm (hpw _ _ dj di c)
  rw [← rowI_modS pts i,← rowI_modS pts j] at h2
  have hr:=rowI_inj (λ y hy=>hn y (List.mem_cons_of_mem _ hy)) (Nat.mod_lt i hS) (Nat.mod_lt j hS) h2
  rw [← Nat.div_add_mod i (sufN pts 0),← Nat.div_add_mod j (sufN pts 0),hd,hr]
theorem unc_nd {pts:List (List Val)} {cov:List Val→Bool} (hn:∀ q∈pts,q.Nodup):(uncF pts cov (sufN pts 0)).Nodup:=by
 unfold uncF
 refine List.Pairwise.filter _ ?_
 rw [List.pairwise_map]
 refine List.Pairwise.imp_of_mem ?_ List.pairwise_lt_range
 intro i j hi hj hij he
 have:=rowI_inj hn (List.mem_range.1 hi) (List.mem_range.1 hj) he
 omega
theorem gap_facts {r:Rdy} (hm:ScM r) (hb:ScK r) (c:Int):(gpS r c).2=(gpS r 300).2∧((gpS r c).2≠0→(gpS r c).1=[])∧(gpS r c).1.Nodup∧((gpS r c).2=0→layE r=0∧(gpS r c).1=(uncF (layL r) (covR r) (sufN (layL r) 0)).take c.toNat):=by
 unfold gpS
 split
 ·rename_i h
  exact ⟨rfl,λ _=>rfl,List.nodup_nil,λ hh=>absurd hh h⟩
 ·rename_i h
  have he:layE r=0:=by simpa using h
  split
  ·exact ⟨rfl,λ _=>rfl,List.nodup_nil,λ hh=>absurd hh (by decide)⟩
  ·refine ⟨rfl,λ hh=>absurd rfl hh,?_,λ _=>⟨he,rfl⟩⟩
   unfold gapS
   refine (List.Nodup.sublist (List.take_sublist _ _) (unc_nd λ q hq=>?_))
   obtain ⟨k,hk,rfl⟩:=List.mem_map.1 (show q∈(List.range r.t.ins.length).map λ k=>(poiS r (k:Nat)).1 from hq)
   rw [(poi_inv ((lay_pts he).1 k (List.mem_range.1 hk))).2.2.2]
   exact ss_nd (ptsS_ss r k)
theorem gap_none {r:Rdy} (hm:ScM r) (hb:ScK r) (hp:r.t.pol=6) (he2:(gpS r 1).2=0) (hg:(gpS r 1).1=[]) {row:List Val} (hi:inputE r row=0) (hv:∀ v∈row,valB v):(rulesR r row).1≠[]:=by
 obtain ⟨g1,g2,_,g3⟩:=gap_facts hm hb 1
 obtain ⟨he,e⟩:=g3 he2
 obtain ⟨p1,p2,p3⟩:=lay_pts he
 have hpos:=(lay_len hb he).p
 obtain ⟨i,hil,ei⟩:=rowI_of (pts:=layL r) (w:=likR (layL r) row) hpos (by simp [likR]) λ k hk=>by
  rw [likR_get hk,p3 k (by omega)]
  obtain ⟨_,_,h3⟩:=input_inv hm hi hv
  exact (lik_facts (pts_g (hm.kd k (by omega)) (hm.ok k)) (h3 k (by omega)).1 (h3 k (by omega)).2).1
 have hu:uncF (layL r) (covR r) (sufN (layL r) 0)=[]:=by
  rw [hg] at e
  cases hh:uncF (layL r) (covR r) (sufN (layL r) 0) with
  | nil=>rfl
  | cons x l=>rw [hh] at e; simp at e
 have hc:covR r (likR (layL r) row)=true:=by
  cases hh:covR r (likR (layL r) row)
  ·have:likR (layL r) row∈uncF (layL r) (covR r) (sufN (layL r) 0):=by
    unfold uncF
    exact List.mem_filter.2 ⟨List.mem_map.2 ⟨i,List.mem_range.2 hil,ei⟩,by rw [hh]; rfl⟩
   rw [hu] at this; cases this
  ·rfl
 unfold covR at hc
 obtain ⟨l,hl,hlc⟩:=List.any_eq_true.1 hc
 rw [← cov_like hm he hi hv hl] at hlc
 obtain ⟨j,hj,e2⟩:=List.mem_iff_getElem.1 hl
 rw [rules_cov hm hp he hi hv]
 intro hnil
 have:j∈(List.range r.ls.length).filter λ i=>covS row (r.ls.getD i lin0):=List.mem_filter.2 ⟨List.mem_range.2 hj,by rw [getD_lt r.ls j lin0 hj,e2]; exact hlc⟩
 rw [show (List.range r.ls.length).filter (λ i=>covS row (r.ls.getD i lin0))=[] from hnil] at this
 cases this
end Go.Proofs.YtbmmnalndollkaaGreatDoor
set_option maxRecDepth 100000
namespace Go.Proofs.YtbmmnalndollkaaGreatDoor
open Go Go.Dx Go.RowKit
def o6:Outc:=⟨0,[0,1],[[⟨1,1,[]⟩],[⟨1,2,[]⟩]]⟩
theorem rows_two {v:View} {a b1 b2:AC} {x y:List Val} (s1:SlC 52 3 (flatR valC) v (.slice b1.1 x.length b1.2) x) (s2:SlC 52 3 (flatR valC) v (.slice b2.1 y.length b2.2) y)
  (s:SlC 49 1 (flatR rwC) v (.slice a.1 2 a.2) [(x,b1),(y,b2)]):LR 49 1 RwR v a.1 a.2 [x,y] :=
 LR.of_rows (R:=RwR) (g:=λ q:RwQ=>q.1) (d:=rw0) s rfl (λ q hq=>by
  have:q=(x,b1)∨q=(y,b2):=by simpa using hq
  rcases this with rfl | rfl
  ·exact ⟨b1,rfl,s1⟩
  ·exact ⟨b2,rfl,s2⟩)
end Go.Proofs.YtbmmnalndollkaaGreatDoor
set_option maxRecDepth 100000
namespace Go.Proofs.YtbmmnalndollkaaGreatDoor
open Go Go.Dx Go.RowKit
end Go.Proofs.YtbmmnalndollkaaGreatDoor
namespace Go.Proofs.YtbmmnalndollkaaGreatDoor
open Go Go.Dx Go.RowKit
def asC (c:Col):Col:=⟨c.name,c.kind,none,0,0⟩
def asO (q:CoO):CoO:=(asC q.1,[])
def asT (t:Tab) (p:Int):Tab:=⟨t.name,t.ins,t.outs.map asO,p,0,t.rules⟩
theorem colsO_as (l:List CoO):colsO (l.map asO)=(colsO l).map asC:=by
 simp only [colsO,List.map_map]; rfl
theorem idx_map {α β:Type} (f:α→β) (p:β→Bool) (l:List α):idxS p (l.map f)=idxS (λ x=>p (f x)) l:=by
 unfold idxS; rw [List.findIdx?_map]; rfl
theorem atS_as (l:List Col) (s:List UInt8):atS (l.map asC) s=atS l s:=idx_map asC _ l
theorem getD_as (l:List Col) (i:Nat) (h:i<l.length):(l.map asC).getD i c0=asC (l.getD i c0):=by
 simp [List.getD,h]
theorem badN_as {l:List Col} {i:Nat} (h:i<l.length):badN (l.map asC) i↔badN l i:=by
 unfold badN; rw [getD_as l i h,atS_as]; exact Iff.rfl
theorem colsG_as (l:List Col):∀ (n i:Nat),l.length - i≤n→colsG (l.map asC) i=colsG l i:=by
 intro n
 induction n with
 | zero=>intro i hn; rw [cg_over (l:=l) (by omega),cg_over (by simp; omega)]
 | succ n ih =>
  intro i hn
  by_cases h:i<l.length
  ·have h':i<(l.map asC).length:=by simpa using h
   have hb:=badN_as h
   by_cases h1:badN l i
   ·rw [cg_name h h1,cg_name h' (hb.2 h1)]
   by_cases h2:badK (l.getD i c0).kind
   ·rw [cg_kind h h1 h2,cg_kind h' (λ x=>h1 (hb.1 x)) (by rw [getD_as l i h]; exact h2)]
   ·rw [cg_next h h1 h2,cg_next h' (λ x=>h1 (hb.1 x)) (by rw [getD_as l i h]; exact h2)]
    exact ih (i+1) (by omega)
  ·rw [cg_over h,cg_over (by simp; omega)]
theorem colsS_as (l:List Col):colsS (l.map asC)=colsS l:=by
 unfold colsS; rw [colsG_as l l.length 0 (by omega),List.length_map]
theorem col_ok {l:List CoO} {k:Bool} (h:colE l k=0):colsS (colsO l)=0∧l.length≠0∧l.length≤6:=by
 unfold colE at h
 split at h
 ·rename_i hh; exact absurd h hh
 rename_i hh
 have hh:colsS (colsO l)=0:=by simpa using hh
 split at h
 ·cases h
 rename_i h2
 refine ⟨hh,λ h3=>h2 (.inr h3),?_⟩
 unfold colsS at hh
 split at hh
 ·cases hh
 ·rename_i h4; simp only [colsO,List.length_map] at h4; omega
theorem col_as {l:List CoO} {k:Bool} (h:colE l k=0):colE (l.map asO) false=0:=by
 obtain ⟨h1,h2,_⟩:=col_ok h
 unfold colE
 rw [colsO_as,colsS_as,if_neg (by rw [h1]; decide),if_neg]
 rintro (h3 | h3)
 ·have:(l.map asO).all (ordOk false)=true:=by
   rw [List.all_eq_true]
   intro q hq
   obtain ⟨y,_,rfl⟩:=List.mem_map.1 hq
   rfl
  rw [this] at h3; cases h3
 ·rw [List.length_map] at h3; exact h2 h3
theorem frame_inv {t:Tab} (h:frameE t=0):nameOk t.name=true∧colE t.ins false=0∧colE t.outs (decide (t.pol=3))=0∧polOk t=true∧t.rules.length≤24:=by
 unfold frameE at h
 split at h
 ·cases h
 rename_i h1
 split at h
 ·rename_i h2; exact absurd h h2
 rename_i h2
 split at h
 ·rename_i h3; exact absurd h h3
 rename_i h3
 split at h
 ·cases h
 rename_i h4
 split at h
 ·cases h
 rename_i h5
 exact ⟨by simpa using h1,by simpa using h2,by simpa using h3,by simpa using h4,by omega⟩
theorem frame_as {t:Tab} {p:Int} (h:frameE t=0) (h1:1≤p) (h6:p≤6) (h3:p≠3):frameE (asT t p)=0:=by
 obtain ⟨f1,f2,f3,_,f5⟩:=frame_inv h
 unfold frameE
 rw [show (asT t p).name=t.name from rfl,show (asT t p).ins=t.ins from rfl,show (asT t p).outs=t.outs.map asO from rfl,show (asT t p).pol=p from rfl,show (asT t p).rules=t.rules from rfl,
  if_neg (by rw [f1]; decide),if_neg (by rw [f2]; decide),decide_eq_false h3,if_neg (by rw [col_as f3]; decide),if_neg,if_neg (by omega)]
 have:polOk (asT t p)=true:=by
  unfold polOk
  rw [show (asT t p).pol=p from rfl,show (asT t p).agg=0 from rfl,if_neg (by omega),if_pos rfl]
 rw [this]; decide
theorem kind_as (l:List CoO) (k:Nat):((l.map asO).getD k co0).1.kind=(l.getD k co0).1.kind:=by
 by_cases h:k<l.length
 ·simp [List.getD,h,asO,asC]
 ·simp [List.getD,h]
theorem line_as (t:Tab) (p:Int) (r:List (List UInt8)×List (List UInt8)):lineE (asT t p) r=lineE t r:=by
 unfold lineE
 have e:(λ k=>outE (asT t p) k (r.2.getD k []))=λ k=>outE t k (r.2.getD k []):=by
  funext k
  unfold outE
  rw [show (asT t p).outs=t.outs.map asO from rfl,kind_as]; rfl
 rw [e,show (asT t p).outs.length=t.outs.length from List.length_map ..]; rfl
theorem make_as {t:Tab} {p:Int} (h:makeE t=0) (h1:1≤p) (h6:p≤6) (h3:p≠3):makeE (asT t p)=0:=by
 unfold makeE at h ⊢
 split at h
 ·rename_i hh; exact absurd h hh
 rename_i hh
 rw [if_neg (by rw [frame_as (by simpa using hh) h1 h6 h3]; decide)]
 have e:(λ i=>lineE (asT t p) ((asT t p).rules.getD i ru0))=λ i=>lineE t (t.rules.getD i ru0):=by
  funext i; rw [line_as]; rfl
 rw [e]; exact h
theorem make_inv {t:Tab} (h:makeE t=0):frameE t=0∧∀ r∈t.rules,lineE t r=0:=by
 unfold makeE at h
 split at h
 ·rename_i hh; exact absurd h hh
 rename_i hh
 refine ⟨by simpa using hh,λ r hr=>?_⟩
 obtain ⟨i,hi,rfl⟩:=List.mem_iff_getElem.1 hr
 have:=fir_inv h i hi
 simpa [List.getD,hi] using this
theorem line_inv {t:Tab} {r:List (List UInt8)×List (List UInt8)} (h:lineE t r=0):r.1.length=t.ins.length∧r.2.length=t.outs.length∧(∀ s∈r.1,(parseC s).2.2=0)∧∀ s∈r.2,(parseT s).2.2=0:=by
 unfold lineE at h
 split at h
 ·cases h
 rename_i h1
 split at h
 ·rename_i h2; exact absurd h h2
 rename_i h2
 have h2:firstE (λ k=>cellE t k (r.1.getD k [])) r.1.length=0:=by simpa using h2
 refine ⟨by omega,by omega,λ s hs=>?_,λ s hs=>?_⟩
 ·obtain ⟨i,hi,rfl⟩:=List.mem_iff_getElem.1 hs
  have:=fir_inv h2 i hi
  simp only [List.getD,hi,List.getElem?_eq_getElem,Option.getD_some] at this
  unfold cellE at this
  split at this
  ·rename_i hh; exact absurd this hh
  ·rename_i hh; simpa using hh
 ·obtain ⟨i,hi,rfl⟩:=List.mem_iff_getElem.1 hs
  have:=fir_inv h i hi
  simp only [List.getD,hi,List.getElem?_eq_getElem,Option.getD_some] at this
  unfold outE at this
  split at this
  ·rename_i hh; exact absurd this hh
  ·rename_i hh; simpa using hh
structure Mo (r s:Rdy) (l:Lin):Prop where
 i:s.t.ins=r.t.ins
 p:s.t.pol=r.t.pol
 l:s.ls=r.ls++[l]
theorem Mo.len {r s:Rdy} {l:Lin} (h:Mo r s l):s.ls.length=r.ls.length+1:=by rw [h.l]; simp
end Go.Proofs.YtbmmnalndollkaaGreatDoor
set_option maxRecDepth 100000
namespace Go.Proofs.YtbmmnalndollkaaGreatDoor
open Go Go.Dx Go.RowKit
def ordF (p:CoO):Bool:=decide (p.2.length≤12)&&p.2.all λ v=>decide (v.s.length≤300)
def ordFew (l:List CoO):Bool:=fewS (colsO l)&&l.all ordF
def txFew (l:List (List UInt8)):Bool:=decide (l.length≤10)&&l.all λ s=>decide (s.length≤300)
def ruFew (r:List (List UInt8)×List (List UInt8)):Bool:=txFew r.1&&txFew r.2
def smallT (t:Tab):Bool:=decide (t.name.length≤300)&&(decide (t.rules.length≤26)&&(ordFew t.ins&&(ordFew t.outs&&t.rules.all ruFew)))
theorem c_texts18 (l:List (List UInt8)) (a:AC) (w0:World) (h0:View) (hv:VLe h0 (Full w0)) (hl:TxL h0 a l) :
  Calls Tryz.prog 32 #[.slice a.1 l.length a.2] w0 (Ret w0 h0 λ u _=>u = .bool (txFew l)):=by
 have hl:SlC 9 1 (flatR λ s=>[vs s]) h0 (.slice a.1 l.length a.2) l:=hl
 have hlm:=slc_lm hl
 refine ent (args:=[.slice a.1 l.length a.2]) TT_ok [] [] Tryz.func32 rfl Tryz.ntmps32 rfl rfl hv ?_
 refine cnd (λ h=>?_) (λ h=>?_)
 ·exact congrArg Value.bool (by rw [txFew,decide_eq_false (by omega),Bool.false_and])
 refine w_loop TT_ok (λ k:Nat=>[(3,.v (.int .i64 k))]) 0 (λ k=>k≤l.length∧∀ j,j<k→(l.getD j []).length≤300) (λ k=>l.length - k) ?_
 refine And.intro ⟨⟨Nat.zero_le _,λ j hj=>absurd hj (Nat.not_lt_zero j)⟩,gs⟩ ?_
 intro k ⟨hk,hn⟩
 refine cnd (λ h1=>?_) (λ h1=>?_)
 ·refine ixs hl k [] ?_
  refine cnd (λ h2=>?_) (λ h2=>?_)
  ·exact congrArg Value.bool (by rw [txFew,all_not [] (k:=k) (p:=λ s=>decide (s.length≤300)) (by omega) (by simp only [decide_eq_false_iff_not]; omega),Bool.and_false])
  ·refine wi ?_
   exact ⟨k+1,⟨⟨by omega,upto_snoc hn (by omega)⟩,by omega⟩,gs⟩
 ·exact congrArg Value.bool (by rw [txFew,all_upto [] (p:=λ s=>decide (s.length≤300)) (λ j hj=>decide_eq_true (hn j (by omega))),Bool.and_true,decide_eq_true (by omega)])
set_option maxHeartbeats 1000000 in
theorem c_order18 (l:List CoO) (a:AC) (w0:World) (h0:View) (hv:VLe h0 (Full w0)) (hl:CoL h0 a l) :
  Calls Tryz.prog 31 #[.slice a.1 (colsO l).length a.2] w0 (Ret w0 h0 λ u _=>u = .bool (ordFew l)):=by
 obtain ⟨hsl,hor⟩:=hl
 have hlm:=slc_lm hsl
 have hcl:=cols_len l
 refine ent (args:=[.slice a.1 (colsO l).length a.2]) TT_ok [] [] Tryz.func31 rfl Tryz.ntmps31 rfl rfl hv ?_
 refine cb (λ w hw=>c_Few a.1 a.2 (colsO l) w h0 hw hsl) ?_
 refine cnd (λ h=>?_) (λ h=>?_)
 ·exact congrArg Value.bool (by rw [ordFew,h,Bool.false_and])
 have hfew:fewS (colsO l)=true:=by simpa using h
 have hbad:∀ k,k<l.length→ordF (l.getD k co0)=false→ordFew l=false:=λ k hk h=>by rw [ordFew,all_not co0 hk h,Bool.and_false]
 refine w_loop TT_ok (λ k:Nat=>[(3,.v (.int .i64 k))]) 0 (λ k=>k≤l.length∧∀ j,j<k→ordF (l.getD j co0)=true) (λ k=>l.length - k) ?_
 refine And.intro ⟨⟨Nat.zero_le _,λ j hj=>absurd hj (Nat.not_lt_zero j)⟩,gs⟩ ?_
 intro k ⟨hk,hn⟩
 refine cnd (λ h1=>?_) (λ h1=>?_)
 ·have hkl:k<l.length:=by omega
  have hg:=cols_get l k hkl
  have hok:=hor _ (getD_mem l k co0 hkl)
  have hbk:=hbad k hkl
  obtain ⟨p,hp⟩:∃ p,l.getD k co0=p:=⟨_,rfl⟩
  rw [hp] at hg hok hbk
  obtain ⟨⟨nm,kd,oa,on,oc⟩,o⟩:=p
  obtain ⟨hon,hos,hov⟩:=hok
  dsimp only at hon hos hov hg
  subst hon
  have hom:=slc_lm hos
  refine ixs hsl k c0 ?_ (by omega)
  rw [hg]
  refine cnd (λ h2=>?_) (λ h2=>?_)
  ·rw [hbk (by rw [ordF,decide_eq_false (by dsimp only at h2 ⊢; omega),Bool.false_and])]; exact rfl
  refine w_loop TT_ok (λ m:Nat=>[(4,.v (.int .i64 m))]) 0 (λ m=>m≤o.length∧∀ j,j<m→(o.getD j v0).s.length≤300) (λ m=>o.length - m) ?_
  refine And.intro ⟨⟨Nat.zero_le _,λ j hj=>absurd hj (Nat.not_lt_zero j)⟩,gs⟩ ?_
  intro m ⟨hm,hmn⟩
  refine ixs hsl k c0 ?_ (by omega)
  rw [hg]
  refine cnd (λ h3=>?_) (λ h3=>?_)
  ·have hmo:m<o.length:=by dsimp only at h3; omega
   refine ixs hsl k c0 ?_ (by omega)
   rw [hg]
   refine ixs hos m v0 ?_ (by omega)
   refine cnd (λ h4=>?_) (λ h4=>?_)
   ·rw [hbk (by rw [ordF,all_not v0 (k:=m) (p:=λ v=>decide (v.s.length≤300)) hmo (by simp only [decide_eq_false_iff_not]; omega),Bool.and_false])]; exact rfl
   ·refine wi ?_
    exact ⟨m+1,⟨⟨by omega,upto_snoc hmn (by omega)⟩,by omega⟩,gs⟩
  ·refine wi ?_
   refine ⟨k+1,⟨⟨by omega,upto_snoc hn ?_⟩,by omega⟩,gs⟩
   rw [hp,ordF,all_upto v0 (p:=λ v=>decide (v.s.length≤300)) (λ j hj=>decide_eq_true (hmn j (by dsimp only at h3 hj ⊢; omega))),Bool.and_true]
   exact decide_eq_true (by dsimp only at h2 ⊢; omega)
 ·exact congrArg Value.bool (by rw [ordFew,hfew,all_upto co0 (λ j hj=>hn j (by omega)),Bool.and_true])
set_option maxHeartbeats 2000000 in
theorem c_TSmall (t:Tab) (a:TA) (w0:World) (h0:View) (hv:VLe h0 (Full w0)) (hc:TabH h0 t a) :
  Calls Tryz.prog 8 #[.agg (tabC t a).toArray] w0 (Ret w0 h0 λ u _=>u = .bool (smallT t)):=by
 have hlm:=hc.r.lm
 have e0:smallT t=(decide (t.name.length≤300)&&(decide (t.rules.length≤26)&&(ordFew t.ins&&(ordFew t.outs&&t.rules.all ruFew)))):=rfl
 rw [e0]; clear e0
 refine ent (args:=[.agg (tabC t a).toArray]) TT_ok [] [] Tryz.func8 rfl Tryz.ntmps8 rfl rfl hv ?_
 intro b1
 refine cbg (λ _ w hw=>c_order18 t.ins a.i w h0 hw hc.i) ?_
 refine cbg (λ _ w hw=>c_order18 t.outs a.o w h0 hw hc.o) ?_
 generalize ordFew t.ins=o1
 generalize ordFew t.outs=o2
 refine cnd (λ h=>?_) (λ h=>?_)
 ·refine congrArg Value.bool ?_
  rcases h with ((h | h) | h) | h
  ·rw [decide_eq_false (by omega),Bool.false_and]
  ·rw [decide_eq_false (p:=t.rules.length≤26) (by omega),Bool.false_and,Bool.and_false]
  ·rw [h]; simp
  ·rw [h]; simp
 have h4:o2=true:=by have:=h.2; simpa using this
 have h3:o1=true:=by have:=h.1.2; simpa using this
 have h2:t.rules.length≤26:=by have:=h.1.1.2; omega
 have h1:t.name.length≤300:=by have:=h.1.1.1; omega
 rw [h4,h3,decide_eq_true h2,decide_eq_true h1,Bool.true_and,Bool.true_and,Bool.true_and,Bool.true_and]
 clear h
 refine w_loop TT_ok (λ k:Nat=>[(3,.v (.int .i64 k))]) 0 (λ k=>k≤t.rules.length∧∀ j,j<k→ruFew (t.rules.getD j ru0)=true) (λ k=>t.rules.length - k) ?_
 refine And.intro ⟨⟨Nat.zero_le _,λ j hj=>absurd hj (Nat.not_lt_zero j)⟩,gs⟩ ?_
 intro k ⟨hk,hn⟩
 refine cnd (λ h1=>?_) (λ h1=>?_)
 ·have hkl:k<t.rules.length:=by omega
  have hbk:ruFew (t.rules.getD k ru0)=false→t.rules.all ruFew=false:=λ h=>all_not ru0 hkl h
  have hnk:ruFew (t.rules.getD k ru0)=true→∀ j,j<k+1→ruFew (t.rules.getD j ru0)=true:=λ h=>upto_snoc hn h
  refine ixL (R:=RuR) hc.r k ru0 (λ cs hcs=>?_)
  generalize hr:t.rules.getD k ru0=r at hcs hbk hnk
  obtain ⟨pa,pb,rfl,g1,g2⟩:=hcs
  refine cb (λ w hw=>c_texts18 r.1 pa w h0 hw g1) ?_
  refine ixLg (R:=RuR) hc.r k ru0 hkl (λ cs hcs=>?_)
  rw [hr] at hcs
  obtain ⟨qa,qb,rfl,g3,g4⟩:=hcs
  refine kg1 ?_
  refine cbg (λ _ w hw=>c_texts18 _ qb w h0 hw g4) ?_
  refine cnd (λ h2=>?_) (λ h2=>?_)
  ·rw [hbk (by
    rw [ruFew]
    rcases h2 with h2 | h2
    ·have h2:txFew r.1=false:=by simpa using h2
     rw [h2,Bool.false_and]
    ·have h2:txFew r.2=false:=by simpa using h2
     rw [h2,Bool.and_false])]
   exact rfl
  ·refine wi ?_
   refine ⟨k+1,⟨⟨by omega,hnk ?_⟩,by omega⟩,gs⟩
   rw [ruFew,Bool.and_eq_true]
   exact ⟨by simpa using h2.1,by simpa using h2.2⟩
 ·rw [all_upto ru0 (λ j hj=>hn j (by omega))]; exact rfl
end Go.Proofs.YtbmmnalndollkaaGreatDoor
set_option maxRecDepth 100000
namespace Go.Proofs.YtbmmnalndollkaaGreatDoor
open Go Go.Dx Go.RowKit
def asI (l:List Col) (i:Nat):List Col:=(l.take i).map asC++l.drop i
theorem asI_len (l:List Col) (i:Nat):(asI l i).length=l.length:=by simp [asI]; omega
theorem asI_get (l:List Col) (i:Nat) (h:i<l.length):(asI l i).getD i c0=l.getD i c0:=by
 have e:(List.map asC (List.take i l)).length=i:=by simp; omega
 unfold asI
 rw [List.getD,List.getElem?_append_right (by omega),e,Nat.sub_self,List.getElem?_drop]
 simp [List.getD,h]
theorem asI_set (l:List Col) (i:Nat) (h:i<l.length):(asI l i).set i (asC (l.getD i c0))=asI l (i+1):=by
 have e:(List.map asC (List.take i l)).length=i:=by simp; omega
 unfold asI
 rw [List.set_append_right _ _ (by omega),e,Nat.sub_self,List.drop_eq_getElem_cons h,List.set_cons_zero,List.take_succ_eq_append_getElem h,List.map_append,List.append_assoc]
 simp [List.getD,h]
theorem asI_0 (l:List Col):asI l 0=l:=by simp [asI]
theorem asI_end (l:List Col):asI l l.length=l.map asC:=by simp [asI]
theorem asI_fld (l:List Col) (i:Nat) (h:i<l.length):(((asI l i).map colC).flatten.take (i*3+2)++[Value.slice none 0 0]++((asI l i).map colC).flatten.drop (i*3+2+[Value.slice none 0 0].length))=((asI l (i+1)).map colC).flatten:=by
 rw [← asI_set l i h,flat_set (g:=colC) (sz:=3) (λ _=>rfl) _ _ _ (by rw [asI_len]; exact h)]
 have ha:=flat_at (g:=colC) (sz:=3) (λ _=>rfl) (asI l i) i c0 (by rw [asI_len]; exact h)
 rw [asI_get l i h] at ha
 generalize ((asI l i).map colC).flatten=xs at ha ⊢
 have h2:(xs.drop (i*3)).take 2=[vs (l.getD i c0).name,.int .i64 (l.getD i c0).kind]:=by
  have:((xs.drop (i*3)).take 3).take 2=(colC (l.getD i c0)).take 2:=by rw [ha]
  rw [List.take_take] at this
  exact this
 rw [List.take_add,h2]
 simp [colC,asC]
theorem fls (l:List Col):(l.map colC).flatten.length=l.length*3:=row_flat (sz:=3) (λ _=>rfl) l
theorem col_one (v:Col):∀ u∈colC v,u.oneCell'=true:=by
 intro u hu
 simp [colC] at hu
 rcases hu with rfl | rfl | rfl <;> rfl
theorem colsO_len_as (l:List CoO):(colsO (l.map asO)).length=l.length:=by simp [colsO]
theorem orh_as (h:View) (l:List CoO):∀ q∈l.map asO,OrH h q:=by
 intro q hq
 obtain ⟨y,_,rfl⟩:=List.mem_map.1 hq
 exact ⟨rfl,SlC.nil (by show 0≤_; simp [maxLen]),λ v hv=>by cases hv⟩
set_option maxHeartbeats 4000000 in
theorem c_As (r:Rdy) (a:TA) (x:AC) (p:Int) (he:makeE (asT r.t p)=0) (hb:TabB (asT r.t p)) (hol:r.t.outs.length≤1000000) (w0:World) (h0:View) (hv:VLe h0 (Full w0)) (hr:RdyH h0 r a x) :
  Calls Tryz.prog 28 #[.agg (rdyC r a x).toArray,.int .i64 p] w0 (Ret w0 h0 λ u hh=>∃ z:TA×AC,u = .agg (rdyC (makeV (asT r.t p)) z.1 z.2).toArray∧RdyH hh (makeV (asT r.t p)) z.1 z.2):=by
 have hcl:=cols_len r.t.outs
 refine entA (args:=[.agg (rdyC r a x).toArray,.int .i64 p]) TT_ok [16,33,38] [] Tryz.func28 rfl Tryz.ntmps28 rfl rfl hv (λ z=>rdy_m _ _ _) ?_
 intro b2 b4 b15
 refine ⟨rfl,rowE (k:=15) (n:=0) (cp:=0) (sz:=3) 901 rfl rfl rfl (by decide) (Nat.le_refl _) ?_⟩
 refine ⟨rfl,?_⟩
 refine goW TT_ok ?_
 refine ⟨rfl,apF TT_ok (g:=colC) (l:=colsO r.t.outs) 901 (AppT.of (bytes:=48) (sz:=2) (by kernel_rfl) (by kernel_rfl) (by kernel_rfl)) (λ v h1 _=>Mono.slF _ _ h1 hr.t.o.1) (λ _ _=>rfl) (λ v _=>col_one v) rfl rfl rfl rfl (by rw [fls]; show (0+(colsO r.t.outs).length*3)*49≤140737488355328; omega) (λ a1 n1 c1 hn1=>?_)⟩
 have hn1:n1*3=0+((colsO r.t.outs).map colC).flatten.length:=hn1
 rw [fls] at hn1
 have hn1:n1=(colsO (r.t.outs.map asO)).length:=by rw [colsO_len_as]; omega
 subst hn1
 have hno:(colsO (r.t.outs.map asO)).length=(colsO r.t.outs).length:=by rw [colsO_len_as,hcl]
 rw [List.nil_append]
 refine w_loopB TT_ok (λ i:Nat=>[(26,.v (.int .i64 i))]) (λ i=>[(901,.e (bufE 66 3 (.slice a1 (colsO (r.t.outs.map asO)).length c1) ((asI (colsO r.t.outs) i).map colC).flatten)),(4,.c b4 32 (rdyC rdy0 ta0 (none,0))),(2,.c b2 32 [vs r.t.name,.slice a.i.1 (colsO r.t.ins).length a.i.2,.slice a1 (colsO (r.t.outs.map asO)).length c1,.int .i64 p,.int .i64 0,.slice a.r.1 r.t.rules.length a.r.2,.slice x.1 r.ls.length x.2])]) 0 (λ i=>i≤(colsO r.t.outs).length) (λ i=>(colsO r.t.outs).length - i) ?_
 refine And.intro ⟨Nat.zero_le _,gs rfl (by rw [asI_0]; rfl)⟩ ?_
 intro i hi
 refine cnd (λ h3=>?_) (λ h3=>?_)
 ·have hil:i<(colsO r.t.outs).length:=by rw [← hno]; omega
  refine ⟨rfl,ixBnW TT_ok (T:=66) (e:=66) (sz:=3) (m:=i) 901 rfl ⟨by kernel_rfl,SzIs.of (by kernel_rfl)⟩ rfl rfl rfl (by omega) (λ bb oo hab=>?_)⟩
  cases hab
  refine goW1 TT_ok ⟨rfl,?_⟩
  refine stW TT_ok (p:=i*3+2) (new:=[.slice none 0 0]) 901 rfl rfl (by omega) rfl rfl rfl (by show i*3+2+1≤_; omega) (SzIs.of (by kernel_rfl)) rfl ?_
  rw [asI_fld _ _ hil]
  refine goR TT_ok ?_
  refine wi ?_
  exact ⟨i+1,⟨hil,by omega⟩,gs⟩
 have hie:i=(colsO r.t.outs).length:=by omega
 subst hie
 rw [asI_end]
 have hce:(colsO r.t.outs).map asC=colsO (r.t.outs.map asO):=(colsO_as r.t.outs).symm
 rw [hce]
 refine And.intro rfl ?_
 refine sealW (g:=colC) (l:=colsO (r.t.outs.map asO)) 901 rfl rfl ?_
 refine goW TT_ok ?_
 refine cA TT_ok (λ w v h1 h2 h3=>c_MakeK (r:=makeV (asT r.t p)) he rfl ⟨a.i,(a1,c1),a.r⟩ hb w v h3 ⟨col_m _ _ _ _ h1 hr.t.i,⟨h2.2,orh_as v _⟩,LR.mono (R:=RuR) ruR_m h1 hr.t.r⟩) (λ z=>rdy_m _ _ _) (λ z=>?_)
 intro b6
 exact ⟨(⟨a.i,(a1,c1),a.r⟩,z),rfl,λ v _ hF=>hF.2⟩
end Go.Proofs.YtbmmnalndollkaaGreatDoor
set_option maxRecDepth 100000
namespace Go.Proofs.YtbmmnalndollkaaGreatDoor
open Go Go.Dx Go.RowKit
theorem small_inv {t:Tab} (h:smallT t=true):t.name.length≤300∧t.rules.length≤26∧ordFew t.ins=true∧ordFew t.outs=true∧∀ r∈t.rules,ruFew r=true:=by
 unfold smallT at h
 simp only [Bool.and_eq_true,decide_eq_true_eq,List.all_eq_true] at h
 exact ⟨h.1,h.2.1,h.2.2.1,h.2.2.2.1,h.2.2.2.2⟩
theorem ord_inv {l:List CoO} (h:ordFew l=true):l.length≤12∧∀ p∈l,p.1.name.length≤300∧p.2.length≤12∧∀ v∈p.2,v.s.length≤300:=by
 unfold ordFew fewS at h
 simp only [Bool.and_eq_true,decide_eq_true_eq,List.all_eq_true] at h
 obtain ⟨⟨h1,h2⟩,h3⟩:=h
 rw [cols_len] at h1
 refine ⟨h1,λ p hp=>⟨h2 _ (List.mem_map.2 ⟨p,hp,rfl⟩),?_⟩⟩
 have:=h3 p hp
 unfold ordF at this
 simp only [Bool.and_eq_true,decide_eq_true_eq,List.all_eq_true] at this
 exact this
theorem tx_inv {l:List (List UInt8)} (h:txFew l=true):l.length≤10∧∀ s∈l,s.length≤300:=by
 unfold txFew at h
 simp only [Bool.and_eq_true,decide_eq_true_eq,List.all_eq_true] at h
 exact h
theorem small_tabB {t:Tab} (h:smallT t=true):TabB t:=by
 obtain ⟨h1,h2,h3,h4,h5⟩:=small_inv h
 refine ⟨by omega,λ p hp=>by have:=((ord_inv h3).2 p hp).1; omega,λ p hp=>by have:=((ord_inv h4).2 p hp).1; omega,λ r hr=>?_,by omega⟩
 have:=h5 r hr
 unfold ruFew at this
 simp only [Bool.and_eq_true] at this
 have k1:=tx_inv this.1
 have k2:=tx_inv this.2
 exact ⟨λ s hs=>by have:=k2.2 s hs; omega,by omega,by omega⟩
theorem tabB_as {t:Tab} (h:TabB t) (p:Int):TabB (asT t p):=by
 refine ⟨h.n,h.i,λ q hq=>?_,h.r,h.k⟩
 obtain ⟨y,hy,rfl⟩:=List.mem_map.1 hq
 exact h.o y hy
theorem make_rdyB {t:Tab} (h:makeE t=0):RdyB (makeV t):=by
 obtain ⟨hf,hr⟩:=make_inv h
 obtain ⟨_,f2,f3,_,f5⟩:=frame_inv hf
 obtain ⟨_,_,i6⟩:=col_ok f2
 obtain ⟨_,o0,o6⟩:=col_ok f3
 have hl:∀ l∈(makeV t).ls,∃ r∈t.rules,lineV r=l:=λ l hl=>List.mem_map.1 hl
 refine ⟨by show t.ins.length≤_; omega,by show (t.rules.map lineV).length≤_; rw [List.length_map]; omega,λ l hm=>?_,λ l hm=>?_⟩
 ·obtain ⟨r,hrm,rfl⟩:=hl l hm
  obtain ⟨k1,k2,k3,k4⟩:=line_inv (hr r hrm)
  refine ⟨by show (r.1.map _).length=_; rw [List.length_map]; exact k1,by show (r.2.map _).length≤_; rw [List.length_map]; omega,λ c hc=>?_,λ x hx=>?_⟩
  ·obtain ⟨s,hs,rfl⟩:=List.mem_map.1 hc
   exact right_gt (parseC_right (k3 s hs))
  ·obtain ⟨s,hs,rfl⟩:=List.mem_map.1 hx
   exact ⟨parse_nd s,smx_right (parseT_right (k4 s hs))⟩
 ·obtain ⟨r,hrm,rfl⟩:=hl l hm
  obtain ⟨k1,k2,k3,k4⟩:=line_inv (hr r hrm)
  show 1≤(r.2.map _).length
  rw [List.length_map]; omega
theorem c_MakeN {t:Tab} {e:Int} (he:makeE t=e) (hn:e≠0) (a:TA) (hb:TabB t) (w0:World) (h0:View) (hv:VLe h0 (Full w0)) (hc:TabH h0 t a) :
  Calls Tryz.prog 10 #[.agg (tabC t a).toArray] w0 (Ret w0 h0 λ u hh=>∃ z:Int×Int,u = .tuple #[.agg (rdyC rdy0 ta0 (none,0)).toArray,.int .i64 z.1,.int .i64 z.2,.int .i64 e]∧True):=by
 subst he
 exact (c_Make t a hb w0 h0 hv hc).mono (Ret.mono λ u hh ⟨z,e,h⟩=>⟨(z.2.1,z.2.2),by rw [e,mkV,if_neg hn],trivial⟩)
end Go.Proofs.YtbmmnalndollkaaGreatDoor
set_option maxRecDepth 100000
namespace Go.Proofs.YtbmmnalndollkaaGreatDoor
open Go Go.Dx Go.RowKit
theorem line_cells {t:Tab} {r:List (List UInt8)×List (List UInt8)} (h:lineE t r=0):∀ k,k<r.1.length→cellE t k (r.1.getD k [])=0:=by
 unfold lineE at h
 split at h
 ·cases h
 split at h
 ·rename_i h2; exact absurd h h2
 ·rename_i h2
  have h2:firstE (λ k=>cellE t k (r.1.getD k [])) r.1.length=0:=by simpa using h2
  exact λ k hk=>fir_inv (f:=λ k=>cellE t k (r.1.getD k [])) h2 k hk
theorem cell_typ {t:Tab} {k:Nat} {s:List UInt8} (h:cellE t k s=0):typC (parseC s).1 (t.ins.getD k co0).1.kind (colsO t.ins)=0:=by
 unfold cellE at h
 split at h
 ·rename_i hh; exact absurd h hh
 ·exact h
theorem colsG_kind {l:List Col}:∀ (n i:Nat),l.length - i≤n→colsG l i=0→∀ j,i≤j→j<l.length→¬ badK (l.getD j c0).kind
 | 0,i,h,_,j,h1,h2=>by omega
 | n+1,i,h,hg,j,h1,h2=>by
  have hi:i<l.length:=by omega
  by_cases hn:badN l i
  ·rw [cg_name hi hn] at hg; exact absurd hg (by decide)
  by_cases hk:badK (l.getD i c0).kind
  ·rw [cg_kind hi hn hk] at hg; exact absurd hg (by decide)
  ·by_cases hj:j=i
   ·rw [hj]; exact hk
   ·rw [cg_next hi hn hk] at hg
    exact colsG_kind n (i+1) (by omega) hg j (by omega) h2
theorem cols_kind {l:List Col} (h:colsS l=0):∀ j,j<l.length→1≤(l.getD j c0).kind∧(l.getD j c0).kind≤3:=by
 intro j hj
 unfold colsS at h
 split at h
 ·exact absurd h (by decide)
 ·have:=colsG_kind l.length 0 (by omega) h j (Nat.zero_le _) hj
  unfold badK at this
  omega
theorem make_kd {t:Tab} (h:makeE t=0):∀ k,k<t.ins.length→1≤(t.ins.getD k co0).1.kind∧(t.ins.getD k co0).1.kind≤3:=by
 intro k hk
 have h1:=(col_ok (frame_inv (make_inv h).1).2.1).1
 have:=cols_kind h1 k (by rw [cols_len]; exact hk)
 rwa [colO_get] at this
theorem part_nm {x:Ex} (h:partX x=true):(nmS x).length≤531441:=by
 have:=part_r h
 exact Nat.le_trans (nm_deep 12 x this.1 this.2) (by decide)
theorem tst_nm {t:Tst} (h:soundT t=true):(nmS t.a).length≤531441∧(nmS t.b).length≤531441:=by
 obtain ⟨k1,k6,pa,pb,pc⟩:=sound_parts h
 refine ⟨part_nm pa,?_⟩
 by_cases h6:t.k=6
 ·exact part_nm (pb h6)
 ·rw [same_ex0 (pc h6).1]
  have:(nmS ex0).length=0:=by simp [ex0,nmS,nmL]
  omega
theorem exsT_len:∀ ts:List Tst,(exsT ts).length=2*ts.length
 | []=>rfl
 | t::ts=>by rw [exsT,List.length_cons,List.length_cons,exsT_len ts,List.length_cons]; omega
theorem exsT_inv {y:Ex}:∀ {ts:List Tst},y∈exsT ts→∃ t∈ts,y=t.a∨y=t.b
 | t::ts,h=>by
  rw [exsT] at h
  rcases List.mem_cons.1 h with rfl | h
  ·exact ⟨t,List.mem_cons_self ..,.inl rfl⟩
  rcases List.mem_cons.1 h with rfl | h
  ·exact ⟨t,List.mem_cons_self ..,.inr rfl⟩
  ·obtain ⟨u,hu,e⟩:=exsT_inv h
   exact ⟨u,List.mem_cons_of_mem _ hu,e⟩
theorem right_len31 {c:Cel} (h:rightC c=true):c.ts.length≤12:=by
 unfold rightC at h
 split at h
 ·simp only [Bool.and_eq_true,decide_eq_true_eq] at h; omega
 ·simp only [Bool.and_eq_true,decide_eq_true_eq] at h; exact h.1.2
theorem right_cb {c:Cel} (h:rightC c=true):CB c:=by
 have hl:=right_len31 h
 have hs:=right_sound h
 refine ⟨right_gt h,?_,by omega⟩
 have:=nmL_le (m:=531441) (exsT c.ts) λ y hy=>by
  obtain ⟨t,ht,e⟩:=exsT_inv hy
  have:=tst_nm (hs t ht)
  rcases e with rfl | rfl
  ·exact this.1
  ·exact this.2
 rw [exsT_len] at this
 have h2:2*c.ts.length*531441≤24*531441:=Nat.mul_le_mul_right _ (by omega)
 omega
theorem make_lines {t:Tab} (h:makeE t=0):∀ l∈(makeV t).ls,l.cs.length=t.ins.length∧(∀ c∈l.cs,rightC c=true)∧∀ k,k<t.ins.length→typC (l.cs.getD k cel0) (t.ins.getD k co0).1.kind (colsO t.ins)=0:=by
 intro l hl
 obtain ⟨r,hr,rfl⟩:=List.mem_map.1 hl
 have hE:=(make_inv h).2 r hr
 obtain ⟨k1,k2,k3,k4⟩:=line_inv hE
 refine ⟨by show (r.1.map _).length=_; rw [List.length_map]; exact k1,λ c hc=>?_,λ k hk=>?_⟩
 ·obtain ⟨s,hs,rfl⟩:=List.mem_map.1 hc
  exact parseC_right (k3 s hs)
 ·have:=cell_typ (line_cells hE k (by omega))
  have e:(lineV r).cs.getD k cel0=(parseC (r.1.getD k [])).1:=by
   show (r.1.map λ s=>(parseC s).1).getD k cel0=_
   simp [List.getD,show k<r.1.length by omega]
  rw [e]; exact this
theorem make_scK {t:Tab} (h:makeE t=0):ScK (makeV t):=by
 have hl:=make_lines h
 refine ⟨⟨make_rdyB h,λ l hm c hc=>right_cb ((hl l hm).2.1 c hc)⟩,make_kd h,?_,λ l hm c hc=>by have:=right_len31 ((hl l hm).2.1 c hc); omega⟩
 show (t.rules.map lineV).length≤_
 rw [List.length_map]
 have:=(frame_inv (make_inv h).1).2.2.2.2
 omega
theorem as_scM {t:Tab} {p:Int} (h:makeE t=0) (h6:makeE (asT t p)=0) {v:View} {a:TA} {x:AC} (hr:RdyH v (makeV t) a x):ScM (makeV (asT t p)):=by
 have hl:=make_lines h6
 have hok:=λ k=>exs_okV hr (make_scK h).b k
 exact ⟨λ l hm=>(hl l hm).1,λ l hm=>(hl l hm).2.2,make_kd h6,hok⟩
theorem atC {c:Cx} {co:Code} {L:SL} {B:BL} {F:FV} {kn:KN} {kx:Nat→KN} {kr:KN} (h:∀ u,F u→CP c co L B (λ v=>F v∧VLe u v) kn kx kr):CP c co L B F kn kx kr :=
 exfC (α:={ u:View // F u }) (Φ:=λ u v=>VLe u.1 v) (λ _=>λ _ _ hle hx=>hx.trans hle) (λ v _ hF=>⟨⟨v,hF⟩,VLe.refl v⟩) (λ x=>h x.1 x.2)
end Go.Proofs.YtbmmnalndollkaaGreatDoor
set_option maxRecDepth 100000
namespace Go.Proofs.YtbmmnalndollkaaGreatDoor
open Go Go.Dx Go.RowKit
theorem tabB_31 : TabB exT31 := by
  refine ⟨by show 1 ≤ 1000000; decide, ?_, ?_, ?_, by show 2 ≤ 1000000; decide⟩
  · intro q hq; have : q = (⟨[97], 1, none, 0, 0⟩, []) := by simpa [exT31] using hq
    subst this; show 1 ≤ 1000000; decide
  · intro q hq; have : q = (⟨[111], 1, none, 0, 0⟩, []) := by simpa [exT31] using hq
    subst this; show 1 ≤ 1000000; decide
  · intro r hr
    have : r = ([[60, 32, 53]], [[49]]) ∨ r = ([sIn], [[50]]) := by simpa [exT31] using hr
    rcases this with rfl | rfl
    · exact ⟨fun s hs => by have : s = [49] := by simpa using hs
                            subst this; decide, by decide, by decide⟩
    · exact ⟨fun s hs => by have : s = [50] := by simpa using hs
                            subst this; decide, by decide, by decide⟩
theorem scK_31:ScK exR31:=by rw [← make_v31]; exact make_scK make_e31
theorem tabH_31 {v:View} {b11 b13 b16 b17 b19 b20 b22:Nat} (s11:SlC 66 3 (flatR colC) v (.slice (some ⟨b11,0,none⟩) 1 1) [⟨[97],1,none,0,0⟩]) (s13:SlC 66 3 (flatR colC) v (.slice (some ⟨b13,0,none⟩) 1 1) [⟨[111],1,none,0,0⟩])
  (s16:TxL v (some ⟨b16,0,none⟩,1) [[60,32,53]]) (s17:TxL v (some ⟨b17,0,none⟩,1) [[49]]) (s19:TxL v (some ⟨b19,0,none⟩,1) [sIn]) (s20:TxL v (some ⟨b20,0,none⟩,1) [[50]])
  (s22:SlC 86 2 (flatR rqC) v (.slice (some ⟨b22,0,none⟩) 2 2) [((ruS [60,32,53] [49],(some ⟨b16,0,none⟩,1),(some ⟨b17,0,none⟩,1)):RuQ),(ruS sIn [50],(some ⟨b19,0,none⟩,1),(some ⟨b20,0,none⟩,1))]) :
  TabH v exT31 ⟨(some ⟨b11,0,none⟩,1),(some ⟨b13,0,none⟩,1),(some ⟨b22,0,none⟩,2)⟩:=by
 refine ⟨⟨s11,λ q hq=>?_⟩,⟨s13,λ q hq=>?_⟩,?_⟩
 ·have:q=(⟨[97],1,none,0,0⟩,[]):=by simpa [exT31] using hq
  subst this; exact ⟨rfl,SlC.nil (by simp [maxLen]),λ v h=>by cases h⟩
 ·have:q=(⟨[111],1,none,0,0⟩,[]):=by simpa [exT31] using hq
  subst this; exact ⟨rfl,SlC.nil (by simp [maxLen]),λ v h=>by cases h⟩
 ·refine LR.of_rows (R:=RuR) (g:=λ q:RuQ=>q.1) (d:=(ru0,(none,0),(none,0))) s22 rfl (λ q hq=>?_)
  have:q=(ruS [60,32,53] [49],(some ⟨b16,0,none⟩,1),(some ⟨b17,0,none⟩,1))∨q=(ruS sIn [50],(some ⟨b19,0,none⟩,1),(some ⟨b20,0,none⟩,1)):=by simpa using hq
  rcases this with rfl | rfl
  ·exact ⟨_,_,rfl,s16,s17⟩
  ·exact ⟨_,_,rfl,s19,s20⟩
theorem c_SamePairsT (l:List Pr) (x y:AC) (w0:World) (h0:View) (hv:VLe h0 (Full w0)) (hx:SlC 81 2 (flatR prC) h0 (.slice x.1 l.length x.2) l) (hy:SlC 81 2 (flatR prC) h0 (.slice y.1 l.length y.2) l) :
  Calls Tryz.prog 15 #[.slice x.1 l.length x.2,.slice y.1 l.length y.2] w0 (Ret w0 h0 λ u _=>u = .bool true):=by
 have:=c_SamePairs l l x y w0 h0 hv hx hy
 rw [decide_eq_true rfl] at this
 exact this
theorem c_RSameRowsT (l:List (List Val)) (a b:AC) (w0:World) (h0:View) (hv:VLe h0 (Full w0)) (hl:LR 49 1 RwR h0 a.1 a.2 l) (hm:LR 49 1 RwR h0 b.1 b.2 l) :
  Calls Tryz.prog 16 #[.slice a.1 l.length a.2,.slice b.1 l.length b.2] w0 (Ret w0 h0 λ u _=>u = .bool true):=by
 have:=c_RSameRows l l a b w0 h0 hv hl hm
 rw [decide_eq_true rfl] at this
 exact this
set_option maxHeartbeats 4000000 in
theorem c_lives31 (w0:World) (h0:View) (hv:VLe h0 (Full w0)):Calls Tryz.prog 9 #[] w0 (Ret w0 h0 λ u _=>u = .bool true):=by
 refine ent (args:=[]) TT_ok [24,53,55,68,2000048,2000049,2000052,2000053,2000054,2000055,2000058,2000059,2000062,2000063,2000064,2000065,2000066,2000067,2000068,2000071,2000072] [] Tryz.func9 rfl Tryz.ntmps9 rfl rfl hv ?_
 intro b13 b15 b16 b17 b19 b20 b22
 refine And.intro rfl ?_
 refine shutW 13 (row_sl (g:=colC) (l:=[⟨[97],1,none,0,0⟩]) (sz:=3) (n:=1) (cp:=1) rfl) ?_ Mono.slF
 refine shutW 15 (row_sl (g:=colC) (l:=[⟨[111],1,none,0,0⟩]) (sz:=3) (n:=1) (cp:=1) rfl) ?_ Mono.slF
 refine shutW 16 (row_sl (g:=λ s:List UInt8=>[vs s]) (l:=[[60,32,53]]) (sz:=1) (n:=1) (cp:=1) rfl) ?_ Mono.slF
 refine shutW 17 (row_sl (g:=λ s:List UInt8=>[vs s]) (l:=[[49]]) (sz:=1) (n:=1) (cp:=1) rfl) ?_ Mono.slF
 refine shutW 19 (row_sl (g:=λ s:List UInt8=>[vs s]) (l:=[sIn]) (sz:=1) (n:=1) (cp:=1) rfl) ?_ Mono.slF
 refine shutW 20 (row_sl (g:=λ s:List UInt8=>[vs s]) (l:=[[50]]) (sz:=1) (n:=1) (cp:=1) rfl) ?_ Mono.slF
 refine shutW 22 (row_sl (g:=rqC) (l:=[((ruS [60,32,53] [49],(some ⟨b16,0,none⟩,1),(some ⟨b17,0,none⟩,1)):RuQ),(ruS sIn [50],(some ⟨b19,0,none⟩,1),(some ⟨b20,0,none⟩,1))]) (sz:=2) (n:=2) (cp:=2) rfl) ?_ Mono.slF
 refine goW TT_ok ?_
 refine cA TT_ok (λ w v h1 h2 h3=>c_MakeK make_e31 make_v31 ⟨(some ⟨b13,0,none⟩,1),(some ⟨b15,0,none⟩,1),(some ⟨b22,0,none⟩,2)⟩ tabB_31 w v h3 (tabH_31 h2.1.1.1.1.1.1.2 h2.1.1.1.1.1.2 h2.1.1.1.1.2 h2.1.1.1.2 h2.1.1.2 h2.1.2 h2.2)) (λ z=>rdy_m _ _ _) (λ z=>?_)
 intro b1
 have hP:=λ w v h3 hr=>c_Points exR31 ⟨(some ⟨b13,0,none⟩,1),(some ⟨b15,0,none⟩,1),(some ⟨b22,0,none⟩,2)⟩ z 0 scK_31.b scK_31.n scK_31.t w v h3 hr
 have hO:=λ w v h3 hr=>c_Overlaps exR31 ⟨(some ⟨b13,0,none⟩,1),(some ⟨b15,0,none⟩,1),(some ⟨b22,0,none⟩,2)⟩ z scK_31 w v h3 hr
 have hG:=λ w v h3 hr=>c_Gaps exR31 ⟨(some ⟨b13,0,none⟩,1),(some ⟨b15,0,none⟩,1),(some ⟨b22,0,none⟩,2)⟩ z 9 scK_31 w v h3 hr
 rw [poi_31] at hP
 rw [ov_31] at hO
 rw [gp_31] at hG
 refine cA TT_ok (λ w v h1 h2 h3=>hP w v h3 h2.2) (λ _=>Mono.slF) (λ p1=>?_)
 refine cA TT_ok (λ w v h1 h2 h3=>hO w v h3 h2.1.2) (λ _=>Mono.slF) (λ o1=>?_)
 refine cA TT_ok (λ w v h1 h2 h3=>hG w v h3 h2.1.1.2) (λ y=>LR.m (R:=RwR) rwR_m y _) (λ g1=>?_)
 clear hP hO hG
 refine And.intro (by rfl) ?_
 refine And.intro (by rfl) ?_
 refine And.intro (by rfl) ?_
 refine And.intro (by rfl) ?_
 refine goPu TT_ok (.agg [.int .i64 (0:Int),.int .i64 (1:Int)].toArray) (λ w hS=>pu_build_ar (places:=[(0,1),(1,1)]) (zero:=[.int .i64 0,.int .i64 0]) arB (by rfl) (by rfl)) ?_
 refine And.intro (by rfl) ?_
 intro b54
 refine And.intro (by rfl) (And.intro (by rfl) ?_)
 refine shutW 54 (row_sl (g:=prC) (l:=[mkP 0 1]) (sz:=2) (n:=1) (cp:=1) rfl) ?_ Mono.slF
 refine goW TT_ok ?_
 refine cf (λ w v h1 h2 h3=>c_SamePairsT [mkP 0 1] o1 (some ⟨b54,0,none⟩,1) w v h3 h2.1.1.2 h2.2) ?_
 refine And.intro (by rfl) ?_
 refine And.intro (by rfl) ?_
 refine And.intro (by rfl) ?_
 refine And.intro (by rfl) ?_
 refine And.intro (by rfl) ?_
 intro b64
 refine And.intro (by rfl) ?_
 refine And.intro (by rfl) ?_
 intro b66
 refine And.intro (by rfl) ?_
 intro b67
 refine And.intro (by rfl) (And.intro (by rfl) ?_)
 refine shutW 64 (row_sl (g:=valC) (l:=[v0]) (sz:=3) (n:=1) (cp:=1) rfl) ?_ Mono.slF
 refine shutW 66 (row_sl (g:=valC) (l:=[⟨1,10,[]⟩]) (sz:=3) (n:=1) (cp:=1) rfl) ?_ Mono.slF
 refine shutW 67 (row_sl (g:=rwC) (l:=[(([v0],some ⟨b64,0,none⟩,1):RwQ),([⟨1,10,[]⟩],some ⟨b66,0,none⟩,1)]) (sz:=1) (n:=2) (cp:=2) rfl) ?_ Mono.slF
 refine goW TT_ok ?_
 refine cf (λ w v h1 h2 h3=>c_RSameRowsT [[v0],[⟨1,10,[]⟩]] g1 (some ⟨b67,0,none⟩,2) w v h3 h2.1.1.1.1.2 (rows_two h2.1.1.2 h2.1.2 h2.2)) ?_
 refine And.intro (by rfl) ?_
 refine And.intro (by rfl) ?_
 exact rfl
end Go.Proofs.YtbmmnalndollkaaGreatDoor
set_option maxRecDepth 100000
namespace Go.Proofs.YtbmmnalndollkaaGreatDoor
open Go Go.Dx Go.RowKit
theorem c_As6 {t:Tab} {r:Rdy} (hr6:makeV (asT t 6)=r) (a:TA) (x:AC) (he:makeE (asT t 6)=0) (hb:TabB (asT t 6)) (hol:t.outs.length≤1000000) (w0:World) (h0:View) (hv:VLe h0 (Full w0)) (hr:RdyH h0 (makeV t) a x) :
  Calls Tryz.prog 28 #[.agg (rdyC (makeV t) a x).toArray,.int .i64 6] w0 (Ret w0 h0 λ u hh=>∃ z:TA×AC,u = .agg (rdyC r z.1 z.2).toArray∧RdyH hh r z.1 z.2):=by
 subst hr6
 exact c_As (makeV t) a x 6 he hb hol w0 h0 hv hr
end Go.Proofs.YtbmmnalndollkaaGreatDoor
set_option maxRecDepth 100000
namespace Go.Proofs.YtbmmnalndollkaaGreatDoor
open Go Go.Dx Go.RowKit
theorem any_take (ps:List Pr) (t:Pr) {n:Nat} (h:n<ps.length):((ps.take (n+1)).any λ p=>decide (p=t))=(((ps.take n).any λ p=>decide (p=t))||decide (ps.getD n (mkP 0 0)=t)):=by
 rw [take_snocD ps n (mkP 0 0) h,List.any_append]; simp
theorem any_mem {ps:List Pr} {t:Pr} (h:t∈ps):((ps.take ps.length).any λ p=>decide (p=t))=true:=by
 rw [List.take_length,List.any_eq_true]
 exact ⟨t,h,by simp⟩
theorem rules_in {r:Rdy} {row:List Val} (h:(rulesR r row).2.2≠21):inputE r row=0:=by
 by_cases hi:inputE r row=0
 ·exact hi
 ·exfalso
  unfold rulesR at h
  rw [if_pos hi] at h
  unfold inputE at h hi
  split at h
  ·rename_i h1
   rw [if_pos h1] at hi; exact hi rfl
  ·exact h rfl
set_option maxHeartbeats 8000000 in
theorem c_ScanSound (t:Tab) (a:TA) (ad:Option Addr) (cap:Nat) (row:List Val) (hvv:∀ v∈row,valB v∧v.s.length≤9223372036854775807) (w0:World) (h0:View) (hv:VLe h0 (Full w0)) (hc:TabH h0 t a) (hrow:SlC 52 3 (flatR valC) h0 (.slice ad row.length cap) row) :
  Calls Tryz.prog 6 #[.agg (tabC t a).toArray,.slice ad row.length cap] w0 (Ret w0 h0 λ u _=>u = .bool true):=by
 have hvb:∀ v∈row,valB v:=λ v hv=>(hvv v hv).1
 refine ent (args:=[.agg (tabC t a).toArray,.slice ad row.length cap]) TT_ok [39,1000023,2000096,96,4000097] [] Tryz.func6 rfl Tryz.ntmps6 rfl rfl hv ?_
 intro b2
 refine cb (λ w hw=>c_TSmall t a w h0 hw hc) ?_
 refine cbg (λ _ w hw=>c_RowFew ad cap row w h0 hw hrow) ?_
 refine cnd (λ h=>?_) (λ h=>?_)
 ·refine cb (λ w hw=>c_lives31 w h0 hw) ?_
  exact rfl
 have hsm:smallT t=true:=by simpa using h.1
 have htb:=small_tabB hsm
 have hso:=(ord_inv (small_inv hsm).2.2.2.1).1
 clear h hsm
 by_cases he:makeE t=0
 ·have m6:makeE (asT t 6)=0:=make_as he (by decide) (by decide) (by decide)
  refine cA TT_ok (λ w v h1 h2 h3=>c_MakeK (r:=makeV t) he rfl a htb w v h3 (tab_m _ _ _ _ h1 hc)) (λ z=>rdy_m _ _ _) (λ z1=>?_)
  intro b5
  refine cnd (λ h=>absurd rfl h) (λ _=>?_)
  refine And.intro rfl (pureW (X:=ScM (makeV (asT t 6))) (λ v _ hF=>as_scM he m6 hF.2) (λ hM=>goW TT_ok ?_))
  have hb:=make_scK m6
  have hpl:(makeV (asT t 6)).t.pol=6:=rfl
  obtain ⟨r,hr6⟩:∃ r,makeV (asT t 6)=r:=⟨_,rfl⟩
  rw [hr6] at hb hM hpl
  have hln:=hb.n
  refine cA TT_ok (λ w v h1 h2 h3=>c_As6 hr6 a z1 m6 (tabB_as htb 6) (by omega) w v h3 h2.2) (λ z=>rdy_m _ _ _) (λ q1=>?_)
  refine cA TT_ok (λ w v h1 h2 h3=>c_Overlaps r q1.1 q1.2 hb w v h3 h2.2) (λ _=>Mono.slF) (λ o1=>?_)
  refine cA TT_ok (λ w v h1 h2 h3=>c_HRules r q1.1 q1.2 (ad,cap) row hb.b.b hvb w v h3 h2.1.2 (hrow.monoF h1)) (λ _=>Mono.slF) (λ y1=>?_)
  refine cnd (λ h=>?_) (λ h=>?_)
  ·refine cb (λ w hw=>c_lives31 w h0 hw) ?_
   exact rfl
  have hov:(ovS r).2=0:=by simpa using h.1
  have hlE:layE r=0:=by
   unfold ovS at hov
   split at hov
   ·rename_i hh; exact hh
   ·exact hov
  have hin:inputE r row=0:=rules_in (by simpa using h.2)
  have hrc:=rules_cov hM hpl hlE hin hvb
  have hpt:=λ (x y:Nat) (hx:x<(rulesR r row).1.length) (hy:y<(rulesR r row).1.length) (hxy:x<y)=>pair_told hM (by omega) hpl hlE hin hvb hx hy hxy
  have hrl:∀ i∈(rulesR r row).1,i<1000:=λ i hi=>by
   rw [hrc] at hi
   have:=List.mem_range.1 (List.mem_filter.1 hi).1
   omega
  have hg1:=λ (h2:(gpS r 1).2=0) (h3:(gpS r 1).1=[])=>gap_none hM hb hpl h2 h3 hin hvb
  have hr0:(rulesR r row).2.2=0:=by rw [hrc]
  have hql:(rulesR r row).1.length≤1001:=by have:=ru_len (r:=r) (row:=row); omega
  clear h hrc
  generalize (rulesR r row)=q at *
  generalize ovS r=p at *
  refine cnd (λ h=>absurd hr0 h) (λ _=>?_)
  refine atC (λ u hu=>?_)
  have hqm:=λ (i:Nat) (hi:i<q.1.length)=>hrl _ (getD_mem q.1 i 0 hi)
  refine w_loop TT_ok (λ i:Nat=>[(14,.v (.int .i64 i))]) 0 (λ i=>i≤q.1.length) (λ i=>q.1.length - i) ?_
  refine And.intro ⟨Nat.zero_le _,gs⟩ ?_
  intro i hi
  have hpln:p.1.length≤9223372036854775807:=slc_lm hu.1.2
  refine cnd (λ h=>?_) (λ h=>?_)
  ·have hil:i<q.1.length:=by omega
   refine wi ?_
   refine w_loop TT_ok (λ k:Nat=>[(15,.v (.int .i64 k))]) (i+1) (λ k=>i<k∧k≤q.1.length) (λ k=>q.1.length - k) ?_
   refine And.intro ⟨⟨by omega,by omega⟩,gs⟩ ?_
   intro k ⟨hik,hk⟩
   refine cnd (λ h=>?_) (λ h=>?_)
   ·have hkl:k<q.1.length:=by omega
    obtain ⟨x,hx⟩:∃ x,q.1.getD i 0=x:=⟨_,rfl⟩
    obtain ⟨y,hy⟩:∃ y,q.1.getD k 0=y:=⟨_,rfl⟩
    have hxm:=hqm i hil
    have hym:=hqm k hkl
    have htold:=any_mem (hpt i k hil hkl hik)
    rw [hx] at hxm htold
    rw [hy] at hym htold
    have hxy:=prC_mk (i:=x) (k:=y) (by omega) (by omega)
    refine w_loop TT_ok (λ n:Nat=>[(17,.v (.int .i64 n)),(16,.v (.bool ((p.1.take n).any λ p=>decide (p=mkP x y))))]) 0 (λ n=>n≤p.1.length) (λ n=>p.1.length - n) ?_
    refine And.intro ⟨Nat.zero_le _,gs⟩ ?_
    intro n hn
    refine cnd (λ h=>?_) (λ h=>?_)
    ·have hnl:n<p.1.length:=by omega
     have hst:=any_take p.1 (mkP x y) hnl
     cases hthr:(p.1.take n).any λ p=>decide (p=mkP x y) with
     | true =>
      rw [hthr] at hst
      refine regPh TT_ok [([0,1,2,3,6,7,10,11,4,8,12,5,9,13,14],[15,16,17])] [] ?_
      refine cndF rfl ?_
      refine cndF rfl ?_
      refine cndF rfl ?_
      refine cndF rfl ?_
      refine cndF rfl ?_
      refine cndF rfl ?_
      refine cndF rfl ?_
      refine cndF rfl ?_
      refine cndF rfl ?_
      refine cndF rfl ?_
      refine cndF rfl ?_
      refine cndF rfl ?_
      refine cndF rfl ?_
      refine kq ?_
      refine cndF (by decide) ⟨.bool false,?_⟩
      refine kq ?_
      refine kq ?_
      refine kq ?_
      refine wi ?_
      refine ⟨n+1,⟨by omega,by omega⟩,?_⟩
      rw [hst]
      exact gs
     | false =>
      rw [hthr] at hst
      refine regPh TT_ok [([0,1,2,3,6,7,10,11,4,8,12,5,9,13],[14]),([15],[16]),([17],[])] [] ?_
      refine cndT rfl (cndT rfl (cndT rfl (cndT rfl (cndT rfl (cndT rfl ?_)))))
      refine cndT rfl (ixf (f:=prC) (l:=p.1) (λ v hF=>hF.1.1.2) n (mkP 0 0) ?_)
      refine cndT rfl (ixf (f:=nC) (l:=q.1) (λ v hF=>hF.1.2) i 0 ?_)
      refine cndT rfl (ixf (f:=nC) (l:=q.1) (λ v hF=>hF.1.2) k 0 ?_)
      rw [hx,hy]
      refine cndT rfl (cndT rfl (cndT rfl ?_))
      refine kq ?_
      refine And.intro (by simp [bq]) ?_
      refine goPu TT_ok (.agg (prC (mkP x y)).toArray) (λ w hS=>pu_build_ar (places:=[(0,1),(1,1)]) (zero:=[.int .i64 0,.int .i64 0]) arB (by rfl) (by rw [hxy]; rfl)) ?_
      refine kq ?_
      refine cndT rfl (aq eqP (p.1.getD n (mkP 0 0)) (mkP x y) ?_)
      refine kq ?_
      refine kq ?_
      refine kq ?_
      refine wi ?_
      refine ⟨n+1,⟨by omega,by omega⟩,?_⟩
      rw [hst]
      exact gs
    ·have hnn:n=p.1.length:=by omega
     rw [hnn,htold]
     refine cnd (λ h=>by exfalso; simp at h) (λ _=>?_)
     refine wi ?_
     exact ⟨k+1,⟨⟨by omega,by omega⟩,by omega⟩,gs⟩
   ·refine wi ?_
    exact ⟨i+1,⟨by omega,by omega⟩,gs⟩
  ·refine cA TT_ok (λ w v h1 h2 h3=>c_Gaps r q1.1 q1.2 1 hb w v h3 h2.1.1.1.2) (λ y=>LR.m (R:=RwR) rwR_m y _) (λ g1=>?_)
   refine cbg (λ _ w hw=>c_lives31 w h0 hw) ?_
   have hfin:(!decide ((gpS r 1).2=0)||decide ((0:Int)<((gpS r 1).1.length:Int))||decide ((0:Int)<(q.1.length:Int)))=true:=by
    by_cases e1:(gpS r 1).2=0
    ·by_cases e2:(gpS r 1).1.length=0
     ·have:=hg1 e1 (List.eq_nil_of_length_eq_zero e2)
      have h3:0<q.1.length:=List.length_pos_iff.2 this
      rw [decide_eq_true (p:=(0:Int)<(q.1.length:Int)) (by omega)]; simp
     ·have h3:0<(gpS r 1).1.length:=by omega
      rw [decide_eq_true (p:=(0:Int)<((gpS r 1).1.length:Int)) (by omega)]; simp
    ·rw [decide_eq_false e1]; rfl
   refine congrArg Value.bool ?_
   rw [hfin]
   rfl
 ·refine cA TT_ok (λ w v h1 h2 h3=>c_MakeN (t:=t) rfl he a htb w v h3 (tab_m _ _ _ _ h1 hc)) (λ _=>Mono.tru) (λ z1=>?_)
  intro b5
  refine cnd (λ _=>?_) (λ h=>?_)
  ·refine cb (λ w hw=>c_lives31 w h0 hw) ?_
   exact rfl
  ·exact absurd he (by simpa using h)
end Go.Proofs.YtbmmnalndollkaaGreatDoor
