/- Laws of walks, and what functions of the program compute: part 6. Each with the conditions that it names. -/
import Derived.Test.YtbmmnalndollkaaGreatDoorSpe
set_option linter.unusedSimpArgs false
set_option linter.unusedVariables false
set_option maxRecDepth 100000
namespace Go.Proofs.YtbmmnalndollkaaGreatDoor
open Go Go.Dx Go.RowKit
def rwV (p:RwQ):Value := .slice p.2.1 p.1.length p.2.2
def chJ (q cap:Nat) (es:List RwQ):BL:=[(910,.e (some q,ChanC cap (es.map rwV) false))]
def rqJ (q cap l:Nat) (rec:Loop) (z:Option Code×List RwQ):BL:=JL (chJ q cap) 911 l rec z
def rowΦ (pts:List (List Val)) (cov:List Val→Bool) (cap i:Nat) (es:List RwQ) (j:Option Code) (es':List RwQ):Prop :=
 (cov (rowI pts i)=true∧j=none∧es'=es)∨(cov (rowI pts i)=false∧es.length<cap∧j=none∧es'.map (·.1)=es.map (·.1)++[rowI pts i])∨(cov (rowI pts i)=false∧¬ es.length<cap∧j=some (.exit 0)∧es'=es)
def rowΨ (pts:List (List Val)) (cov:List Val→Bool) (cap:Nat) (j:Option Code) (es:List RwQ):Prop:=(j=none∨j=some (.exit 0))∧es.map (·.1)=(uncF pts cov (sufN pts 0)).take cap
def dgC (l:List Nat):List Value:=l.map λ d:Nat => .int .i64 (d:Int)
theorem dg_at (l:List Nat) {k:Nat} (h:k<l.length):(dgC l)[k]?=some (.int .i64 ((l.getD k 0:Nat):Int)):=by simp [dgC,List.getD,h]
theorem dg_set (l:List Nat) (k d:Nat) (h:k<l.length):(dgC l).take (k*1)++[.int .i64 (d:Int)]++(dgC l).drop (k*1+1)=dgC (l.set k d):=by
 unfold dgC
 rw [List.set_eq_take_append_cons_drop,if_pos h,Nat.mul_one]
 simp
theorem dg_zero (m:Nat):dgC (List.replicate m 0)=List.replicate m (.int .i64 0):=by simp [dgC]
structure RoS where
 i:Nat
 es:List RwQ
def roI (pts:List (List Val)) (cov:List Val→Bool) (cap:Nat) (s:RoS):Prop:=s.i<sufN pts 0∧s.es.map (·.1)=uncF pts cov s.i∧s.es.length≤cap
structure CaS where
 K:Nat
 at':List Nat
def caI (pts:List (List Val)) (i:Nat) (s:CaS):Prop:=s.K≤pts.length∧s.at'.length=pts.length∧(∀ j,j<pts.length→s.at'.getD j 0=if j<s.K then dig pts i j else 0)∧i % sufN pts s.K=sufN pts s.K - 1
theorem intSl:SlT Tryz.prog 78 3 1:=⟨by kernel_rfl,SzIs.of (by kernel_rfl)⟩
theorem intOne:OneT Tryz.prog 3:=OneT.of (by kernel_rfl)
theorem set_getD (l:List Nat) (k j d:Nat) (h:k<l.length):(l.set k d).getD j 0=if j=k then d else l.getD j 0:=by
 by_cases hj:j=k
 ·subst hj; rw [if_pos rfl]; simp [List.getD,h]
 ·rw [if_neg hj]; simp [List.getD,List.getElem?_set,Ne.symm hj]
set_option maxHeartbeats 8000000 in
theorem c_rows1 (pts:List (List Val)) (cov:List Val→Bool) (q cap l:Nat) (rec:Loop) (h00:View) (hL:GrL pts) (hpl:pts.length≤1000000) (hsm:sufN pts 0≤4096)
  (hy:∀ (i:Nat) (es:List RwQ) (y:AC),i<sufN pts 0→es.map (·.1)=uncF pts cov i→es.length≤cap→∀ w v',VLe h00 v'→VLe v' (Full w)→(∀ b∈ids (oes (rqJ q cap l rec (none,es))),v' b=none)→OwnJ w (oes (rqJ q cap l rec (none,es))) →
   SlC 52 3 (flatR valC) v' (.slice y.1 (rowI pts i).length y.2) (rowI pts i)→RwF es v' →
   YJV Tryz.prog (rqJ q cap l rec) (none,es) l [.slice y.1 (rowI pts i).length y.2] w v' (λ u z=>u = .bool z.1.isNone∧rowΦ pts cov cap i es z.1 z.2) (λ z=>RwF z.2))
  (b1:Nat) (r:Rdy) (a:TA) (x z:AC) (w0:World) (h0:View) (hle:VLe h00 h0) (hv:VLe h0 (Full w0)) (hno:∀ b∈ids (oes (rqJ q cap l rec (none,[]))),h0 b=none) (ho:OwnJ w0 (oes (rqJ q cap l rec (none,[]))))
  (hb:h0 b1=some (.cells (grdC r a x z pts.length).toArray 91 (0,0))) (hp:LR 49 1 RwR h0 z.1 z.2 pts) :
  Calls Tryz.prog 122 #[.func (.yield l) #[] #[],.pointer (some ⟨b1,0,none⟩)] w0 (RetJV (rqJ q cap l rec) (none,[]) w0 h0 (λ u z=>u = .tuple #[]∧rowΨ pts cov cap z.1 z.2) (λ z=>RwF z.2)):=by
 have hlm:=hp.lm
 have hpts:∀ v' w,VLe h0 v'→VLe v' (Full w)→w.cell? ⟨b1,0+7,none⟩=some (.slice z.1 pts.length z.2):=λ v' w g1 g3=>by rw [cell_row (g3 _ _ (g1 _ _ hb))]; rfl
 refine entJV (rqJ q cap l rec) (none,[]) (g:=λ _ => .tuple #[]) (Ψ:=λ z=>rowΨ pts cov cap z.1 z.2) (Φ:=λ z=>RwF z.2) (λ z=>rwf_m z.2) (args:=[.func (.yield l) #[] #[],.pointer (some ⟨b1,0,none⟩)]) TT_ok [11,17,18,31,33,44,45,47,61,1000012] [] [.v (.func (.yield l) #[] #[]),.v (.pointer (some ⟨b1,0,none⟩))] Tryz.func122 rfl Tryz.ntmps122 rfl rfl hv hno ho rfl ?_
 refine ⟨.slice z.1 pts.length z.2,gc_mk λ _=>λ v' w g1 _ g3=>hpts v' w g1 g3,?_⟩
 refine mkI TT_ok 902 rfl (t:=78) (e:=3) (by kernel_rfl) (by kernel_rfl) rfl rfl hpl (λ bd=>?_)
 rw [← dg_zero,← digs_zero]
 have hn0:0<sufN pts 0:=suf_pos hL.p 0
 refine w_loopF TT_ok (λ _:RoS=>[]) (λ s=>(902,.e (bufE 3 1 (.slice (some ⟨bd,0,none⟩) pts.length pts.length) (dgC (digs pts s.i))))::rqJ q cap l rec (none,s.es)) (λ s v=>RwF s.es v) ⟨0,[]⟩ (roI pts cov cap) (λ s=>sufN pts 0 - s.i) (λ s=>rwf_m s.es) ?_
 refine And.intro ⟨⟨hn0,rfl,Nat.zero_le _⟩,gs rfl rfl (λ v _ q hq=>absurd hq List.not_mem_nil) (.inr rfl)⟩ ?_
 rintro ⟨i,es⟩ ⟨hi,hes,hec⟩
 dsimp only at hi hes hec ⊢
 refine nilC 901 52 3 ?_
 refine w_loopF TT_ok (λ s:(Option Addr×Nat×Nat)×Nat=>[(14,.v (.int .i64 s.2)),(4,.v (.slice s.1.1 s.1.2.1 s.1.2.2))]) (λ s=>(901,.e (bufE 52 3 (.slice s.1.1 s.1.2.1 s.1.2.2) (((rowI pts i).take s.2).map valC).flatten))::(902,.e (bufE 3 1 (.slice (some ⟨bd,0,none⟩) pts.length pts.length) (dgC (digs pts i))))::rqJ q cap l rec (none,es)) (λ _ v=>RwF es v) ((none,0,0),0) (λ s=>s.2≤pts.length∧s.1.2.1=s.2) (λ s=>pts.length - s.2) (λ _=>rwf_m es) ?_
 refine And.intro ⟨⟨Nat.zero_le _,rfl⟩,gs rfl rfl (λ v hF=>hF) (.inr rfl)⟩ ?_
 rintro ⟨⟨a2,n2,c2⟩,k⟩ ⟨hk,hn2⟩
 dsimp only at hk hn2 ⊢
 refine cnd (λ h=>?_) (λ h=>?_)
 ·have hkl:k<pts.length:=by omega
  have hdl:=dig_lt hL.p (i:=i) hkl
  have hrs:=rowI_snoc (pts:=pts) (i:=i) hkl
  have hrl:((rowI pts i).take k).length=k:=by rw [List.length_take,rowI_len]; omega
  refine ixB TT_ok (m:=k) 902 rfl intSl rfl rfl rfl hkl (λ b o hbo=>?_)
  cases hbo
  refine ldB TT_ok (m:=k) 902 rfl intOne rfl (by rw [dg_at _ (by rw [digs_len]; exact hkl),digs_get hkl]) ?_
  refine ⟨.slice z.1 pts.length z.2,gc_mk λ _=>λ v' w g1 _ g3=>hpts v' w g1 g3,?_⟩
  refine ixL (R:=RwR) hp k [] (λ cs hcs=>?_)
  generalize pts.getD k []=ll at hdl hrs hcs ⊢
  obtain ⟨y,rfl,hy2⟩:=hcs
  refine ixs hy2 (dig pts i k) v0 ?_
  intro b28
  refine ap TT_ok 901 (AppT.of (bytes:=32) (sz:=2) (by kernel_rfl) (by kernel_rfl) (by kernel_rfl)) rfl rfl rfl rfl rfl rfl rfl (by rw [row_flat (sz:=3) (λ _=>rfl),hrl]; show (_+3)*33≤_; omega) (λ a3 n3 c3 e3=>?_)
  rw [row_flat (sz:=3) (λ _=>rfl),hrl] at e3
  have e3:n3*3=k*3+3:=e3
  refine wi ?_
  exact ⟨((a3,n3,c3),k+1),⟨⟨hkl,by show n3=k+1; omega⟩,by show pts.length - (k+1)<pts.length - k; omega⟩,gs rfl (by rw [hrs,List.map_append,List.flatten_append]; rfl) (λ v hF=>hF) (.inr rfl)⟩
 have hke:k=pts.length:=by omega
 subst hke
 rw [show (rowI pts i).take pts.length=rowI pts i from List.take_of_length_le (by rw [rowI_len]; exact Nat.le_refl _)]
 have hn2:n2=(rowI pts i).length:=by rw [rowI_len]; exact hn2
 subst hn2
 refine And.intro rfl ?_
 refine sealV (g:=valC) (l:=rowI pts i) 901 (λ b hb=>by
  have hb:b∈[q,l]:=hb
  rcases List.mem_cons.1 hb with rfl | hb
  ·exact ⟨910,_,by decide,rfl⟩
  ·rw [List.mem_singleton.1 hb]; exact ⟨911,_,by decide,rfl⟩) rfl rfl ?_
 refine goW TT_ok ?_
 refine yV TT_ok (rqJ q cap l rec) (none,es) (g:=λ z => .bool z.1.isNone) (Φ:=λ z=>RwF z.2) (λ z=>rwf_m z.2) (λ w v h1 h2 h3 h4 h5=>hy i es (a2,c2) hi hes hec w v (hle.trans h1) h3 h4 h5 h2.2 h2.1) ?_ (hl:=⟨rfl,rfl,trivial⟩)
 rintro ⟨j,es'⟩ hΦ
 dsimp only at hΦ
 refine cnd (λ h1=>?_) (λ h1=>?_)
 ·have hj:j≠none:=λ e=>by rw [e] at h1; exact Bool.noConfusion (show true=false from h1)
  have hfin:rowΨ pts cov cap j es':=by
   rcases hΦ with ⟨_,e,_⟩ | ⟨_,_,e,_⟩ | ⟨hc,hlt,e,e2⟩
   ·exact absurd e hj
   ·exact absurd e hj
   ·refine ⟨.inr e,?_⟩
    rw [e2,hes]
    exact (unc_take (by omega) (by rw [← hes,List.length_map]; omega)).symm
  exact ⟨(j,es'),rfl,hfin,rfl,⟨rfl,rfl,trivial⟩,λ hh _ hF=>hF.2⟩
 have hj:j=none:=by
  cases j with
  | none=>rfl
  | some _=>exact absurd (show false=true from h1) (by decide)
 subst hj
 have hes':es'.map (·.1)=uncF pts cov (i+1)∧es'.length≤cap:=by
  rcases hΦ with ⟨hc,_,e⟩ | ⟨hc,hlt,_,e⟩ | ⟨_,_,e,_⟩
  ·rw [e,unc_snoc,if_pos hc,List.append_nil]; exact ⟨hes,hec⟩
  ·refine ⟨by rw [e,hes,unc_snoc,if_neg (by rw [hc]; decide)],?_⟩
   have:=congrArg List.length e
   rw [List.length_map,List.length_append,List.length_map] at this
   rw [this]; exact hlt
  ·cases e
 obtain ⟨hes2,hec2⟩:=hes'
 clear hΦ h1
 refine wi ?_
 refine w_loopF TT_ok (λ s:CaS=>[(7,.v (.int .i64 ((s.K:Int) - 1)))]) (λ s=>(902,.e (bufE 3 1 (.slice (some ⟨bd,0,none⟩) pts.length pts.length) (dgC s.at')))::rqJ q cap l rec (none,es')) (λ _ v=>RwF es' v) ⟨pts.length,digs pts i⟩ (caI pts i) (λ s=>s.K) (λ _=>rwf_m es') ?_
 refine And.intro ⟨⟨Nat.le_refl _,digs_len pts i,λ j hj=>by rw [if_pos hj]; exact digs_get hj,by rw [suf_end]; omega⟩,gsJ ⟨rfl,rfl,rfl,trivial⟩ rfl (λ v hF=>hF.2)⟩ ?_
 rintro ⟨K,d⟩ ⟨hK,hdl,hd,hmod⟩
 dsimp only at hK hdl hd hmod ⊢
 refine cnd (λ h1=>?_) (λ h1=>?_)
 ·obtain ⟨k,rfl⟩:∃ k,K=k+1:=⟨K - 1,by omega⟩
  have hkl:k<pts.length:=by omega
  have hdk:d.getD k 0=dig pts i k:=by rw [hd k hkl,if_pos (by omega)]
  have hlt:=dig_lt hL.p (i:=i) hkl
  have hlk:=hL.n _ (getD_mem pts k [] hkl)
  have hdn:=λ h=>dig_next hL.p hkl hmod h
  have hdf:=λ h=>dig_full hL.p hkl hmod h
  have hdla:=λ h=>dig_last hL.p (i:=i) hkl h
  refine ixB TT_ok (m:=k) 902 rfl intSl rfl rfl (by omega) hkl (λ b o hbo=>?_)
  cases hbo
  refine ldB TT_ok (m:=k) 902 rfl intOne rfl (by rw [dg_at _ (by omega),hdk]) ?_
  refine wi ?_
  refine ixStB TT_ok (T:=3) (e:=3) (sz:=1) (m:=k) (new:=[.int .i64 ((dig pts i k+1:Nat):Int)]) 902 rfl intSl rfl rfl (by omega) hkl rfl rfl (by simp) (by simp [Value.cells]) rfl (SzIs.of (by kernel_rfl)) rfl (λ b o hbo=>?_)
  cases hbo
  rw [show (k*1+[(Value.int .i64 ((dig pts i k+1:Nat):Int))].length)=k*1+1 from rfl,dg_set d k (dig pts i k+1) (by omega)]
  refine rdWp rfl ?_
  refine regW TT_ok [0,1,4,6,2,5,3,7,8,9,10] [] [] [50,51] ?_
  refine hIx (e:=3) (sz:=1) (m:=k) intSl rfl rfl (by omega) hkl ?_
  refine ⟨.slice z.1 pts.length z.2,gc_mk λ _=>λ v' w g1 _ g3=>hpts v' w g1 g3,?_⟩
  refine hLd (p:=k) 902 rfl intOne rfl (by omega) (by rw [dg_at _ (by rw [List.length_set]; omega),set_getD _ _ _ _ (by omega),if_pos rfl]) ?_
  refine ixL (R:=RwR) hp k [] (λ cs hcs=>?_)
  generalize hqe:pts.getD k []=ll at hdn hdf hdla hlk hcs ⊢
  obtain ⟨y,rfl,hy2⟩:=hcs
  have hsd:(d.set k (dig pts i k+1)).length=pts.length:=by rw [List.length_set]; exact hdl
  refine cnd (λ h2=>?_) (λ h2=>?_)
  ·have h2:dig pts i k+1<ll.length:=by have h2:((dig pts i k+1:Nat):Int)<(ll.length:Int):=h2; omega
   have hin:i+1<sufN pts 0:=by
    by_cases he:i+1=sufN pts 0
    ·exact absurd h2 (hdla he)
    ·omega
   have hdg:d.set k (dig pts i k+1)=digs pts (i+1):=digs_next hsd λ j hj=>by
    rw [set_getD _ _ _ _ (by omega),hdn h2 j hj,hd j hj]
    by_cases c1:j=k
    ·rw [if_pos c1,if_neg (by omega),if_pos c1]
    ·rw [if_neg c1]
     by_cases c2:j<k
     ·rw [if_pos (by omega),if_pos c2]
     ·rw [if_neg (by omega),if_neg c2,if_neg c1]
   rw [hdg]
   refine cnd (λ h3=>?_) (λ h3=>?_)
   ·exfalso; omega
   ·exact ⟨⟨i+1,es'⟩,⟨⟨hin,hes2,hec2⟩,by show sufN pts 0 - (i+1)<sufN pts 0 - i; omega⟩,gs rfl rfl (λ v hF=>hF) (.inr rfl)⟩
  ·have h2:¬ dig pts i k+1<ll.length:=λ h=>h2 (by show ((dig pts i k+1:Nat):Int)<(ll.length:Int); omega)
   refine ixStB TT_ok (T:=3) (e:=3) (sz:=1) (m:=k) (new:=[.int .i64 ((0:Nat):Int)]) 902 rfl intSl rfl rfl (by omega) hkl rfl rfl (by simp) (by simp [Value.cells]) rfl (SzIs.of (by kernel_rfl)) rfl (λ b o hbo=>?_)
   cases hbo
   rw [show (k*1+[(Value.int .i64 ((0:Nat):Int))].length)=k*1+1 from rfl,dg_set (d.set k (dig pts i k+1)) k 0 (by omega)]
   refine wiE ((k:Int) - 1) (by omega) ?_
   refine ⟨⟨k,(d.set k (dig pts i k+1)).set k 0⟩,⟨⟨by show k≤pts.length; omega,by show ((d.set k _).set k 0).length=_; rw [List.length_set]; exact hsd,?_,hdf h2⟩,Nat.lt_succ_self k⟩,gs rfl rfl (λ v hF=>hF) (.inr rfl)⟩
   intro j hj
   show ((d.set k _).set k 0).getD j 0=_
   rw [set_getD _ _ _ _ (by omega),set_getD _ _ _ _ (by omega)]
   by_cases c1:j=k
   ·rw [if_pos c1]
    show 0=if j<k then _ else 0
    rw [if_neg (by omega)]
   ·rw [if_neg c1,if_neg c1,hd j hj]
    show _=if j<k then _ else 0
    by_cases c2:j<k
    ·rw [if_pos (by omega),if_pos c2]
    ·rw [if_neg (by omega),if_neg c2]
 ·have hK0:K=0:=by omega
  subst hK0
  have hiN:i+1=sufN pts 0:=by rw [Nat.mod_eq_of_lt hi] at hmod; omega
  refine cnd (λ h3=>?_) (λ h3=>?_)
  ·refine ⟨(none,es'),rfl,⟨.inl rfl,?_⟩,rfl,⟨rfl,rfl,trivial⟩,λ hh _ hF=>hF⟩
   show es'.map (·.1)=_
   rw [List.take_of_length_le,hes2,hiN]
   rw [← hiN,← hes2,List.length_map]; exact hec2
  ·exfalso; omega
end Go.Proofs.YtbmmnalndollkaaGreatDoor
set_option maxRecDepth 100000
namespace Go.Proofs.YtbmmnalndollkaaGreatDoor
open Go Go.Dx Go.RowKit
theorem c_rows (r:Rdy) (a:TA) (x z:AC) (n:Nat) (w0:World) (h0:View) (hv:VLe h0 (Full w0)):Calls Tryz.prog 77 #[.agg (grdC r a x z n).toArray] w0 (Ret w0 h0 λ u hh=>∃ b:Nat,u = .func (.func 122) #[] #[.pointer (some ⟨b,0,none⟩)]∧hh b=some (.cells (grdC r a x z n).toArray 91 (0,0))):=by
 refine entA (args:=[.agg (grdC r a x z n).toArray]) TT_ok [3] [] Tryz.func77 rfl Tryz.ntmps77 rfl rfl hv (λ _ _ _ hle hx=>hle _ _ hx) ?_
 intro b1
 refine shutG TT_ok (Φ:=λ h=>h b1=some (.cells (grdC r a x z n).toArray 91 (0,0))) 1 rfl (λ hh _ _ hb=>hb) ?_ (λ _ _ hle hx=>hle _ _ hx)
 exact ⟨b1,rfl,λ v _ hF=>hF.2⟩
section chn
variable {c:Cx} (hT:c.T.Ok c.P)
include hT
theorem mkCh {al:List Oper} {K:KR} {d t e m by':Nat} {dir:ChanDir} {k1:IntKind} {x:Operand} {ty:TypeId} {pos:String} {af:Array Edge} {r:List Oper} {L:SL} {B:BL} {F:FV} (kn:Nat) (hk:lkA B kn=none) (ht:c.P.underlying t=some (.chan dir e)) (hz:(c.P.info? e).map (·.bytes)=some by')
  (hx:rdS L [] none x=some (.v (.int k1 (m:Int)))) (hm:m≤4096) (hb:by'≤1000)
  (h:∀ q,runs c al true K r ((d,.v (.chan (some q)))::L) [] ((kn,.e (some q,ChanC m [] false))::B) F) (hd:Nat.blt d c.n=true:=by rfl) :
  true=true∧WP c al (⟨some d,.makeChan t x,ty,pos,af,none⟩::r) L [] B F K:=by
 refine ⟨rfl,⟨λ Q a w hn hp hD hS=>?_⟩⟩
 obtain ⟨i,hi,hby⟩:∃ i,c.P.info? e=some i∧i.bytes=by':=by
  cases hi:c.P.info? e with
  | none=>rw [hi] at hz; cases hz
  | some i=>rw [hi] at hz; exact ⟨i,rfl,Option.some.inj hz⟩
 have hrun:Ds c.P (fl L [] B) ⟨some d,.makeChan t x,ty,pos,af,none⟩ w λ v' w'=>v' = .chan (some w.heap.size)∧w'=w.alloc (.chan m #[] false 0 0 false):=by
  intro ρ hρ
  unfold Dx.Does
  have hmm:by'*m≤1000*4096:=Nat.mul_le_mul hb hm
  have hr:=Go.Conc.run_makeChan (w:=w) ht hi k1 m (by omega) (by
   rw [hby]
   have:(by':Int)*(m:Int)=((by'*m:Nat):Int):=by simp
   omega)
  have:(execOp ρ ⟨some d,.makeChan t x,ty,pos,af,none⟩).run c.P w = .ok (.value (.chan (some w.heap.size))) (w.alloc (.chan m #[] false 0 0 false)):=by
   simp only [execOp,hρ x (by simp [Op.operands]) _ (ev_sl hx rfl),Sem.run_bind,hr,Result.andThen_ok,Sem.run_pure]
  rw [this]
  exact ⟨rfl,rfl⟩
 refine s_ds hD.fr hrun hd ?_
 rintro v' w' a' ⟨rfl,rfl⟩ hF'
 refine (runs_sound hT r _ _ _ _ (h w.heap.size) inv_nil).run Q a' _ hn hp ⟨by rw [fl_congr (nil_dv hk _)]; exact hF',inv_nil⟩ ⟨hS.st.new _ (C:=ChanC m [] false) ⟨0,0,rfl⟩,λ q g b o cs hq=>?_⟩
 rcases List.mem_cons.1 hq with hq | hq
 ·cases hq
 ·exact hS.bk _ _ _ _ _ hq
theorem clCh {al:List Oper} {K:KR} {t cap q:Nat} {buf:List Value} {x:Operand} {ty:TypeId} {pos:String} {af:Array Edge} {r:List Oper} {L:SL} {B:BL} {F:FV} (k:Nat) (hB:lkA B k=some (.e (some q,ChanC cap buf false)))
  (hx:rdS L [] none x=some (.v (.chan (some q)))) (h:setAK B k (.e (some q,ChanC cap buf true)) λ B'=>runs c al true K r L [] B' F) :
  true=true∧WP c al (⟨none,.call ⟨.builtin .close,⟨[x]⟩,⟨[t]⟩⟩,ty,pos,af,none⟩::r) L [] B F K:=by
 refine ⟨rfl,⟨λ Q ac w hn hp hD hS=>?_⟩⟩
 obtain ⟨i,hi,_⟩:=lkE_ix hB
 obtain ⟨s,rc,hq⟩:∃ s rc,w.heap[q]?=some (.chan cap buf.toArray false s rc false):=hS.st.at hi
 have hlt:q<w.heap.size:=(Array.getElem?_eq_some_iff.1 hq).1
 have hrun0:=Go.run_close_open (P:=c.P) #[t] ty hq
 have ex:ac.eval x = .chan (some q):=hD.fr.ev (ev_sl hx rfl)
 refine wpM_plain rfl λ K' hK=>opM_of_does ?_
 have hkeep:Keep [q] w { w with heap:=w.heap.setIfInBounds q (.chan cap buf.toArray true s rc false) }:=keep_chan (w:=w)
 obtain ⟨B',hr,hS',hdv⟩:=setAK_own hB h hS hkeep (show ChanC cap buf true ({ w with heap:=w.heap.setIfInBounds q (.chan cap buf.toArray true s rc false) }:World).heap[q]? from ⟨s,rc,by simp [hlt]⟩)
 unfold Dx.Does
 have hrun:(execOp ac.eval ⟨none,.call ⟨.builtin .close,⟨[x]⟩,⟨[t]⟩⟩,ty,pos,af,none⟩).run c.P w = .ok (.value (.tuple #[])) { w with heap:=w.heap.setIfInBounds q (.chan cap buf.toArray true s rc false) }:=by
  simp only [execOp,resolve,List.map_toArray,List.map_cons,List.map_nil,ex,Sem.run_bind,Sem.run_pure,Result.andThen_ok,invoke,builtin,hrun0]
 rw [hrun]
 exact hK _ _ ((runs_sound hT r _ _ _ _ hr inv_nil).run Q _ _ hn hp ⟨by rw [fl_congr hdv]; exact hD.fr,inv_nil⟩ hS')
open Go.Conc in
theorem cpSend {i d t cap q:Nat} {buf:List Value} {x y:Operand} {u zv:Value} {ty:TypeId} {pos:String} {af:Array Edge} {rest:List Oper} {L:SL} {B:BL} {F:FV} {kn:KN} {kx:Nat→KN} {kr:KN} (k:Nat) (hB:lkA B k=some (.e (some q,ChanC cap buf false))) (hz:∀ w,(zeroValue t).run c.P w = .ok zv w)
  (hx:rdS L [] none x=some (.v (.chan (some q)))) (hy:rdS L [] none y=some (.v u)) (hn:Nat.blt d c.n=true)
  (h1:buf.length<cap→setAK B k (.e (some q,ChanC cap (buf++[u]) false)) λ B'=>runs c (⟨some d,.select #[⟨x,some y,t⟩] false,ty,pos,af,none⟩::rest) true (λ L I B F=>pushK I L λ L=>kn L B F) rest ((d,.v (.tuple #[.int .i64 0,.bool false]))::L) [] B' F)
  (h2:¬ buf.length<cap→runs c (⟨some d,.select #[⟨x,some y,t⟩] false,ty,pos,af,none⟩::rest) true (λ L I B F=>pushK I L λ L=>kn L B F) rest ((d,.v (.tuple #[.int .i64 (-1),.bool false]))::L) [] B F) :
  CP c (.region i ⟨⟨some d,.select #[⟨x,some y,t⟩] false,ty,pos,af,none⟩::rest⟩ false) L B F kn kx kr:=by
 by_cases hlt:buf.length<cap
 ·obtain ⟨j,hj,hset⟩:=lkE_ix hB
  obtain ⟨B',hr,h3,h4,h5⟩:=hset (h1 hlt)
  refine cpComm hT (v := .tuple #[.int .i64 0,.bool false]) B' rfl hn rfl (λ cc h=>by cases h) (λ w ρ=>rfl) (λ a w hD hS=>?_) (dvO_setE hB h4) hr
  obtain ⟨s,rc,hq⟩:∃ s rc,w.heap[q]?=some (.chan cap buf.toArray false s rc false):=hS.st.at hj
  have hcm:=comm_send (P:=c.P) (ρ:=a.eval) (d:=some d) (ty:=ty) (pos:=pos) (af:=af) (u:=u) (hD.fr.ev (ev_sl hx rfl)) (hD.fr.ev (ev_sl hy rfl)) hz hq
  rw [if_pos hlt] at hcm
  refine ⟨_,hcm,⟨by rw [h3]; exact hS.st.write hj keep_chan ⟨s+1,rc,Go.Conc.heap_setChan _ _ _ _ _ _ _ _ (Array.getElem?_eq_some_iff.1 hq).1⟩,λ q' g b o cs hm=>?_⟩⟩
  rcases h5 _ hm with hm | hm
  ·exact hS.bk _ _ _ _ _ hm
  ·cases hm
 ·refine cpComm hT (v := .tuple #[.int .i64 (-1),.bool false]) B rfl hn rfl (λ cc h=>by cases h) (λ w ρ=>rfl) (λ a w hD hS=>?_) (λ _=>rfl) (h2 hlt)
  obtain ⟨j,hj,hset⟩:=lkE_ix hB
  obtain ⟨s,rc,hq⟩:∃ s rc,w.heap[q]?=some (.chan cap buf.toArray false s rc false):=hS.st.at hj
  have hcm:=comm_send (P:=c.P) (ρ:=a.eval) (d:=some d) (ty:=ty) (pos:=pos) (af:=af) (u:=u) (hD.fr.ev (ev_sl hx rfl)) (hD.fr.ev (ev_sl hy rfl)) hz hq
  rw [if_neg hlt] at hcm
  exact ⟨_,hcm,hS⟩
open Go.Conc in
theorem cpRecv {i d t e cap q:Nat} {dir:ChanDir} {buf:List Value} {x:Operand} {zv:Value} {ty:TypeId} {pos:String} {af:Array Edge} {rest:List Oper} {L:SL} {B:BL} {F:FV} {kn:KN} {kx:Nat→KN} {kr:KN} (k:Nat) (hB:lkA B k=some (.e (some q,ChanC cap buf true))) (ht:c.P.underlying t=some (.chan dir e)) (hz:∀ w,(zeroValue e).run c.P w = .ok zv w)
  (hx:rdS L [] none x=some (.v (.chan (some q)))) (hn:Nat.blt d c.n=true)
  (h1:buf=[]→runs c (⟨some d,.recv t x true,ty,pos,af,none⟩::rest) true (λ L I B F=>pushK I L λ L=>kn L B F) rest ((d,.v (.tuple #[zv,.bool false]))::L) [] B F)
  (h2:∀ u l,buf=u::l→setAK B k (.e (some q,ChanC cap l true)) λ B'=>runs c (⟨some d,.recv t x true,ty,pos,af,none⟩::rest) true (λ L I B F=>pushK I L λ L=>kn L B F) rest ((d,.v (.tuple #[u,.bool true]))::L) [] B' F) :
  CP c (.region i ⟨⟨some d,.recv t x true,ty,pos,af,none⟩::rest⟩ false) L B F kn kx kr:=by
 cases hb:buf with
 | nil =>
  refine cpComm hT (v := .tuple #[zv,.bool false]) B rfl hn rfl (λ cc h=>by cases h) (λ w ρ=>rfl) (λ a w hD hS=>?_) (λ _=>rfl) (h1 hb)
  obtain ⟨j,hj,hset⟩:=lkE_ix hB
  obtain ⟨s,rc,hq⟩:∃ s rc,w.heap[q]?=some (.chan cap buf.toArray true s rc false):=hS.st.at hj
  rw [hb] at hq
  have hcm:=comm_recv (P:=c.P) (ρ:=a.eval) (d:=some d) (ty:=ty) (pos:=pos) (af:=af) ht (hD.fr.ev (ev_sl hx rfl)) hz hq
  exact ⟨_,hcm,hS⟩
 | cons u l =>
  obtain ⟨j,hj,hset⟩:=lkE_ix hB
  obtain ⟨B',hr,h3,h4,h5⟩:=hset (h2 u l hb)
  refine cpComm hT (v := .tuple #[u,.bool true]) B' rfl hn rfl (λ cc h=>by cases h) (λ w ρ=>rfl) (λ a w hD hS=>?_) (dvO_setE hB h4) hr
  obtain ⟨s,rc,hq⟩:∃ s rc,w.heap[q]?=some (.chan cap buf.toArray true s rc false):=hS.st.at hj
  rw [hb] at hq
  have hcm:=comm_recv (P:=c.P) (ρ:=a.eval) (d:=some d) (ty:=ty) (pos:=pos) (af:=af) ht (hD.fr.ev (ev_sl hx rfl)) hz hq
  refine ⟨_,hcm,⟨by rw [h3]; exact hS.st.write hj keep_chan ⟨s,rc+1,Go.Conc.heap_setChan _ _ _ _ _ _ _ _ (Array.getElem?_eq_some_iff.1 hq).1⟩,λ q' g b o cs hm=>?_⟩⟩
  rcases h5 _ hm with hm | hm
  ·exact hS.bk _ _ _ _ _ hm
  ·cases hm
end chn
theorem zero_rows:∀ w,(zeroValue 49).run Tryz.prog w = .ok (.slice none 0 0) w:=by
 intro w
 obtain ⟨inf,z,hi,hz,hzc⟩:∃ inf z,Tryz.prog.info? 49=some inf∧inf.zero=some z∧z = .slice none 0 0:=by
  have h:(Tryz.prog.info? 49).bind (·.zero)=some (.slice none 0 0):=by kernel_rfl
  cases hi:Tryz.prog.info? 49 with
  | none=>rw [hi] at h; cases h
  | some inf=>rw [hi] at h; exact ⟨inf,_,rfl,h,rfl⟩
 subst hzc
 simp [zeroValue,typeInfo,hi,hz]
end Go.Proofs.YtbmmnalndollkaaGreatDoor
set_option maxRecDepth 100000
namespace Go.Proofs.YtbmmnalndollkaaGreatDoor
open Go Go.Dx Go.RowKit
def capS (c:Int):Nat:=min c.toNat 4096
def TT31:Go.Dx.Tab:=⟨(139,⟨.ot,1,false,[.chan none]⟩)::TT.tys,TT.fs⟩
theorem TT31_ok:Go.Dx.Tab.Ok Tryz.prog TT31:=⟨by kernel_rfl,by kernel_rfl,by kernel_rfl⟩
structure FdS where
 a:Option Addr
 n:Nat
 c:Nat
 e1:List RwQ
 e2:List RwQ
def fndE (res:List (List Val)) (B:BL) (F:FV) (us:List Value):Prop:=∃ y:AC,tupV us = .slice y.1 res.length y.2∧∀ v,F v→LR 49 1 RwR v y.1 y.2 res
set_option maxHeartbeats 16000000 in
theorem c_found (r:Rdy) (a:TA) (x z:AC) (pts:List (List Val)) (cnt:Int) (hL:GrL pts) (hpl:pts.length≤1000000) (hsm:sufN pts 0≤4096) (hlc:∀ l∈r.ls,l.cs.length=pts.length) (hcb:∀ l∈r.ls,∀ c∈l.cs,CB c) (hvb:∀ q∈pts,∀ v∈q,valB v) (w0:World) (h0:View) (hv:VLe h0 (Full w0))
  (hls:LR 75 2 LinR h0 x.1 x.2 r.ls) (hp:LR 49 1 RwR h0 z.1 z.2 pts) :
  Calls Tryz.prog 42 #[.agg (grdC r a x z pts.length).toArray,.int .i64 cnt] w0 (Ret w0 h0 λ u hh=>∃ y:AC,u = .slice y.1 (gapS pts (covR r) cnt).length y.2∧LR 49 1 RwR hh y.1 y.2 (gapS pts (covR r) cnt)):=by
 have hcap:(uncF pts (covR r) (sufN pts 0)).take (capS cnt)=gapS pts (covR r) cnt:=gap_cap cnt hsm
 generalize gapS pts (covR r) cnt=res at hcap ⊢
 have hcn:(if (4096:Int)<(if cnt<0 then 0 else cnt) then 4096 else (if cnt<0 then 0 else cnt))=((capS cnt:Nat):Int):=by unfold capS; split <;> split <;> omega
 have hE:∀ (B:BL) (F:FV) (us:List Value) (w:World),fndE res B F us→Sx ⟨Tryz.prog,TT31,.wp,34,w0,h0,[],λ _=>False,[12,13],[]⟩ B F w→(Ret w0 h0 λ u hh=>∃ y:AC,u = .slice y.1 res.length y.2∧LR 49 1 RwR hh y.1 y.2 res) (.returned (tupV us)) w:=by
  rintro B F us w ⟨y,h1,h2⟩ hS
  rw [h1]
  exact hS.st.ret (λ _ _ hle ⟨b,e,hs⟩=>⟨b,e,LR.mono (R:=RwR) rwR_m hle hs⟩) λ hh hF=>⟨y,rfl,h2 hh hF⟩
 refine entDM (E:=fndE res) (args:=[.agg (grdC r a x z pts.length).toArray,.int .i64 cnt]) TT31_ok [12,13] [] 1 Tryz.func42 rfl Tryz.ntmps42 rfl rfl hv hE ?_
 intro b2 a0 w hD hS
 refine c_scope (c_seq (hand (c:=⟨Tryz.prog,TT31,.wp,34,w0,h0,[],λ _=>False,[12,13],[]⟩) TT31_ok hD hS ?_ (λ _ _ _ h _ _=>h.elim)))
 refine ⟨if cnt<0 then 0 else cnt,rfl,?_⟩
 refine ⟨((capS cnt:Nat):Int),hcn,?_⟩
 refine mkCh TT31_ok (t:=139) (e:=49) (m:=capS cnt) (by':=24) (dir := .both) 910 rfl (by kernel_rfl) (by kernel_rfl) rfl (by unfold capS; omega) (by decide) (λ q=>?_)
 intro b5 a1 w1 hD1 hS1
 refine n_then (c_seq (c_label (n_then ?_)))
 refine c_seq (c_seq (hand (c:=⟨Tryz.prog,TT31,.wp,34,w0,h0,[],λ _=>False,[12,13],[]⟩) TT31_ok hD1 hS1 ?_ (λ _ _ _ h _ _=>h.elim)))
 refine And.intro rfl ?_
 refine shutW 5 (Φ:=λ h=>h b5=some (.cells #[.chan (some q)] 139 (0,0))) (λ hh _ _ hb=>hb) ?_ (λ _ _ hle hx=>hle _ _ hx)
 refine shutW 2 (Φ:=λ h=>h b2=some (.cells (grdC r a x z pts.length).toArray 91 (0,0))) (λ hh _ _ hb=>hb) ?_ (λ _ _ hle hx=>hle _ _ hx)
 refine goW TT31_ok ?_
 refine ⟨grdC r a x z pts.length,gc_mk λ _=>⟨rfl,λ v' w' g1 g2 g3 j u hj=>?_⟩,?_⟩
 ·rw [add_mk,cell_row (g3 _ _ g2.2),Nat.zero_add]; exact hj
 refine cA TT31_ok (λ w v h1 h2 h3=>c_rows r a x z pts.length w v h3) (λ _ _ _ hle hx=>hle _ _ hx) (λ be=>?_)
 intro a2 w2 hD2 hS2
 refine n_then (wp_block ?_)
 have e14:a2.eval (.tmp 14) = .func (.func 122) #[] #[.pointer (some ⟨be,0,none⟩)]:=hD2.fr.kv (t:=14) rfl
 have e2:a2.tmps.getD 2 undef = .pointer (some ⟨b2,0,none⟩):=hD2.fr.kv (t:=2) rfl
 have e5:a2.tmps.getD 5 undef = .pointer (some ⟨b5,0,none⟩):=hD2.fr.kv (t:=5) rfl
 have hsz:a2.tmps.size=34:=hD2.fr.sz
 have ha2:a2={ a2 with defers:=([]:List Nat).map mkD }:=act_nil hD2.fr.df
 rw [ha2]
 refine rangeV (c:=⟨Tryz.prog,TT31,.wp,34,w0,h0,[],λ _=>False,[12,13],[]⟩) (Φ:=λ es=>RwF es) (λ es=>rwf_m es) (chJ q (capS cnt)) [] 911 912 (([]:List Nat).map mkD) (Ψ:=λ j es=>rowΨ pts (covR r) (capS cnt) j es) (lb:=[.pointer (some ⟨be,0,none⟩)]) hD2 hS2 e14 (TT31_ok.call rfl) ⟨rfl,trivial⟩ rfl (λ _ _=>rfl) (λ _=>rfl) (λ _=>rfl) ?_ ?_
 ·intro rec l hr1 hr2 hr3 hr4 hr5 hr6 w8 v g1 g2 g3 g4 g5
  refine (c_rows1 pts (covR r) q (capS cnt) l rec v hL hpl hsm ?_ be r a x z w8 v (λ _ _ h=>h) g3 g4 g5 g2.2 (LR.mono (R:=RwR) rwR_m g1 hp)).mono ?_
  ·intro i es y hi hes hec w9 v9 q1 q3 q4 q5 hsl hrw
   have hl9:w9.heap[l]?=some (.loop (recP rec none)):=q5.own (some l,LoopC (recP rec none)) (by unfold rqJ; rw [oes_JL]; exact List.mem_append_right _ (List.mem_singleton.2 rfl))
   refine ⟨_,_,_,_,run_yield1 (r:=recP rec none) hl9 hr4,?_⟩
   obtain ⟨t15,tx15⟩:=set_tmp (v := .slice y.1 (rowI pts i).length y.2) hsz (show 15<34 by decide)
   have hb2:v9 b2=some (.cells (grdC r a x z pts.length).toArray 91 (0,0)):=q1 _ _ g2.1.2
   have hb5:v9 b5=some (.cells #[.chan (some q)] 139 (0,0)):=q1 _ _ g2.1.1.2
   have hls9:=LR.mono (R:=LinR) linR_m (g1.trans q1) hls
   have hcv:covR r (rowI pts i)=r.ls.any (covS (rowI pts i)):=rfl
   have hrl:(rowI pts i).length=pts.length:=rowI_len pts i
   have hrv:∀ v∈rowI pts i,valB v:=λ v hv=>by
    obtain ⟨qq,hq,hvq⟩:=rowI_mem hL.p v hv
    exact hvb qq hq v hvq
   refine roundV (Φ:=λ es=>RwF es) (λ es=>rwf_m es) TT31_ok (chJ q (capS cnt)) 911 hr1 hr2 es (Ψ:=λ j es'=>rowΦ pts (covR r) (capS cnt) i es j es') [1000007] [] [(15,.v (.slice y.1 (rowI pts i).length y.2)),(2,.v (.pointer (some ⟨b2,0,none⟩))),(5,.v (.pointer (some ⟨b5,0,none⟩)))] (n:=34) q3 q4 q5 (by rw [Array.size_setIfInBounds,show (recP rec none).tmps=a2.tmps from hr3]; exact hsz) ?_ ?_
   ·intro t u hu
    show ((recP rec none).tmps.setIfInBounds 15 (.slice y.1 (rowI pts i).length y.2)).getD t undef=u
    rw [show (recP rec none).tmps=a2.tmps from hr3]
    by_cases c15:t=15
    ·subst c15; rw [t15]; exact Option.some.inj hu
    rw [tx15 t c15]
    by_cases c2:t=2
    ·subst c2; rw [e2]; exact Option.some.inj hu
    by_cases c5:t=5
    ·subst c5; rw [e5]; exact Option.some.inj hu
    have hn:lkA [(15,SV.v (.slice y.1 (rowI pts i).length y.2)),(2,.v (.pointer (some ⟨b2,0,none⟩))),(5,.v (.pointer (some ⟨b5,0,none⟩)))] t=none:=by
     rw [lkA_ne (Ne.symm c15),lkA_ne (Ne.symm c2),lkA_ne (Ne.symm c5)]; rfl
    rw [kv_none hn] at hu; cases hu
   ·unfold endV
    generalize LoopC { rec with state := .busy }=LC
    rw [hr5]
    refine ⟨rfl,?_⟩
    show vcC _ rec.body _ _ _ _ _ _
    rw [hr6]
    refine ⟨grdC r a x z pts.length,gc_mk λ _=>⟨rfl,λ v' w' p1 _ p3 j u hj=>?_⟩,?_⟩
    ·rw [add_mk,cell_row (p3 _ _ (p1 _ _ hb2)),Nat.zero_add]; exact hj
    refine cb (λ w hw=>c_covered r a x z y pts.length (rowI pts i) (λ l hl=>by rw [hlc l hl,hrl]) hcb hrv w v9 hw hls9 hsl) ?_
    rw [← hcv]
    refine cnd (λ h1=>?_) (λ h1=>?_)
    ·exact ⟨es,.inl ⟨h1,rfl,rfl⟩,rfl,⟨rfl,rfl,trivial⟩,λ hh hle _=>rwf_m es _ _ hle hrw⟩
    refine ⟨.chan (some q),gc_mk λ _=>λ v' w' p1 _ p3=>by rw [cell_row (p3 _ _ (p1 _ _ hb5))]; rfl,?_⟩
    refine cpSend TT31_ok (cap:=capS cnt) (q:=q) (buf:=es.map rwV) (u := .slice y.1 (rowI pts i).length y.2) 910 rfl zero_rows rfl rfl rfl (λ hlt=>?_) (λ hlt=>?_)
    ·refine cnd (λ _=>?_) (λ h=>absurd h (by decide))
     refine ⟨es++[(rowI pts i,y)],.inr (.inl ⟨by simpa using h1,by simpa using hlt,rfl,by rw [List.map_append]; rfl⟩),rfl,⟨?_,rfl,trivial⟩,λ hh hle _=>rwf_snoc (rwf_m es _ _ hle hrw) (hsl.monoF hle)⟩
     show some (OB.e (some q,ChanC (capS cnt) (es.map rwV++[.slice y.1 (rowI pts i).length y.2]) false))=some (OB.e (some q,ChanC (capS cnt) ((es++[(rowI pts i,y)]).map rwV) false))
     rw [List.map_append]; rfl
    ·refine cnd (λ h=>absurd h (by decide)) (λ _=>?_)
     exact ⟨es,.inr (.inr ⟨by simpa using h1,by simpa using hlt,rfl,rfl⟩),rfl,⟨rfl,rfl,trivial⟩,λ hh hle _=>rwf_m es _ _ hle hrw⟩
  ·rintro e w9 ⟨u,z,rfl,⟨_,h1⟩,h3⟩
   exact ⟨u,z,rfl,h1,h3⟩
 ·intro j es D w8 hΨ hDk hSk
  obtain ⟨hj,hes⟩:=hΨ
  rw [hcap] at hes
  have hDm:Dn ⟨Tryz.prog,TT31,.df [mkD D],34,w0,h0,[],λ _=>False,[33,1000011],[]⟩ _ [] _ a2:=⟨hDk.fr,hDk.inv⟩
  have hSm:Sx ⟨Tryz.prog,TT31,.df [mkD D],34,w0,h0,[],λ _=>False,[33,1000011],[]⟩ _ _ w8:=⟨hSk.st,hSk.bk⟩
  rcases hj with rfl | rfl
  first | refine n_block (n_then ?_) | skip
  all_goals first | refine wp_exit (x_here (n_then ?_)) | skip
  all_goals
   refine handF (c:=⟨Tryz.prog,TT31,.df [mkD D],34,w0,h0,[],λ _=>False,[33,1000011],[]⟩) TT31_ok rfl hDm hSm ?_ (λ _ h=>h)
   refine ⟨.chan (some q),gc_mk λ _=>λ v' w' p1 p2 p3=>by rw [cell_row (p3 _ _ p2.1.1.1.2)]; rfl,?_⟩
   refine clCh TT31_ok 910 rfl rfl ?_
   refine ⟨.chan (some q),gc_mk λ _=>λ v' w' p1 p2 p3=>by rw [cell_row (p3 _ _ p2.1.1.1.2)]; rfl,?_⟩
   refine nilC 900 49 1 ?_
   refine w_loopF TT31_ok (λ s:FdS=>[(7,.v (.slice s.a s.n s.c))]) (λ s=>[(900,.e (bufE 49 1 (.slice s.a s.n s.c) (s.e1.map rwC).flatten)),(910,.e (some q,ChanC (capS cnt) (s.e2.map rwV) true)),(912,.e (some D,DefC))]) (λ _ v=>RwF es v) ⟨none,0,0,[],es⟩ (λ s=>s.e1++s.e2=es∧s.n=s.e1.length) (λ s=>s.e2.length) (λ _=>rwf_m es) ?_
   refine And.intro ⟨⟨rfl,rfl⟩,gsJ ⟨rfl,rfl,rfl,trivial⟩ rfl (λ v hF=>hF.2)⟩ ?_
   rintro ⟨a3,n3,c3,e1,e2'⟩ ⟨h12,hn3⟩
   dsimp only at h12 hn3 ⊢
   refine cpRecv TT31_ok (e:=49) (dir := .both) 910 rfl (by kernel_rfl) zero_rows rfl rfl (λ hnil=>?_) (λ u l' hu=>?_)
   ·have hnil:e2'=[]:=by
     cases e2' with
     | nil=>rfl
     | cons p l=>cases hnil
    subst hnil
    rw [List.append_nil] at h12
    subst h12
    subst hn3
    refine cnd (λ h=>absurd h (by decide)) (λ _=>?_)
    refine And.intro rfl ?_
    refine sealW (g:=rwC) (l:=e1) 900 rfl rfl ?_
    refine goW TT31_ok ?_
    intro a9 w9 hD9 hS9
    show LeavesInM Fence.wide 1 Tryz.prog _ a9.tmps _ ([D].map mkD) .returning w9
    obtain ⟨hDf,_⟩:=toG hD9 hS9 [(4,.v (.slice a3 e1.length c3))] [(910,.e (some q,ChanC (capS cnt) (([]:List RwQ).map rwV) true))] (λ v=>RwF e1 v∧SlC 49 1 (flatR rwC) v (.slice a3 e1.length c3) e1) (Mono.and (rwf_m e1) Mono.slF) (gsJ ⟨rfl,trivial⟩ rfl (λ v hF=>hF))
    refine retMs (c:=⟨Tryz.prog,TT31,.wp,34,w0,h0,[],λ _=>False,[12,13],[]⟩) TT31_ok (rs:=[.tmp 4]) (E:=fndE res) (B:=[(910,.e (some q,ChanC (capS cnt) (([]:List RwQ).map rwV) true))]) (L:=[(4,.v (.slice a3 e1.length c3))]) (F:=λ v=>RwF e1 v∧SlC 49 1 (flatR rwC) v (.slice a3 e1.length c3) e1) rfl (no_K rfl) ?_ ⟨hDf.fr,hDf.inv⟩ (λ vs w h1 h2=>hE _ _ vs w h1 h2) [D] w9 hS9.st
    refine ⟨(a3,c3),by rw [← hes,List.length_map]; rfl,λ v hF=>?_⟩
    rw [← hes]
    exact rwF_lr hF.2 rfl hF.1
   ·obtain ⟨p,e3,rfl⟩:∃ p e3,e2'=p::e3:=by
     cases e2' with
     | nil=>cases hu
     | cons p l=>exact ⟨p,l,rfl⟩
    obtain ⟨rfl,rfl⟩:rwV p=u∧e3.map rwV=l':=by
     rw [List.map_cons] at hu
     exact ⟨(List.cons.inj hu).1,(List.cons.inj hu).2⟩
    refine cnd (λ _=>?_) (λ h=>absurd h (by decide))
    intro b31
    have hel:e1.length≤es.length:=by rw [← h12,List.length_append]; omega
    have hel2:es.length≤4096:=by
     have:=congrArg List.length hes
     rw [List.length_map] at this
     rw [this,← hcap,List.length_take]
     unfold capS; omega
    refine ap TT31_ok 900 (AppT.of (bytes:=24) (sz:=0) (by kernel_rfl) (by kernel_rfl) (by kernel_rfl)) rfl rfl rfl rfl rfl rfl rfl (by rw [row_flat (sz:=1) (λ _=>rfl)]; show (_+1)*25≤_; omega) (λ a4 n4 c4 e4=>?_)
    rw [row_flat (sz:=1) (λ _=>rfl)] at e4
    have e4:n4*1=e1.length*1+1:=e4
    refine ⟨⟨a4,n4,c4,e1++[p],e3⟩,⟨⟨by show (e1++[p])++e3=es; rw [List.append_assoc]; exact h12,by show n4=(e1++[p]).length; rw [List.length_append]; show n4=e1.length+1; omega⟩,Nat.lt_succ_self _⟩,gs rfl (by rw [rw_flat]; rfl) (λ v hF=>hF) (.inr rfl)⟩
end Go.Proofs.YtbmmnalndollkaaGreatDoor
set_option maxRecDepth 100000
namespace Go.Proofs.YtbmmnalndollkaaGreatDoor
open Go Go.Dx Go.RowKit
set_option maxHeartbeats 2000000 in
theorem c_Gaps (r:Rdy) (a:TA) (x:AC) (cnt:Int) (hb:ScK r) (w0:World) (h0:View) (hv:VLe h0 (Full w0)) (hr:RdyH h0 r a x) :
  Calls Tryz.prog 13 #[.agg (rdyC r a x).toArray,.int .i64 cnt] w0 (Ret w0 h0 λ u hh=>∃ z:AC,u=gpV (gpS r cnt) z∧LR 49 1 RwR hh z.1 z.2 (gpS r cnt).1):=by
 have hg:=lay_gr hr hb
 have hok:=lay_ok hr hb
 have hcs:=hb.b.c
 refine entA (args:=[.agg (rdyC r a x).toArray,.int .i64 cnt]) TT_ok [] [] Tryz.func13 rfl Tryz.ntmps13 rfl rfl hv (λ z=>LR.m (R:=RwR) rwR_m z _) ?_
 intro b2
 by_cases he:layE r≠0
 ·refine cb (λ w hw=>c_layN (a:=a) (x:=x) he hb w h0 hw hr) ?_
  intro b6
  refine cnd (λ h=>?_) (λ h=>absurd (by simpa using h) (by simpa using he))
  have e:gpS r cnt=([],layE r):=if_pos he
  rw [e]
  exact ⟨(none,0),rfl,λ v _ _=>LR.nil v⟩
 have he:layE r=0:=by simpa using he
 have eN:smaS (layL r)=false→gpS r cnt=([],5):=λ h=>by unfold gpS; rw [if_neg (by rw [he]; decide),if_pos h]
 have eY:smaS (layL r)=true→gpS r cnt=(gapS (layL r) (covR r) cnt,0):=λ h=>by unfold gpS; rw [if_neg (by rw [he]; decide),if_neg (by rw [h]; decide)]
 generalize gpS r cnt=p at eN eY ⊢
 have hL:=lay_len hb he
 have hpl:(layL r).length≤1000000:=by rw [layL,layN_len]; exact hb.b.b.ins
 refine cA TT_ok (λ w v h1 h2 h3=>c_layK (a:=a) (x:=x) he hb w v h3 (rdy_m r a x _ _ h1 hr)) (λ z=>LR.m (R:=RwR) rwR_m z _) (λ z=>?_)
 intro b6
 refine cnd (λ h=>absurd rfl h) (λ _=>?_)
 generalize layL r=pts at *
 refine cf (λ w v h1 h2 h3=>c_small31 r a x z pts hL w v h3 h2.2) ?_
 refine cnd (λ h=>?_) (λ h=>?_)
 ·rw [eN (by simpa using h)]
  exact ⟨(none,0),rfl,λ v _ _=>LR.nil v⟩
 have hsm:smaS pts=true:=by simpa using h
 rw [eY hsm]
 refine cA TT_ok (λ w v h1 h2 h3=>c_found r a x z pts cnt hL hpl (sma_le hsm) hg.l hcs hg.v w v h3 (LR.mono (R:=LinR) linR_m h1 hr.l) h2.2) (λ y=>LR.m (R:=RwR) rwR_m y _) (λ y=>?_)
 exact ⟨y,rfl,λ v _ hF=>hF.2⟩
end Go.Proofs.YtbmmnalndollkaaGreatDoor
set_option maxRecDepth 100000
namespace Go.Proofs.YtbmmnalndollkaaGreatDoor
open Go Go.Dx Go.RowKit
def tIn:Tst:=⟨6,numX 3,numX 9,false,false⟩
def cIn:Cel:=⟨false,false,[tIn]⟩
def sIn:List UInt8:=[91,51,46,46,57,93]
def exT31:Tab:=⟨[116],[(⟨[97],1,none,0,0⟩,[])],[(⟨[111],1,none,0,0⟩,[])],2,0,[([[60,32,53]],[[49]]),([sIn],[[50]])]⟩
def exR31:Rdy:=⟨exT31,[⟨[cLt 5],[numX 1]⟩,⟨[cIn],[numX 2]⟩]⟩
theorem hlex_in:lexS sIn=([⟨4,[91],0,0⟩,⟨2,[],3,1⟩,⟨4,[46,46],0,2⟩,⟨2,[],9,4⟩,⟨4,[93],0,5⟩],0,0):=by rw [lex_run _ (by decide)]; decide +kernel
theorem hparse_in:parseC sIn=(cIn,0,0):=by unfold parseC; rw [hlex_in]; kernel_rfl
theorem make_v31:makeV exT31=exR31:=by
 show Rdy.mk exT31 [⟨[(parseC [60,32,53]).1],[(parseT [49]).1]⟩,⟨[(parseC sIn).1],[(parseT [50]).1]⟩]=_
 rw [hparse_5,hparse_in,hparse_1,hparse_2]; rfl
theorem right_in:rightC cIn=true:=by kernel_rfl
theorem typ_in:typC cIn 1 [⟨[97],1,none,0,0⟩]=0:=by
 have hk:∀ n:Int,0≤n→kindT [⟨[97],1,none,0,0⟩] (numX n)=(1,0):=λ n h=>by
  rw [kindT,if_pos (right_num h)]; unfold numX KX; rw [kindS]; rfl
 rw [typC,if_neg (by rw [right_in]; decide)]
 show typTL 1 _ [tIn]=0
 have h1:typT1 tIn 1 [⟨[97],1,none,0,0⟩]=0:=by
  have hk1:kindT [⟨[97],1,none,0,0⟩] tIn.a=(1,0):=hk 3 (by decide)
  have hk2:kindT [⟨[97],1,none,0,0⟩] tIn.b=(1,0):=hk 9 (by decide)
  rw [typT1,hk1,hk2,if_neg (by decide),if_pos (show tIn.k=6 from rfl),if_neg (show ¬ (0:Int)≠0 by decide),if_pos (by rfl)]
 rw [typTL,h1,if_neg (by decide),typTL]
theorem make_e31:makeE exT31=0:=by
 have hf:frameE exT31=0:=by
  have c1:colE exT31.ins false=0:=by
   show (if colsS [⟨[97],1,none,0,0⟩]≠0 then colsS [⟨[97],1,none,0,0⟩] else _)=_
   rw [cols_1 (by decide) rfl]; rfl
  have c2:colE exT31.outs false=0:=by
   show (if colsS [⟨[111],1,none,0,0⟩]≠0 then colsS [⟨[111],1,none,0,0⟩] else _)=_
   rw [cols_1 (by decide) rfl]; rfl
  have c2:colE exT31.outs (decide (exT31.pol=3))=0:=c2
  rw [frameE,c1,c2,show polOk exT31=true from by kernel_rfl,if_neg (show ¬ nameOk exT31.name=false from (by decide:¬ nameOk [116]=false)),if_neg (by decide),if_neg (by decide),if_neg (by decide),if_neg (show ¬ 24<exT31.rules.length from (by decide:¬ 24<2))]
 rw [makeE,hf,if_neg (by decide)]
 refine fir_ok λ j hj=>?_
 have hl:∀ (s t:List UInt8) (c:Cel) (m:Int),typC c 1 [⟨[97],1,none,0,0⟩]=0→0≤m→parseC s=(c,0,0)→parseT t=(numX m,0,0)→lineE exT31 ([s],[t])=0:=by
  intro s t c m hn hm h1 h2
  have e1:cellE exT31 0 s=0:=by
   rw [cellE,h1]
   show (if (0:Int)≠0 then (0:Int) else typC c 1 [⟨[97],1,none,0,0⟩])=0
   rw [hn]; rfl
  have e2:outE exT31 0 t=0:=by
   rw [outE,h2]
   show (if (0:Int)≠0 then (0:Int) else if (kindT [⟨[97],1,none,0,0⟩] (numX m)).2≠0 then _ else if fitS (kindT [⟨[97],1,none,0,0⟩] (numX m)).1 1=false then (14:Int) else 0)=0
   rw [kind_num m hm]; rfl
  rw [lineE,if_neg (by show ¬ ((1:Nat)≠1∨(1:Nat)≠1); omega)]
  have g1:firstE (λ k=>cellE exT31 k ([s].getD k [])) 1=0:=fir_ok λ j hj=>by
   have:j=0:=by omega
   subst this; exact e1
  have g2:firstE (λ k=>outE exT31 k ([t].getD k [])) 1=0:=fir_ok λ j hj=>by
   have:j=0:=by omega
   subst this; exact e2
  show (if firstE (λ k=>cellE exT31 k ([s].getD k [])) 1≠0 then firstE (λ k=>cellE exT31 k ([s].getD k [])) 1 else firstE (λ k=>outE exT31 k ([t].getD k [])) 1)=0
  rw [g1,g2]; rfl
 have hj:j=0∨j=1:=by have:j<2:=hj; omega
 rcases hj with rfl | rfl
 ·exact hl _ _ (cLt 5) 1 (typ_lt 5 (by decide) (by decide +kernel)) (by decide) hparse_5 hparse_1
 ·exact hl _ _ cIn 2 typ_in (by decide) hparse_in hparse_2
theorem ev_31 (n:Int) (h:0≤n):evalS [] [] (numX n)=(⟨1,n,[]⟩,0):=by rw [evalS,if_pos ⟨right_num h,rfl,by rfl⟩,ev_num]
def G1 (v:Val):Bool:=valOk v&&(fitT (tLt 5) v.k 1&&passT (tLt 5) v [⟨1,5,[]⟩])
def G2 (v:Val):Bool:=valOk v&&((fitT tIn v.k 1&&fitT tIn v.k 1)&&passT tIn v [⟨1,3,[]⟩,⟨1,9,[]⟩])
theorem hp_1 (v:Val):hpS (cLt 5) v=G1 v:=by
 unfold hpS G1 holdsC
 have hm:mayC (cLt 5) v [] []=valOk v:=by unfold mayC; rw [right_lt 5 (by decide) (by decide +kernel)]; simp
 rw [hm]
 cases hv:valOk v with
 | false=>rfl
 | true =>
  rw [if_pos rfl]
  show (holdL false false v [] [] [tLt 5]).1=_
  rw [holdL,ask_one (p:=(⟨1,5,[]⟩,0)) (by show ¬ (2:Int)=6; decide) (ev_31 5 (by decide)),if_neg (show ¬ (0:Int)≠0 by decide)]
  show _=(true&&_)
  rw [Bool.true_and]
  show ((if (if fitT (tLt 5) v.k 1=true then (passT (tLt 5) v [⟨1,5,[]⟩],(0:Int)) else (false,14)).2≠0 then _ else _:Bool×Int)).1=_
  cases hf:fitT (tLt 5) v.k 1 with
  | false=>rfl
  | true =>
   rw [if_pos rfl,if_neg (λ h=>h rfl)]
   cases hp:passT (tLt 5) v [⟨1,5,[]⟩] with
   | false=>rw [if_neg (by decide),holdL]; rfl
   | true=>rfl
theorem hp_2 (v:Val):hpS cIn v=G2 v:=by
 unfold hpS G2 holdsC
 have hm:mayC cIn v [] []=valOk v:=by unfold mayC; rw [right_in]; simp
 rw [hm]
 cases hv:valOk v with
 | false=>rfl
 | true =>
  rw [if_pos rfl]
  show (holdL false false v [] [] [tIn]).1=_
  rw [holdL,ask_two (p:=(⟨1,3,[]⟩,0)) (q:=(⟨1,9,[]⟩,0)) rfl (ev_31 3 (by decide)) (ev_31 9 (by decide)),if_neg (show ¬ (0:Int)≠0 by decide),if_neg (show ¬ (0:Int)≠0 by decide)]
  show _=(true&&_)
  rw [Bool.true_and]
  show ((if (if (fitT tIn v.k 1&&fitT tIn v.k 1)=true then (passT tIn v [⟨1,3,[]⟩,⟨1,9,[]⟩],(0:Int)) else (false,14)).2≠0 then _ else _:Bool×Int)).1=_
  cases hf:(fitT tIn v.k 1&&fitT tIn v.k 1) with
  | false=>rfl
  | true =>
   rw [if_pos rfl,if_neg (λ h=>h rfl)]
   cases hp:passT tIn v [⟨1,3,[]⟩,⟨1,9,[]⟩] with
   | false=>rw [if_neg (by decide),holdL]; rfl
   | true=>rfl
def P8:List Val:=[v0,⟨1, -9223372036854775808,[]⟩,⟨1,3,[]⟩,⟨1,4,[]⟩,⟨1,5,[]⟩,⟨1,6,[]⟩,⟨1,9,[]⟩,⟨1,10,[]⟩]
theorem poi_31:poiS exR31 0=(P8,0):=by
 have hc:constS exR31=true:=by kernel_rfl
 have hx:exsK exR31 0=[numX 5,numX 3,numX 9]:=rfl
 have h5:=ev_31 5 (by decide)
 have h3:=ev_31 3 (by decide)
 have h9:=ev_31 9 (by decide)
 have he:errX (exsK exR31 0)=0:=by
  rw [hx,errX,h5,if_neg (show ¬ (0:Int)≠0 by decide),errX,h3,if_neg (show ¬ (0:Int)≠0 by decide),errX,h9,if_neg (show ¬ (0:Int)≠0 by decide),errX]
 have hp:ptsS exR31 0=P8:=by
  have hr:rawP exR31 0=v0::leaV 1::(addP 1 ⟨1,5,[]⟩++(addP 1 ⟨1,3,[]⟩++(addP 1 ⟨1,9,[]⟩++[]))):=by
   unfold rawP
   rw [hx,ptsX,h5,ptsX,h3,ptsX,h9,ptsX]
   rfl
  rw [ptsS,hr]
  decide +kernel
 unfold poiS
 rw [if_neg (by rw [hc]; simp [exR31,exT31])]
 show (if errX (exsK exR31 0)≠0 then _ else (ptsS exR31 0,(0:Int)))=_
 rw [he,hp]; rfl
theorem layE_31:layE exR31=0:=by
 refine fir_ok λ j hj=>?_
 have:j=0:=by have:j<1:=hj; omega
 subst this
 show (poiS exR31 0).2=0
 rw [poi_31]
theorem layL_31:layL exR31=[P8]:=by
 show [(poiS exR31 0).1]=_
 rw [poi_31]
theorem ov_31:ovS exR31=([mkP 0 1],0):=by
 have ht:ovT exR31 0 1=true:=by
  unfold ovT tgrS
  rw [layL_31]
  show ((List.range 1).all λ k=>([P8].getD k []).any (togP ⟨[cLt 5],[numX 1]⟩ ⟨[cIn],[numX 2]⟩ k))=true
  rw [List.all_eq_true]
  intro k hk
  have:k=0:=by have:=List.mem_range.1 hk; omega
  subst this
  rw [List.any_eq_true]
  refine ⟨⟨1,3,[]⟩,by decide,?_⟩
  show (hpS (cLt 5) ⟨1,3,[]⟩&&hpS cIn ⟨1,3,[]⟩)=true
  rw [hp_1,hp_2]; kernel_rfl
 unfold ovS
 rw [if_pos layE_31]
 show (pairR (ovT exR31) 2 2,(0:Int))=_
 simp [pairR,rowQ,List.range_succ,ht]
def gR (w:List Val):Bool:=G1 (w.getD 0 v0)||(G2 (w.getD 0 v0)||false)
theorem cov_31:covR exR31=gR:=by
 funext w
 show (((List.range 1).all λ k=>hpS ([cLt 5].getD k cel0) (w.getD k v0))||(((List.range 1).all λ k=>hpS ([cIn].getD k cel0) (w.getD k v0))||false))=_
 show (((hpS (cLt 5) (w.getD 0 v0))&&true)||((hpS cIn (w.getD 0 v0)&&true)||false))=_
 rw [hp_1,hp_2,Bool.and_true,Bool.and_true]; rfl
theorem gp_31:gpS exR31 9=([[v0],[⟨1,10,[]⟩]],0):=by
 unfold gpS
 rw [layL_31,cov_31,layE_31,if_neg (show ¬ (0:Int)≠0 by decide),if_neg (by rw [show smaS [P8]=true from by kernel_rfl]; decide),show gapS [P8] gR 9=[[v0],[⟨1,10,[]⟩]] from by kernel_rfl]
end Go.Proofs.YtbmmnalndollkaaGreatDoor
set_option maxRecDepth 100000
namespace Go.Proofs.YtbmmnalndollkaaGreatDoor
open Go Go.Dx Go.RowKit
section snd
variable {col:List Col} {row:List Val}
end snd
end Go.Proofs.YtbmmnalndollkaaGreatDoor
namespace Go.Proofs.YtbmmnalndollkaaGreatDoor
open Go Go.Dx Go.RowKit
structure PtsG (kd:Int) (P:List Val):Prop where
 k13:1≤kd∧kd≤3
 ss:SSV P
 ok:∀ p∈P,okV p∧(p=v0∨p.k=kd)
 p0:v0∈P
 p1:leaV kd∈P
end Go.Proofs.YtbmmnalndollkaaGreatDoor
namespace Go.Proofs.YtbmmnalndollkaaGreatDoor
open Go Go.Dx Go.RowKit
theorem nmL_le {m:Nat}:∀ (l:List Ex),(∀ y∈l,(nmS y).length≤m)→(nmL l).length≤l.length*m
 | [],_=>by simp [nmL]
 | x::l,h=>by
  have h1:=h x (List.mem_cons_self ..)
  have h2:=nmL_le l λ y hy=>h y (List.mem_cons_of_mem _ hy)
  rw [nmL,List.length_append,List.length_cons,Nat.succ_mul]; omega
theorem leaf0 {x:Ex} (hr:rightS x=true) (h:x.op=1∨x.op=2):x.l=[]:=by
 rw [right_eq] at hr
 have h1:=of_decide_eq_true (Bool.and_eq_true_iff.1 hr).1
 have e:cntS x.op=0:=by
  rcases h with h | h <;> rw [h] <;> decide
 exact List.eq_nil_of_length_eq_zero (by omega)
theorem nm_deep:∀ (n:Nat) (x:Ex),rightS x=true→deepS x≤n→(nmS x).length≤3 ^ n
 | 0,x,_,h=>by rw [deep_eq] at h; omega
 | n+1,x,hr,h=>by
  have hp:1≤3 ^ n:=Nat.one_le_pow _ _ (by decide)
  have hpw:3 ^ (n+1)=3*3 ^ n:=by rw [Nat.pow_succ,Nat.mul_comm]
  rw [nm_eq]
  by_cases h1:x.op=1
  ·rw [leaf0 hr (.inl h1),if_neg (by omega)]; simp [nmL]
  by_cases h2:x.op=2
  ·rw [leaf0 hr (.inr h2),if_pos h2]; simp only [nmL,List.append_nil,List.length_cons,List.length_nil]; omega
  obtain ⟨hop,hlen,hch⟩:=right_sub hr h1 h2
  have hc:=cnt_pos hop
  have hl3:x.l.length≤3:=by
   have e:cntS x.op≤3:=by
    by_cases a:x.op=3
    ·rw [hc.2.1 a]; decide
    by_cases b:x.op=16
    ·rw [hc.2.2.2 b]; decide
    ·rw [hc.2.2.1 (by omega)]; decide
   omega
  have hk:=nmL_le (m:=3 ^ n) x.l λ y hy=>nm_deep n y (hch y hy) (by have:=deep_sub hy; omega)
  have h5:x.l.length*3 ^ n≤3*3 ^ n:=Nat.mul_le_mul_right _ hl3
  rw [if_neg h2,List.nil_append,hpw]; omega
end Go.Proofs.YtbmmnalndollkaaGreatDoor
set_option maxRecDepth 100000
namespace Go.Proofs.YtbmmnalndollkaaGreatDoor
open Go Go.Dx Go.RowKit
structure ScM (r:Rdy):Prop where
 cn:∀ l∈r.ls,l.cs.length=r.t.ins.length
 ty:∀ l∈r.ls,∀ k,k<r.t.ins.length→typC (l.cs.getD k cel0) (kdK r k) (colsO r.t.ins)=0
 kd:∀ k,k<r.t.ins.length→1≤kdK r k∧kdK r k≤3
 ok:∀ k,∀ y∈exsK r k,okV (evalS [] [] y).1
end Go.Proofs.YtbmmnalndollkaaGreatDoor
set_option maxRecDepth 100000
namespace Go.Proofs.YtbmmnalndollkaaGreatDoor
open Go Go.Dx Go.RowKit
theorem colO_get (l:List CoO) (k:Nat):((colsO l).getD k c0).kind=(l.getD k co0).1.kind:=by
 unfold colsO
 by_cases h:k<l.length
 ·simp [List.getD,h]
 ·simp [List.getD,List.getElem?_eq_none (show l.length≤k by omega)]
end Go.Proofs.YtbmmnalndollkaaGreatDoor
set_option maxRecDepth 100000
namespace Go.Proofs.YtbmmnalndollkaaGreatDoor
open Go Go.Dx Go.RowKit
def o6:Outc:=⟨0,[0,1],[[⟨1,1,[]⟩],[⟨1,2,[]⟩]]⟩
theorem rows_two {v:View} {a b1 b2:AC} {x y:List Val} (s1:SlC 52 3 (flatR valC) v (.slice b1.1 x.length b1.2) x) (s2:SlC 52 3 (flatR valC) v (.slice b2.1 y.length b2.2) y)
  (s:SlC 49 1 (flatR rwC) v (.slice a.1 2 a.2) [(x,b1),(y,b2)]):LR 49 1 RwR v a.1 a.2 [x,y] :=
 LR.of_rows (R:=RwR) (g:=λ q:RwQ=>q.1) (d:=rw0) s rfl (λ q hq=>by
  have:q=(x,b1)∨q=(y,b2):=by simpa using hq
  rcases this with rfl | rfl
  ·exact ⟨b1,rfl,s1⟩
  ·exact ⟨b2,rfl,s2⟩)
end Go.Proofs.YtbmmnalndollkaaGreatDoor
set_option maxRecDepth 100000
namespace Go.Proofs.YtbmmnalndollkaaGreatDoor
open Go Go.Dx Go.RowKit
end Go.Proofs.YtbmmnalndollkaaGreatDoor
namespace Go.Proofs.YtbmmnalndollkaaGreatDoor
open Go Go.Dx Go.RowKit
theorem col_ok {l:List CoO} {k:Bool} (h:colE l k=0):colsS (colsO l)=0∧l.length≠0∧l.length≤6:=by
 unfold colE at h
 split at h
 ·rename_i hh; exact absurd h hh
 rename_i hh
 have hh:colsS (colsO l)=0:=by simpa using hh
 split at h
 ·cases h
 rename_i h2
 refine ⟨hh,λ h3=>h2 (.inr h3),?_⟩
 unfold colsS at hh
 split at hh
 ·cases hh
 ·rename_i h4; simp only [colsO,List.length_map] at h4; omega
theorem frame_inv {t:Tab} (h:frameE t=0):nameOk t.name=true∧colE t.ins false=0∧colE t.outs (decide (t.pol=3))=0∧polOk t=true∧t.rules.length≤24:=by
 unfold frameE at h
 split at h
 ·cases h
 rename_i h1
 split at h
 ·rename_i h2; exact absurd h h2
 rename_i h2
 split at h
 ·rename_i h3; exact absurd h h3
 rename_i h3
 split at h
 ·cases h
 rename_i h4
 split at h
 ·cases h
 rename_i h5
 exact ⟨by simpa using h1,by simpa using h2,by simpa using h3,by simpa using h4,by omega⟩
theorem make_inv {t:Tab} (h:makeE t=0):frameE t=0∧∀ r∈t.rules,lineE t r=0:=by
 unfold makeE at h
 split at h
 ·rename_i hh; exact absurd h hh
 rename_i hh
 refine ⟨by simpa using hh,λ r hr=>?_⟩
 obtain ⟨i,hi,rfl⟩:=List.mem_iff_getElem.1 hr
 have:=fir_inv h i hi
 simpa [List.getD,hi] using this
theorem line_inv {t:Tab} {r:List (List UInt8)×List (List UInt8)} (h:lineE t r=0):r.1.length=t.ins.length∧r.2.length=t.outs.length∧(∀ s∈r.1,(parseC s).2.2=0)∧∀ s∈r.2,(parseT s).2.2=0:=by
 unfold lineE at h
 split at h
 ·cases h
 rename_i h1
 split at h
 ·rename_i h2; exact absurd h h2
 rename_i h2
 have h2:firstE (λ k=>cellE t k (r.1.getD k [])) r.1.length=0:=by simpa using h2
 refine ⟨by omega,by omega,λ s hs=>?_,λ s hs=>?_⟩
 ·obtain ⟨i,hi,rfl⟩:=List.mem_iff_getElem.1 hs
  have:=fir_inv h2 i hi
  simp only [List.getD,hi,List.getElem?_eq_getElem,Option.getD_some] at this
  unfold cellE at this
  split at this
  ·rename_i hh; exact absurd this hh
  ·rename_i hh; simpa using hh
 ·obtain ⟨i,hi,rfl⟩:=List.mem_iff_getElem.1 hs
  have:=fir_inv h i hi
  simp only [List.getD,hi,List.getElem?_eq_getElem,Option.getD_some] at this
  unfold outE at this
  split at this
  ·rename_i hh; exact absurd this hh
  ·rename_i hh; simpa using hh
structure Mo (r s:Rdy) (l:Lin):Prop where
 i:s.t.ins=r.t.ins
 p:s.t.pol=r.t.pol
 l:s.ls=r.ls++[l]
theorem Mo.len {r s:Rdy} {l:Lin} (h:Mo r s l):s.ls.length=r.ls.length+1:=by rw [h.l]; simp
end Go.Proofs.YtbmmnalndollkaaGreatDoor
set_option maxRecDepth 100000
namespace Go.Proofs.YtbmmnalndollkaaGreatDoor
open Go Go.Dx Go.RowKit
def ordF (p:CoO):Bool:=decide (p.2.length≤12)&&p.2.all λ v=>decide (v.s.length≤300)
def ordFew (l:List CoO):Bool:=fewS (colsO l)&&l.all ordF
def txFew (l:List (List UInt8)):Bool:=decide (l.length≤10)&&l.all λ s=>decide (s.length≤300)
def ruFew (r:List (List UInt8)×List (List UInt8)):Bool:=txFew r.1&&txFew r.2
def smallT (t:Tab):Bool:=decide (t.name.length≤300)&&(decide (t.rules.length≤26)&&(ordFew t.ins&&(ordFew t.outs&&t.rules.all ruFew)))
theorem c_texts18 (l:List (List UInt8)) (a:AC) (w0:World) (h0:View) (hv:VLe h0 (Full w0)) (hl:TxL h0 a l) :
  Calls Tryz.prog 32 #[.slice a.1 l.length a.2] w0 (Ret w0 h0 λ u _=>u = .bool (txFew l)):=by
 have hl:SlC 9 1 (flatR λ s=>[vs s]) h0 (.slice a.1 l.length a.2) l:=hl
 have hlm:=slc_lm hl
 refine ent (args:=[.slice a.1 l.length a.2]) TT_ok [] [] Tryz.func32 rfl Tryz.ntmps32 rfl rfl hv ?_
 refine cnd (λ h=>?_) (λ h=>?_)
 ·exact congrArg Value.bool (by rw [txFew,decide_eq_false (by omega),Bool.false_and])
 refine w_loop TT_ok (λ k:Nat=>[(3,.v (.int .i64 k))]) 0 (λ k=>k≤l.length∧∀ j,j<k→(l.getD j []).length≤300) (λ k=>l.length - k) ?_
 refine And.intro ⟨⟨Nat.zero_le _,λ j hj=>absurd hj (Nat.not_lt_zero j)⟩,gs⟩ ?_
 intro k ⟨hk,hn⟩
 refine cnd (λ h1=>?_) (λ h1=>?_)
 ·refine ixs hl k [] ?_
  refine cnd (λ h2=>?_) (λ h2=>?_)
  ·exact congrArg Value.bool (by rw [txFew,all_not [] (k:=k) (p:=λ s=>decide (s.length≤300)) (by omega) (by simp only [decide_eq_false_iff_not]; omega),Bool.and_false])
  ·refine wi ?_
   exact ⟨k+1,⟨⟨by omega,upto_snoc hn (by omega)⟩,by omega⟩,gs⟩
 ·exact congrArg Value.bool (by rw [txFew,all_upto [] (p:=λ s=>decide (s.length≤300)) (λ j hj=>decide_eq_true (hn j (by omega))),Bool.and_true,decide_eq_true (by omega)])
set_option maxHeartbeats 1000000 in
theorem c_order18 (l:List CoO) (a:AC) (w0:World) (h0:View) (hv:VLe h0 (Full w0)) (hl:CoL h0 a l) :
  Calls Tryz.prog 31 #[.slice a.1 (colsO l).length a.2] w0 (Ret w0 h0 λ u _=>u = .bool (ordFew l)):=by
 obtain ⟨hsl,hor⟩:=hl
 have hlm:=slc_lm hsl
 have hcl:=cols_len l
 refine ent (args:=[.slice a.1 (colsO l).length a.2]) TT_ok [] [] Tryz.func31 rfl Tryz.ntmps31 rfl rfl hv ?_
 refine cb (λ w hw=>c_Few a.1 a.2 (colsO l) w h0 hw hsl) ?_
 refine cnd (λ h=>?_) (λ h=>?_)
 ·exact congrArg Value.bool (by rw [ordFew,h,Bool.false_and])
 have hfew:fewS (colsO l)=true:=by simpa using h
 have hbad:∀ k,k<l.length→ordF (l.getD k co0)=false→ordFew l=false:=λ k hk h=>by rw [ordFew,all_not co0 hk h,Bool.and_false]
 refine w_loop TT_ok (λ k:Nat=>[(3,.v (.int .i64 k))]) 0 (λ k=>k≤l.length∧∀ j,j<k→ordF (l.getD j co0)=true) (λ k=>l.length - k) ?_
 refine And.intro ⟨⟨Nat.zero_le _,λ j hj=>absurd hj (Nat.not_lt_zero j)⟩,gs⟩ ?_
 intro k ⟨hk,hn⟩
 refine cnd (λ h1=>?_) (λ h1=>?_)
 ·have hkl:k<l.length:=by omega
  have hg:=cols_get l k hkl
  have hok:=hor _ (getD_mem l k co0 hkl)
  have hbk:=hbad k hkl
  obtain ⟨p,hp⟩:∃ p,l.getD k co0=p:=⟨_,rfl⟩
  rw [hp] at hg hok hbk
  obtain ⟨⟨nm,kd,oa,on,oc⟩,o⟩:=p
  obtain ⟨hon,hos,hov⟩:=hok
  dsimp only at hon hos hov hg
  subst hon
  have hom:=slc_lm hos
  refine ixs hsl k c0 ?_ (by omega)
  rw [hg]
  refine cnd (λ h2=>?_) (λ h2=>?_)
  ·rw [hbk (by rw [ordF,decide_eq_false (by dsimp only at h2 ⊢; omega),Bool.false_and])]; exact rfl
  refine w_loop TT_ok (λ m:Nat=>[(4,.v (.int .i64 m))]) 0 (λ m=>m≤o.length∧∀ j,j<m→(o.getD j v0).s.length≤300) (λ m=>o.length - m) ?_
  refine And.intro ⟨⟨Nat.zero_le _,λ j hj=>absurd hj (Nat.not_lt_zero j)⟩,gs⟩ ?_
  intro m ⟨hm,hmn⟩
  refine ixs hsl k c0 ?_ (by omega)
  rw [hg]
  refine cnd (λ h3=>?_) (λ h3=>?_)
  ·have hmo:m<o.length:=by dsimp only at h3; omega
   refine ixs hsl k c0 ?_ (by omega)
   rw [hg]
   refine ixs hos m v0 ?_ (by omega)
   refine cnd (λ h4=>?_) (λ h4=>?_)
   ·rw [hbk (by rw [ordF,all_not v0 (k:=m) (p:=λ v=>decide (v.s.length≤300)) hmo (by simp only [decide_eq_false_iff_not]; omega),Bool.and_false])]; exact rfl
   ·refine wi ?_
    exact ⟨m+1,⟨⟨by omega,upto_snoc hmn (by omega)⟩,by omega⟩,gs⟩
  ·refine wi ?_
   refine ⟨k+1,⟨⟨by omega,upto_snoc hn ?_⟩,by omega⟩,gs⟩
   rw [hp,ordF,all_upto v0 (p:=λ v=>decide (v.s.length≤300)) (λ j hj=>decide_eq_true (hmn j (by dsimp only at h3 hj ⊢; omega))),Bool.and_true]
   exact decide_eq_true (by dsimp only at h2 ⊢; omega)
 ·exact congrArg Value.bool (by rw [ordFew,hfew,all_upto co0 (λ j hj=>hn j (by omega)),Bool.and_true])
set_option maxHeartbeats 2000000 in
theorem c_TSmall (t:Tab) (a:TA) (w0:World) (h0:View) (hv:VLe h0 (Full w0)) (hc:TabH h0 t a) :
  Calls Tryz.prog 8 #[.agg (tabC t a).toArray] w0 (Ret w0 h0 λ u _=>u = .bool (smallT t)):=by
 have hlm:=hc.r.lm
 have e0:smallT t=(decide (t.name.length≤300)&&(decide (t.rules.length≤26)&&(ordFew t.ins&&(ordFew t.outs&&t.rules.all ruFew)))):=rfl
 rw [e0]; clear e0
 refine ent (args:=[.agg (tabC t a).toArray]) TT_ok [] [] Tryz.func8 rfl Tryz.ntmps8 rfl rfl hv ?_
 intro b1
 refine cbg (λ _ w hw=>c_order18 t.ins a.i w h0 hw hc.i) ?_
 refine cbg (λ _ w hw=>c_order18 t.outs a.o w h0 hw hc.o) ?_
 generalize ordFew t.ins=o1
 generalize ordFew t.outs=o2
 refine cnd (λ h=>?_) (λ h=>?_)
 ·refine congrArg Value.bool ?_
  rcases h with ((h | h) | h) | h
  ·rw [decide_eq_false (by omega),Bool.false_and]
  ·rw [decide_eq_false (p:=t.rules.length≤26) (by omega),Bool.false_and,Bool.and_false]
  ·rw [h]; simp
  ·rw [h]; simp
 have h4:o2=true:=by have:=h.2; simpa using this
 have h3:o1=true:=by have:=h.1.2; simpa using this
 have h2:t.rules.length≤26:=by have:=h.1.1.2; omega
 have h1:t.name.length≤300:=by have:=h.1.1.1; omega
 rw [h4,h3,decide_eq_true h2,decide_eq_true h1,Bool.true_and,Bool.true_and,Bool.true_and,Bool.true_and]
 clear h
 refine w_loop TT_ok (λ k:Nat=>[(3,.v (.int .i64 k))]) 0 (λ k=>k≤t.rules.length∧∀ j,j<k→ruFew (t.rules.getD j ru0)=true) (λ k=>t.rules.length - k) ?_
 refine And.intro ⟨⟨Nat.zero_le _,λ j hj=>absurd hj (Nat.not_lt_zero j)⟩,gs⟩ ?_
 intro k ⟨hk,hn⟩
 refine cnd (λ h1=>?_) (λ h1=>?_)
 ·have hkl:k<t.rules.length:=by omega
  have hbk:ruFew (t.rules.getD k ru0)=false→t.rules.all ruFew=false:=λ h=>all_not ru0 hkl h
  have hnk:ruFew (t.rules.getD k ru0)=true→∀ j,j<k+1→ruFew (t.rules.getD j ru0)=true:=λ h=>upto_snoc hn h
  refine ixL (R:=RuR) hc.r k ru0 (λ cs hcs=>?_)
  generalize hr:t.rules.getD k ru0=r at hcs hbk hnk
  obtain ⟨pa,pb,rfl,g1,g2⟩:=hcs
  refine cb (λ w hw=>c_texts18 r.1 pa w h0 hw g1) ?_
  refine ixLg (R:=RuR) hc.r k ru0 hkl (λ cs hcs=>?_)
  rw [hr] at hcs
  obtain ⟨qa,qb,rfl,g3,g4⟩:=hcs
  refine kg1 ?_
  refine cbg (λ _ w hw=>c_texts18 _ qb w h0 hw g4) ?_
  refine cnd (λ h2=>?_) (λ h2=>?_)
  ·rw [hbk (by
    rw [ruFew]
    rcases h2 with h2 | h2
    ·have h2:txFew r.1=false:=by simpa using h2
     rw [h2,Bool.false_and]
    ·have h2:txFew r.2=false:=by simpa using h2
     rw [h2,Bool.and_false])]
   exact rfl
  ·refine wi ?_
   refine ⟨k+1,⟨⟨by omega,hnk ?_⟩,by omega⟩,gs⟩
   rw [ruFew,Bool.and_eq_true]
   exact ⟨by simpa using h2.1,by simpa using h2.2⟩
 ·rw [all_upto ru0 (λ j hj=>hn j (by omega))]; exact rfl
end Go.Proofs.YtbmmnalndollkaaGreatDoor
set_option maxRecDepth 100000
namespace Go.Proofs.YtbmmnalndollkaaGreatDoor
open Go Go.Dx Go.RowKit
end Go.Proofs.YtbmmnalndollkaaGreatDoor
set_option maxRecDepth 100000
namespace Go.Proofs.YtbmmnalndollkaaGreatDoor
open Go Go.Dx Go.RowKit
theorem small_inv {t:Tab} (h:smallT t=true):t.name.length≤300∧t.rules.length≤26∧ordFew t.ins=true∧ordFew t.outs=true∧∀ r∈t.rules,ruFew r=true:=by
 unfold smallT at h
 simp only [Bool.and_eq_true,decide_eq_true_eq,List.all_eq_true] at h
 exact ⟨h.1,h.2.1,h.2.2.1,h.2.2.2.1,h.2.2.2.2⟩
theorem ord_inv {l:List CoO} (h:ordFew l=true):l.length≤12∧∀ p∈l,p.1.name.length≤300∧p.2.length≤12∧∀ v∈p.2,v.s.length≤300:=by
 unfold ordFew fewS at h
 simp only [Bool.and_eq_true,decide_eq_true_eq,List.all_eq_true] at h
 obtain ⟨⟨h1,h2⟩,h3⟩:=h
 rw [cols_len] at h1
 refine ⟨h1,λ p hp=>⟨h2 _ (List.mem_map.2 ⟨p,hp,rfl⟩),?_⟩⟩
 have:=h3 p hp
 unfold ordF at this
 simp only [Bool.and_eq_true,decide_eq_true_eq,List.all_eq_true] at this
 exact this
theorem tx_inv {l:List (List UInt8)} (h:txFew l=true):l.length≤10∧∀ s∈l,s.length≤300:=by
 unfold txFew at h
 simp only [Bool.and_eq_true,decide_eq_true_eq,List.all_eq_true] at h
 exact h
theorem small_tabB {t:Tab} (h:smallT t=true):TabB t:=by
 obtain ⟨h1,h2,h3,h4,h5⟩:=small_inv h
 refine ⟨by omega,λ p hp=>by have:=((ord_inv h3).2 p hp).1; omega,λ p hp=>by have:=((ord_inv h4).2 p hp).1; omega,λ r hr=>?_,by omega⟩
 have:=h5 r hr
 unfold ruFew at this
 simp only [Bool.and_eq_true] at this
 have k1:=tx_inv this.1
 have k2:=tx_inv this.2
 exact ⟨λ s hs=>by have:=k2.2 s hs; omega,by omega,by omega⟩
theorem make_rdyB {t:Tab} (h:makeE t=0):RdyB (makeV t):=by
 obtain ⟨hf,hr⟩:=make_inv h
 obtain ⟨_,f2,f3,_,f5⟩:=frame_inv hf
 obtain ⟨_,_,i6⟩:=col_ok f2
 obtain ⟨_,o0,o6⟩:=col_ok f3
 have hl:∀ l∈(makeV t).ls,∃ r∈t.rules,lineV r=l:=λ l hl=>List.mem_map.1 hl
 refine ⟨by show t.ins.length≤_; omega,by show (t.rules.map lineV).length≤_; rw [List.length_map]; omega,λ l hm=>?_,λ l hm=>?_⟩
 ·obtain ⟨r,hrm,rfl⟩:=hl l hm
  obtain ⟨k1,k2,k3,k4⟩:=line_inv (hr r hrm)
  refine ⟨by show (r.1.map _).length=_; rw [List.length_map]; exact k1,by show (r.2.map _).length≤_; rw [List.length_map]; omega,λ c hc=>?_,λ x hx=>?_⟩
  ·obtain ⟨s,hs,rfl⟩:=List.mem_map.1 hc
   exact right_gt (parseC_right (k3 s hs))
  ·obtain ⟨s,hs,rfl⟩:=List.mem_map.1 hx
   exact ⟨parse_nd s,smx_right (parseT_right (k4 s hs))⟩
 ·obtain ⟨r,hrm,rfl⟩:=hl l hm
  obtain ⟨k1,k2,k3,k4⟩:=line_inv (hr r hrm)
  show 1≤(r.2.map _).length
  rw [List.length_map]; omega
theorem c_MakeN {t:Tab} {e:Int} (he:makeE t=e) (hn:e≠0) (a:TA) (hb:TabB t) (w0:World) (h0:View) (hv:VLe h0 (Full w0)) (hc:TabH h0 t a) :
  Calls Tryz.prog 10 #[.agg (tabC t a).toArray] w0 (Ret w0 h0 λ u hh=>∃ z:Int×Int,u = .tuple #[.agg (rdyC rdy0 ta0 (none,0)).toArray,.int .i64 z.1,.int .i64 z.2,.int .i64 e]∧True):=by
 subst he
 exact (c_Make t a hb w0 h0 hv hc).mono (Ret.mono λ u hh ⟨z,e,h⟩=>⟨(z.2.1,z.2.2),by rw [e,mkV,if_neg hn],trivial⟩)
end Go.Proofs.YtbmmnalndollkaaGreatDoor
set_option maxRecDepth 100000
namespace Go.Proofs.YtbmmnalndollkaaGreatDoor
open Go Go.Dx Go.RowKit
theorem line_cells {t:Tab} {r:List (List UInt8)×List (List UInt8)} (h:lineE t r=0):∀ k,k<r.1.length→cellE t k (r.1.getD k [])=0:=by
 unfold lineE at h
 split at h
 ·cases h
 split at h
 ·rename_i h2; exact absurd h h2
 ·rename_i h2
  have h2:firstE (λ k=>cellE t k (r.1.getD k [])) r.1.length=0:=by simpa using h2
  exact λ k hk=>fir_inv (f:=λ k=>cellE t k (r.1.getD k [])) h2 k hk
theorem cell_typ {t:Tab} {k:Nat} {s:List UInt8} (h:cellE t k s=0):typC (parseC s).1 (t.ins.getD k co0).1.kind (colsO t.ins)=0:=by
 unfold cellE at h
 split at h
 ·rename_i hh; exact absurd h hh
 ·exact h
theorem colsG_kind {l:List Col}:∀ (n i:Nat),l.length - i≤n→colsG l i=0→∀ j,i≤j→j<l.length→¬ badK (l.getD j c0).kind
 | 0,i,h,_,j,h1,h2=>by omega
 | n+1,i,h,hg,j,h1,h2=>by
  have hi:i<l.length:=by omega
  by_cases hn:badN l i
  ·rw [cg_name hi hn] at hg; exact absurd hg (by decide)
  by_cases hk:badK (l.getD i c0).kind
  ·rw [cg_kind hi hn hk] at hg; exact absurd hg (by decide)
  ·by_cases hj:j=i
   ·rw [hj]; exact hk
   ·rw [cg_next hi hn hk] at hg
    exact colsG_kind n (i+1) (by omega) hg j (by omega) h2
theorem cols_kind {l:List Col} (h:colsS l=0):∀ j,j<l.length→1≤(l.getD j c0).kind∧(l.getD j c0).kind≤3:=by
 intro j hj
 unfold colsS at h
 split at h
 ·exact absurd h (by decide)
 ·have:=colsG_kind l.length 0 (by omega) h j (Nat.zero_le _) hj
  unfold badK at this
  omega
theorem make_kd {t:Tab} (h:makeE t=0):∀ k,k<t.ins.length→1≤(t.ins.getD k co0).1.kind∧(t.ins.getD k co0).1.kind≤3:=by
 intro k hk
 have h1:=(col_ok (frame_inv (make_inv h).1).2.1).1
 have:=cols_kind h1 k (by rw [cols_len]; exact hk)
 rwa [colO_get] at this
theorem part_nm {x:Ex} (h:partX x=true):(nmS x).length≤531441:=by
 have:=part_r h
 exact Nat.le_trans (nm_deep 12 x this.1 this.2) (by decide)
theorem tst_nm {t:Tst} (h:soundT t=true):(nmS t.a).length≤531441∧(nmS t.b).length≤531441:=by
 obtain ⟨k1,k6,pa,pb,pc⟩:=sound_parts h
 refine ⟨part_nm pa,?_⟩
 by_cases h6:t.k=6
 ·exact part_nm (pb h6)
 ·rw [same_ex0 (pc h6).1]
  have:(nmS ex0).length=0:=by simp [ex0,nmS,nmL]
  omega
theorem exsT_len:∀ ts:List Tst,(exsT ts).length=2*ts.length
 | []=>rfl
 | t::ts=>by rw [exsT,List.length_cons,List.length_cons,exsT_len ts,List.length_cons]; omega
theorem exsT_inv {y:Ex}:∀ {ts:List Tst},y∈exsT ts→∃ t∈ts,y=t.a∨y=t.b
 | t::ts,h=>by
  rw [exsT] at h
  rcases List.mem_cons.1 h with rfl | h
  ·exact ⟨t,List.mem_cons_self ..,.inl rfl⟩
  rcases List.mem_cons.1 h with rfl | h
  ·exact ⟨t,List.mem_cons_self ..,.inr rfl⟩
  ·obtain ⟨u,hu,e⟩:=exsT_inv h
   exact ⟨u,List.mem_cons_of_mem _ hu,e⟩
theorem right_len31 {c:Cel} (h:rightC c=true):c.ts.length≤12:=by
 unfold rightC at h
 split at h
 ·simp only [Bool.and_eq_true,decide_eq_true_eq] at h; omega
 ·simp only [Bool.and_eq_true,decide_eq_true_eq] at h; exact h.1.2
theorem right_cb {c:Cel} (h:rightC c=true):CB c:=by
 have hl:=right_len31 h
 have hs:=right_sound h
 refine ⟨right_gt h,?_,by omega⟩
 have:=nmL_le (m:=531441) (exsT c.ts) λ y hy=>by
  obtain ⟨t,ht,e⟩:=exsT_inv hy
  have:=tst_nm (hs t ht)
  rcases e with rfl | rfl
  ·exact this.1
  ·exact this.2
 rw [exsT_len] at this
 have h2:2*c.ts.length*531441≤24*531441:=Nat.mul_le_mul_right _ (by omega)
 omega
theorem make_lines {t:Tab} (h:makeE t=0):∀ l∈(makeV t).ls,l.cs.length=t.ins.length∧(∀ c∈l.cs,rightC c=true)∧∀ k,k<t.ins.length→typC (l.cs.getD k cel0) (t.ins.getD k co0).1.kind (colsO t.ins)=0:=by
 intro l hl
 obtain ⟨r,hr,rfl⟩:=List.mem_map.1 hl
 have hE:=(make_inv h).2 r hr
 obtain ⟨k1,k2,k3,k4⟩:=line_inv hE
 refine ⟨by show (r.1.map _).length=_; rw [List.length_map]; exact k1,λ c hc=>?_,λ k hk=>?_⟩
 ·obtain ⟨s,hs,rfl⟩:=List.mem_map.1 hc
  exact parseC_right (k3 s hs)
 ·have:=cell_typ (line_cells hE k (by omega))
  have e:(lineV r).cs.getD k cel0=(parseC (r.1.getD k [])).1:=by
   show (r.1.map λ s=>(parseC s).1).getD k cel0=_
   simp [List.getD,show k<r.1.length by omega]
  rw [e]; exact this
theorem make_scK {t:Tab} (h:makeE t=0):ScK (makeV t):=by
 have hl:=make_lines h
 refine ⟨⟨make_rdyB h,λ l hm c hc=>right_cb ((hl l hm).2.1 c hc)⟩,make_kd h,?_,λ l hm c hc=>by have:=right_len31 ((hl l hm).2.1 c hc); omega⟩
 show (t.rules.map lineV).length≤_
 rw [List.length_map]
 have:=(frame_inv (make_inv h).1).2.2.2.2
 omega
theorem poi_len {r:Rdy} (hb:ScK r) (k:Int):(poiS r k).1.length≤10000000:=by
 unfold poiS
 split
 ·exact Nat.zero_le _
 split
 ·exact Nat.zero_le _
 ·have h1:=exsI_len (k:=k.toNat) hb.t r.ls.length (Nat.le_refl _)
  rw [exsI_all] at h1
  have h2:=accP_len (kdK r k.toNat) (exsK r k.toNat)
  have hn:=hb.n
  show (accP (kdK r k.toNat) (exsK r k.toNat)).length≤_
  omega
end Go.Proofs.YtbmmnalndollkaaGreatDoor
set_option maxRecDepth 100000
namespace Go.Proofs.YtbmmnalndollkaaGreatDoor
open Go Go.Dx Go.RowKit
theorem tabB_31 : TabB exT31 := by
  refine ⟨by show 1 ≤ 1000000; decide, ?_, ?_, ?_, by show 2 ≤ 1000000; decide⟩
  · intro q hq; have : q = (⟨[97], 1, none, 0, 0⟩, []) := by simpa [exT31] using hq
    subst this; show 1 ≤ 1000000; decide
  · intro q hq; have : q = (⟨[111], 1, none, 0, 0⟩, []) := by simpa [exT31] using hq
    subst this; show 1 ≤ 1000000; decide
  · intro r hr
    have : r = ([[60, 32, 53]], [[49]]) ∨ r = ([sIn], [[50]]) := by simpa [exT31] using hr
    rcases this with rfl | rfl
    · exact ⟨fun s hs => by have : s = [49] := by simpa using hs
                            subst this; decide, by decide, by decide⟩
    · exact ⟨fun s hs => by have : s = [50] := by simpa using hs
                            subst this; decide, by decide, by decide⟩
theorem scK_31:ScK exR31:=by rw [← make_v31]; exact make_scK make_e31
theorem tabH_31 {v:View} {b11 b13 b16 b17 b19 b20 b22:Nat} (s11:SlC 66 3 (flatR colC) v (.slice (some ⟨b11,0,none⟩) 1 1) [⟨[97],1,none,0,0⟩]) (s13:SlC 66 3 (flatR colC) v (.slice (some ⟨b13,0,none⟩) 1 1) [⟨[111],1,none,0,0⟩])
  (s16:TxL v (some ⟨b16,0,none⟩,1) [[60,32,53]]) (s17:TxL v (some ⟨b17,0,none⟩,1) [[49]]) (s19:TxL v (some ⟨b19,0,none⟩,1) [sIn]) (s20:TxL v (some ⟨b20,0,none⟩,1) [[50]])
  (s22:SlC 86 2 (flatR rqC) v (.slice (some ⟨b22,0,none⟩) 2 2) [((ruS [60,32,53] [49],(some ⟨b16,0,none⟩,1),(some ⟨b17,0,none⟩,1)):RuQ),(ruS sIn [50],(some ⟨b19,0,none⟩,1),(some ⟨b20,0,none⟩,1))]) :
  TabH v exT31 ⟨(some ⟨b11,0,none⟩,1),(some ⟨b13,0,none⟩,1),(some ⟨b22,0,none⟩,2)⟩:=by
 refine ⟨⟨s11,λ q hq=>?_⟩,⟨s13,λ q hq=>?_⟩,?_⟩
 ·have:q=(⟨[97],1,none,0,0⟩,[]):=by simpa [exT31] using hq
  subst this; exact ⟨rfl,SlC.nil (by simp [maxLen]),λ v h=>by cases h⟩
 ·have:q=(⟨[111],1,none,0,0⟩,[]):=by simpa [exT31] using hq
  subst this; exact ⟨rfl,SlC.nil (by simp [maxLen]),λ v h=>by cases h⟩
 ·refine LR.of_rows (R:=RuR) (g:=λ q:RuQ=>q.1) (d:=(ru0,(none,0),(none,0))) s22 rfl (λ q hq=>?_)
  have:q=(ruS [60,32,53] [49],(some ⟨b16,0,none⟩,1),(some ⟨b17,0,none⟩,1))∨q=(ruS sIn [50],(some ⟨b19,0,none⟩,1),(some ⟨b20,0,none⟩,1)):=by simpa using hq
  rcases this with rfl | rfl
  ·exact ⟨_,_,rfl,s16,s17⟩
  ·exact ⟨_,_,rfl,s19,s20⟩
theorem c_SamePairsT (l:List Pr) (x y:AC) (w0:World) (h0:View) (hv:VLe h0 (Full w0)) (hx:SlC 81 2 (flatR prC) h0 (.slice x.1 l.length x.2) l) (hy:SlC 81 2 (flatR prC) h0 (.slice y.1 l.length y.2) l) :
  Calls Tryz.prog 15 #[.slice x.1 l.length x.2,.slice y.1 l.length y.2] w0 (Ret w0 h0 λ u _=>u = .bool true):=by
 have:=c_SamePairs l l x y w0 h0 hv hx hy
 rw [decide_eq_true rfl] at this
 exact this
theorem c_RSameRowsT (l:List (List Val)) (a b:AC) (w0:World) (h0:View) (hv:VLe h0 (Full w0)) (hl:LR 49 1 RwR h0 a.1 a.2 l) (hm:LR 49 1 RwR h0 b.1 b.2 l) :
  Calls Tryz.prog 16 #[.slice a.1 l.length a.2,.slice b.1 l.length b.2] w0 (Ret w0 h0 λ u _=>u = .bool true):=by
 have:=c_RSameRows l l a b w0 h0 hv hl hm
 rw [decide_eq_true rfl] at this
 exact this
set_option maxHeartbeats 4000000 in
theorem c_lives31 (w0:World) (h0:View) (hv:VLe h0 (Full w0)):Calls Tryz.prog 9 #[] w0 (Ret w0 h0 λ u _=>u = .bool true):=by
 refine ent (args:=[]) TT_ok [24,53,55,68,2000048,2000049,2000052,2000053,2000054,2000055,2000058,2000059,2000062,2000063,2000064,2000065,2000066,2000067,2000068,2000071,2000072] [] Tryz.func9 rfl Tryz.ntmps9 rfl rfl hv ?_
 intro b13 b15 b16 b17 b19 b20 b22
 refine And.intro rfl ?_
 refine shutW 13 (row_sl (g:=colC) (l:=[⟨[97],1,none,0,0⟩]) (sz:=3) (n:=1) (cp:=1) rfl) ?_ Mono.slF
 refine shutW 15 (row_sl (g:=colC) (l:=[⟨[111],1,none,0,0⟩]) (sz:=3) (n:=1) (cp:=1) rfl) ?_ Mono.slF
 refine shutW 16 (row_sl (g:=λ s:List UInt8=>[vs s]) (l:=[[60,32,53]]) (sz:=1) (n:=1) (cp:=1) rfl) ?_ Mono.slF
 refine shutW 17 (row_sl (g:=λ s:List UInt8=>[vs s]) (l:=[[49]]) (sz:=1) (n:=1) (cp:=1) rfl) ?_ Mono.slF
 refine shutW 19 (row_sl (g:=λ s:List UInt8=>[vs s]) (l:=[sIn]) (sz:=1) (n:=1) (cp:=1) rfl) ?_ Mono.slF
 refine shutW 20 (row_sl (g:=λ s:List UInt8=>[vs s]) (l:=[[50]]) (sz:=1) (n:=1) (cp:=1) rfl) ?_ Mono.slF
 refine shutW 22 (row_sl (g:=rqC) (l:=[((ruS [60,32,53] [49],(some ⟨b16,0,none⟩,1),(some ⟨b17,0,none⟩,1)):RuQ),(ruS sIn [50],(some ⟨b19,0,none⟩,1),(some ⟨b20,0,none⟩,1))]) (sz:=2) (n:=2) (cp:=2) rfl) ?_ Mono.slF
 refine goW TT_ok ?_
 refine cA TT_ok (λ w v h1 h2 h3=>c_MakeK make_e31 make_v31 ⟨(some ⟨b13,0,none⟩,1),(some ⟨b15,0,none⟩,1),(some ⟨b22,0,none⟩,2)⟩ tabB_31 w v h3 (tabH_31 h2.1.1.1.1.1.1.2 h2.1.1.1.1.1.2 h2.1.1.1.1.2 h2.1.1.1.2 h2.1.1.2 h2.1.2 h2.2)) (λ z=>rdy_m _ _ _) (λ z=>?_)
 intro b1
 have hP:=λ w v h3 hr=>c_Points exR31 ⟨(some ⟨b13,0,none⟩,1),(some ⟨b15,0,none⟩,1),(some ⟨b22,0,none⟩,2)⟩ z 0 scK_31.b scK_31.n scK_31.t w v h3 hr
 have hO:=λ w v h3 hr=>c_Overlaps exR31 ⟨(some ⟨b13,0,none⟩,1),(some ⟨b15,0,none⟩,1),(some ⟨b22,0,none⟩,2)⟩ z scK_31 w v h3 hr
 have hG:=λ w v h3 hr=>c_Gaps exR31 ⟨(some ⟨b13,0,none⟩,1),(some ⟨b15,0,none⟩,1),(some ⟨b22,0,none⟩,2)⟩ z 9 scK_31 w v h3 hr
 rw [poi_31] at hP
 rw [ov_31] at hO
 rw [gp_31] at hG
 refine cA TT_ok (λ w v h1 h2 h3=>hP w v h3 h2.2) (λ _=>Mono.slF) (λ p1=>?_)
 refine cA TT_ok (λ w v h1 h2 h3=>hO w v h3 h2.1.2) (λ _=>Mono.slF) (λ o1=>?_)
 refine cA TT_ok (λ w v h1 h2 h3=>hG w v h3 h2.1.1.2) (λ y=>LR.m (R:=RwR) rwR_m y _) (λ g1=>?_)
 clear hP hO hG
 refine And.intro (by rfl) ?_
 refine And.intro (by rfl) ?_
 refine And.intro (by rfl) ?_
 refine And.intro (by rfl) ?_
 refine goPu TT_ok (.agg [.int .i64 (0:Int),.int .i64 (1:Int)].toArray) (λ w hS=>pu_build_ar (places:=[(0,1),(1,1)]) (zero:=[.int .i64 0,.int .i64 0]) arB (by rfl) (by rfl)) ?_
 refine And.intro (by rfl) ?_
 intro b54
 refine And.intro (by rfl) (And.intro (by rfl) ?_)
 refine shutW 54 (row_sl (g:=prC) (l:=[mkP 0 1]) (sz:=2) (n:=1) (cp:=1) rfl) ?_ Mono.slF
 refine goW TT_ok ?_
 refine cf (λ w v h1 h2 h3=>c_SamePairsT [mkP 0 1] o1 (some ⟨b54,0,none⟩,1) w v h3 h2.1.1.2 h2.2) ?_
 refine And.intro (by rfl) ?_
 refine And.intro (by rfl) ?_
 refine And.intro (by rfl) ?_
 refine And.intro (by rfl) ?_
 refine And.intro (by rfl) ?_
 intro b64
 refine And.intro (by rfl) ?_
 refine And.intro (by rfl) ?_
 intro b66
 refine And.intro (by rfl) ?_
 intro b67
 refine And.intro (by rfl) (And.intro (by rfl) ?_)
 refine shutW 64 (row_sl (g:=valC) (l:=[v0]) (sz:=3) (n:=1) (cp:=1) rfl) ?_ Mono.slF
 refine shutW 66 (row_sl (g:=valC) (l:=[⟨1,10,[]⟩]) (sz:=3) (n:=1) (cp:=1) rfl) ?_ Mono.slF
 refine shutW 67 (row_sl (g:=rwC) (l:=[(([v0],some ⟨b64,0,none⟩,1):RwQ),([⟨1,10,[]⟩],some ⟨b66,0,none⟩,1)]) (sz:=1) (n:=2) (cp:=2) rfl) ?_ Mono.slF
 refine goW TT_ok ?_
 refine cf (λ w v h1 h2 h3=>c_RSameRowsT [[v0],[⟨1,10,[]⟩]] g1 (some ⟨b67,0,none⟩,2) w v h3 h2.1.1.1.1.2 (rows_two h2.1.1.2 h2.1.2 h2.2)) ?_
 refine And.intro (by rfl) ?_
 refine And.intro (by rfl) ?_
 exact rfl
end Go.Proofs.YtbmmnalndollkaaGreatDoor
set_option maxRecDepth 100000
namespace Go.Proofs.YtbmmnalndollkaaGreatDoor
open Go Go.Dx Go.RowKit
theorem c_RSameRow12T (l:List Val) (a b:AC) (w0:World) (h0:View) (hv:VLe h0 (Full w0)) (hl:SlC 52 3 (flatR valC) h0 (.slice a.1 l.length a.2) l) (hm:SlC 52 3 (flatR valC) h0 (.slice b.1 l.length b.2) l) :
  Calls Tryz.prog 20 #[.slice a.1 l.length a.2,.slice b.1 l.length b.2] w0 (Ret w0 h0 λ u _=>u = .bool true):=by
 have:=c_RSameRow12 l l a b w0 h0 hv hl hm
 rw [decide_eq_true rfl] at this
 exact this
set_option maxHeartbeats 8000000 in
theorem c_ScanPoints (t:Tab) (a:TA) (k:Int) (ad:Option Addr) (cap:Nat) (pts:List Val) (v:Val) (hvb:valB v) (hvs:v.s.length≤9223372036854775807) (hpb:∀ v∈pts,valB v∧v.s.length≤9223372036854775807) (w0:World) (h0:View) (hv:VLe h0 (Full w0)) (hc:TabH h0 t a) (hp:SlC 52 3 (flatR valC) h0 (.slice ad pts.length cap) pts) :
  Calls Tryz.prog 4 #[.agg (tabC t a).toArray,.int .i64 k,.slice ad pts.length cap,.agg (valC v).toArray] w0 (Ret w0 h0 λ u _=>u = .bool true):=by
 refine ent (args:=[.agg (tabC t a).toArray,.int .i64 k,.slice ad pts.length cap,.agg (valC v).toArray]) TT_ok [1000012,2000082,2000085,2000089] [] Tryz.func4 rfl Tryz.ntmps4 rfl rfl hv ?_
 intro b2
 intro b3
 refine cb (λ w hw=>c_TSmall t a w h0 hw hc) ?_
 refine cbg (λ _ w hw=>c_RowFew ad cap pts w h0 hw hp) ?_
 refine cnd (λ h=>?_) (λ h=>?_)
 ·refine cb (λ w hw=>c_lives31 w h0 hw) ?_
  exact rfl
 have hsm:smallT t=true:=by simpa using h.1.1
 have hfw:fewR pts=true:=by simpa using h.1.2
 have htb:=small_tabB hsm
 clear h hsm
 by_cases he:makeE t=0
 ·refine cA TT_ok (λ w v h1 h2 h3=>c_MakeK (r:=makeV t) he rfl a htb w v h3 (tab_m _ _ _ _ h1 hc)) (λ z=>rdy_m _ _ _) (λ z1=>?_)
  intro b5
  refine cnd (λ h=>absurd rfl h) (λ _=>?_)
  have hb:=make_scK he
  generalize makeV t=r at hb ⊢
  have hln:=poi_len hb k
  have hP:=λ w v h3 hr=>c_Points r a z1 k hb.b hb.n hb.t w v h3 hr
  have hR:=λ w v h3 hr=>c_RPoints r a z1 k hb.b hb.n hb.t w v h3 hr
  generalize poiS r k=q at hln hP hR
  refine cA TT_ok (λ w v h1 h2 h3=>hP w v h3 h2.2) (λ _=>Mono.slF) (λ p1=>?_)
  refine cA TT_ok (λ w v h1 h2 h3=>hR w v h3 h2.1.2) (λ _=>Mono.slF) (λ p2=>?_)
  refine cf (λ w v h1 h2 h3=>c_RSameRow12T q.1 p1 p2 w v h3 h2.1.2 h2.2) ?_
  refine cnd (λ h=>by exfalso; simp at h) (λ _=>?_)
  refine cl (c_RRight v hvs) ?_
  refine cbg (λ _ w hw=>c_RRightRow ad cap pts (λ v hv=>(hpb v hv).2) w h0 hw hp) ?_
  refine cnd (λ h=>?_) (λ h=>?_)
  ·refine cb (λ w hw=>c_lives31 w h0 hw) ?_
   exact rfl
  have hpl:pts.length≤10000000:=by unfold fewR at hfw; simp only [Bool.and_eq_true,decide_eq_true_eq] at hfw; omega
  refine regPh TT_ok [([0,1,3,4],[2,5]),([6,7,8,9,11,12],[10,13]),([14],[15]),([16],[17,18]),([19],[])] [] ?_
  refine kq ?_
  refine cb (λ w hw=>c_Like pts (ad,cap) v hpl w h0 hw hp) ?_
  refine kq ?_
  refine cb (λ w hw=>c_RLike pts (ad,cap) v hpl w h0 hw hp) ?_
  refine kq ?_
  refine aq eqV (likV pts v) (likV pts v) ?_
  refine cndT (by simp [bq]) (cndT (by simp [bq]) (cndT (by simp [bq]) (cndT (by simp [bq]) ?_)))
  refine kq ?_
  refine And.intro (by simp [bq]) ?_
  refine cf (λ w vw h1 h2 h3=>c_Like q.1 p1 v hln w vw h3 h2.1.2) ?_
  refine kq ?_
  refine And.intro (by simp [bq]) ?_
  refine cf (λ w vw h1 h2 h3=>c_RLike q.1 p2 v hln w vw h3 h2.2) ?_
  refine kq ?_
  refine cndT (by simp [bq]) ?_
  refine aq eqV (likV q.1 v) (likV q.1 v) ?_
  refine kq ?_
  refine kq ?_
  refine kq ?_
  refine And.intro (by simp [bq]) ?_
  refine cb (λ w hw=>c_lives31 w h0 hw) ?_
  refine kq ?_
  refine kq ?_
  refine kq ?_
  have e:(decide (likV pts v=likV pts v)&&decide (likV q.1 v=likV q.1 v)&&true)=true:=by simp
  exact congrArg Value.bool e
 ·refine cA TT_ok (λ w v h1 h2 h3=>c_MakeN (t:=t) rfl he a htb w v h3 (tab_m _ _ _ _ h1 hc)) (λ _=>Mono.tru) (λ z1=>?_)
  intro b5
  refine cnd (λ _=>?_) (λ h=>?_)
  ·refine cb (λ w hw=>c_lives31 w h0 hw) ?_
   exact rfl
  ·exact absurd he (by simpa using h)
end Go.Proofs.YtbmmnalndollkaaGreatDoor
