/- Laws of walks, and what functions of the program compute: part 3. Each with the conditions that it names. -/
import Derived.Lib.ItoaNum
import Derived.Lib.ItoaLen
import Derived.Lib.Join
import Derived.Conc.LoneSelect
import Derived.Conc.SmallLaws
import Derived.Test.YtbmmnalndollkaaGreatDoorSdb
set_option linter.unusedSimpArgs false
set_option linter.unusedVariables false
namespace Go.Dx
open Go Go.RowKit
theorem wpAnyS_weak {P:Program} {ops:Array Oper} {Q:Exit→Act→World→Prop} {nd:Nat→Bool} {S S':World→Prop} (h:∀ w,S' w→S w):∀ (f:Nat) (listed:Array Bool) (a:Act) (w:World),wpAnyS P ops Q nd S' f listed a w→wpAnyS P ops Q nd S f listed a w
 | 0,_,_,_,H=>H
 | f+1,_,_,_,H=>⟨H.1,λ i hi=>wpOp_mono (λ a' w' h'=>⟨λ hn=>h _ (h'.1 hn),wpAnyS_weak h f _ a' w' h'.2⟩) (H.2 i hi)⟩
def chkS (ops:Array Oper):List Nat→Array Bool→(Array Bool→Bool)→Bool
 | [],listed,k=>k listed
 | j::r,listed,k=>decide (Region.ready .any ops listed=[j])&&chkS ops r (listed.setIfInBounds j true) k
def chkP (ops:Array Oper):List (List Nat×List Nat)→Array Bool→Bool
 | [],listed=>(Region.ready .any ops listed).isEmpty
 | (mv,rest)::p,listed=>chkM ops mv listed λ listed=>chkS ops rest listed λ listed=>chkP ops p listed
def planN:List (List Nat×List Nat)→Nat
 | []=>0
 | (mv,rest)::p=>(planN p+rest.length)+mv.length
def chkPh (l:List Oper) (plan:List (List Nat×List Nat)):Bool :=
 Region.noSelect l.toArray&&Nat.beq (planN plan) l.length&&chkP l.toArray plan (Array.replicate l.length false)
def mvO (c:Cx) (F:FV) (ex:List Nat) (d:Nat) (op:Op) (L:SL) (B:BL) (K:SL→BL→Prop):Prop:=match op with
 | .indexAddr t x y=>rd1 (rdS L [] none) x λ s=>rd1 (rdS L [] none) y λ s'=>ixG c F none (lkA c.T.tys t) s s' λ b o cs =>
   fresh d L [] B (bif Nat.blt d c.n then K ((d,.o d 0)::L) ((d,.k none b o cs)::B) else False)
 | op=>bif isPure op&&Nat.blt d c.n then pv c.P c.T c.h0 F (exB ex B) none (rdS L [] none) (λ s=>hasN (exB ex B) s (K ((d,s)::L) B)) op else False
def mvG (c:Cx) (al:List Oper) (F:FV) (ex:List Nat):List Nat→SL→BL→(SL→BL→Prop)→Prop
 | [],L,B,K=>K L B
 | i::r,L,B,K=>match nthV al i with
  | some ⟨some d,op,_,_,_,none⟩=>mvO c F ex d op L B λ L B=>mvG c al F ex r L B K
  | some ⟨some d,op,_,_,_,some (j,b)⟩=>guardAt al L [] j b λ _ g=>(g=true→mvO c F ex d op L B λ L B=>mvG c al F ex r L B K)∧(g=false→bif Nat.blt d c.n then mvG c al F ex r ((d,.v undef)::L) B K else False)
  | _=>False
def tlP (c:Cx) (al:List Oper) (BS:BL) (F0:FV):List Nat→SL→IL→BL→FV→KR→Prop
 | [],L,I,B,F,K=>K L I B F
 | j::r,L,I,B,F,K=>match nthV al j with
  | some o=>runs c al true (λ L I B F=>keepsB BS F0 B F∧tlP c al BS F0 r L I B F K) [o] L I B F
  | none=>False
def plK (c:Cx) (al:List Oper) (ex:List Nat):List (List Nat×List Nat)→SL→IL→BL→FV→KR→Prop
 | [],L,I,B,F,K=>K L I B F
 | (mv,rest)::p,L,I,B,F,K=>match I with
  | []=>mvG c al F ex mv L B λ L' B'=>keepsB (exB ex B) F B' F∧tlP c al (exB ex B) F rest L' [] B' F λ L I B F=>plK c al ex p L I B F K
  | _::_=>False
theorem keepsB_ex {c:Cx} {ex:List Nat} {B0 B:BL} {F0 F:FV} {w:World} (h:keepsB (exB ex B0) F0 B F) (hW:WOk c.h0 F (exB ex B) w):WOk c.h0 F0 (exB ex B0) w:=by
 obtain ⟨v,h1,h2,h3⟩:=hW.vw
 refine ⟨⟨v,h1,h.1 v h2,h3⟩,λ k b T cs hl=>?_⟩
 have h4:=map_eq_mem h.2 _ (exB_mem hl)
 have h5:lkA B k=some (.c b T cs):=h4
 refine hW.own k b T cs ?_
 rw [exB_lk,h5]
 rw [exB_lk] at hl
 cases hm:memF ex k with
 | false=>simp
 | true =>
  cases h6:lkA B0 k with
  | none=>rw [h6] at hl; cases hl
  | some o=>rw [h6] at hl; cases o <;> simp [hm] at hl
section reg
variable {c:Cx} (hT:c.T.Ok c.P)
include hT
theorem mvO_sound {l:List Oper} {nd:Nat→Bool} {ex:List Nat} {F:FV} {Q:Exit→Act→World→Prop} {S:World→Prop} {m i d:Nat} {op:Op} {ty:TypeId} {pos:String} {af:Array Edge} {gd:Option (Nat×Bool)} {L:SL} {B:BL} {listed:Array Bool} {a:Act} {w:World} {K:SL→BL→Prop} (hsel:Region.noSelect l.toArray=true)
  (hoi:l.toArray[i]?=some ⟨some d,op,ty,pos,af,gd⟩) (hw:Region.wanted ⟨some d,op,ty,pos,af,gd⟩ (yielded l.toArray a.tmps)=true) (hr:i∈Region.ready .any l.toArray listed) (hfree:Region.free .any l.toArray listed i=true) (hnd:∀ j,nd j=false→j≠i→∃ f,depB l.toArray f j i=true) (hc:Closed l.toArray listed)
  (hSw:∀ w,S w→WOk c.h0 F (exB ex B) w) (hSn:S w) (h:mvO c F ex d op L B K) (hD:Dn c L [] B a) (hS:Sx c B F w)
  (H:∀ L' B' v,K L' B'→(∀ w,S w→WOk c.h0 F (exB ex B') w)→Dn c L' [] B' (a.put (some d) v)→Sx c B' F w→wpAnyS c.P l.toArray (panQ c Q) nd S m (listed.setIfInBounds i true) (a.put (some d) v) w) :
  wpAnyS c.P l.toArray (panQ c Q) nd S (m+1) listed a w:=by
 have go:∀ (v:Value),(∀ w,S w→Pu c.P (fl L [] B) ⟨some d,op,ty,pos,af,none⟩ w v)→wpAnyS c.P l.toArray (panQ c Q) nd S m (listed.setIfInBounds i true) (a.put (some d) v) w→wpAnyS c.P l.toArray (panQ c Q) nd S (m+1) listed a w:=by
  intro v hpu h'
  refine wpAnyS_first (v:=v) hoi hsel (λ ch a w h=>⟨h.1,by rw [← put_df a (some d) v]; exact h.2.1,h.2.2⟩) hnd m listed a w hc (Region.free_spec hoi hfree) hr ?_ hSn h'
  exact .inl ⟨hw,λ w hw=>hpu w hw a.eval λ x _ u hu=>hD.fr.ev hu⟩
 unfold mvO at h
 split at h
 ·rename_i t x y
  obtain ⟨s,hs,h⟩:=rd1_sound h
  obtain ⟨s',hs',h⟩:=rd1_sound h
  have hρ:yes none→∀ x s v,rdS L [] none x=some s→dvO (exB ex B) s=some v→ev (fl L [] B) x=some v:=λ _ x s v h1 h2=>rdS_ev inv_nil (cx:=none) (og:=none) rfl yes_none h1 (exB_dv h2)
  obtain ⟨b,o,cs,h,hkn,hpu⟩:=ixG_sound (B:=exB ex B) hT hρ hs hs' h
  obtain ⟨hl,hfl,h⟩:=fresh_sound h
  cases hd:Nat.blt d c.n with
  | false=>rw [hd] at h; exact h.elim
  | true =>
   rw [hd] at h
   have hB':Sx c ((d,.k none b o cs)::B) F w:=⟨by rw [oes_k]; exact hS.st,bok_k hS.bk hkn⟩
   refine go (.pointer (some ⟨b,o,none⟩)) (λ w hw=>hpu yes_none w (hSw w hw) _ _ _ _ _) (H _ _ _ h (λ w hw=>⟨(hSw w hw).vw,λ k b T cs hk=>?_⟩) ?_ hB')
   ·refine (hSw w hw).own k b T cs ?_
    simp only [exB] at hk
    by_cases hkd:d=k
    ·subst hkd; rw [lkA_eq] at hk; cases hk
    ·rwa [lkA_ne hkd] at hk
   ·refine Dn.cons (rr:=some (.pointer (some ⟨b,o,none⟩))) (hD.fr.put hd _) inv_nil (λ t=>?_) (λ u hu=>(Option.some.inj hu).symm)
    unfold kv
    simp only [lkA]
    by_cases ht:t=d
    ·subst ht; simp [dvO,lkA_eq]
    ·rw [beq_ne (Ne.symm ht),if_neg ht]
     simp only [cond_false]
     have:=kv_fl (L:=L) (I:=[]) (hfl (.k none b o cs)) t
     unfold kv at this
     simpa only [lkA] using this
 ·cases hd:(isPure op&&Nat.blt d c.n) with
  | false=>rw [hd] at h; exact h.elim
  | true =>
   rw [hd] at h
   simp only [Bool.and_eq_true] at hd
   have hρ:yes none→∀ x s v,rdS L [] none x=some s→dvO (exB ex B) s=some v→ev (fl L [] B) x=some v:=λ _ x s v h1 h2=>rdS_ev inv_nil (cx:=none) (og:=none) rfl yes_none h1 (exB_dv h2)
   obtain ⟨s,v,hs,hv,hpu⟩:=pv_sound (L:=fl L [] B) hT (exB_bok (ex:=ex) hS.bk) hρ h
   obtain ⟨_,_,h⟩:=hasN_sound hs
   refine go v (λ w hw=>hpu yes_none w (hSw w hw) _ _ _ _ _) (H _ _ _ h hSw ?_ hS)
   have hv':=exB_dv hv
   exact Dn.cons (rr:=some v) (hD.fr.put hd.2 _) inv_nil (λ t=>by
    unfold kv
    simp only [lkA]
    by_cases ht:t=d
    ·subst ht; simp [hv']
    ·rw [beq_ne (Ne.symm ht),if_neg ht]; rfl) (λ u hu=>(Option.some.inj hu).symm)
theorem mvG_sound {l:List Oper} {nd:Nat→Bool} {ex:List Nat} {F:FV} {K:SL→BL→Prop} {Q:Exit→Act→World→Prop} {S:World→Prop} {k:Array Bool→Bool} {m:Nat} (hsel:Region.noSelect l.toArray=true) :
  ∀ (mv:List Nat) (L:SL) (B:BL) (listed:Array Bool) (a:Act) (w:World),chkM l.toArray mv listed k=true→(∀ i∈mv,∀ j,nd j=false→j≠i→∃ f,depB l.toArray f j i=true)→Closed l.toArray listed→(∀ w,S w→WOk c.h0 F (exB ex B) w)→S w →
   mvG c l F ex mv L B K→Dn c L [] B a→Sx c B F w →
   (∀ L' B' a' listed',K L' B'→k listed'=true→Closed l.toArray listed'→Dn c L' [] B' a'→Sx c B' F w→wpAnyS c.P l.toArray (panQ c Q) nd S m listed' a' w)→wpAnyS c.P l.toArray (panQ c Q) nd S (m+mv.length) listed a w
 | [],L,B,listed,a,w,hk,_,hc,_,_,h,hD,hS,H=>H L B a listed h hk hc hD hS
 | i::r,L,B,listed,a,w,hk,hnd,hc,hSw,hw,h,hD,hS,H=>by
  simp only [chkM,Bool.and_eq_true] at hk
  obtain ⟨⟨hr,hfree⟩,hk⟩:=hk
  have hr:i∈Region.ready .any l.toArray listed:=by simpa using hr
  have ih:=λ L' B' a' hSw' h' hD' hS'=>mvG_sound (ex:=ex) hsel r L' B' (listed.setIfInBounds i true) a' w hk (λ i hi=>hnd i (List.mem_cons_of_mem _ hi)) (hc.set hr) hSw' hw h' hD' hS' H
  unfold mvG at h
  split at h
  ·rename_i d op ty pos af ho
   have hoi:l.toArray[i]?=some ⟨some d,op,ty,pos,af,none⟩:=by rw [nthV_eq] at ho; simpa using ho
   exact mvO_sound hT (m:=m+r.length) hsel hoi (by simp [Region.wanted]) hr hfree (hnd i (List.mem_cons_self ..)) hc hSw hw h hD hS λ L' B' v h' hSw' hD' hS'=>ih L' B' _ hSw' h' hD' hS'
  ·rename_i d op ty pos af j b ho
   have hoi:l.toArray[i]?=some ⟨some d,op,ty,pos,af,some (j,b)⟩:=by rw [nthV_eq] at ho; simpa using ho
   obtain ⟨o,t,g,ho',hod,hgx,h⟩:=guardAt_sound h
   have hwt:=wanted_of (o:=⟨some d,op,ty,pos,af,some (j,b)⟩) ho' hod (λ v hv=>hD.fr.kv hv) hgx rfl
   cases hg:g with
   | true=>exact mvO_sound hT (m:=m+r.length) hsel hoi (hwt.trans hg) hr hfree (hnd i (List.mem_cons_self ..)) hc hSw hw (h.1 hg) hD hS λ L' B' v h' hSw' hD' hS'=>ih L' B' _ hSw' h' hD' hS'
   | false =>
    have h2:=h.2 hg
    cases hd:Nat.blt d c.n with
    | false=>rw [hd] at h2; exact h2.elim
    | true =>
     rw [hd] at h2
     have hD':Dn c ((d,.v undef)::L) [] B (a.put (some d) undef):=Dn.cons (rr:=some undef) (hD.fr.put hd _) inv_nil (λ t=>by
      unfold kv
      simp only [lkA]
      by_cases ht:t=d
      ·subst ht; simp [dvO]
      ·rw [beq_ne (Ne.symm ht),if_neg ht]; rfl) (λ u hu=>(Option.some.inj hu).symm)
     exact wpAnyS_first (v:=undef) hoi hsel (λ ch a w h=>⟨h.1,by rw [← put_df a (some d) undef]; exact h.2.1,h.2.2⟩) (hnd i (List.mem_cons_self ..)) (m+r.length) listed a w hc (Region.free_spec hoi hfree) hr (.inr ⟨hwt.trans hg,rfl⟩) hw (ih _ _ _ hSw h2 hD' hS)
  ·exact h.elim
theorem tlP_sound {l:List Oper} {BS:BL} {F0:FV} {K:KR} {Q:Exit→Act→World→Prop} {k:Array Bool→Bool} {m:Nat} (hmd:c.md = .wp) (hu:∀ k b T cs,lkA BS k=some (.c b T cs)→(k,OB.c b T cs)∈BS)
  (H:∀ L I B F a w listed,keepsB BS F0 B F→K L I B F→k listed=true→Closed l.toArray listed→Dn c L I B a→Sx c B F w→wpAnyS c.P l.toArray (panQ c Q) (λ _=>true) (WOk c.h0 F0 BS) m listed a w) :
  ∀ (rest:List Nat) (L:SL) (I:IL) (B:BL) (F:FV) (listed:Array Bool) (a:Act) (w:World),chkS l.toArray rest listed k=true→Closed l.toArray listed→keepsB BS F0 B F→tlP c l BS F0 rest L I B F K→Dn c L I B a→Sx c B F w→wpAnyS c.P l.toArray (panQ c Q) (λ _=>true) (WOk c.h0 F0 BS) (m+rest.length) listed a w
 | [],L,I,B,F,listed,a,w,hk,hc,hkb,h,hD,hS=>H L I B F a w listed hkb h hk hc hD hS
 | j::r,L,I,B,F,listed,a,w,hk,hc,hkb,h,hD,hS=>by
  simp only [chkS,Bool.and_eq_true,decide_eq_true_eq] at hk
  unfold tlP at h
  split at h
  ·rename_i o ho
   have hrd:=hk.1
   have hoj:l.toArray[j]?=some o:=by rw [nthV_eq] at ho; simpa using ho
   refine ⟨λ h0=>(by rw [hrd] at h0; cases h0),λ i hi=>?_⟩
   have hir:=hi
   rw [hrd] at hi
   obtain rfl:=List.mem_singleton.1 hi
   have ih:=λ L I B F a w=>tlP_sound hmd hu H r L I B F (listed.setIfInBounds i true) a w hk.2 (hc.set hir)
   have hrun:=(runs_sound hT [o] L I B F h hD.inv).run (λ e a' w'=>match e with
    | .normal=>(true=true→WOk c.h0 F0 BS w')∧wpAnyS c.P l.toArray (panQ c Q) (λ _=>true) (WOk c.h0 F0 BS) (m+r.length) (listed.setIfInBounds i true) a' w'
    | e=>panQ c Q e a' w') a w (λ L' I' B' F' a' w' hk' hD' hS'=>⟨λ _=>keepsB_wok hk'.1 hS' hu,ih _ _ _ _ _ _ hk'.1 hk'.2 hD' hS'⟩) (λ ch a w h1 h2 h3=>⟨h1,h2,h3⟩) hD hS
   rw [hmd] at hrun
   simp only [wpM,wpList] at hrun
   unfold wpOp
   rw [hoj]
   simp only
   split
   ·rename_i hw
    rw [if_pos hw] at hrun
    rcases hrun with hrun | ⟨h1,h2⟩
    ·exact .inl (oper_wpQ (λ _ _ _ h=>h) (λ ⟨a,w,h⟩=>⟨a,w,h⟩) hrun)
    ·exact .inr ⟨h1,let ⟨a,w,h⟩:=h2; ⟨a,w,h⟩⟩
   ·rename_i hw
    rw [if_neg hw] at hrun
    exact hrun
  ·exact h.elim
theorem plK_sound {l:List Oper} {ex:List Nat} {K:KR} {Q:Exit→Act→World→Prop} (hmd:c.md = .wp) (hn:NormOk c K Q) (hsel:Region.noSelect l.toArray=true) :
  ∀ (plan:List (List Nat×List Nat)) (L:SL) (I:IL) (B:BL) (F:FV) (listed:Array Bool) (a:Act) (w:World) (S:World→Prop),chkP l.toArray plan listed=true→Closed l.toArray listed→(∀ w,WOk c.h0 F (exB ex B) w→S w)→plK c l ex plan L I B F K→Dn c L I B a→Sx c B F w→wpAnyS c.P l.toArray (panQ c Q) (λ _=>true) S (planN plan) listed a w
 | [],L,I,B,F,listed,a,w,S,hk,hc,hSS,h,hD,hS=>⟨by simpa [chkP] using hk,hn L I B F a w h hD hS⟩
 | (mv,rest)::p,L,I,B,F,listed,a,w,S,hk,hc,hSS,h,hD,hS=>by
  unfold plK at h
  split at h
  ·refine wpAnyS_weak hSS _ _ _ _ ?_
   unfold chkP at hk
   refine mvG_sound hT (F:=F) (ex:=ex) (S:=WOk c.h0 F (exB ex B)) hsel mv L B listed a w hk (λ i _ j hj=>by cases hj) hc (λ _ h=>h) (exB_wok hS.wok) h hD hS λ L' B' a' listed' hK hk' hc' hD' hS'=>?_
   refine tlP_sound hT hmd (λ k b T cs h=>exB_mem h) (λ L2 I2 B2 F2 a2 w2 listed2 hkb2 hK2 hk2 hc2 hD2 hS2=>?_) rest L' [] B' F listed' a' w hk' hc' hK.1 hK.2 hD' hS'
   exact plK_sound hmd hn hsel p L2 I2 B2 F2 listed2 a2 w2 _ hk2 hc2 (λ w hw=>keepsB_ex hkb2 hw) hK2 hD2 hS2
  ·exact h.elim
omit hT in
theorem closed_no (ops:Array Oper) (n:Nat):Closed ops (Array.replicate n false):=λ j oj _ hl=>by
 rw [getD_replicate_false] at hl; cases hl
theorem regPh {i:Nat} {l:List Oper} (plan:List (List Nat×List Nat)) (ex:List Nat) {L:SL} {B:BL} {F:FV} {kn:KN} {kx:Nat→KN} {kr:KN}
  (h:plK c l ex plan L [] B F λ L I B F=>pushK I L λ L=>kn L B F)
  (hq:chkPh l plan=true:=by kernel_rfl) (hmd:c.md = .wp:=by rfl):CP c (.region i ⟨l⟩ true) L B F kn kx kr:=by
 simp only [chkPh,Bool.and_eq_true] at hq
 obtain ⟨⟨hsel,hlen⟩,hchk⟩:=hq
 have hlen:=Nat.eq_of_beq_eq_true hlen
 refine ⟨λ Q a w hn _ _ hp hD hS=>?_⟩
 rw [hmd]
 refine wp_mono (wp_region_any (Q:=panQ c Q) hT.mix (wpAny_of_S (nd:=λ _=>true) (S:=WOk c.h0 F (exB ex B)) _ _ _ _ ?_)) λ e a w he=>?_
 ·have hS1:Sx c B F { w with drawn:=w.drawn+1 }:=hS.step (keep_drawn w)
  have e:l.toArray.size=planN plan:=by rw [List.size_toArray]; omega
  rw [e]
  exact plK_sound hT hmd (push_ok hn) hsel plan L [] B F _ a _ _ (by rw [← e,List.size_toArray]; exact hchk) (closed_no _ _) (λ _ h=>h) h hD hS1
 ·cases e with
  | panic ch=>exact hp ch a w he.1 he.2.1 he.2.2
  | _=>exact he
end reg
end Go.Dx
namespace Go.Dx
open Go Go.RowKit
inductive OT where
 | z
 | e
 | m (mv:List Nat) (t:OT)
 | n (j:Nat) (t more:OT)
def OT.isZ:OT→Bool
 | .z=>true
 | _=>false
def hdT:OT→List Nat
 | .n j _ more=>j::hdT more
 | _=>[]
def chkT (ops:Array Oper):OT→Array Bool→Nat→Bool→Bool
 | .z,_,_,first => !first
 | .e,listed,k,first=>first&&Nat.beq k 0&&(Region.ready .any ops listed).isEmpty
 | .m mv t,listed,k,first=>first&&Nat.ble mv.length k&&chkM ops mv listed λ l=>chkT ops t l (k - mv.length) true
 | .n j t more,listed,k,first=>(!first||decide (Region.ready .any ops listed=j::hdT more))&&Nat.ble 1 k&&chkT ops t (listed.setIfInBounds j true) (k - 1) true&&chkT ops more listed k false
def chkTr (l:List Oper) (t:OT):Bool:=Region.noSelect l.toArray&&chkT l.toArray t (Array.replicate l.length false) l.length true
def tlT (c:Cx) (al:List Oper) (ex:List Nat):OT→SL→IL→BL→FV→KR→Prop
 | .z,_,_,_,_,_=>True
 | .e,L,I,B,F,K=>K L I B F
 | .m mv t,L,I,B,F,K=>match I with
  | []=>mvG c al F ex mv L B λ L' B'=>keepsB (exB ex B) F B' F∧tlT c al ex t L' [] B' F K
  | _::_=>False
 | .n j t more,L,I,B,F,K=>match more.isZ with
  | true=>(match nthV al j with
   | some o=>runs c al true (λ L' I' B' F'=>keepsB (exB ex B) F B' F'∧tlT c al ex t L' I' B' F' K) [o] L I B F
   | none=>False)
  | false=>(match nthV al j with
   | some o=>runs c al true (λ L' I' B' F'=>keepsB (exB ex B) F B' F'∧tlT c al ex t L' I' B' F' K) [o] L I B F
   | none=>False)∧tlT c al ex more L I B F K
theorem tlT_n {c:Cx} {al:List Oper} {ex:List Nat} {j:Nat} {t more:OT} {L:SL} {I:IL} {B:BL} {F:FV} {K:KR} (h:tlT c al ex (.n j t more) L I B F K) :
  ∃ o,nthV al j=some o∧runs c al true (λ L' I' B' F'=>keepsB (exB ex B) F B' F'∧tlT c al ex t L' I' B' F' K) [o] L I B F∧tlT c al ex more L I B F K:=by
 unfold tlT at h
 cases hz:more.isZ with
 | true =>
  rw [hz] at h
  simp only at h
  split at h
  ·rename_i o ho
   refine ⟨o,ho,h,?_⟩
   cases more <;> first | trivial | cases hz
  ·exact h.elim
 | false =>
  rw [hz] at h
  obtain ⟨h,hm⟩:=h
  split at h
  ·rename_i o ho
   exact ⟨o,ho,h,hm⟩
  ·exact h.elim
theorem keepsB_mono {c:Cx} {ex:List Nat} {B0 B:BL} {F0 F:FV} (h:keepsB (exB ex B0) F0 B F):∀ w,WOk c.h0 F (exB ex B) w→WOk c.h0 F0 (exB ex B0) w:=λ _ hw=>keepsB_ex h hw
section reg
variable {c:Cx} (hT:c.T.Ok c.P)
include hT
theorem tlT_sound {l:List Oper} {ex:List Nat} {K:KR} {Q:Exit→Act→World→Prop} (hmd:c.md = .wp) (hn:NormOk c K Q) (hsel:Region.noSelect l.toArray=true) :
  ∀ (t:OT),(∀ (L:SL) (I:IL) (B:BL) (F:FV) (listed:Array Bool) (a:Act) (w:World) (S:World→Prop) (k:Nat),chkT l.toArray t listed k true=true→Closed l.toArray listed→(∀ w,WOk c.h0 F (exB ex B) w→S w)→tlT c l ex t L I B F K→Dn c L I B a→Sx c B F w→wpAnyS c.P l.toArray (panQ c Q) (λ _=>true) S k listed a w)
   ∧ (∀ (L:SL) (I:IL) (B:BL) (F:FV) (listed:Array Bool) (a:Act) (w:World) (S:World→Prop) (k:Nat),chkT l.toArray t listed (k+1) false=true→Closed l.toArray listed→(∀ w,WOk c.h0 F (exB ex B) w→S w)→tlT c l ex t L I B F K→Dn c L I B a→Sx c B F w →
     ∀ i∈hdT t,i∈Region.ready .any l.toArray listed→wpOp c.P l.toArray (panQ c Q) i (λ a' w'=>(true=true→S w')∧wpAnyS c.P l.toArray (panQ c Q) (λ _=>true) S k (listed.setIfInBounds i true) a' w') a w)
 | .z=>⟨λ _ _ _ _ _ _ _ _ _ hk=>by simp [chkT] at hk,λ _ _ _ _ _ _ _ _ _ _ _ _ _ _ _ i hi=>by cases hi⟩
 | .e=>⟨λ L I B F listed a w S k hk hc hSS h hD hS=>by
   simp only [chkT,Bool.and_eq_true] at hk
   obtain rfl:=Nat.eq_of_beq_eq_true hk.1.2
   exact ⟨by simpa using hk.2,hn L I B F a w h hD hS⟩,λ _ _ _ _ _ _ _ _ _ _ _ _ _ _ _ i hi=>by cases hi⟩
 | .m mv t=>⟨λ L I B F listed a w S k hk hc hSS h hD hS=>by
   simp only [chkT,Bool.and_eq_true,Bool.true_and] at hk
   obtain ⟨hl,hk⟩:=hk
   have hl:=Nat.le_of_ble_eq_true hl
   unfold tlT at h
   split at h
   ·refine wpAnyS_weak hSS _ _ _ _ ?_
    obtain ⟨d,rfl⟩:∃ d,k=d+mv.length:=⟨k - mv.length,by omega⟩
    rw [show d+mv.length - mv.length=d by omega] at hk
    refine mvG_sound hT (F:=F) (ex:=ex) (S:=WOk c.h0 F (exB ex B)) hsel mv L B listed a w hk (λ i _ j hj=>by cases hj) hc (λ _ h=>h) (exB_wok hS.wok) h hD hS λ L' B' a' listed' hK hk' hc' hD' hS'=>?_
    exact (tlT_sound hmd hn hsel t).1 L' [] B' F listed' a' w _ d hk' hc' (keepsB_mono hK.1) hK.2 hD' hS'
   ·exact h.elim,λ _ _ _ _ _ _ _ _ _ _ _ _ _ _ _ i hi=>by cases hi⟩
 | .n j t more=>by
  have main:∀ (L:SL) (I:IL) (B:BL) (F:FV) (listed:Array Bool) (a:Act) (w:World) (S:World→Prop) (k:Nat),chkT l.toArray t (listed.setIfInBounds j true) k true=true→chkT l.toArray more listed (k+1) false=true→Closed l.toArray listed→(∀ w,WOk c.h0 F (exB ex B) w→S w)→tlT c l ex (.n j t more) L I B F K→Dn c L I B a→Sx c B F w →
    ∀ i∈j::hdT more,i∈Region.ready .any l.toArray listed→wpOp c.P l.toArray (panQ c Q) i (λ a' w'=>(true=true→S w')∧wpAnyS c.P l.toArray (panQ c Q) (λ _=>true) S k (listed.setIfInBounds i true) a' w') a w:=by
   intro L I B F listed a w S k hk1 hk2 hc hSS h hD hS i hi hir
   obtain ⟨o,ho,h1,h2⟩:=tlT_n h
   rcases List.mem_cons.1 hi with rfl | hi
   ·have hoj:l.toArray[i]?=some o:=by rw [nthV_eq] at ho; simpa using ho
    have ih:=λ L I B F a w S=>(tlT_sound (ex:=ex) hmd hn hsel t).1 L I B F (listed.setIfInBounds i true) a w S k hk1 (hc.set hir)
    have hrun:=(runs_sound hT [o] L I B F h1 hD.inv).run (λ e a' w'=>match e with
     | .normal=>(true=true→S w')∧wpAnyS c.P l.toArray (panQ c Q) (λ _=>true) S k (listed.setIfInBounds i true) a' w'
     | e=>panQ c Q e a' w') a w (λ L' I' B' F' a' w' hk' hD' hS' =>
      have hm:=λ w hw=>hSS w (keepsB_mono hk'.1 w hw)
      ⟨λ _=>hm w' (exB_wok hS'.wok),ih _ _ _ _ _ _ _ hm hk'.2 hD' hS'⟩) (λ ch a w h1 h2 h3=>⟨h1,h2,h3⟩) hD hS
    rw [hmd] at hrun
    simp only [wpM,wpList] at hrun
    unfold wpOp
    rw [hoj]
    simp only
    split
    ·rename_i hw
     rw [if_pos hw] at hrun
     rcases hrun with hrun | ⟨h1,h2⟩
     ·exact .inl (oper_wpQ (λ _ _ _ h=>h) (λ ⟨a,w,h⟩=>⟨a,w,h⟩) hrun)
     ·exact .inr ⟨h1,let ⟨a,w,h⟩:=h2; ⟨a,w,h⟩⟩
    ·rename_i hw
     rw [if_neg hw] at hrun
     exact hrun
   ·exact (tlT_sound hmd hn hsel more).2 L I B F listed a w S k hk2 hc hSS h2 hD hS i hi hir
  refine ⟨λ L I B F listed a w S k hk hc hSS h hD hS=>?_,λ L I B F listed a w S k hk hc hSS h hD hS i hi hir=>?_⟩
  ·simp only [chkT,Bool.and_eq_true,Bool.not_true,Bool.false_or,decide_eq_true_eq] at hk
   obtain ⟨⟨⟨hr,hk1⟩,hkt⟩,hkm⟩:=hk
   have hk1:=Nat.le_of_ble_eq_true hk1
   obtain ⟨k,rfl⟩:∃ d,k=d+1:=⟨k - 1,by omega⟩
   refine ⟨λ h0=>(by rw [hr] at h0; cases h0),λ i hi=>?_⟩
   exact main L I B F listed a w S k hkt hkm hc hSS h hD hS i (by rw [← hr]; exact hi) hi
  ·simp only [chkT,Bool.and_eq_true] at hk
   exact main L I B F listed a w S k hk.1.2 hk.2 hc hSS h hD hS i hi hir
theorem regPt {i:Nat} {l:List Oper} (t:OT) (ex:List Nat) {L:SL} {B:BL} {F:FV} {kn:KN} {kx:Nat→KN} {kr:KN}
  (h:tlT c l ex t L [] B F λ L I B F=>pushK I L λ L=>kn L B F)
  (hq:chkTr l t=true:=by kernel_rfl) (hmd:c.md = .wp:=by rfl):CP c (.region i ⟨l⟩ true) L B F kn kx kr:=by
 simp only [chkTr,Bool.and_eq_true] at hq
 obtain ⟨hsel,hchk⟩:=hq
 refine ⟨λ Q a w hn _ _ hp hD hS=>?_⟩
 rw [hmd]
 refine wp_mono (wp_region_any (Q:=panQ c Q) hT.mix (wpAny_of_S (nd:=λ _=>true) (S:=WOk c.h0 F (exB ex B)) _ _ _ _ ?_)) λ e a w he=>?_
 ·have hS1:Sx c B F { w with drawn:=w.drawn+1 }:=hS.step (keep_drawn w)
  have e:l.toArray.size=l.length:=by rw [List.size_toArray]
  rw [e]
  exact (tlT_sound hT hmd (push_ok hn) hsel t).1 L [] B F _ a _ _ l.length hchk (closed_no _ _) (λ _ h=>h) h hD hS1
 ·cases e with
  | panic ch=>exact hp ch a w he.1 he.2.1 he.2.2
  | _=>exact he
end reg
end Go.Dx
namespace Go.Dx
open Go Go.RowKit
section sealm
variable {c:Cx} {α:Type} {T sz nn cp k:Nat} {a0:Option Addr} {g:α→List Value} {l:List α} {B:BL} {F:FV}
end sealm
section idx
variable {P:Program} {w:World} {L:FL} {d:Option Nat} {ty t e:TypeId} {pos:String} {af:Array Edge} {g:Option (Nat×Bool)} {x y:Operand}
theorem pu_index_arA {k:IntKind} {nn sz:Nat} {i:Int} {cs vs':List Value} (ht:ArT P t nn e sz) (ha:(P.underlying e).map aggB=some true) (hx:ev L x=some (.agg cs.toArray)) (hy:ev L y=some (.int k i)) (h0:0≤i) (h1:i<nn) (hv:(cs.drop (i.toNat*sz)).take sz=vs') (hl:i.toNat*sz+sz≤cs.length) :
  Pu P L ⟨d,.index t x y,ty,pos,af,g⟩ w (.agg vs'.toArray):=by
 intro ρ hρ
 obtain ⟨ht,inf,hi,hsz⟩:=ht
 have hp:(part e cs.toArray (i.toNat*inf.size)).run P w = .ok (.agg vs'.toArray) w:=by
  cases hu:P.underlying e with
  | none=>simp [hu] at ha
  | some q =>
   have hq:aggB q=true:=by simpa [hu] using ha
   rw [hsz]
   cases q <;> simp [aggB] at hq <;> simp [part,isAgg,run_underlying hu,sizeOf,typeInfo,hi,hsz,hl,hv]
 simp [execOp,hρ x (by simp [Op.operands]) _ hx,hρ y (by simp [Op.operands]) _ hy,Instr.index,asIntOf,run_underlying ht,sizeOf,typeInfo,hi,h0,h1,hp]
end idx
end Go.Dx
namespace Go.Dx
open Go Go.RowKit
def LR {α:Type} (T sz:Nat) (R:View→List Value→α→Prop) (h:View) (ad:Option Addr) (cap:Nat) (l:List α):Prop :=
 ∃ c:Nat→List Value,SlC T sz (flatR c) h (.slice ad l.length cap) (List.range l.length)∧∀ i x,l[i]?=some x→R h (c i) x
def MonoR {α:Type} (R:View→List Value→α→Prop):Prop:=∀ {h h':View} {cs:List Value} {x:α},VLe h h'→R h cs x→R h' cs x
section lr
variable {α:Type} {T sz:Nat} {R:View→List Value→α→Prop}
theorem LR.mono (hR:MonoR R) {h h':View} {ad:Option Addr} {cap:Nat} {l:List α} (hle:VLe h h') (hx:LR T sz R h ad cap l):LR T sz R h' ad cap l:=by
 obtain ⟨c,h1,h2⟩:=hx
 exact ⟨c,h1.monoF hle,λ i x hi=>hR hle (h2 i x hi)⟩
theorem LR.m (hR:MonoR R) (a:Option Addr×Nat) (l:List α):Mono λ h=>LR T sz R h a.1 a.2 l:=λ _ _ hle hx=>LR.mono (R:=R) hR hle hx
theorem LR.lm {h:View} {ad:Option Addr} {cap:Nat} {l:List α} (hx:LR T sz R h ad cap l):l.length≤9223372036854775807:=by
 obtain ⟨c,h1,_⟩:=hx
 obtain ⟨a,c',hv,h4,h5,_⟩:=h1
 have h6:l.length=(List.range l.length).length:=by simp
 have:maxLen≤9223372036854775807:=by decide
 omega
theorem LR.nil (h:View):LR T sz R h none 0 ([]:List α):=⟨λ _=>[],SlC.nil (by simp [maxLen]),λ i x hi=>by simp at hi⟩
theorem LR.at {h:View} {ad:Option Addr} {cap:Nat} {l:List α} (hx:LR T sz R h ad cap l) (d:α) {i:Nat} (hi:i<l.length):∃ g off cs,ad=some ⟨g,off,none⟩∧R h cs (l.getD i d) ∧
  ∀ w,VLe h (Full w)→∀ j v,cs[j]?=some v→w.cell? ⟨g,off+i*sz+j,none⟩=some v:=by
 obtain ⟨c,h1,h2⟩:=hx
 obtain ⟨g,off,ha,H⟩:=h1.at (i:=i) (x:=i) (by simp [hi])
 have hg:l[i]?=some (l.getD i d):=by simp [List.getD,hi]
 exact ⟨g,off,c i,ha,h2 i _ hg,H⟩
theorem ixL {c:Cx} {F:FV} {n:Nat} {ad:Option Addr} {cap:Nat} {l:List α} {i:Int} {X:Nat→List Value→Prop} (H:LR T sz R c.h0 ad cap l) (j:Nat) (d:α) (k:∀ cs,R c.h0 cs (l.getD j d)→X j cs)
  (h:i=(j:Int)∧j<l.length:=by omega) (hn:n=l.length:=by rfl):∃ (j:Nat) (cs:List Value),(i=(j:Int)∧j<n∧ElC c.h0 F ad (j*sz) cs)∧X j cs:=by
 obtain ⟨g,off,cs,ha,h1,hc⟩:=H.at d h.2
 subst hn
 exact ⟨j,cs,⟨h.1,h.2,λ v hv _=>⟨by rw [ha]; rfl,λ w hw=>by rw [ha]; exact hc w (hv.trans hw)⟩⟩,k cs h1⟩
theorem ixLg {c:Cx} {F:FV} {g:Bool} {p q:Prop} [hb:BP g p q] {n:Nat} {ad:Option Addr} {cap:Nat} {l:List α} {i:Int} {X:Nat→List Value→Prop} (H:LR T sz R c.h0 ad cap l) (j:Nat) (d:α) (hj:j<l.length)
  (k:∀ cs,R c.h0 cs (l.getD j d)→X j cs) (h:p→i=(j:Int):=by intros; omega) (hn:n=l.length:=by rfl):∃ (j:Nat) (cs:List Value),(g=true→i=(j:Int)∧j<n∧ElC c.h0 F ad (j*sz) cs)∧X j cs:=by
 obtain ⟨g',off,cs,ha,h1,hc⟩:=H.at d hj
 subst hn
 exact ⟨j,cs,λ e=>⟨h (hb.t e),hj,λ v hv _=>⟨by rw [ha]; rfl,λ w hw=>by rw [ha]; exact hc w (hv.trans hw)⟩⟩,k cs h1⟩
theorem row_map {β:Type} (f:β→List Value) (d:β) (es:List β):(List.range es.length).map (λ i=>f (es.getD i d))=es.map f:=by
 refine List.ext_getElem (by simp) λ i h1 h2=>?_
 have h3:i<es.length:=by simpa using h1
 simp [List.getD,h3]
theorem row_flat {β:Type} {f:β→List Value} (hf:∀ x,(f x).length=sz) (es:List β):(es.map f).flatten.length=es.length*sz:=by
 induction es with
 | nil=>simp
 | cons v l ih=>rw [List.map_cons,List.flatten_cons,List.length_append,ih,hf,List.length_cons,Nat.add_mul,Nat.one_mul,Nat.add_comm]
theorem LR.of_row {β:Type} {f:β→List Value} {g:β→α} {d:β} {es:List β} {h:View} {ad:Option Addr} {n cap:Nat} (hs:SlC T sz (flatR λ i=>f (es.getD i d)) h (.slice ad n cap) (List.range es.length)) (hn:n=es.length) (hR:∀ q∈es,R h (f q) (g q)):LR T sz R h ad cap (es.map g):=by
 subst hn
 refine ⟨λ i=>f (es.getD i d),by simpa using hs,λ i x hi=>?_⟩
 rw [List.getElem?_map] at hi
 cases he:es[i]? with
 | none=>rw [he] at hi; cases hi
 | some p =>
  rw [he] at hi
  cases hi
  have e:es.getD i d=p:=by simp [List.getD,he]
  show R h (f (es.getD i d)) _
  rw [e]; exact hR p (List.mem_of_getElem? he)
theorem LR.all {h:View} {ad:Option Addr} {cap:Nat} {l:List α} (hx:LR T sz R h ad cap l):∀ x∈l,∃ cs,R h cs x:=by
 intro x hm
 obtain ⟨i,hi⟩:=List.mem_iff_getElem?.1 hm
 obtain ⟨c,_,h2⟩:=hx
 exact ⟨c i,h2 i x hi⟩
end lr
end Go.Dx
namespace Go.Dx
open Go Go.RowKit
theorem SlC.reidx {α β:Type} {T sz:Nat} {f:α→List Value} {g:β→List Value} {h:View} {v:Value} {l:List α} {m:List β} (hs:SlC T sz (flatR f) h v l) (hl:m.length=l.length)
  (he:∀ (i:Nat) x y,l[i]?=some x→m[i]?=some y→f x=g y):SlC T sz (flatR g) h v m:=by
 obtain ⟨a,cap,hv,h1,h2,h3⟩:=hs
 refine ⟨a,cap,by rw [hl]; exact hv,by omega,h2,λ hne=>?_⟩
 obtain ⟨gb,off,arr,fz,ha,hg,hx⟩:=h3 (λ e=>hne (List.eq_nil_of_length_eq_zero (by rw [hl,e]; rfl)))
 refine ⟨gb,off,arr,fz,ha,hg,λ i y hi=>?_⟩
 have hil:i<l.length:=by have:=(List.getElem?_eq_some_iff.1 hi).1; omega
 obtain ⟨cs,c1,c2,c3⟩:=hx i l[i] (List.getElem?_eq_getElem hil)
 have c2':cs=f l[i]:=c2
 exact ⟨cs,c1,by show cs=g y; rw [c2',he i _ _ (List.getElem?_eq_getElem hil) hi],c3⟩
section lr
variable {α:Type} {T sz:Nat} {R:View→List Value→α→Prop}
theorem LR.take {h:View} {a:Option Addr} {n cap k:Nat} {l:List α} (hx:LR T sz R h a cap l) (hk:k≤l.length):LR T sz R h a cap (l.take k):=by
 obtain ⟨c,h1,h2⟩:=hx
 have hlen:(l.take k).length=k:=by simp; omega
 refine ⟨c,?_,λ i x hi=>h2 i x ?_⟩
 ·rw [hlen]
  refine SlC.reidx (h1.take (k:=k) (by simpa using hk)) (by simp; omega) (λ i x y hi hj=>?_)
  have e1:=(List.getElem?_eq_some_iff.1 hi).2
  have e2:=(List.getElem?_eq_some_iff.1 hj).2
  simp at e1 e2
  rw [← e1,← e2]
 ·rw [List.getElem?_take] at hi
  split at hi
  ·exact hi
  ·cases hi
theorem LR.drop {h:View} {a:Option Addr} {cap k:Nat} {l:List α} (hx:LR T sz R h a cap l) (hk:k≤l.length):LR T sz R h (if cap=k then a else a.map (·.add (k*sz))) (cap - k) (l.drop k):=by
 obtain ⟨c,h1,h2⟩:=hx
 refine ⟨λ i=>c (k+i),?_,λ i x hi=>h2 (k+i) x (by rw [← hi,List.getElem?_drop])⟩
 have:=h1.drop (k:=k) (by simpa using hk)
 rw [List.length_drop]
 refine SlC.reidx this (by simp) (λ i x y hi hj=>?_)
 have e1:=(List.getElem?_eq_some_iff.1 hi).2
 have e2:=(List.getElem?_eq_some_iff.1 hj).2
 simp at e1 e2
 rw [← e1,← e2]
theorem LR.one {h:View} {a:Option Addr} {cap:Nat} {cs:List Value} {x:α} (hs:SlC T sz (flatR λ c:List Value=>c) h (.slice a 1 cap) [cs]) (hR:R h cs x):LR T sz R h a cap [x]:=by
 refine ⟨λ _=>cs,?_,λ i y hi=>?_⟩
 ·refine SlC.reidx hs rfl (λ i x y hi hj=>?_)
  have e1:=(List.getElem?_eq_some_iff.1 hi)
  obtain ⟨e0,e1⟩:=e1
  have:i=0:=by simpa using e0
  subst this; exact e1.symm
 ·have e1:=(List.getElem?_eq_some_iff.1 hi)
  obtain ⟨e0,e1⟩:=e1
  have:i=0:=by simpa using e0
  subst this
  have e1:x=y:=e1
  rw [← e1]; exact hR
end lr
section opens
variable {H:Type} {enc:TypeId×Value→H} {P:Program} {W:World} {base:Nat} {spare:Nat→Bool} {held:Bool}
theorem open_lr {α:Type} {R:View→List Value→α→Prop} {t e sz fuel:Nat} {v:Value} {x:DataW H×List MemPlace} (d:α) (ht:P.underlying t=some (.slice e)) (hsz:P.cellsOf e=sz) (hpos:0<sz)
  (hel:∀ (n:Nat) cs y,DataW.trod enc P W base spare held n e cs=some y→∃ a,R (Full W) cs a)
  (h:DataW.trod enc P W base spare held fuel t [v]=some x):∃ (ad:Option Addr) (cap:Nat) (l:List α),v = .slice ad l.length cap∧LR e sz R (Full W) ad cap l:=by
 obtain ⟨ad,cap,n,cc,rfl,hs,hk⟩:=open_sl ht hsz hpos h
 have kids:∀ i,i<n→∃ a:α,R (Full W) (cc i) a:=λ i hi=>by
  obtain ⟨m,z,_,hz⟩:=hk i hi
  exact hel _ _ _ hz
 have:Inhabited α:=⟨d⟩
 obtain ⟨g,hg⟩:=Go.Deep.choose_lt kids
 have hlen:((List.range n).map g).length=n:=by simp
 refine ⟨ad,cap,(List.range n).map g,by rw [hlen],cc,?_,λ i t hi=>?_⟩
 ·rw [hlen]; simpa using hs
 ·have hin:i<n:=by have:=(List.getElem?_eq_some_iff.1 hi).1; simpa using this
  have:t=g i:=by simp [hin] at hi; exact hi.symm
  subst this; exact hg i hin
end opens
end Go.Dx
namespace Go.Dx
open Go Go.RowKit
section loops
variable {c:Cx} (hT:c.T.Ok c.P)
include hT
theorem w_cutF {α:Type} (md:α→SL) (Bx:α→BL) (Fx:α→FV) (I:α→Prop) (hm:∀ x,Mono (Fx x)) {k k':Code} {L:SL} {B:BL} {F:FV} {kn:KN} {kx:Nat→KN} {kr:KN}
  (h:wrsK k [] λ ws=>keepK ws [] L λ Lk=>vcC c k L B F (λ L' B' F'=>∃ x,I x∧Goes (md x++Lk) (Bx x) (Fx x) L' B' F') kx kr∧∀ x,I x→vcC c k' (md x++Lk) (Bx x) (Fx x) kn kx kr) :
  CP c (.seq k k') L B F kn kx kr:=by
 obtain ⟨ws,h⟩:=wrsK_sound h
 obtain ⟨Lk,⟨h1,h2⟩,_⟩:=keepK_sound h
 refine ⟨λ Q a w hn hx hret hp hD hS=>c_seq ((vcC_sound hT k _ _ _ _ _ _ h1).run _ a w ?_ ⟨hx.ex,hx.go⟩ hret hp hD hS)⟩
 rintro L' B' F' a' w' ⟨x,hI,hg⟩ hD' hS'
 exact (vcC_sound hT k' _ _ _ _ _ _ (h2 x hI)).run Q a' w' hn hx hret hp (hg.dn hD') (hg.sx (hm x) hS')
end loops
end Go.Dx
namespace Go.Dx
open Go Go.RowKit
theorem Src.sl {P:Program} {w:World} {α:Type} {T sz:Nat} {g:α→List Value} {ad:Option Addr} {n cp:Nat} {l:List α} (h:SlC T sz (flatR g) (Full w) (.slice ad n cp) l) (hg:∀ x∈l,(g x).length=sz) (h1:∀ x∈l,∀ u∈g x,u.oneCell'=true):Src P w (.slice ad n cp) sz l.length (l.map g).flatten:=by
 obtain ⟨a,cap,hv,hle,hm,hx⟩:=h
 cases hv
 have hlen:∀ l:List α,(∀ x∈l,(g x).length=sz)→(l.map g).flatten.length=l.length*sz:=by
  intro l
  induction l with
  | nil=>intro _; simp
  | cons x l ih =>
   intro hg
   rw [List.map_cons,List.flatten_cons,List.length_append,hg x (by simp),List.length_cons,Nat.succ_mul,ih λ y hy=>hg y (by simp [hy])]
   omega
 have hone:∀ u∈(l.map g).flatten,u.oneCell'=true:=by
  intro u hu
  obtain ⟨cs,hcs,hu⟩:=List.mem_flatten.1 hu
  obtain ⟨x,hxm,rfl⟩:=List.mem_map.1 hcs
  exact h1 x hxm u hu
 cases l with
 | nil=>exact Src.nil
 | cons x0 l0 =>
  obtain ⟨gb,off,arr,fz,rfl,⟨T',hb⟩,hel⟩:=hx (by simp)
  refine Src.row (fz:=fz) (arr:=arr) (T:=T') hb (hlen _ hg) ?_ hone
  have key:∀ (l:List α) (o:Nat),(∀ x∈l,(g x).length=sz)→(∀ i x,l[i]?=some x→(arr.toList.drop (o+i*sz)).take sz=g x)→(arr.toList.drop o).take (l.length*sz)=(l.map g).flatten:=by
   intro l
   induction l with
   | nil=>intro o _ _; simp
   | cons x l ih =>
    intro o hg hx
    have h0:=hx 0 x rfl
    rw [Nat.zero_mul,Nat.add_zero] at h0
    have hr:=ih (o+sz) (λ y hy=>hg y (by simp [hy])) (λ i y hi=>by
     have:=hx (i+1) y (by simpa using hi)
     rw [Nat.succ_mul] at this
     rw [show o+sz+i*sz=o+(i*sz+sz) by omega]; exact this)
    rw [List.length_cons,Nat.succ_mul,Nat.add_comm,List.take_add,h0,List.drop_drop,hr]
    rfl
  refine key _ off hg λ i x hi=>?_
  obtain ⟨cs,_,h2,h3⟩:=hel i x hi
  rw [h3]; exact h2
theorem set_perm {α:Type _}:∀ (l:List α) (i:Nat) (x:α),i<l.length→(l.set i x).Perm (x::l.eraseIdx i)
 | [],i,x,h=>by simp at h
 | a::l,0,x,_=>by simp
 | a::l,i+1,x,h=>by
  simp only [List.set_cons_succ,List.eraseIdx_cons_succ]
  exact ((set_perm l i x (by simpa using h)).cons a).trans (List.Perm.swap ..)
section
variable {c:Cx} (hT:c.T.Ok c.P)
include hT
theorem apF {α:Type} {g:α→List Value} {l:List α} {ad:Option Addr} {al:List Oper} {K:KR} {d t t2 e sz bytes n cp T:Nat} {x y:Operand} {ty:TypeId} {pos:String} {af:Array Edge} {r:List Oper} {L:SL} {B:BL} {F:FV} {sx:SV} {v:Value} {xs:List Value} (k:Nat) (hA:AppT c.P t t2 e sz bytes)
  (H:∀ v,VLe c.h0 v→F v→SlC T sz (flatR g) v (.slice ad n cp) l) (hg:∀ x∈l,(g x).length=sz) (h1:∀ x∈l,∀ u∈g x,u.oneCell'=true)
  (hB:lkA B k=some (.e (bufE e sz v xs))) (hx:rdS L [] none x=some sx) (hv:dvO B sx=some v) (hy:rdS L [] none y=some (.v (.slice ad n cp)))
  (hb:(xs.length+(l.map g).flatten.length)*(bytes+1)≤140737488355328)
  (h:∀ a0 nn cp,nn*sz=xs.length+(l.map g).flatten.length→setAK B k (.e (bufE e sz (.slice a0 nn cp) (xs++(l.map g).flatten))) λ B'=>runs c al true K r ((d,.v (.slice a0 nn cp))::L) [] B' F) (hd:Nat.blt d c.n=true:=by rfl) :
  WP c al (⟨some d,.call ⟨.builtin .append,⟨[x,y]⟩,⟨[t,t2]⟩⟩,ty,pos,af,none⟩::r) L [] B F K :=
 ap_src hT hA hB hx hv hy (yv := .slice ad n cp) rfl (λ w hS=>Src.sl (Mono.slF _ _ hS.st.view (H _ hS.st.base_cv hS.st.facts)) hg h1) hd hb h
omit hT in
theorem rowE {k b T n cp sz:Nat} {cs:List Value} {al:List Oper} {K:KR} {r:List Oper} {L:SL} {B:BL} {F:FV} (kn:Nat) (hB:lkA B k=some (.c b T cs)) (hl:cs.length=n*sz) (hc:cs.length=cp*sz) (hm:cp≤maxLen) (hle:n≤cp)
  (h:delE B k λ B'=>lkA B' kn=none∧WP c al r (unL k b L) [] ((kn,.e (bufE T sz (.slice (some ⟨b,0,none⟩) n cp) cs))::B') F K):WP c al r L [] B F K:=by
 obtain ⟨B',i,⟨hkn,h1⟩,h2,h3,h4,h5⟩:=delC_sound hB h
 have hlt:i<(oes B).length:=(List.getElem?_eq_some_iff.1 h2).1
 have hkv:=unL_kv (L:=L) hB h4
 refine ⟨λ Q a w hn hp hD hS=>h1.run Q a w hn hp ⟨?_,inv_nil⟩ ⟨?_,λ q g b' o cs' hq=>?_⟩⟩
 ·rw [fl_congr (nil_dv hkn _)]
  exact Fr.of_kv hD.fr.df hD.fr.sz λ t v hv=>hD.fr.kv (by rw [hkv] at hv; exact hv)
 ·have hC:BufC T sz (.slice (some ⟨b,0,none⟩) n cp) cs w.heap[b]?:=by
   have:=hS.st.at h2
   refine .inr ⟨b,0,n,cp,cs.toArray,(0,0),rfl,this,by simp [noFz],hl,hle,hm,by simp; omega,by simp [← hl]⟩
  have:=(hS.st.write h2 (Keep.refl [b] w) hC).perm (set_perm _ i _ hlt)
  rw [← h3] at this
  exact this
 ·rcases List.mem_cons.1 hq with hq | hq
  ·cases hq
  ·exact (hS.bk.sub h5 λ v h=>h) _ _ _ _ _ hq
end
end Go.Dx
namespace Go.Dx
open Go Go.RowKit
theorem run_yield2 {P:Program} {w:World} {l p q:Nat} {r:Loop} {u v:Value} (h:w.heap[l]?=some (.loop r)) (hp:r.params=#[p,q]):(Instr.yield l [u,v].toArray).run P w = .ok (.round l r.fn ((r.tmps.setIfInBounds p u).setIfInBounds q v) r.assign r.body) w:=by
 have:=run_yield (P:=P) (args:=[u,v].toArray) h (by rw [hp]; rfl)
 rw [hp] at this
 simpa using this
section
variable {c:Cx} (hT:c.T.Ok c.P)
include hT
end
end Go.Dx
namespace Go.Dx
open Go Go.RowKit
theorem splL {α:Type _} (xs:List α) (p:Nat) (new:List α) (h:p+new.length≤xs.length):(xs.take p++new++xs.drop (p+new.length)).length=xs.length:=by
 simp only [List.length_append,List.length_take,List.length_drop]; omega
theorem win_upd {α:Type _} (cur new:List α) (off p N:Nat) (hp:p+new.length≤N) (hN:off+N≤cur.length) :
  ((cur.take (off+p)++new++cur.drop (off+p+new.length)).drop off).take N=((cur.drop off).take N).take p++new++((cur.drop off).take N).drop (p+new.length):=by
 apply List.ext_getElem?
 intro j
 have l1:(cur.take (off+p)).length=off+p:=by rw [List.length_take]; omega
 have l2:(((cur.drop off).take N).take p).length=p:=by simp only [List.length_take,List.length_drop]; omega
 rw [List.getElem?_take]
 split
 ·rename_i hj
  rw [List.getElem?_drop,List.append_assoc,List.append_assoc,List.getElem?_append,List.getElem?_append,List.getElem?_append,List.getElem?_append,l1,l2]
  by_cases h1:j<p
  ·rw [if_pos (by omega),if_pos h1,List.getElem?_take,if_pos (by omega),List.getElem?_take,if_pos h1,List.getElem?_take,if_pos hj,List.getElem?_drop]
  ·rw [if_neg (by omega),if_neg h1,show off+j - (off+p)=j - p by omega]
   split
   ·rfl
   ·rw [List.getElem?_drop,List.getElem?_drop,List.getElem?_take,if_pos (by omega),List.getElem?_drop]
    congr 1; omega
 ·rename_i hj
  rw [List.getElem?_eq_none]
  simp only [List.length_append,List.length_take,List.length_drop]; omega
theorem buf_store {P:Program} {w:World} {T t2 sz n cap m g o:Nat} {v:Value} {xs new:List Value} (hC:BufC T sz (.slice (some ⟨g,o,none⟩) n cap) xs w.heap[g]?) (hm:m<n) (hc:v.cells=new.toArray) (hnl:new.length=sz) (hsz:SzIs P t2 new.length) (h1:allOne new=true) :
  ∃ w',(storeVar t2 ⟨g,o+m*sz,none⟩ v).run P w = .ok () w'∧Keep [g] w w'∧BufC T sz (.slice (some ⟨g,o,none⟩) n cap) (xs.take (m*sz)++new++xs.drop (m*sz+new.length)) w'.heap[g]?:=by
 rcases hC with ⟨e,_⟩ | ⟨g',off,n',cap',cur,fz,e,hg,hf,hl,hle,hcm,hfit,hx⟩
 ·cases e
 cases e
 subst hnl
 have hmn:m*new.length+new.length≤n*new.length:=by
  have:=Nat.mul_le_mul_right new.length (show m+1≤n by omega)
  rw [Nat.succ_mul] at this; exact this
 have hnc:n*new.length≤cap*new.length:=Nat.mul_le_mul_right _ hle
 obtain ⟨inf,hi,hs⟩:=hsz
 have hst:=run_storeCells_fz P g (o+m*new.length) T fz new 0 cur w hg hf (by omega) (allOne_mem h1)
 simp only [Nat.add_zero] at hst
 refine ⟨w.setRow g (cur.toList.take (o+m*new.length)++new++cur.toList.drop (o+m*new.length+new.length)).toArray,?_,keep_setRow _ _ _,.inr ⟨g,o,n,cap,_,fz,rfl,setRow_heap w g cur _ T fz hg,?_,?_,hle,hcm,?_,?_⟩⟩
 ·unfold storeVar
  simp [sizeOf,typeInfo,hi,hs,hc,hst]
 ·have:(cur.toList.take (o+m*new.length)++new++cur.toList.drop (o+m*new.length+new.length)).toArray.size=cur.size:=by
   rw [List.size_toArray,splL _ _ _ (by simp; omega)]; simp
  rw [this]; exact hf
 ·rw [splL _ _ _ (by omega)]; exact hl
 ·rw [List.size_toArray,splL _ _ _ (by simp; omega)]; simpa using hfit
 ·rw [win_upd _ _ _ _ _ (by omega) (by simp; omega),hx]
theorem buf_cells {w:World} {T sz n cap m g o:Nat} {xs new:List Value} (hC:BufC T sz (.slice (some ⟨g,o,none⟩) n cap) xs w.heap[g]?) (hm:m<n) (hnew:(xs.drop (m*sz)).take sz=new) (hnl:new.length=sz):∀ j v,new[j]?=some v→w.cell? ⟨g,o+m*sz+j,none⟩=some v:=by
 rcases hC with ⟨e,_⟩ | ⟨g',off,n',cap',cur,fz,e,hg,hf,hl,hle,hcm,hfit,hx⟩
 ·cases e
 cases e
 intro j v hj
 have hjl:j<sz:=by have:=(List.getElem?_eq_some_iff.1 hj).1; omega
 have hmn:m*sz+sz≤n*sz:=by
  have:=Nat.mul_le_mul_right sz (show m+1≤n by omega)
  rw [Nat.succ_mul] at this; exact this
 rw [← hnew,← hx,List.getElem?_take,if_pos hjl,List.getElem?_drop,List.getElem?_take,if_pos (by omega),List.getElem?_drop] at hj
 have hg':w.heap[g]?=some (.cells cur T fz):=hg
 simp only [World.cell?,hg']
 rw [Nat.add_assoc]
 simpa using hj
theorem flat_set {α:Type} {g:α→List Value} {sz:Nat} (hg:∀ x,(g x).length=sz):∀ (l:List α) (m:Nat) (v:α),m<l.length→((l.set m v).map g).flatten=((l.map g).flatten).take (m*sz)++g v++((l.map g).flatten).drop (m*sz+(g v).length)
 | [],m,v,h=>by simp at h
 | x::l,0,v,_=>by
  simp only [List.set_cons_zero,List.map_cons,List.flatten_cons,Nat.zero_mul,List.take_zero,List.nil_append,Nat.zero_add]
  rw [show (g v).length=(g x).length by rw [hg,hg],List.drop_left]
 | x::l,m+1,v,h=>by
  simp only [List.set_cons_succ,List.map_cons,List.flatten_cons]
  rw [flat_set hg l m v (by simpa using h),Nat.succ_mul,show m*sz+sz=(g x).length+m*sz by rw [hg]; omega,List.take_length_add_append,Nat.add_assoc,List.drop_length_add_append,List.append_assoc,List.append_assoc,List.append_assoc]
theorem flat_at {α:Type} {g:α→List Value} {sz:Nat} (hg:∀ x,(g x).length=sz):∀ (l:List α) (m:Nat) (d:α),m<l.length→(((l.map g).flatten).drop (m*sz)).take sz=g (l.getD m d)
 | [],m,d,h=>by simp at h
 | x::l,0,d,_=>by
  simp only [List.map_cons,List.flatten_cons,Nat.zero_mul,List.drop_zero]
  rw [← hg x,List.take_left]; rfl
 | x::l,m+1,d,h=>by
  simp only [List.map_cons,List.flatten_cons]
  rw [Nat.succ_mul,show m*sz+sz=(g x).length+m*sz by rw [hg]; omega,List.drop_length_add_append,flat_at hg l m d (by simpa using h)]
  simp [List.getD]
section
variable {c:Cx} (hT:c.T.Ok c.P)
include hT
theorem ixBnW {al:List Oper} {K:KR} {d t e T sz:Nat} {x y:Operand} {ty:TypeId} {pos:String} {af:Array Edge} {r:List Oper} {L:SL} {B:BL} {F:FV} {a:Option Addr} {n cp m:Nat} {xs:List Value} {it:IntKind} {i:Int} (k:Nat)
  (hB:lkA B k=some (.e (bufE T sz (.slice a n cp) xs))) (ht:SlT c.P t e sz) (hx:rdS L [] none x=some (.v (.slice a n cp))) (hy:rdS L [] none y=some (.v (.int it i))) (hi:i=(m:Int)) (hm:m<n)
  (h:∀ b o,a=some ⟨b,o,none⟩→WP c al r ((d,.v (.pointer (some ⟨b,o+m*sz,none⟩)))::L) [] B F K) (hd:Nat.blt d c.n=true:=by rfl):WP c al (⟨some d,.indexAddr t x y,ty,pos,af,none⟩::r) L [] B F K:=by
 have _:=hT
 refine ⟨λ Q ac w hn hp hD hS=>?_⟩
 obtain ⟨q,hq,_⟩:=lkE_ix hB
 have hC:=hS.st.own _ (List.mem_of_getElem? hq)
 rcases hC with ⟨h1,_⟩ | ⟨g,off,n',cap,cur,fz,h1,_⟩
 ·cases h1; omega
 ·cases h1
  have hpu:=pu_iaddr_sla (P:=c.P) (w:=w) (d:=some d) (ty:=ty) (pos:=pos) (af:=af) (g:=none) (L:=fl L [] B) (j:=m) rfl ht (ev_sl hx rfl) (ev_sl (v := .int it i) hy rfl) hi hm
  exact s_pu hD.fr hpu hd λ a' hF'=>(h g off rfl).run Q a' w hn hp ⟨hF',inv_nil⟩ hS
theorem ixStB {al:List Oper} {K:KR} {d t t2 e T sz:Nat} {x y z:Operand} {ty ty2:TypeId} {pos pos2:String} {af af2:Array Edge} {r:List Oper} {L:SL} {B:BL} {F:FV} {a:Option Addr} {n cp m:Nat} {xs new:List Value} {it:IntKind} {i:Int} {v:Value} {sz':SV} (k:Nat)
  (hB:lkA B k=some (.e (bufE T sz (.slice a n cp) xs))) (ht:SlT c.P t e sz) (hx:rdS L [] none x=some (.v (.slice a n cp))) (hy:rdS L [] none y=some (.v (.int it i))) (hi:i=(m:Int)) (hm:m<n)
  (hz:rdS L [] none z=some sz') (hzv:dvO B sz'=some v) (hzd:z ≠ .tmp d) (hc:v.cells=new.toArray) (hnl:new.length=sz) (hsz:SzIs c.P t2 new.length) (h1:allOne new=true)
  (h:∀ b o,a=some ⟨b,o,none⟩→setAK B k (.e (bufE T sz (.slice a n cp) (xs.take (m*sz)++new++xs.drop (m*sz+new.length)))) λ B'=>runs c al true K r ((d,.v (.pointer (some ⟨b,o+m*sz,none⟩)))::L) [] B' F) (hd:Nat.blt d c.n=true:=by rfl) :
  true=true∧WP c al (⟨some d,.indexAddr t x y,ty,pos,af,none⟩::⟨none,.store t2 (.tmp d) z,ty2,pos2,af2,none⟩::r) L [] B F K:=by
 refine ⟨rfl,⟨λ Q ac w hn hp hD hS=>?_⟩⟩
 obtain ⟨q,hq,hset⟩:=lkE_ix hB
 have hC0:=hS.st.own _ (List.mem_of_getElem? hq)
 rcases hC0 with ⟨e1,_⟩ | ⟨g,off,n',cap,cur,fz,e1,hrest⟩
 ·cases e1; omega
 cases e1
 have hC:BufC T sz (.slice (some ⟨g,off,none⟩) n cp) xs w.heap[g]?:=hS.st.own _ (List.mem_of_getElem? hq)
 have hpu:=pu_iaddr_sla (P:=c.P) (w:=w) (d:=some d) (ty:=ty) (pos:=pos) (af:=af) (g:=none) (L:=fl L [] B) (j:=m) rfl ht (ev_sl hx rfl) (ev_sl (v := .int it i) hy rfl) hi hm
 refine s_pu hD.fr hpu hd λ a' hF'=>?_
 refine wpM_plain rfl λ K' hK=>?_
 obtain ⟨w',hst,hkeep,hC'⟩:=buf_store (P:=c.P) (t2:=t2) (v:=v) hC hm hc hnl hsz h1
 have ex:a'.eval (.tmp d) = .pointer (some ⟨g,off+m*sz,none⟩):=hF'.ev (by simp [Dx.ev,lk_cons_eq,vl])
 have hez:ev (fl L [] B) z=some v:=rdS_ev inv_nil (cx:=none) (og:=none) rfl yes_none hz hzv
 have ez:a'.eval z=v:=hF'.ev (by
  cases z with
  | tmp q =>
   have hqd:d≠q:=λ e=>hzd (by rw [e])
   simpa [Dx.ev,lk_cons_ne hqd] using hez
  | _=>exact hez)
 have hrun:(execOp a'.eval ⟨none,.store t2 (.tmp d) z,ty2,pos2,af2,none⟩).run c.P w = .ok .skip w':=by
  simp only [execOp,ex,ez,Instr.storeAt,Instr.sureAddr,Sem.run_bind,Sem.run_pure,Result.andThen_ok,hst]
 obtain ⟨B',hr,h3,h4,h5⟩:=hset (h g off rfl)
 have hdv:=dvO_setE hB h4
 refine opM_of_skip hrun (hK _ _ ((runs_sound hT r _ _ _ _ hr inv_nil).run Q a' w' hn hp ⟨?_,inv_nil⟩ ⟨by rw [h3]; exact hS.st.write hq hkeep hC',λ q' g' b o cs hq'=>?_⟩))
 ·have hF'':Fr a' c.n (fl ((d,.v (.pointer (some ⟨g,off+m*sz,none⟩)))::L) [] B):=hF'
  rw [fl_congr hdv]; exact hF''
 ·rcases h5 _ hq' with hq' | hq'
  ·exact hS.bk _ _ _ _ _ hq'
  ·cases hq'
theorem goW1 {al:List Oper} {K:KR} {d:Nat} {op:Op} {ty:TypeId} {pos:String} {af:Array Edge} {r:List Oper} {L:SL} {B:BL} {F:FV}
  (h:stepB c true (some d) op L [] B F (λ L I B F=>I=[]∧WP c al r L I B F K) (WP c al (⟨some d,op,ty,pos,af,none⟩::r) L [] B F K)):WP c al (⟨some d,op,ty,pos,af,none⟩::r) L [] B F K :=
 stepB_sound hT inv_nil (λ _ _ _ _ h _=>h.2) h
end
end Go.Dx
namespace Go.Proofs.YtbmmnalndollkaaGreatDoor
open Go Go.Dx Go.RowKit
def binL:List (Int×List UInt8×Int):=[(4,[43],4),(5,[45],4),(6,[42],5),(7,[47],5),(8,[61],3),(9,[33,61],3),(10,[60],3),(11,[60,61],3),(12,[62],3),(13,[62,61],3),(14,[97,110,100],2),(15,[111,114],1)]
def binC (b:Int×List UInt8×Int):List Value:=[.int .i64 b.1,vs b.2.1,.int .i64 b.2.2]
def findS (op:Int):Int×List UInt8×Int:=(binL.find? λ b=>decide (b.1=op)).getD (0,[],0)
theorem find_hit (op:Int) (k:Nat) (hk:k<12) (hn:∀ j,j<k→¬ (binL.getD j (0,[],0)).1=op) (hp:(binL.getD k (0,[],0)).1=op):findS op=binL.getD k (0,[],0):=by
 have e:binL.find? (λ b=>decide (b.1=op))=some (binL.getD k (0,[],0)):=by
  rw [List.find?_eq_some_iff_getElem]
  refine ⟨by simpa using hp,k,hk,by rw [getD_lt _ _ _ (show k<binL.length from hk)]; rfl,λ j hj=>?_⟩
  have:=hn j hj
  simpa [List.getD,show j<binL.length by have:binL.length=12:=rfl; omega] using this
 rw [findS,e]; rfl
theorem find_none (op:Int) (hn:∀ j,j<12→¬ (binL.getD j (0,[],0)).1=op):findS op=(0,[],0):=by
 have e:binL.find? (λ b=>decide (b.1=op))=none:=by
  rw [List.find?_eq_none]
  intro b hb
  obtain ⟨j,hj⟩:=List.mem_iff_getElem?.1 hb
  have hlt:=(List.getElem?_eq_some_iff.1 hj).1
  have:=hn j hlt
  simpa [List.getD,hj] using this
 rw [findS,e]; rfl
theorem find_lev (op:Int):(0<(findS op).2.2)↔(4≤op∧op≤15):=by
 by_cases h:4≤op∧op≤15
 ·have:op=4∨op=5∨op=6∨op=7∨op=8∨op=9∨op=10∨op=11∨op=12∨op=13∨op=14∨op=15:=by omega
  refine ⟨λ _=>h,λ _=>?_⟩
  rcases this with rfl | rfl | rfl | rfl | rfl | rfl | rfl | rfl | rfl | rfl | rfl | rfl <;> decide
 ·refine ⟨λ h2=>?_,λ h2=>absurd h2 h⟩
  rw [find_none op (λ j hj e=>h (by
   match j,hj with
   | 0,_ | 1,_ | 2,_ | 3,_ | 4,_ | 5,_ | 6,_ | 7,_ | 8,_ | 9,_ | 10,_ | 11,_=>(subst e; decide)
   | n+12,hj=>omega))] at h2
  exact absurd h2 (by decide)
theorem bin_other (op:Int) (h:¬ (4≤op∧op≤15)):∀ j,j<12→¬ (binL.getD j (0,[],0)).1=op:=λ j hj e=>h (by
 match j,hj with
 | 0,_ | 1,_ | 2,_ | 3,_ | 4,_ | 5,_ | 6,_ | 7,_ | 8,_ | 9,_ | 10,_ | 11,_=>(subst e; decide)
 | n+12,hj=>omega)
theorem find_sgn (op:Int):((findS op).2.1=[])↔¬ (4≤op∧op≤15):=by
 by_cases h:4≤op∧op≤15
 ·have:op=4∨op=5∨op=6∨op=7∨op=8∨op=9∨op=10∨op=11∨op=12∨op=13∨op=14∨op=15:=by omega
  refine ⟨λ h2=>?_,λ h2=>absurd h h2⟩
  rcases this with rfl | rfl | rfl | rfl | rfl | rfl | rfl | rfl | rfl | rfl | rfl | rfl <;> exact absurd h2 (by decide)
 ·refine ⟨λ _=>h,λ _=>?_⟩
  rw [find_none op (bin_other op h)]
theorem kids_ok {cl:List Col} {l:List Ex} (h:∀ j,j<l.length→(kindS cl (l.getD j ex0)).2=0):∀ y∈l,(kindS cl y).2=0:=by
 intro y hy
 obtain ⟨j,hj⟩:=List.mem_iff_getElem?.1 hy
 have:=h j (List.getElem?_eq_some_iff.1 hj).1
 simpa [List.getD,hj] using this
theorem kind_ok {cl:List Col} {x:Ex} (h1:¬ x.op=1) (h2:¬ x.op=2) (h:∀ j,j<x.l.length→(kindS cl (x.l.getD j ex0)).2=0):kindS cl x=ofK (rulS x.op (x.l.map λ y=>(kindS cl y).1)):=by
 rw [kind_eq cl x,if_neg h1,if_neg h2,kindL_ok cl x.l (kids_ok h)]
theorem kind_er {cl:List Col} {x:Ex} {k:Nat} (h1:¬ x.op=1) (h2:¬ x.op=2) (hk:k<x.l.length) (h:∀ j,j<k→(kindS cl (x.l.getD j ex0)).2=0) (he:¬ (kindS cl (x.l.getD k ex0)).2=0):kindS cl x=(0,(kindS cl (x.l.getD k ex0)).2):=by
 rw [kind_eq cl x,if_neg h1,if_neg h2,kindL_err cl x.l k hk h he]
end Go.Proofs.YtbmmnalndollkaaGreatDoor
namespace Go.Proofs.YtbmmnalndollkaaGreatDoor
open Go Go.Dx Go.RowKit
def nowS (l:List Tok) (i:Nat) (bad:Bool):Tok:=if bad=true then t0 else l.getD i t0
def onS (l:List Tok) (i:Nat) (bad:Bool) (k:Int) (s:List UInt8):Bool:=decide ((nowS l i bad).k=k)&&decide ((nowS l i bad).s=s)
def kindB (b:Int×List UInt8×Int):Int:=if b.2.2<3 then 1 else 4
def hitB (l:List Tok) (i:Nat) (bad:Bool) (lev:Int) (b:Int×List UInt8×Int):Bool:=decide (b.2.2=lev)&&onS l i bad (kindB b) b.2.1
def opS (l:List Tok) (i:Nat) (bad:Bool) (lev:Int):Int:=match binL.find? (hitB l i bad lev) with
 | some b=>b.1
 | none=>0
theorem op_hit (l:List Tok) (i:Nat) (bad:Bool) (lev:Int) (k:Nat) (hk:k<12) (hn:∀ j,j<k→hitB l i bad lev (binL.getD j (0,[],0))=false) (hp:hitB l i bad lev (binL.getD k (0,[],0))=true):opS l i bad lev=(binL.getD k (0,[],0)).1:=by
 have e:binL.find? (hitB l i bad lev)=some (binL.getD k (0,[],0)):=by
  rw [List.find?_eq_some_iff_getElem]
  refine ⟨hp,k,hk,by rw [getD_lt _ _ _ (show k<binL.length from hk)]; rfl,λ j hj=>?_⟩
  have:=hn j hj
  simpa [List.getD,show j<binL.length by have:binL.length=12:=rfl; omega] using this
 rw [opS,e]
theorem op_none (l:List Tok) (i:Nat) (bad:Bool) (lev:Int) (hn:∀ j,j<12→hitB l i bad lev (binL.getD j (0,[],0))=false):opS l i bad lev=0:=by
 have e:binL.find? (hitB l i bad lev)=none:=by
  rw [List.find?_eq_none]
  intro b hb
  obtain ⟨j,hj⟩:=List.mem_iff_getElem?.1 hb
  have hlt:=(List.getElem?_eq_some_iff.1 hj).1
  have:=hn j hlt
  simpa [List.getD,hj] using this
 rw [opS,e]
theorem op_some {l:List Tok} {i:Nat} {bad:Bool} {lev:Int} (h:opS l i bad lev≠0):∃ b∈binL,hitB l i bad lev b=true∧opS l i bad lev=b.1:=by
 unfold opS at h ⊢
 split at h
 ·rename_i b hb
  exact ⟨b,List.mem_of_find?_eq_some hb,List.find?_some hb,rfl⟩
 ·exact absurd rfl h
theorem op_i64 (l:List Tok) (i:Nat) (bad:Bool) (lev:Int):i64 (opS l i bad lev):=by
 by_cases h:opS l i bad lev=0
 ·rw [h]; unfold i64; omega
 ·obtain ⟨b,hb,_,e⟩:=op_some h
  rw [e]
  have:∀ b∈binL,0≤b.1∧b.1≤100:=by decide
  have:=this b hb
  unfold i64; omega
theorem on_lt {l:List Tok} {i:Nat} {bad:Bool} {k:Int} {s:List UInt8} (h:onS l i bad k s=true) (hk:k≠0):i<l.length∧bad=false:=by
 simp only [onS,Bool.and_eq_true,decide_eq_true_eq] at h
 have h1:=h.1
 unfold nowS at h1
 split at h1
 ·exact absurd h1.symm hk
 ·rename_i hb
  refine ⟨?_,by simpa using hb⟩
  rcases Nat.lt_or_ge i l.length with hlt | hge
  ·exact hlt
  ·simp [List.getD,List.getElem?_eq_none hge] at h1
   exact absurd h1.symm hk
theorem op_lt {l:List Tok} {i:Nat} {bad:Bool} {lev:Int} (h:opS l i bad lev≠0):i<l.length∧bad=false:=by
 obtain ⟨b,_,hh,_⟩:=op_some h
 simp only [hitB,Bool.and_eq_true] at hh
 refine on_lt hh.2 ?_
 unfold kindB; split <;> decide
theorem now_lt {l:List Tok} {i:Nat} {bad:Bool} (h:(nowS l i bad).k≠0):i<l.length∧bad=false:=by
 unfold nowS at h
 split at h
 ·exact absurd rfl h
 ·rename_i hb
  refine ⟨?_,by simpa using hb⟩
  rcases Nat.lt_or_ge i l.length with hlt | hge
  ·exact hlt
  ·simp [List.getD,List.getElem?_eq_none hge] at h
   exact absurd rfl h
abbrev RdR:=Ex×Nat×Bool
def mustS (l:List Tok) (p:Nat×Bool) (k:Int) (s:List UInt8):Nat×Bool:=(if onS l p.1 p.2 k s=true then p.1+1 else p.1,p.2 || !onS l p.1 p.2 k s)
def wordV (s:List UInt8):Option Val:=if s=[110,117,108,108] then some v0 else if s=[102,97,108,115,101] then some ⟨3,0,[]⟩ else if s=[116,114,117,101] then some ⟨3,1,[]⟩ else none
def atomS (rd:Nat→Bool→RdR) (l:List Tok) (i:Nat) (bad:Bool):RdR :=
 if onS l i bad 4 [40]=true then ((rd (i+1) bad).1,mustS l (rd (i+1) bad).2 4 [41])
 else if (nowS l i bad).k=2 then (.mk 1 ⟨1,(nowS l i bad).n,[]⟩ [] [],i+1,bad)
 else if (nowS l i bad).k=3 then (.mk 1 ⟨2,0,(nowS l i bad).s⟩ [] [],i+1,bad)
 else if (nowS l i bad).k=1 then (if (wordV (nowS l i bad).s).isSome=true then (.mk 1 ((wordV (nowS l i bad).s).getD v0) [] [],i+1,bad) else if nameOk (nowS l i bad).s=true then (.mk 2 v0 (nowS l i bad).s [],i+1,bad) else (ex0,i,true))
 else (ex0,i,true)
def thenT:List UInt8:=[116,104,101,110]
def elseT:List UInt8:=[101,108,115,101]
def branchS (rd:Nat→Bool→RdR) (l:List Tok) (i:Nat) (bad:Bool):RdR :=
 (.mk 16 v0 [] [(rd i bad).1,(rd (mustS l (rd i bad).2 1 thenT).1 (mustS l (rd i bad).2 1 thenT).2).1,
  (rd (mustS l (rd (mustS l (rd i bad).2 1 thenT).1 (mustS l (rd i bad).2 1 thenT).2).2 1 elseT).1 (mustS l (rd (mustS l (rd i bad).2 1 thenT).1 (mustS l (rd i bad).2 1 thenT).2).2 1 elseT).2).1],
  (rd (mustS l (rd (mustS l (rd i bad).2 1 thenT).1 (mustS l (rd i bad).2 1 thenT).2).2 1 elseT).1 (mustS l (rd (mustS l (rd i bad).2 1 thenT).1 (mustS l (rd i bad).2 1 thenT).2).2 1 elseT).2).2)
def loopS (rd:Nat→Bool→RdR) (l:List Tok) (lev:Nat):Nat→Ex→Nat→Bool→RdR
 | 0,x,i,bad=>(x,i,bad)
 | n+1,x,i,bad=>if opS l i bad lev=0 then (x,i,bad) else
  if lev≠3∧(rd (i+1) bad).2.2=false then loopS rd l lev n (.mk (opS l i bad lev) v0 [] [x,(rd (i+1) bad).1]) (rd (i+1) bad).2.1 (rd (i+1) bad).2.2
  else (.mk (opS l i bad lev) v0 [] [x,(rd (i+1) bad).1],(rd (i+1) bad).2)
def ifT:List UInt8:=[105,102]
def rdF (l:List Tok):Nat→Nat→Nat→Bool→RdR
 | 0,_,i,_=>(ex0,i,true)
 | f+1,lev,i,bad =>
  if bad=true then (ex0,i,bad)
  else if lev=0 then (if onS l i bad 1 ifT=true then branchS (rdF l f 0) l (i+1) bad else rdF l f 1 i bad)
  else if lev=6∧onS l i bad 4 [45]=true then (.mk 3 v0 [] [(rdF l f 6 (i+1) bad).1],(rdF l f 6 (i+1) bad).2)
  else if 6≤lev then atomS (rdF l f 0) l i bad
  else loopS (rdF l f (lev+1)) l lev (l.length+1) (rdF l f (lev+1) i bad).1 (rdF l f (lev+1) i bad).2.1 (rdF l f (lev+1) i bad).2.2
def needS (l:List Tok) (lev i:Nat):Nat:=10*(l.length - i)+(9 - lev)
def Ge (l:List Tok) (i:Nat) (r:RdR):Prop:=i≤r.2.1∧r.2.1≤l.length
theorem must_ge {l:List Tok} {p:Nat×Bool} {k:Int} {s:List UInt8} (hk:k≠0) (h:p.1≤l.length):p.1≤(mustS l p k s).1∧(mustS l p k s).1≤l.length:=by
 unfold mustS
 by_cases hh:onS l p.1 p.2 k s=true
 ·rw [if_pos hh]
  have:=(on_lt hh hk).1
  exact ⟨by show p.1≤p.1+1; omega,by show p.1+1≤_; omega⟩
 ·rw [if_neg hh]; exact ⟨Nat.le_refl _,h⟩
theorem loop_ge {rd:Nat→Bool→RdR} {l:List Tok} {lev:Nat} (hr:∀ i bad,i≤l.length→Ge l i (rd i bad)):∀ (n:Nat) (x:Ex) (i:Nat) (bad:Bool),i≤l.length→Ge l i (loopS rd l lev n x i bad)
 | 0,x,i,bad,h=>⟨Nat.le_refl _,h⟩
 | n+1,x,i,bad,h=>by
  unfold loopS
  by_cases h0:opS l i bad lev=0
  ·rw [if_pos h0]; exact ⟨Nat.le_refl _,h⟩
  ·rw [if_neg h0]
   have hlt:=(op_lt h0).1
   have h1:=hr (i+1) bad (by omega)
   unfold Ge at h1
   split
   ·have h2:=loop_ge (lev:=lev) hr n (.mk (opS l i bad lev) v0 [] [x,(rd (i+1) bad).1]) (rd (i+1) bad).2.1 (rd (i+1) bad).2.2 h1.2
    exact ⟨Nat.le_trans (Nat.le_trans (Nat.le_succ i) h1.1) h2.1,h2.2⟩
   ·exact ⟨Nat.le_trans (Nat.le_succ i) h1.1,h1.2⟩
theorem atom_ge {rd:Nat→Bool→RdR} {l:List Tok} (hr:∀ i bad,i≤l.length→Ge l i (rd i bad)) {i:Nat} {bad:Bool} (h:i≤l.length):Ge l i (atomS rd l i bad):=by
 unfold atomS
 have hn:(nowS l i bad).k≠0→i+1≤l.length:=λ hk=>(now_lt hk).1
 split
 ·rename_i hh
  have hlt:=(on_lt hh (by decide)).1
  have h1:=hr (i+1) bad (by omega)
  unfold Ge at h1
  have h2:=must_ge (l:=l) (p:=(rd (i+1) bad).2) (k:=4) (s:=[41]) (by decide) h1.2
  exact ⟨Nat.le_trans (by omega) h2.1,h2.2⟩
 split
 ·rename_i hk; exact ⟨Nat.le_succ _,hn (by rw [hk]; decide)⟩
 split
 ·rename_i hk; exact ⟨Nat.le_succ _,hn (by rw [hk]; decide)⟩
 split
 ·rename_i hk
  split
  ·exact ⟨Nat.le_succ _,hn (by rw [hk]; decide)⟩
  split
  ·exact ⟨Nat.le_succ _,hn (by rw [hk]; decide)⟩
  ·exact ⟨Nat.le_refl _,h⟩
 ·exact ⟨Nat.le_refl _,h⟩
theorem branch_ge {rd:Nat→Bool→RdR} {l:List Tok} (hr:∀ i bad,i≤l.length→Ge l i (rd i bad)) {i:Nat} {bad:Bool} (h:i≤l.length):Ge l i (branchS rd l i bad):=by
 have h1:=hr i bad h
 unfold Ge at h1
 have h2:=must_ge (l:=l) (p:=(rd i bad).2) (k:=1) (s:=thenT) (by decide) h1.2
 have h3:=hr _ (mustS l (rd i bad).2 1 thenT).2 h2.2
 unfold Ge at h3
 have h4:=must_ge (l:=l) (p:=(rd (mustS l (rd i bad).2 1 thenT).1 (mustS l (rd i bad).2 1 thenT).2).2) (k:=1) (s:=elseT) (by decide) h3.2
 have h5:=hr _ (mustS l (rd (mustS l (rd i bad).2 1 thenT).1 (mustS l (rd i bad).2 1 thenT).2).2 1 elseT).2 h4.2
 exact ⟨Nat.le_trans (Nat.le_trans h1.1 h2.1) (Nat.le_trans h3.1 (Nat.le_trans h4.1 h5.1)),h5.2⟩
theorem rd_ge (l:List Tok):∀ (f lev i:Nat) (bad:Bool),i≤l.length→Ge l i (rdF l f lev i bad)
 | 0,lev,i,bad,h=>⟨Nat.le_refl _,h⟩
 | f+1,lev,i,bad,h=>by
  have ih:=rd_ge l f
  unfold rdF
  split
  ·exact ⟨Nat.le_refl _,h⟩
  split
  ·split
   ·rename_i hh
    have:=branch_ge (bad:=bad) (λ i bad h=>ih 0 i bad h) (show i+1≤l.length from (on_lt hh (by decide)).1)
    exact ⟨Nat.le_trans (Nat.le_succ i) this.1,this.2⟩
   ·exact ih 1 i bad h
  split
  ·rename_i hh
   have:=ih 6 (i+1) bad (on_lt hh.2 (by decide)).1
   exact ⟨Nat.le_trans (Nat.le_succ i) this.1,this.2⟩
  split
  ·exact atom_ge (λ i bad h=>ih 0 i bad h) h
  ·have h1:=ih (lev+1) i bad h
   have h2:=loop_ge (lev:=lev) (λ i bad h=>ih (lev+1) i bad h) (l.length+1) (rdF l f (lev+1) i bad).1 (rdF l f (lev+1) i bad).2.1 (rdF l f (lev+1) i bad).2.2 h1.2
   exact ⟨Nat.le_trans h1.1 h2.1,h2.2⟩
def Nd (x:Ex):Prop:=i64 x.op∧valB x.v
theorem i64_s {n:Int} (h : -1000≤n∧n≤1000):i64 n:=by unfold i64; omega
theorem vb_s {k n:Int} {s:List UInt8} (h : -1000≤k∧k≤1000) (h2 : -1000≤n∧n≤1000):valB ⟨k,n,s⟩:=⟨i64_s h,i64_s h2⟩
theorem vb0:valB v0:=vb_s (by omega) (by omega)
theorem nd0:Nd ex0:=⟨i64_s (show _≤(0:Int)∧(0:Int)≤_ by omega),vb0⟩
theorem nd_v0 {op:Int} {s:List UInt8} {l:List Ex} (h:i64 op):Nd (.mk op v0 s l):=⟨h,vb0⟩
def TokN (l:List Tok):Prop:=∀ t∈l,i64 t.n
theorem now_n {l:List Tok} (hl:TokN l) (i:Nat) (bad:Bool):i64 (nowS l i bad).n:=by
 unfold nowS
 split
 ·exact i64_s (show _≤(0:Int)∧(0:Int)≤_ by omega)
 ·rcases Nat.lt_or_ge i l.length with h | h
  ·rw [getD_lt l i t0 h]; exact hl _ (List.getElem_mem h)
  ·simp only [List.getD,List.getElem?_eq_none h]; exact i64_s (show _≤(0:Int)∧(0:Int)≤_ by omega)
theorem word_b (s:List UInt8):valB ((wordV s).getD v0):=by
 unfold wordV
 split
 ·exact vb0
 split
 ·exact vb_s (by omega) (by omega)
 split
 ·exact vb_s (by omega) (by omega)
 ·exact vb0
theorem loop_nd {rd:Nat→Bool→RdR} {l:List Tok} {lev:Nat}:∀ (n:Nat) (x:Ex) (i:Nat) (bad:Bool),Nd x→Nd (loopS rd l lev n x i bad).1
 | 0,x,i,bad,h=>h
 | n+1,x,i,bad,h=>by
  unfold loopS
  split
  ·exact h
  split
  ·exact loop_nd n _ _ _ (nd_v0 (op_i64 l i bad lev))
  ·exact nd_v0 (op_i64 l i bad lev)
theorem atom_nd {rd:Nat→Bool→RdR} {l:List Tok} (hl:TokN l) (hr:∀ i bad,Nd (rd i bad).1) (i:Nat) (bad:Bool):Nd (atomS rd l i bad).1:=by
 unfold atomS
 split
 ·exact hr _ _
 split
 ·exact ⟨i64_s (show _≤(1:Int)∧(1:Int)≤_ by omega),i64_s (show _≤(1:Int)∧(1:Int)≤_ by omega),now_n hl i bad⟩
 split
 ·exact ⟨i64_s (show _≤(1:Int)∧(1:Int)≤_ by omega),vb_s (by omega) (by omega)⟩
 split
 ·split
  ·exact ⟨i64_s (show _≤(1:Int)∧(1:Int)≤_ by omega),word_b _⟩
  split
  ·exact nd_v0 (i64_s (by omega))
  ·exact nd0
 ·exact nd0
theorem rd_nd {l:List Tok} (hl:TokN l):∀ (f lev i:Nat) (bad:Bool),Nd (rdF l f lev i bad).1
 | 0,lev,i,bad=>nd0
 | f+1,lev,i,bad=>by
  have ih:=rd_nd hl f
  unfold rdF
  split
  ·exact nd0
  split
  ·split
   ·exact nd_v0 (i64_s (by omega))
   ·exact ih 1 i bad
  split
  ·exact nd_v0 (i64_s (by omega))
  split
  ·exact atom_nd hl (λ i bad=>ih 0 i bad) i bad
  ·exact loop_nd _ _ _ _ (ih _ _ _)
theorem XL.rx {h:View} {ad:Option Addr} {cap:Nat} {e:Ex} (hx:XL h ad cap e.l) (hn:Nd e):RX h (exC e.op e.v e.s (.slice ad e.l.length cap)) e:=by
 obtain ⟨c,h1,h2⟩:=hx
 cases e with
 | mk op v s l=>exact .mk op v s l ad cap c hn (by simpa using h1) h2
end Go.Proofs.YtbmmnalndollkaaGreatDoor
namespace Go.Proofs.YtbmmnalndollkaaGreatDoor
open Go Go.Dx Go.RowKit
mutual
def deepS:Ex→Nat
 | .mk _ _ _ l=>deepL 0 l+1
def deepL (n:Nat):List Ex→Nat
 | []=>n
 | x::l=>deepL (max n (deepS x)) l
end
theorem deep_eq (x:Ex):deepS x=deepL 0 x.l+1:=by
 cases x with
 | mk op v s l=>rw [deepS]; rfl
theorem deepL_snoc:∀ (l:List Ex) (n:Nat) (x:Ex),deepL n (l++[x])=max (deepL n l) (deepS x)
 | [],n,x=>rfl
 | y::l,n,x=>by simp only [List.cons_append,deepL]; exact deepL_snoc l _ x
theorem deepL_take (l:List Ex) (k:Nat) (h:k<l.length):deepL 0 (l.take (k+1))=max (deepL 0 (l.take k)) (deepS (l.getD k ex0)):=by
 rw [List.take_succ_eq_append_getElem h,deepL_snoc,getD_lt l k ex0 h]
theorem deepL_ge:∀ (l:List Ex) (n:Nat),n≤deepL n l∧∀ y∈l,deepS y≤deepL n l
 | [],n=>⟨Nat.le_refl _,λ y hy=>by cases hy⟩
 | x::l,n=>by
  have ih:=deepL_ge l (max n (deepS x))
  refine ⟨Nat.le_trans (Nat.le_max_left _ _) ih.1,λ y hy=>?_⟩
  rcases List.mem_cons.1 hy with rfl | hy
  ·exact Nat.le_trans (Nat.le_max_right _ _) ih.1
  ·exact ih.2 y hy
theorem deep_sub {x y:Ex} (h:y∈x.l):deepS y<deepS x:=by
 rw [deep_eq x]
 have:=(deepL_ge x.l 0).2 y h
 omega
end Go.Proofs.YtbmmnalndollkaaGreatDoor
namespace Go.Proofs.YtbmmnalndollkaaGreatDoor
open Go Go.Dx Go.RowKit
def readT (l:List Tok) (i lev:Nat):Ex×Nat×Int:=if (rdF l (needS l lev i) lev i false).2.2=true then (ex0,(rdF l (needS l lev i) lev i false).2.1,11) else ((rdF l (needS l lev i) lev i false).1,(rdF l (needS l lev i) lev i false).2.1,0)
def parseT (s:List UInt8):Ex×Int×Int :=
 if (lexS s).2.2≠0 then (ex0,(lexS s).2.1,(lexS s).2.2)
 else if (readT (lexS s).1 0 0).2.1<(lexS s).1.length then (ex0,((lexS s).1.getD (readT (lexS s).1 0 0).2.1 t0).p,11)
 else if (readT (lexS s).1 0 0).2.2≠0 then (ex0,s.length,(readT (lexS s).1 0 0).2.2)
 else if 12<deepS (readT (lexS s).1 0 0).1 then (ex0,0,12) else ((readT (lexS s).1 0 0).1,0,0)
end Go.Proofs.YtbmmnalndollkaaGreatDoor
namespace Go.Proofs.YtbmmnalndollkaaGreatDoor
open Go Go.Dx Go.RowKit
theorem dec_lo {u:Nat} (h:u<10):Lib.decDigits u=[UInt8.ofNat (48+u)]:=Lib.decDigits_one h
theorem dec_hi {u:Nat} (h:¬ u<10):Lib.decDigits u=Lib.decDigits (u / 10)++[UInt8.ofNat (48+u % 10)]:=by rw [Lib.decDigits,dif_neg h]
theorem itoa_pos {n:Int} (h:¬ n<0):Lib.itoa n=Lib.decDigits n.natAbs:=by
 rw [Lib.itoa,if_neg h,show n.toNat=n.natAbs by omega]
def qB (b:UInt8):List UInt8:=if b=34∨b=92 then [92,b] else [b]
theorem quS_eq (s:List UInt8):quS s=34::(s.flatMap qB)++[34]:=rfl
def nullS:List UInt8:=[110,117,108,108]
def trueS:List UInt8:=[116,114,117,101]
def falseS:List UInt8:=[102,97,108,115,101]
def boolS (b:Bool):List UInt8:=if b then trueS else falseS
theorem cmpV_three (a b:Val):cmpV a b = -1∨cmpV a b=0∨cmpV a b=1:=by
 by_cases h:lessV a b
 ·exact .inl (cmp_less h)
 ·by_cases he:a=b
  ·subst he; exact .inr (.inl (cmp_same a))
  ·exact .inr (.inr (cmp_more h he))
theorem cmpI_swap (x y:Int):cmpI y x = -cmpI x y:=by unfold cmpI; split <;> split <;> first | rfl | omega
theorem cmpV_swap (a b:Val):cmpV b a = -cmpV a b:=by
 unfold cmpV
 rw [cmpI_swap a.k b.k,cmpI_swap a.n b.n,cmp_swap a.s b.s]
 by_cases h1:cmpI a.k b.k=0
 ·by_cases h2:cmpI a.n b.n=0
  ·simp [h1,h2]
  ·simp [h1,h2]
 ·simp [h1]
theorem cmpV_zero {a b:Val}:cmpV a b=0↔a=b:=by
 constructor
 ·intro h
  by_cases hl:lessV a b
  ·rw [cmp_less hl] at h; cases h
  ·by_cases he:a=b
   ·exact he
   ·rw [cmp_more hl he] at h; cases h
 ·rintro rfl; exact cmp_same a
theorem less_of {a b:Val} (h:cmpV a b<0):lessV a b:=by
 by_cases hl:lessV a b
 ·exact hl
 ·by_cases he:a=b
  ·subst he; rw [cmp_same] at h; omega
  ·rw [cmp_more hl he] at h; omega
theorem less_trans {a b c:Val} (h:lessV a b) (k:lessV b c):lessV a c:=by
 unfold lessV at *
 rcases h with h | ⟨h,h2⟩ <;> rcases k with k | ⟨k,k2⟩
 ·exact .inl (by omega)
 ·exact .inl (by omega)
 ·exact .inl (by omega)
 ·refine .inr ⟨by omega,?_⟩
  rcases h2 with h2 | ⟨h2,h3⟩ <;> rcases k2 with k2 | ⟨k2,k3⟩
  ·exact .inl (by omega)
  ·exact .inl (by omega)
  ·exact .inl (by omega)
  ·exact .inr ⟨by omega,cmp_trans _ _ _ h3 k3⟩
end Go.Proofs.YtbmmnalndollkaaGreatDoor
namespace Go.Proofs.YtbmmnalndollkaaGreatDoor
open Go Go.Dx Go.RowKit
def levS (op:Int):Int:=if op=16 then 0 else if op=3 then 6 else if op=1∨op=2 then 7 else (findS op).2.2
def msS (op:Int):List Int:=if op=3 then [6] else if op=16 then [0,0,0] else [if (findS op).2.2=3 then 4 else (findS op).2.2,(findS op).2.2+1]
end Go.Proofs.YtbmmnalndollkaaGreatDoor
namespace Go.Proofs.YtbmmnalndollkaaGreatDoor
open Go Go.Dx Go.RowKit
theorem name_len {s:List UInt8} (h:nameOk s=true):0<s.length∧s.length≤16:=by
 simp only [nameOk,Bool.and_eq_true,Bool.not_eq_true',decide_eq_false_iff_not,decide_eq_true_eq] at h
 exact ⟨List.length_pos_iff.2 h.1,by omega⟩
theorem cnt_op {x:Ex} (hr:rightS x=true) (h1:¬ x.op=1) (h2:¬ x.op=2) (h3:¬ x.op=3) (h4:¬ x.op=16):4≤x.op∧x.op≤15:=by
 have:=hr
 rw [right_eq] at this
 simp only [Bool.and_eq_true,decide_eq_true_eq] at this
 have:=this.1
 unfold cntS at this
 rw [if_neg (by omega),if_neg h3,if_neg h4] at this
 split at this
 ·assumption
 ·omega
theorem len_2 {α:Type} {l:List α} (h:l.length=2):∃ a b,l=[a,b]:=by
 match l,h with
 | [a,b],_=>exact ⟨a,b,rfl⟩
theorem len_3 {α:Type} {l:List α} (h:l.length=3):∃ a b c,l=[a,b,c]:=by
 match l,h with
 | [a,b,c],_=>exact ⟨a,b,c,rfl⟩
theorem right_parts {x:Ex} (hr:rightS x=true):(x.op=1∧x.l=[]∧x.s=[]∧valOk x.v=true∧(x.v.k=1→0≤x.v.n))∨(x.op=2∧x.l=[]∧x.v=v0∧nameOk x.s=true) ∨
  (x.op=3∧x.v=v0∧x.s=[]∧∃ a,x.l=[a]∧rightS a=true)∨(x.op=16∧x.v=v0∧x.s=[]∧∃ a b c,x.l=[a,b,c]∧rightS a=true∧rightS b=true∧rightS c=true) ∨
  ((4≤x.op∧x.op≤15)∧x.v=v0∧x.s=[]∧∃ a b,x.l=[a,b]∧rightS a=true∧rightS b=true):=by
 have h:=hr
 rw [right_eq] at h
 simp only [Bool.and_eq_true,decide_eq_true_eq] at h
 obtain ⟨hc,h⟩:=h
 by_cases h1:x.op=1
 ·rw [if_pos h1] at h
  rw [cntS,if_pos (.inl h1)] at hc
  simp only [Bool.and_eq_true,decide_eq_true_eq,Bool.or_eq_true,Bool.not_eq_true',decide_eq_false_iff_not] at h
  exact .inl ⟨h1,List.length_eq_zero_iff.1 (by omega),h.1.1,h.1.2,λ hk=>h.2.resolve_left (λ hn=>hn hk)⟩
 rw [if_neg h1] at h
 by_cases h2:x.op=2
 ·rw [if_pos h2] at h
  rw [cntS,if_pos (.inr h2)] at hc
  simp only [Bool.and_eq_true,decide_eq_true_eq] at h
  exact .inr (.inl ⟨h2,List.length_eq_zero_iff.1 (by omega),h.1,h.2⟩)
 rw [if_neg h2] at h
 simp only [Bool.and_eq_true,decide_eq_true_eq,List.all_eq_true] at h
 obtain ⟨⟨hv,hs⟩,ha⟩:=h
 by_cases h3:x.op=3
 ·rw [cntS,if_neg (by omega),if_pos h3] at hc
  obtain ⟨a,e⟩:=List.length_eq_one_iff.1 (show x.l.length=1 by omega)
  exact .inr (.inr (.inl ⟨h3,hv,hs,a,e,ha a (by rw [e]; simp)⟩))
 by_cases h4:x.op=16
 ·rw [cntS,if_neg (by omega),if_neg h3,if_pos h4] at hc
  obtain ⟨a,b,c,e⟩:=len_3 (show x.l.length=3 by omega)
  exact .inr (.inr (.inr (.inl ⟨h4,hv,hs,a,b,c,e,ha a (by rw [e]; simp),ha b (by rw [e]; simp),ha c (by rw [e]; simp)⟩)))
 have h5:=cnt_op hr h1 h2 h3 h4
 rw [cntS,if_neg (by omega),if_neg h3,if_neg h4,if_pos h5] at hc
 obtain ⟨a,b,e⟩:=len_2 (show x.l.length=2 by omega)
 exact .inr (.inr (.inr (.inr ⟨h5,hv,hs,a,b,e,ha a (by rw [e]; simp),ha b (by rw [e]; simp)⟩)))
theorem deep_1 {x a:Ex} (hl:x.l=[a]):deepS x=deepS a+1:=by rw [deep_eq,hl]; simp [deepL]
end Go.Proofs.YtbmmnalndollkaaGreatDoor
namespace Go.Proofs.YtbmmnalndollkaaGreatDoor
open Go Go.Dx Go.RowKit
def rightT (t:Tok):Bool :=
 if t.k=1 then decide (t.n=0) && !decide (t.s=[])&&decide ((wordN t.s:Int)=(t.s.length:Int))&&decide ((t.s.length:Int)≤16)
 else if t.k=2 then decide (t.n≥0)&&decide (t.s=[])
 else if t.k=3 then decide (t.n=0)&&plainS t.s
 else if t.k=4 then decide (t.n=0)&&marksL.contains t.s else false
def tkS (t:Tok):List UInt8:=if t.k=2 then Lib.itoa t.n else if t.k=3 then quS t.s else t.s
theorem right_1 {t:Tok} (h:t.k=1):rightT t=(decide (t.n=0) && !decide (t.s=[])&&decide ((wordN t.s:Int)=(t.s.length:Int))&&decide ((t.s.length:Int)≤16)):=by rw [rightT,if_pos h]
theorem right_2 {t:Tok} (h:t.k=2):rightT t=(decide (t.n≥0)&&decide (t.s=[])):=by rw [rightT,if_neg (by omega),if_pos h]
theorem right_3 {t:Tok} (h:t.k=3):rightT t=(decide (t.n=0)&&plainS t.s):=by rw [rightT,if_neg (by omega),if_neg (by omega),if_pos h]
theorem right_4 {t:Tok} (h:t.k=4):rightT t=(decide (t.n=0)&&marksL.contains t.s):=by rw [rightT,if_neg (by omega),if_neg (by omega),if_neg (by omega),if_pos h]
theorem right_0 {t:Tok} (h1:¬ t.k=1) (h2:¬ t.k=2) (h3:¬ t.k=3) (h4:¬ t.k=4):rightT t=false:=by rw [rightT,if_neg h1,if_neg h2,if_neg h3,if_neg h4]
end Go.Proofs.YtbmmnalndollkaaGreatDoor
namespace Go.Proofs.YtbmmnalndollkaaGreatDoor
open Go Go.Dx Go.RowKit
theorem num_snoc (l:List UInt8) (b:UInt8):numF (l++[b])=numStep (numF l) b:=by simp [numF,List.foldl_append]
def bare (t:Tok):Tok:={ t with p:=0 }
end Go.Proofs.YtbmmnalndollkaaGreatDoor
namespace Go.Proofs.YtbmmnalndollkaaGreatDoor
open Go Go.Dx Go.RowKit
theorem take_tw (p:UInt8→Bool):∀ s:List UInt8,s.take (s.takeWhile p).length=s.takeWhile p
 | []=>rfl
 | b::s=>by
  rw [List.takeWhile_cons]
  split
  ·rw [List.length_cons,List.take_succ_cons,take_tw p s]
  ·rfl
theorem tw_tw (p:UInt8→Bool):∀ s:List UInt8,(s.takeWhile p).takeWhile p=s.takeWhile p
 | []=>rfl
 | b::s=>by
  rw [List.takeWhile_cons]
  split
  ·rename_i h; rw [List.takeWhile_cons_of_pos h,tw_tw p s]
  ·rfl
theorem tw_ok (p:UInt8→Bool):∀ s:List UInt8,(s.takeWhile p).all p=true
 | []=>rfl
 | b::s=>by
  rw [List.takeWhile_cons]
  split
  ·rename_i h; rw [List.all_cons,h,tw_ok p s]; rfl
  ·rfl
theorem word_take {x:List UInt8} (h:x≠[]) (hl:isLet (x.getD 0 0)=true):wordN (x.take (wordN x))=(x.take (wordN x)).length:=by
 have hp:=wordN_posit x h hl
 have e:x.take (wordN x)=x.takeWhile isWord:=by rw [wordN_pos x h hl,take_tw]
 have e0:(x.take (wordN x)).getD 0 0=x.getD 0 0:=by
  match x,h,hp with
  | b::x,_,hp =>
   obtain ⟨m,hm⟩:=Nat.exists_eq_succ_of_ne_zero (Nat.pos_iff_ne_zero.1 hp)
   rw [hm]; rfl
 have hne:x.take (wordN x)≠[]:=by
  intro hh
  have:=congrArg List.length hh
  rw [List.length_take,List.length_nil] at this
  have:=List.length_pos_iff.2 h
  omega
 rw [wordN_pos _ hne (by rw [e0]; exact hl),e,tw_tw]
theorem byte_dig {b:UInt8} (h:isDig b=true):UInt8.ofNat (48+(b.toNat - 48))=b:=by
 have:=dig_b h
 exact UInt8.toNat_inj.1 (by rw [byte_lo (by omega)]; omega)
theorem i64_0:I64 0:=⟨by decide,by decide⟩
theorem num_inv':∀ (n:Nat) (ds:List UInt8),ds.length=n→ds≠[]→ds.all isDig=true→(1<ds.length→ds.getD 0 0≠48)→∀ v,numF ds=some v→v≤9223372036854775807∧Lib.decDigits v=ds:=by
 intro n
 induction n using Nat.strongRecOn with
 | _ n ihn =>
  intro ds0 hn hne ha hl v hv
  rcases List.eq_nil_or_concat ds0 with rfl | ⟨ds,b,rfl⟩
  ·exact absurd rfl hne
  rw [List.concat_eq_append] at *
  have ih:=ihn ds.length (by simp at hn; omega) ds rfl
  rw [List.all_append,Bool.and_eq_true] at ha
  have hb:isDig b=true:=by simpa using ha.2
  have hbr:=dig_b hb
  rw [num_snoc] at hv
  by_cases he:ds=[]
  ·subst he
   simp only [numF,List.foldl_nil,numStep,Option.bind_some] at hv
   rw [if_neg (by omega)] at hv
   have hv:=Option.some.inj hv
   subst hv
   rw [dec_lo (by omega)]
   refine ⟨by omega,?_⟩
   rw [Nat.mul_zero,Nat.zero_add,byte_dig hb]; rfl
  ·have h0:0<ds.length:=List.length_pos_iff.2 he
   have e0:(ds++[b]).getD 0 0=ds.getD 0 0:=by
    match ds,he with
    | c::ds,_=>rfl
   have hl':=hl (by simp; omega)
   rw [e0] at hl'
   cases hv':numF ds with
   | none=>rw [hv'] at hv; cases hv
   | some v' =>
    rw [hv',numStep,Option.bind_some] at hv
    obtain ⟨h1,h2⟩:=ih he ha.1 (λ _=>hl') v' hv'
    by_cases hc:(9223372036854775807 - (b.toNat - 48)) / 10<v'
    ·rw [if_pos hc] at hv; cases hv
    ·rw [if_neg hc] at hv
     have hv:=Option.some.inj hv
     subst hv
     have hz:v'≠0:=by
      rintro rfl
      rw [dec_lo (by decide)] at h2
      rw [← h2] at hl'
      exact hl' rfl
     refine ⟨by omega,?_⟩
     rw [dec_hi (by omega),show (10*v'+(b.toNat - 48)) / 10=v' by omega,show (10*v'+(b.toNat - 48)) % 10=b.toNat - 48 by omega,h2,byte_dig hb]
theorem num_inv (ds:List UInt8) (h:ds≠[]) (ha:ds.all isDig=true) (hl:1<ds.length→ds.getD 0 0≠48) (v:Nat) (hv:numF ds=some v):v≤9223372036854775807∧Lib.decDigits v=ds:=num_inv' _ ds rfl h ha hl v hv
theorem getD_drop0 (x:List UInt8) (i:Nat) (h:i<x.length):x.drop i=x.getD i 0::x.drop (i+1):=by
 rw [List.drop_eq_getElem_cons h,getD_lt x i 0 h]
theorem text_inv (x:List UInt8):∀ (i:Nat) (b:List UInt8) (t:Tok) (n:Nat),textG x i b = .ok t n→∃ s,t=⟨3,b++s,0,0⟩∧(∀ c∈s,32≤c.toNat∧c.toNat≤126)∧(b++s).length≤40∧i<n∧n≤x.length∧(x.drop i).take (n - i)=s.flatMap qB++[34]:=by
 intro i b
 induction i,b using textG.induct (s:=x) with
 | case1 i b h h1 h2=>intro t n he; rw [tx_big h h1 h2] at he; cases he
 | case2 i b h h1 h2 =>
  intro t n he
  rw [tx_end h h1 h2] at he
  cases he
  refine ⟨[],by rw [List.append_nil],by simp,by rw [List.append_nil]; omega,by omega,by omega,?_⟩
  rw [show i+1 - i=1 by omega,getD_drop0 x i h]
  have:x.getD i 0=34:=UInt8.toNat_inj.1 (by unfold bt at h1; have e:(34:UInt8).toNat=34:=rfl; omega)
  rw [this]; rfl
 | case3 i b h h1 h2 h3=>intro t n he; rw [tx_bad h h1 h2 h3] at he; cases he
 | case4 i b h h1 h2 h3 ih =>
  intro t n he
  rw [tx_esc h h1 h2 h3] at he
  obtain ⟨s,rfl,g1,g2,g3,g4,g5⟩:=ih t n he
  have hi1:i+1<x.length:=by omega
  have hq:x.getD (i+1) 0=34∨x.getD (i+1) 0=92:=by
   by_cases a:bt x (i+1)=34
   ·left; exact UInt8.toNat_inj.1 (by unfold bt at a; have e:(34:UInt8).toNat=34:=rfl; omega)
   ·by_cases a':bt x (i+1)=92
    ·right; exact UInt8.toNat_inj.1 (by unfold bt at a'; have e:(92:UInt8).toNat=92:=rfl; omega)
    ·exact absurd (.inr ⟨a,a'⟩) h3
  have h92:x.getD i 0=92:=UInt8.toNat_inj.1 (by unfold bt at h2; have e:(92:UInt8).toNat=92:=rfl; omega)
  refine ⟨x.getD (i+1) 0::s,by simp,λ c hc=>?_,by simpa using g2,by omega,g4,?_⟩
  ·rcases List.mem_cons.1 hc with rfl | hc
   ·rcases hq with hq | hq <;> rw [hq] <;> decide
   ·exact g1 c hc
  ·rw [show n - i=(n - (i+2))+1+1 by omega,getD_drop0 x i h,List.take_succ_cons,getD_drop0 x (i+1) hi1,List.take_succ_cons,g5,h92,List.flatMap_cons,qB,if_pos hq]
   rfl
 | case5 i b h h1 h2 h3=>intro t n he; rw [tx_ctl h h1 h2 h3] at he; cases he
 | case6 i b h h1 h2 h3 ih =>
  intro t n he
  rw [tx_ch h h1 h2 h3] at he
  obtain ⟨s,rfl,g1,g2,g3,g4,g5⟩:=ih t n he
  have hq:¬ (x.getD i 0=34∨x.getD i 0=92):=by
   rintro (a | a)
   ·exact h1 (by unfold bt; rw [a]; rfl)
   ·exact h2 (by unfold bt; rw [a]; rfl)
  refine ⟨x.getD i 0::s,by simp,λ c hc=>?_,by simpa using g2,by omega,g4,?_⟩
  ·rcases List.mem_cons.1 hc with rfl | hc
   ·unfold bt at h3; omega
   ·exact g1 c hc
  ·rw [show n - i=(n - (i+1))+1 by omega,getD_drop0 x i h,List.take_succ_cons,g5,List.flatMap_cons,qB,if_neg hq]
   rfl
 | case7 i b h=>intro t n he; rw [tx_over h] at he; cases he
theorem plain_of {s:List UInt8} (h:∀ c∈s,32≤c.toNat∧c.toNat≤126) (hl:s.length≤40):plainS s=true:=by
 simp only [plainS,Bool.and_eq_true,List.all_eq_true,decide_eq_true_eq]
 exact ⟨hl,λ b hb=>by have:=h b hb; omega⟩
theorem one_inv {x:List UInt8} {t:Tok} {n:Nat} (hx:0<x.length) (h:oneS x = .ok t n):rightT t=true∧I64 t.n∧x.take n=tkS t∧0<n∧n≤x.length:=by
 have hne:x≠[]:=List.length_pos_iff.1 hx
 obtain ⟨t',n',e',hn0,hnx⟩:∃ t' n',oneS x = .ok t' n'∧0<n'∧n'≤x.length:=by
  rcases one_ok x hx with ⟨e,he,_⟩ | h'
  ·rw [h] at he; cases he
  ·exact h'
 rw [h] at e'
 cases e'
 suffices rightT t=true∧I64 t.n∧x.take n=tkS t from ⟨this.1,this.2.1,this.2.2,hn0,hnx⟩
 cases h1:isLet (x.getD 0 0)
 ·cases h2:isDig (x.getD 0 0)
  ·by_cases h3:bt x 0=34
   ·rw [one_txt h1 h2 h3,textS] at h
    obtain ⟨s,rfl,g1,g2,g3,g4,g5⟩:=text_inv x 1 [] t n h
    have hp:=plain_of g1 (by simpa using g2)
    refine ⟨by rw [right_3 rfl]; simp [hp],i64_0,?_⟩
    have e:x=x.getD 0 0::x.drop 1:=by simpa using getD_drop0 x 0 hx
    have h34:x.getD 0 0=34:=UInt8.toNat_inj.1 (by unfold bt at h3; have e:(34:UInt8).toNat=34:=rfl; omega)
    have e2:x.take n=34::(x.drop 1).take (n - 1):=by
     conv=>lhs; rw [e,h34,show n=(n - 1)+1 by omega,List.take_succ_cons]
    rw [e2,g5]
    show _=quS s
    rw [quS_eq]; simp
   ·rw [one_mark h1 h2 h3,markG_ix] at h
    split at h
    ·rename_i i hi
     rw [List.findIdx?_eq_some_iff_getElem] at hi
     obtain ⟨hlt,hpre,_⟩:=hi
     cases h
     have hm:marksL.getD i []∈marksL:=getD_mem marksL i [] hlt
     rw [← getD_lt marksL i [] hlt] at hpre
     simp only [pre,Bool.and_eq_true,decide_eq_true_eq] at hpre
     refine ⟨by rw [right_4 rfl]; simp only [Bool.and_eq_true,decide_eq_true_eq,List.contains_eq_mem]; exact ⟨trivial,hm⟩,i64_0,hpre.2⟩
    ·cases h
  ·rw [one_dig h1 h2,numS] at h
   split at h
   ·cases h
   ·rename_i hc
    split at h
    ·cases h
    ·rename_i v hv
     cases h
     have hd:=digN_pos x hx h2
     have e:x.take (digN x)=x.takeWhile isDig:=take_tw isDig x
     have hlen:(x.take (digN x)).length=digN x:=by rw [List.length_take]; have:=digN_le x; omega
     have e0:(x.take (digN x)).getD 0 0=x.getD 0 0:=by
      match x,hne,hd with
      | b::x,_,hd =>
       obtain ⟨m,hm⟩:=Nat.exists_eq_succ_of_ne_zero (Nat.pos_iff_ne_zero.1 hd)
       rw [hm]; rfl
     obtain ⟨g1,g2⟩:=num_inv (x.take (digN x)) (λ hh=>by rw [hh] at hlen; simp at hlen; omega) (by rw [e]; exact tw_ok isDig x) (λ hl=>by
      rw [e0]
      intro hh
      exact hc ⟨by omega,by rw [hh]; rfl⟩) v hv
     refine ⟨by rw [right_2 rfl]; simp,⟨by show (-9223372036854775808:Int)≤(v:Int); omega,by show (v:Int)≤_; omega⟩,?_⟩
     show _=Lib.itoa (v:Int)
     rw [itoa_pos (by omega),Int.natAbs_natCast,g2]
 ·rw [one_let h1,nameS] at h
  split at h
  ·cases h
  ·cases h
   have hw:=word_take hne h1
   have hp:=wordN_posit x hne h1
   have hlen:(x.take (wordN x)).length=wordN x:=by rw [List.length_take]; have:=wordN_le x; omega
   refine ⟨?_,i64_0,rfl⟩
   rw [right_1 rfl]
   simp only [Bool.and_eq_true,decide_eq_true_eq,Bool.not_eq_true',decide_eq_false_iff_not]
   exact ⟨⟨⟨trivial,λ hh=>by rw [hh] at hlen; simp at hlen; omega⟩,by rw [hw]⟩,by omega⟩
def blank (s:List UInt8) (a b:Nat):Prop:=∀ j,a≤j→j<b→bt s j=32
def Lay (s:List UInt8):Nat→List Tok→Prop
 | e,[]=>e≤s.length∧blank s e s.length
 | e,t::r=>∃ p:Nat,t.p=(p:Int)∧e≤p∧p+(tkS t).length≤s.length∧blank s e p∧(s.drop p).take (tkS t).length=tkS t∧0<(tkS t).length∧rightT t=true∧I64 t.n∧Lay s (p+(tkS t).length) r
theorem blank_one {s:List UInt8} {i b:Nat} (h:bt s i=32) (hb:blank s (i+1) b):blank s i b:=λ j h1 h2=>by
 by_cases e:j=i
 ·rw [e]; exact h
 ·exact hb j (by omega) h2
theorem Lay.sp {s:List UInt8} {i:Nat} (hi:i<s.length) (h:bt s i=32):∀ {l:List Tok},Lay s (i+1) l→Lay s i l
 | [],hl=>⟨by omega,blank_one h hl.2⟩
 | t::r,⟨p,h1,h2,h3,h4,h5⟩=>⟨p,h1,by omega,h3,blank_one h h4,h5⟩
theorem lex_lay (s:List UInt8):∀ (i:Nat) (out:List Tok),i≤s.length→((lexG s i out).2.2=0∧∃ l',lexG s i out=(out++l',0,0)∧Lay s i l')∨(¬ (lexG s i out).2.2=0∧∃ j:Nat,j≤s.length∧(lexG s i out).1=[]∧(lexG s i out).2.1=(j:Int)):=by
 intro i out
 induction i,out using lexG.induct (s:=s) with
 | case1 i out h h1 ih =>
  intro hi
  rw [lex_sp h h1]
  rcases ih (by omega) with ⟨g,l',e,hl⟩ | g
  ·exact .inl ⟨g,l',e,hl.sp h h1⟩
  ·exact .inr g
 | case2 i out h h1 e he =>
  intro hi
  rw [lex_err h h1 he]
  have hx:0<(s.drop i).length:=by rw [List.length_drop]; omega
  refine .inr ⟨?_,i,hi,rfl,rfl⟩
  rcases one_ok _ hx with ⟨e',he',hne⟩ | ⟨t,n,ht,_⟩
  ·rw [he] at he'; cases he'; exact hne
  ·rw [he] at ht; cases ht
 | case3 i out h h1 t n he hn ih =>
  intro hi
  have hx:0<(s.drop i).length:=by rw [List.length_drop]; omega
  obtain ⟨g1,g2,g3,g4,g5⟩:=one_inv hx he
  rw [List.length_drop] at g5
  rw [lex_ok h h1 he hn]
  rcases ih (by omega) with ⟨g,l',e,hl⟩ | g
  ·have hlen:(tkS t).length=n:=by rw [← g3,List.length_take,List.length_drop]; omega
   refine .inl ⟨g,{ t with p:=(i:Int) }::l',by rw [e]; simp,i,rfl,Nat.le_refl _,?_,λ j a b=>absurd b (by omega),?_,?_,g1,g2,?_⟩
   ·show i+(tkS t).length≤_; omega
   ·show (s.drop i).take (tkS t).length=tkS t
    rw [hlen]; exact g3
   ·show 0<(tkS t).length; omega
   ·show Lay s (i+(tkS t).length) l'
    rw [hlen]; exact hl
  ·exact .inr g
 | case4 i out h h1 t n he hn =>
  intro hi
  have hx:0<(s.drop i).length:=by rw [List.length_drop]; omega
  exact absurd (one_inv hx he).2.2.2.1 hn
 | case5 i out h =>
  intro hi
  rw [lex_end h]
  exact .inl ⟨rfl,[],by rw [List.append_nil],hi,λ j a b=>absurd b (by omega)⟩
theorem lexS_lay (s:List UInt8):(∃ l,lexS s=(l,0,0)∧Lay s 0 l)∨(∃ (j:Nat) (e:Int),lexS s=([],(j:Int),e)∧¬ e=0∧j≤s.length):=by
 rw [lexS]
 split
 ·exact .inr ⟨0,5,rfl,by decide,Nat.zero_le _⟩
 ·rcases lex_lay s 0 [] (Nat.zero_le _) with ⟨_,l,e,hl⟩ | ⟨h,j,hj,e1,e2⟩
  ·exact .inl ⟨l,by simpa using e,hl⟩
  ·exact .inr ⟨j,_,Prod.ext e1 (Prod.ext e2 rfl),h,hj⟩
theorem Lay.all {s:List UInt8}:∀ {e:Nat} {l:List Tok},Lay s e l→∀ t∈l,rightT t=true∧I64 t.n
 | _,[],_,t,ht=>by simp at ht
 | _,u::r,⟨p,_,_,_,_,_,_,h1,h2,h3⟩,t,ht=>by
  rcases List.mem_cons.1 ht with rfl | ht
  ·exact ⟨h1,h2⟩
  ·exact h3.all t ht
theorem right_len {t:Tok} (h:rightT t=true):t.s.length≤100:=by
 by_cases h1:t.k=1
 ·rw [right_1 h1] at h; simp only [Bool.and_eq_true,decide_eq_true_eq] at h; omega
 ·by_cases h2:t.k=2
  ·rw [right_2 h2] at h; simp only [Bool.and_eq_true,decide_eq_true_eq] at h; rw [h.2]; simp
  ·by_cases h3:t.k=3
   ·rw [right_3 h3] at h; simp only [Bool.and_eq_true] at h; have:=plain_40 h.2; omega
   ·by_cases h4:t.k=4
    ·rw [right_4 h4] at h
     simp only [Bool.and_eq_true,List.contains_eq_mem,decide_eq_true_eq] at h
     have:∀ m∈marksL,m.length≤2:=by decide
     have:=this _ h.2; omega
    ·rw [right_0 h1 h2 h3 h4] at h; cases h
end Go.Proofs.YtbmmnalndollkaaGreatDoor
namespace Go.Proofs.YtbmmnalndollkaaGreatDoor
open Go Go.Dx Go.RowKit
def Alk (l:List Tok) (i:Nat) (rd rd':Nat→Bool→RdR):Prop:=∀ j bad,i≤j→j≤l.length→rd j bad=rd' j bad
theorem atom_congr {rd rd':Nat→Bool→RdR} {l:List Tok} {i:Nat} {bad:Bool} (h:Alk l (i+1) rd rd'):atomS rd l i bad=atomS rd' l i bad:=by
 unfold atomS
 by_cases hh:onS l i bad 4 [40]=true
 ·rw [if_pos hh,if_pos hh,h (i+1) bad (Nat.le_refl _) (on_lt hh (by decide)).1]
 ·rw [if_neg hh,if_neg hh]
theorem branch_congr {rd rd':Nat→Bool→RdR} {l:List Tok} {i:Nat} {bad:Bool} (hr:∀ i bad,i≤l.length→Ge l i (rd' i bad)) (hi:i≤l.length) (h:Alk l i rd rd'):branchS rd l i bad=branchS rd' l i bad:=by
 have e1:=h i bad (Nat.le_refl _) hi
 have g1:=hr i bad hi
 unfold Ge at g1
 have m1:=must_ge (l:=l) (p:=(rd' i bad).2) (k:=1) (s:=thenT) (by decide) g1.2
 unfold branchS
 rw [e1]
 have e2:=h (mustS l (rd' i bad).2 1 thenT).1 (mustS l (rd' i bad).2 1 thenT).2 (Nat.le_trans g1.1 m1.1) m1.2
 have g2:=hr (mustS l (rd' i bad).2 1 thenT).1 (mustS l (rd' i bad).2 1 thenT).2 m1.2
 unfold Ge at g2
 have m2:=must_ge (l:=l) (p:=(rd' (mustS l (rd' i bad).2 1 thenT).1 (mustS l (rd' i bad).2 1 thenT).2).2) (k:=1) (s:=elseT) (by decide) g2.2
 rw [e2]
 rw [h _ (mustS l (rd' (mustS l (rd' i bad).2 1 thenT).1 (mustS l (rd' i bad).2 1 thenT).2).2 1 elseT).2 (Nat.le_trans (Nat.le_trans g1.1 m1.1) (Nat.le_trans g2.1 m2.1)) m2.2]
theorem loop_congr {rd rd':Nat→Bool→RdR} {l:List Tok} {lev:Nat} (hr:∀ i bad,i≤l.length→Ge l i (rd' i bad)):∀ (n:Nat) (x:Ex) (i:Nat) (bad:Bool),i≤l.length→Alk l (i+1) rd rd'→loopS rd l lev n x i bad=loopS rd' l lev n x i bad
 | 0,x,i,bad,_,_=>rfl
 | n+1,x,i,bad,hi,h=>by
  unfold loopS
  by_cases h0:opS l i bad lev=0
  ·rw [if_pos h0,if_pos h0]
  ·rw [if_neg h0,if_neg h0]
   have hlt:=(op_lt h0).1
   have e:=h (i+1) bad (Nat.le_refl _) hlt
   have g:=hr (i+1) bad hlt
   unfold Ge at g
   rw [e]
   split
   ·exact loop_congr hr n _ _ _ g.2 λ j b hj hjl=>h j b (Nat.le_trans g.1 (Nat.le_trans (Nat.le_succ _) hj)) hjl
   ·rfl
theorem rd_fuel (l:List Tok):∀ (f g lev i:Nat) (bad:Bool),lev≤7→i≤l.length→needS l lev i≤f→needS l lev i≤g→rdF l f lev i bad=rdF l g lev i bad
 | 0,g,lev,i,bad,h7,_,hf,_=>by unfold needS at hf; omega
 | f+1,0,lev,i,bad,h7,_,_,hg=>by unfold needS at hg; omega
 | f+1,g+1,lev,i,bad,h7,hi,hf,hg=>by
  have ih:=rd_fuel l f g
  have alk:∀ lev' i',lev'≤7→needS l lev' i'≤f→needS l lev' i'≤g→Alk l i' (rdF l f lev') (rdF l g lev'):=λ lev' i' h1 h2 h3 j b hj hjl=>ih lev' j b h1 hjl (by unfold needS at h2 ⊢; omega) (by unfold needS at h3 ⊢; omega)
  have hge:=λ lev' i bad h=>rd_ge l g lev' i bad h
  unfold rdF
  by_cases hb:bad=true
  ·rw [if_pos hb,if_pos hb]
  rw [if_neg hb,if_neg hb]
  by_cases h0:lev=0
  ·rw [if_pos h0,if_pos h0]
   subst h0
   by_cases hh:onS l i bad 1 ifT=true
   ·rw [if_pos hh,if_pos hh]
    have hlt:=(on_lt hh (by decide)).1
    exact branch_congr (λ i bad h=>hge 0 i bad h) hlt (alk 0 (i+1) (by omega) (by unfold needS at hf ⊢; omega) (by unfold needS at hg ⊢; omega))
   ·rw [if_neg hh,if_neg hh]
    exact ih 1 i bad (by omega) hi (by unfold needS at hf ⊢; omega) (by unfold needS at hg ⊢; omega)
  rw [if_neg h0,if_neg h0]
  by_cases h6:lev=6∧onS l i bad 4 [45]=true
  ·rw [if_pos h6,if_pos h6]
   have hlt:=(on_lt h6.2 (by decide)).1
   rw [ih 6 (i+1) bad (by omega) hlt (by unfold needS at hf ⊢; omega) (by unfold needS at hg ⊢; omega)]
  rw [if_neg h6,if_neg h6]
  by_cases h6':6≤lev
  ·rw [if_pos h6',if_pos h6']
   by_cases hlt:i<l.length
   ·exact atom_congr (alk 0 (i+1) (by omega) (by unfold needS at hf ⊢; omega) (by unfold needS at hg ⊢; omega))
   ·refine atom_congr λ j b hj hjl=>?_
    omega
  ·rw [if_neg h6',if_neg h6']
   have e:=ih (lev+1) i bad (by omega) hi (by unfold needS at hf ⊢; omega) (by unfold needS at hg ⊢; omega)
   rw [e]
   have g1:=hge (lev+1) i bad hi
   unfold Ge at g1
   refine loop_congr (λ i bad h=>hge (lev+1) i bad h) _ _ _ _ g1.2 λ j b hj hjl=>?_
   have:=alk (lev+1) i (by omega) (by unfold needS at hf ⊢; omega) (by unfold needS at hg ⊢; omega)
   exact this j b (by omega) hjl
def rdN (l:List Tok) (lev i:Nat) (bad:Bool):RdR:=rdF l (needS l lev i) lev i bad
theorem rdN_of (l:List Tok) {f lev i:Nat} {bad:Bool} (h7:lev≤7) (hi:i≤l.length) (hf:needS l lev i≤f):rdF l f lev i bad=rdN l lev i bad:=rd_fuel l f _ lev i bad h7 hi hf (Nat.le_refl _)
theorem rdN_ge (l:List Tok) (lev i:Nat) (bad:Bool) (h:i≤l.length):Ge l i (rdN l lev i bad):=rd_ge l _ lev i bad h
theorem rdN_nd {l:List Tok} (hl:TokN l) (lev i:Nat) (bad:Bool):Nd (rdN l lev i bad).1:=rd_nd hl _ lev i bad
theorem rdN_eq (l:List Tok) (lev i:Nat) (bad:Bool) (h7:lev≤7) (hi:i≤l.length):rdN l lev i bad =
  if bad=true then (ex0,i,bad)
  else if lev=0 then (if onS l i bad 1 ifT=true then branchS (rdN l 0) l (i+1) bad else rdN l 1 i bad)
  else if lev=6∧onS l i bad 4 [45]=true then (.mk 3 v0 [] [(rdN l 6 (i+1) bad).1],(rdN l 6 (i+1) bad).2)
  else if 6≤lev then atomS (rdN l 0) l i bad
  else loopS (rdN l (lev+1)) l lev (l.length+1) (rdN l (lev+1) i bad).1 (rdN l (lev+1) i bad).2.1 (rdN l (lev+1) i bad).2.2:=by
 obtain ⟨f,hf⟩:∃ f,needS l lev i=f+1:=⟨needS l lev i - 1,by unfold needS; omega⟩
 have alk:∀ lev' i',lev'≤7→needS l lev' i'≤f→Alk l i' (rdF l f lev') (rdN l lev'):=λ lev' i' h1 h2 j b hj hjl=>rdN_of l h1 hjl (by unfold needS at h2 ⊢; omega)
 show rdF l (needS l lev i) lev i bad=_
 rw [hf,rdF.eq_2]
 unfold needS at hf
 by_cases hb:bad=true
 ·rw [if_pos hb,if_pos hb]
 rw [if_neg hb,if_neg hb]
 by_cases h0:lev=0
 ·rw [if_pos h0,if_pos h0]
  subst h0
  by_cases hh:onS l i bad 1 ifT=true
  ·rw [if_pos hh,if_pos hh]
   have hlt:=(on_lt hh (by decide)).1
   exact branch_congr (λ i bad h=>rdN_ge l 0 i bad h) hlt (alk 0 (i+1) (by omega) (by unfold needS; omega))
  ·rw [if_neg hh,if_neg hh]
   exact rdN_of l (by omega) hi (by unfold needS; omega)
 rw [if_neg h0,if_neg h0]
 by_cases h6:lev=6∧onS l i bad 4 [45]=true
 ·rw [if_pos h6,if_pos h6]
  have hlt:=(on_lt h6.2 (by decide)).1
  rw [rdN_of l (by omega) hlt (by unfold needS; omega)]
 rw [if_neg h6,if_neg h6]
 by_cases h6':6≤lev
 ·rw [if_pos h6',if_pos h6']
  refine atom_congr λ j b hj hjl=>?_
  exact alk 0 (i+1) (by omega) (by unfold needS; omega) j b hj hjl
 ·rw [if_neg h6',if_neg h6']
  rw [rdN_of l (by omega) hi (by unfold needS; omega)]
  have g1:=rdN_ge l (lev+1) i bad hi
  unfold Ge at g1
  refine loop_congr (λ i bad h=>rdN_ge l (lev+1) i bad h) _ _ _ _ g1.2 λ j b hj hjl=>?_
  exact alk (lev+1) i (by omega) (by unfold needS; omega) j b (by omega) hjl
end Go.Proofs.YtbmmnalndollkaaGreatDoor
namespace Go.Proofs.YtbmmnalndollkaaGreatDoor
open Go Go.Dx Go.RowKit
theorem deep_l2 (op:Int) (v:Val) (s:List UInt8) (a b:Ex):deepS (.mk op v s [a,b])=max (deepS a) (deepS b)+1:=by rw [deep_eq]; simp [deepL]
theorem loop_deep {rd:Nat→Bool→RdR} {l:List Tok} {lev:Nat} {D:Nat} (hr:∀ i bad,deepS (rd i bad).1≤D):∀ (n:Nat) (x:Ex) (i:Nat) (bad:Bool),deepS (loopS rd l lev n x i bad).1≤max (deepS x) D+n
 | 0,x,i,bad=>by show deepS x≤_; omega
 | n+1,x,i,bad=>by
  have h1:=hr (i+1) bad
  have h2:=deep_l2 (opS l i bad lev) v0 [] x (rd (i+1) bad).1
  unfold loopS
  split
  ·show deepS x≤_; omega
  split
  ·have h3:=loop_deep (lev:=lev) (l:=l) hr n (.mk (opS l i bad lev) v0 [] [x,(rd (i+1) bad).1]) (rd (i+1) bad).2.1 (rd (i+1) bad).2.2
   omega
  ·show deepS (.mk (opS l i bad lev) v0 [] [x,(rd (i+1) bad).1])≤_; omega
theorem deep_0 (op:Int) (v:Val) (s:List UInt8):deepS (.mk op v s [])=1:=by rw [deep_eq]; rfl
theorem atom_deep {rd:Nat→Bool→RdR} {l:List Tok} {D:Nat} (h1:1≤D) (hr:∀ i bad,deepS (rd i bad).1≤D) (i:Nat) (bad:Bool):deepS (atomS rd l i bad).1≤D:=by
 unfold atomS
 split
 ·exact hr _ _
 split
 ·show deepS (.mk _ _ _ [])≤D; rw [deep_0]; exact h1
 split
 ·show deepS (.mk _ _ _ [])≤D; rw [deep_0]; exact h1
 split
 ·split
  ·show deepS (.mk _ _ _ [])≤D; rw [deep_0]; exact h1
  split
  ·show deepS (.mk _ _ _ [])≤D; rw [deep_0]; exact h1
  ·show deepS ex0≤D; exact Nat.le_trans (Nat.le_of_eq (deep_0 _ _ _)) h1
 ·show deepS ex0≤D; exact Nat.le_trans (Nat.le_of_eq (deep_0 _ _ _)) h1
theorem rd_deep (l:List Tok):∀ (f lev i:Nat) (bad:Bool),deepS (rdF l f lev i bad).1≤f*(l.length+2)+1
 | 0,lev,i,bad=>by show deepS ex0≤_; rw [show deepS ex0=1 from deep_0 _ _ _]; omega
 | f+1,lev,i,bad=>by
  have ih:=rd_deep l f
  have e:(f+1)*(l.length+2)+1=f*(l.length+2)+1+(l.length+2):=by rw [Nat.succ_mul]; omega
  rw [e]
  generalize f*(l.length+2)+1=D at ih ⊢
  have e0:deepS ex0=1:=deep_0 _ _ _
  have hD:1≤D:=by have:=ih 0 0 true; cases f with
   | zero=>rw [rdF] at this; rw [show deepS (ex0,0,true).1=1 from e0] at this; exact this
   | succ f=>rw [rdF,if_pos rfl] at this; rw [show deepS (ex0,0,true).1=1 from e0] at this; exact this
  unfold rdF
  split
  ·show deepS ex0≤_; omega
  split
  ·split
   ·have h1:=ih 0 (i+1) bad
    have h2:=ih 0 (mustS l (rdF l f 0 (i+1) bad).2 1 thenT).1 (mustS l (rdF l f 0 (i+1) bad).2 1 thenT).2
    unfold branchS
    show deepS (.mk _ _ _ [_,_,_])≤_
    rw [deep_eq]
    have h3:=ih 0 (mustS l (rdF l f 0 (mustS l (rdF l f 0 (i+1) bad).2 1 thenT).1 (mustS l (rdF l f 0 (i+1) bad).2 1 thenT).2).2 1 elseT).1 (mustS l (rdF l f 0 (mustS l (rdF l f 0 (i+1) bad).2 1 thenT).1 (mustS l (rdF l f 0 (i+1) bad).2 1 thenT).2).2 1 elseT).2
    simp only [ex_l,deepL]
    omega
   ·have:=ih 1 i bad; omega
  split
  ·have:=ih 6 (i+1) bad
   show deepS (.mk _ _ _ [_])≤_
   rw [deep_1 (x := .mk 3 v0 [] [(rdF l f 6 (i+1) bad).1]) rfl]; omega
  split
  ·have:=atom_deep (l:=l) hD (λ i bad=>ih 0 i bad) i bad; omega
  ·have h1:=ih (lev+1) i bad
   have:=loop_deep (rd:=rdF l f (lev+1)) (lev:=lev) (l:=l) (λ i bad=>ih (lev+1) i bad) (l.length+1) (rdF l f (lev+1) i bad).1 (rdF l f (lev+1) i bad).2.1 (rdF l f (lev+1) i bad).2.2
   omega
def Rt (r:RdR):Prop:=r.2.2=false→rightS r.1=true
theorem right_b {op:Int} {a b:Ex} (h:4≤op∧op≤15) (ha:rightS a=true) (hb:rightS b=true):rightS (.mk op v0 [] [a,b])=true:=by
 rw [right_mk,cntS,if_neg (by omega),if_neg (by omega),if_neg (by omega),if_pos h,if_neg (by omega),if_neg (by omega)]
 simp [ha,hb]
theorem op_rng {l:List Tok} {i:Nat} {bad:Bool} {lev:Int} (h:opS l i bad lev≠0):4≤opS l i bad lev∧opS l i bad lev≤15:=by
 obtain ⟨b,hb,_,e⟩:=op_some h
 rw [e]
 have:∀ b∈binL,4≤b.1∧b.1≤15:=by decide
 exact this b hb
theorem loop_rt {rd:Nat→Bool→RdR} {l:List Tok} {lev:Nat} (hr:∀ i,Rt (rd i false)):∀ (n:Nat) (x:Ex) (i:Nat) (bad:Bool),(bad=false→rightS x=true)→Rt (loopS rd l lev n x i bad)
 | 0,x,i,bad,h=>h
 | n+1,x,i,bad,h=>by
  unfold loopS
  split
  ·exact h
  ·rename_i h0
   have hb:=(op_lt h0).2
   subst hb
   have hx:=h rfl
   split
   ·exact loop_rt hr n _ _ _ λ hb=>right_b (op_rng h0) hx (hr (i+1) hb)
   ·exact λ hb=>right_b (op_rng h0) hx (hr (i+1) hb)
theorem right_v {v:Val} (h:valOk v=true) (hn:v.k=1→0≤v.n):rightS (.mk 1 v [] [])=true:=by
 rw [right_mk,cntS,if_pos (.inl rfl),if_pos rfl]
 simp only [Bool.and_eq_true,decide_eq_true_eq,Bool.or_eq_true,Bool.not_eq_true',decide_eq_false_iff_not]
 refine ⟨rfl,⟨trivial,h⟩,?_⟩
 by_cases hk:v.k=1
 ·exact .inr (hn hk)
 ·exact .inl hk
theorem right_n {s:List UInt8} (h:nameOk s=true):rightS (.mk 2 v0 s [])=true:=by
 rw [right_mk,cntS,if_pos (.inr rfl),if_neg (by decide),if_pos rfl]
 simp [h]
theorem word_ok {s:List UInt8} (h:(wordV s).isSome=true):valOk ((wordV s).getD v0)=true∧((wordV s).getD v0).k≠1:=by
 unfold wordV at *
 split
 ·decide
 split
 ·decide
 split
 ·decide
 ·rename_i h1 h2 h3; rw [if_neg h1,if_neg h2,if_neg h3] at h; cases h
theorem must_rt {l:List Tok} {p:Nat×Bool} {k:Int} {s:List UInt8} (h:(mustS l p k s).2=false):p.2=false:=by
 unfold mustS at h
 simp only [Bool.or_eq_false_iff] at h
 exact h.1
theorem now_mem {l:List Tok} {i:Nat} {bad:Bool} (h:(nowS l i bad).k≠0):nowS l i bad∈l:=by
 obtain ⟨h1,h2⟩:=now_lt h
 unfold nowS; rw [if_neg (by rw [h2]; decide)]; exact getD_mem l i t0 h1
theorem atom_rt {rd:Nat→Bool→RdR} {l:List Tok} (hl:∀ t∈l,rightT t=true) (hr:∀ i,Rt (rd i false)) (i:Nat):Rt (atomS rd l i false):=by
 unfold atomS
 split
 ·intro hb
  exact hr (i+1) (must_rt hb)
 split
 ·rename_i hk
  have:=hl _ (now_mem (l:=l) (i:=i) (bad:=false) (by rw [hk]; decide))
  rw [right_2 hk] at this
  simp only [Bool.and_eq_true,decide_eq_true_eq] at this
  exact λ _=>right_v (by simp [valOk]) (λ _=>this.1)
 split
 ·rename_i hk
  have:=hl _ (now_mem (l:=l) (i:=i) (bad:=false) (by rw [hk]; decide))
  rw [right_3 hk] at this
  simp only [Bool.and_eq_true,decide_eq_true_eq] at this
  exact λ _=>right_v (by simp [valOk,this.2]) (λ h=>by simp at h)
 split
 ·split
  ·rename_i hw
   have:=word_ok hw
   exact λ _=>right_v this.1 (λ h=>absurd h this.2)
  split
  ·rename_i hn; exact λ _=>right_n hn
  ·intro h; cases h
 ·intro h; cases h
theorem right_if {a b c:Ex} (ha:rightS a=true) (hb:rightS b=true) (hc:rightS c=true):rightS (.mk 16 v0 [] [a,b,c])=true:=by
 rw [right_mk]; simp [cntS,ha,hb,hc]
theorem right_neg {a:Ex} (ha:rightS a=true):rightS (.mk 3 v0 [] [a])=true:=by
 rw [right_mk]; simp [cntS,ha]
theorem rd_true (l:List Tok) (f lev i:Nat):(rdF l f lev i true).2.2=true:=by
 cases f with
 | zero=>rfl
 | succ f=>unfold rdF; rw [if_pos rfl]
theorem rd_rt {l:List Tok} (hl:∀ t∈l,rightT t=true):∀ (f lev i:Nat) (bad:Bool),Rt (rdF l f lev i bad)
 | 0,lev,i,bad=>by intro h; cases h
 | f+1,lev,i,bad=>by
  have ih:=rd_rt hl f
  unfold rdF
  split
  ·rename_i hb; intro h; rw [show (ex0,i,bad).2.2=bad from rfl,hb] at h; cases h
  rename_i hb
  have hb:bad=false:=by simpa using hb
  subst hb
  split
  ·split
   ·intro h
    unfold branchS at h
    have h3:=ih 0 _ _ h
    have hm:(mustS l (rdF l f 0 (mustS l (rdF l f 0 (i+1) false).2 1 thenT).1 (mustS l (rdF l f 0 (i+1) false).2 1 thenT).2).2 1 elseT).2=false:=by
     cases hq:(mustS l (rdF l f 0 (mustS l (rdF l f 0 (i+1) false).2 1 thenT).1 (mustS l (rdF l f 0 (i+1) false).2 1 thenT).2).2 1 elseT).2 with
     | false=>rfl
     | true =>
      rw [hq,rd_true] at h; cases h
    have h2:=must_rt hm
    have r2:=ih 0 _ _ h2
    have hm2:(mustS l (rdF l f 0 (i+1) false).2 1 thenT).2=false:=by
     cases hq:(mustS l (rdF l f 0 (i+1) false).2 1 thenT).2 with
     | false=>rfl
     | true =>
      rw [hq,rd_true] at h2; cases h2
    have r1:=ih 0 _ _ (must_rt hm2)
    exact right_if r1 r2 h3
   ·exact ih 1 i false
  split
  ·intro h; exact right_neg (ih 6 (i+1) false h)
  split
  ·exact atom_rt hl (λ i=>ih 0 i false) i
  ·exact loop_rt (λ i=>ih (lev+1) i false) _ _ _ _ (ih (lev+1) i false)
end Go.Proofs.YtbmmnalndollkaaGreatDoor
namespace Go.Proofs.YtbmmnalndollkaaGreatDoor
open Go Go.Dx Go.RowKit
def lexF (s:List UInt8):Nat→Nat→List Tok→List Tok×Int×Int
 | 0,_,_=>([],0,1)
 | f+1,i,out=>if i<s.length then (if bt s i=32 then lexF s f (i+1) out else match oneS (s.drop i) with
   | .err e=>([],(i:Int),e)
   | .ok t n=>if 0<n then lexF s f (i+n) (out++[{ t with p:=(i:Int) }]) else ([],0,0)) else (out,0,0)
theorem lex_fuel (s:List UInt8):∀ (f i:Nat) (out:List Tok),s.length - i<f→lexF s f i out=lexG s i out
 | 0,i,out,h=>by omega
 | f+1,i,out,h=>by
  rw [lexF,lexG]
  by_cases hi:i<s.length
  ·rw [if_pos hi,dif_pos hi]
   by_cases h1:bt s i=32
   ·rw [if_pos h1,if_pos h1]; exact lex_fuel s f (i+1) out (by omega)
   ·rw [if_neg h1,if_neg h1]
    cases oneS (s.drop i) with
    | err e=>rfl
    | ok t n =>
     simp only
     by_cases hn:0<n
     ·rw [if_pos hn,dif_pos hn]; exact lex_fuel s f (i+n) _ (by omega)
     ·rw [if_neg hn,dif_neg hn]
  ·rw [if_neg hi,dif_neg hi]
theorem lex_run (s:List UInt8) (h:s.length≤200):lexS s=lexF s 201 0 []:=by
 rw [lexS,if_neg (by omega),lex_fuel s 201 0 [] (by omega)]
theorem lex_facts (s:List UInt8):TokN (lexS s).1∧(∀ t∈(lexS s).1,t.s.length≤1000000)∧(lexS s).1.length≤999999∧deepS (readT (lexS s).1 0 0).1≤1000000000:=by
 have key:∀ l:List Tok,(∀ t∈l,rightT t=true∧I64 t.n)→l.length≤200→TokN l∧(∀ t∈l,t.s.length≤1000000)∧l.length≤999999∧deepS (readT l 0 0).1≤1000000000:=λ l h hlen=>by
  refine ⟨λ t ht=>(h t ht).2,λ t ht=>by have:=right_len (h t ht).1; omega,by omega,?_⟩
  unfold readT
  split
  ·rw [show deepS (ex0,_,_).1=1 from deep_0 _ _ _]; decide
  ·show deepS (rdF l (needS l 0 0) 0 0 false).1≤_
   have h1:=rd_deep l (needS l 0 0) 0 0 false
   have h2:needS l 0 0≤2009:=by unfold needS; omega
   have h3:needS l 0 0*(l.length+2)≤2009*202:=Nat.mul_le_mul h2 (by omega)
   omega
 have hlen:(lexS s).1.length≤200:=by
  have:=lexS_len s
  by_cases h:200<s.length
  ·rw [lexS,if_pos h]; exact Nat.zero_le _
  ·omega
 rcases lexS_lay s with ⟨l,e,hl⟩ | ⟨j,e,h,_,_⟩
 ·rw [e] at hlen ⊢; exact key l hl.all hlen
 ·rw [h]; exact key [] (λ t ht=>by cases ht) (by decide)
theorem lay_p {s:List UInt8}:∀ {e:Nat} {l:List Tok},Lay s e l→∀ t∈l,0≤t.p∧t.p≤s.length
 | _,[],_,t,ht=>by cases ht
 | _,u::r,⟨p,h0,_,h2,_,_,_,_,_,h3⟩,t,ht=>by
  rcases List.mem_cons.1 ht with rfl | ht
  ·rw [h0]; omega
  ·exact lay_p h3 t ht
theorem parse_inv (s:List UInt8):((parseT s).2=(0,0)∧rightS (parseT s).1=true∧deepS (parseT s).1≤12)∨((parseT s).1=ex0∧(parseT s).2.2≠0∧0≤(parseT s).2.1∧(parseT s).2.1≤s.length):=by
 unfold parseT
 rcases lexS_lay s with ⟨l,e,hl⟩ | ⟨j,e,h,he,hj⟩
 ·rw [e]
  simp only [ne_eq,not_true,if_false]
  split
  ·rename_i h
   refine .inr ⟨rfl,(by show ¬ (11:Int)=0; decide),?_⟩
   exact lay_p hl _ (getD_mem l _ t0 h)
  split
  ·rename_i h; exact .inr ⟨rfl,h,Int.natCast_nonneg _,Int.le_refl _⟩
  split
  ·exact .inr ⟨rfl,(by show ¬ (12:Int)=0; decide),Int.le_refl _,Int.natCast_nonneg _⟩
  ·rename_i h1 h2 h3
   refine .inl ⟨rfl,?_,by show deepS (readT l 0 0).1≤12; omega⟩
   show rightS (readT l 0 0).1=true
   have hr:=rd_rt (λ t ht=>(hl.all t ht).1) (needS l 0 0) 0 0 false
   unfold readT at h2 ⊢
   split at h2
   ·exact absurd (show (11:Int)≠0 by decide) h2
   ·rename_i hb
    rw [if_neg hb]
    exact hr (by simpa using hb)
 ·rw [h,if_pos he]
  exact .inr ⟨rfl,he,Int.natCast_nonneg _,by show (j:Int)≤_; omega⟩
theorem sm_right:∀ (d:Nat) (x:Ex),deepS x≤d→rightS x=true→looseX d x=true
 | 0,x,h,_=>by rw [deep_eq] at h; omega
 | d+1,x,h,hr=>by
  have kid:∀ y∈x.l,rightS y=true→looseX d y=true:=λ y hy hry=>sm_right d y (by have:=deep_sub hy; omega) hry
  have e:looseX (d+1) x=(decide (x.s.length≤1000000)&&decide (x.v.s.length≤9223372036854775807)&&decide (x.l.length≤5)&&x.l.all (looseX d)):=rfl
  have v00:v0.s.length=0:=rfl
  rw [e]
  simp only [Bool.and_eq_true,decide_eq_true_eq,List.all_eq_true]
  rcases right_parts hr with ⟨h,hl,hs,hv,_⟩ | ⟨h,hl,hv,hn⟩ | ⟨h,hv,hs,a,hl,ha⟩ | ⟨h,hv,hs,a,b,c,hl,ha,hb,hc⟩ | ⟨h,hv,hs,a,b,hl,ha,hb⟩
  ·have:=valOk_40 hv
   rw [hs,hl]; exact ⟨⟨⟨by simp,by omega⟩,by simp⟩,λ y hy=>by cases hy⟩
  ·have:=name_len hn
   rw [hv,hl]; exact ⟨⟨⟨by omega,by rw [v00]; decide⟩,by simp⟩,λ y hy=>by cases hy⟩
  ·rw [hv,hs]; exact ⟨⟨⟨by simp,by rw [v00]; decide⟩,by rw [hl]; simp⟩,λ y hy=>kid y hy (by rw [hl] at hy; simp at hy; subst hy; exact ha)⟩
  ·rw [hv,hs]; exact ⟨⟨⟨by simp,by rw [v00]; decide⟩,by rw [hl]; simp⟩,λ y hy=>kid y hy (by rw [hl] at hy; simp at hy; rcases hy with rfl | rfl | rfl <;> assumption)⟩
  ·rw [hv,hs]; exact ⟨⟨⟨by simp,by rw [v00]; decide⟩,by rw [hl]; simp⟩,λ y hy=>kid y hy (by rw [hl] at hy; simp at hy; rcases hy with rfl | rfl <;> assumption)⟩
theorem smx_right {x:Ex} (hr:rightS x=true):SmX x:=⟨_,sm_right _ x (Nat.le_refl _) hr⟩
end Go.Proofs.YtbmmnalndollkaaGreatDoor
namespace Go.Proofs.YtbmmnalndollkaaGreatDoor
open Go Go.Dx Go.RowKit
abbrev Pc:=Option Tok
def toksP:List Pc→List Tok
 | []=>[]
 | none::l=>toksP l
 | some t::l=>t::toksP l
def opT:Tok:=⟨4,[40],0,0⟩
def clT:Tok:=⟨4,[41],0,0⟩
def miT:Tok:=⟨4,[45],0,0⟩
def wdT (s:List UInt8):Tok:=⟨1,s,0,0⟩
def valT (v:Val):Tok:=if v.k=1 then ⟨2,[],v.n,0⟩ else if v.k=2 then ⟨3,v.s,0,0⟩ else if v.k=3 then wdT (boolS (decide (v.n=1))) else wdT nullS
def sgT (op:Int):Tok:=⟨kindB (findS op),(findS op).2.1,0,0⟩
def bodyP (op:Int) (v:Val) (s:List UInt8) (c:List (List Pc)):List Pc :=
 if op=1 then [some (valT v)] else if op=2 then [some (wdT s)] else if op=3 then some miT::c.getD 0 []
 else if op=16 then some (wdT ifT)::none::(c.getD 0 []++none::some (wdT thenT)::none::(c.getD 1 []++none::some (wdT elseT)::none::c.getD 2 []))
 else c.getD 0 []++none::some (sgT op)::none::c.getD 1 []
mutual
def pcS:Ex→Int→List Pc
 | .mk op v s l,m=>if levS op<m then some opT::(bodyP op v s (pcL l (msS op))++[some clT]) else bodyP op v s (pcL l (msS op))
def pcL:List Ex→List Int→List (List Pc)
 | [],_=>[]
 | _::_,[]=>[]
 | x::l,m::ms=>pcS x m::pcL l ms
end
inductive VB:Ex→Prop
 | mk (op:Int) (v:Val) (s:List UInt8) (l:List Ex) (h:i64 v.n) (hl:∀ y∈l,VB y):VB (.mk op v s l)
theorem VB.kid {x y:Ex} (h:VB x) (hy:y∈x.l):VB y:=by
 cases h with
 | mk op v s l h hl=>exact hl y hy
theorem VB.n {x:Ex} (h:VB x):i64 x.v.n:=by
 cases h with
 | mk op v s l h hl=>exact h
end Go.Proofs.YtbmmnalndollkaaGreatDoor
namespace Go.Proofs.YtbmmnalndollkaaGreatDoor
open Go Go.Dx Go.RowKit
def Seg (l:List Tok):Nat→List Tok→Prop
 | _,[]=>True
 | i,t::T=>(i<l.length∧bare (l.getD i t0)=bare t)∧Seg l (i+1) T
def Stop (l:List Tok) (i lev:Nat):Prop:=∀ n:Nat,lev≤n→opS l i false (n:Int)=0
theorem Stop.le {l:List Tok} {i a b:Nat} (h:Stop l i a) (hab:a≤b):Stop l i b:=λ n hn=>h n (Nat.le_trans hab hn)
def tks (x:Ex) (m:Int):List Tok:=toksP (pcS x m)
theorem ex_eta {x:Ex} {op:Int} {v:Val} {s:List UInt8} {l:List Ex} (h1:x.op=op) (h2:x.v=v) (h3:x.s=s) (h4:x.l=l):x = .mk op v s l:=by
 cases x with
 | mk a b c d=>cases h1; cases h2; cases h3; cases h4; rfl
structure Rd (x:Ex):Prop where
 put:∀ (l:List Tok) (i lev:Nat) (m:Int),lev≤7→i≤l.length→(levS x.op<m∨(lev:Int)≤levS x.op)→Seg l i (tks x m)→Stop l (i+(tks x m).length) lev→rdN l lev i false=(x,i+(tks x m).length,false)
 loop:∀ (l:List Tok) (i L:Nat) (m:Int),1≤L→L≤5→L≠3→i≤l.length→(levS x.op<m∨(L:Int)≤levS x.op)→Seg l i (tks x m)→Stop l (i+(tks x m).length) (L+1) →
  ∃ n,l.length<i+(tks x m).length+n∧rdN l L i false=loopS (rdN l (L+1)) l L n x (i+(tks x m).length) false
end Go.Proofs.YtbmmnalndollkaaGreatDoor
namespace Go.Proofs.YtbmmnalndollkaaGreatDoor
open Go Go.Dx Go.RowKit
mutual
def nmS:Ex→List (List UInt8)
 | .mk op _ s l=>(if op=2 then [s] else [])++nmL l
def nmL:List Ex→List (List UInt8)
 | []=>[]
 | x::l=>nmS x++nmL l
end
theorem nm_eq (x:Ex):nmS x=(if x.op=2 then [x.s] else [])++nmL x.l:=by
 cases x with
 | mk op v s l=>rw [nmS]; rfl
theorem nmL_app:∀ (a b:List Ex),nmL (a++b)=nmL a++nmL b
 | [],b=>rfl
 | x::a,b=>by simp only [List.cons_append,nmL,nmL_app a b,List.append_assoc]
theorem nmL_take (l:List Ex) (k:Nat) (h:k<l.length):nmL (l.take (k+1))=nmL (l.take k)++nmS (l.getD k ex0):=by
 rw [List.take_succ_eq_append_getElem h,nmL_app,getD_lt l k ex0 h]
 simp [nmL]
theorem nmL_drop (l:List Ex) (k:Nat):(nmL (l.take k)).length≤(nmL l).length:=by
 have:=congrArg List.length (show nmL l=nmL (l.take k)++nmL (l.drop k) by rw [← nmL_app,List.take_append_drop])
 rw [List.length_append] at this; omega
def addS (l:List (List UInt8)) (s:List UInt8):List (List UInt8):=if l.contains s=true then l else l++[s]
theorem add_len (l:List (List UInt8)) (s:List UInt8):(addS l s).length≤l.length+1:=by
 unfold addS; split
 ·omega
 ·simp
theorem adds_len:∀ (r l:List (List UInt8)),(r.foldl addS l).length≤l.length+r.length
 | [],l=>Nat.le_refl _
 | s::r,l=>by
  have:=adds_len r (addS l s)
  have:=add_len l s
  simp only [List.foldl_cons,List.length_cons]; omega
def namesS (x:Ex):List (List UInt8):=(nmS x).foldl addS []
end Go.Proofs.YtbmmnalndollkaaGreatDoor
namespace Go.Proofs.YtbmmnalndollkaaGreatDoor
open Go Go.Dx Go.RowKit
mutual
def sameX:Ex→Ex→Bool
 | .mk o v s l,y=>decide (o=y.op)&&decide (v=y.v)&&decide (s=y.s)&&sameXL l y.l
def sameXL:List Ex→List Ex→Bool
 | [],[]=>true
 | x::l,y::m=>sameX x y&&sameXL l m
 | [],_::_=>false
 | _::_,[]=>false
end
theorem same_eq (x y:Ex):sameX x y=(decide (x.op=y.op)&&decide (x.v=y.v)&&decide (x.s=y.s)&&sameXL x.l y.l):=by
 cases x with
 | mk o v s l=>rw [sameX]; rfl
theorem sameL_len:∀ {l m:List Ex},l.length≠m.length→sameXL l m=false
 | [],[],h=>absurd rfl h
 | [],_::_,_=>rfl
 | _::_,[],_=>rfl
 | x::l,y::m,h=>by rw [sameXL,sameL_len (by simpa using h),Bool.and_false]
theorem sameL_all:∀ {l m:List Ex},l.length=m.length→(∀ j,j<l.length→sameX (l.getD j ex0) (m.getD j ex0)=true)→sameXL l m=true
 | [],[],_,_=>rfl
 | [],_::_,h,_=>by simp at h
 | _::_,[],h,_=>by simp at h
 | x::l,y::m,h,hj=>by
  have h0:=hj 0 (by simp)
  have hr:=sameL_all (l:=l) (m:=m) (by simpa using h) λ j hlt=>by
   have:=hj (j+1) (by simp; omega)
   simpa using this
  rw [sameXL,hr,Bool.and_true]
  simpa using h0
theorem sameL_no:∀ {l m:List Ex} {k:Nat},k<l.length→sameX (l.getD k ex0) (m.getD k ex0)=false→sameXL l m=false
 | [],_,_,h,_=>by simp at h
 | _::_,[],_,_,_=>rfl
 | x::l,y::m,0,_,h=>by
  have h:sameX x y=false:=by simpa using h
  rw [sameXL,h,Bool.false_and]
 | x::l,y::m,k+1,hk,h=>by
  rw [sameXL,sameL_no (l:=l) (m:=m) (k:=k) (by simpa using hk) (by simpa using h),Bool.and_false]
theorem adds_mem:∀ (r l:List (List UInt8)) (s:List UInt8),s∈l→s∈r.foldl addS l
 | [],l,s,h=>h
 | t::r,l,s,h=>adds_mem r _ s (by
  unfold addS
  split
  ·exact h
  ·exact List.mem_append_left _ h)
theorem add_mem (l:List (List UInt8)) (s:List UInt8):s∈addS l s:=by
 unfold addS
 split
 ·rename_i h; exact List.contains_iff_mem.1 h
 ·simp
theorem add_old {l:List (List UInt8)} {s:List UInt8} (h:s∈l):addS l s=l:=by rw [addS,if_pos (List.contains_iff_mem.2 h)]
theorem adds_in:∀ (b:List (List UInt8)) (acc:List (List UInt8)) (s:List UInt8),s∈b→s∈b.foldl addS acc
 | t::b,acc,s,h=>by
  rcases List.mem_cons.1 h with rfl | h
  ·exact adds_mem b _ s (add_mem acc s)
  ·exact adds_in b _ s h
theorem adds_one (acc b:List (List UInt8)) (s:List UInt8):(addS b s).foldl addS acc=addS (b.foldl addS acc) s:=by
 by_cases h:s∈b
 ·rw [add_old h,add_old (adds_in b acc s h)]
 ·rw [show addS b s=b++[s] by rw [addS,if_neg (λ hc=>h (List.contains_iff_mem.1 hc))],List.foldl_append]; rfl
theorem adds_adds:∀ (r b acc:List (List UInt8)),(r.foldl addS b).foldl addS acc=r.foldl addS (b.foldl addS acc)
 | [],b,acc=>rfl
 | s::r,b,acc=>by
  rw [List.foldl_cons,adds_adds r (addS b s) acc,adds_one,List.foldl_cons]
theorem names_kids (acc:List (List UInt8)) (y:Ex):(namesS y).foldl addS acc=(nmS y).foldl addS acc:=adds_adds (nmS y) [] acc
theorem names_len (x:Ex):(namesS x).length≤(nmS x).length:=by
 have:=adds_len (nmS x) []
 rw [namesS]; simpa using this
end Go.Proofs.YtbmmnalndollkaaGreatDoor
namespace Go.Proofs.YtbmmnalndollkaaGreatDoor
open Go Go.Dx Go.RowKit
structure Tst where
 k:Int
 a:Ex
 b:Ex
 lo:Bool
 hi:Bool
structure Cel where
 any:Bool
 neg:Bool
 ts:List Tst
def tst0:Tst:=⟨0,ex0,ex0,false,false⟩
def cel0:Cel:=⟨false,false,[]⟩
def partX (x:Ex):Bool:=rightS x&&decide (deepS x≤12)
def soundT (t:Tst):Bool:=if t.k=6 then partX t.a&&partX t.b else if t.k<1∨6<t.k then false else partX t.a&&(sameX t.b ex0&&(!t.lo && !t.hi))
def rightC (c:Cel):Bool:=if c.any=true then !c.neg&&decide (c.ts.length=0) else decide (1≤c.ts.length)&&decide (c.ts.length≤12)&&c.ts.all soundT
def exsT:List Tst→List Ex
 | []=>[]
 | t::l=>t.a::t.b::exsT l
def namesC (c:Cel):List (List UInt8):=(nmL (exsT c.ts)).foldl addS []
def sgC (k:Int):List UInt8:=if k=2 then [60] else if k=3 then [60,61] else if k=4 then [62] else if k=5 then [62,61] else []
abbrev CSt:=Nat×Bool
def exprC (l:List Tok) (p:CSt):Ex×CSt:=if p.2=true then (ex0,p) else ((readT l p.1 4).1,(readT l p.1 4).2.1,decide ((readT l p.1 4).2.2≠0))
def mustC (l:List Tok) (p:CSt) (s:List UInt8):CSt:=if onS l p.1 p.2 4 s=true then (p.1+1,p.2) else (p.1,true)
def oneC (l:List Tok) (p:CSt) (k:Int):Tst×CSt:=(⟨k,(exprC l p).1,ex0,false,false⟩,(exprC l p).2)
def inC (l:List Tok) (p:CSt) (lo:Bool):Tst×CSt :=
 if onS l (exprC l (mustC l (exprC l p).2 [46,46])).2.1 (exprC l (mustC l (exprC l p).2 [46,46])).2.2 4 [91]=true then
  (⟨6,(exprC l p).1,(exprC l (mustC l (exprC l p).2 [46,46])).1,lo,true⟩,((exprC l (mustC l (exprC l p).2 [46,46])).2.1+1,(exprC l (mustC l (exprC l p).2 [46,46])).2.2))
 else (⟨6,(exprC l p).1,(exprC l (mustC l (exprC l p).2 [46,46])).1,lo,false⟩,mustC l (exprC l (mustC l (exprC l p).2 [46,46])).2 [93])
def testC (l:List Tok) (p:CSt):Tst×CSt :=
 if onS l p.1 p.2 4 (sgC 2)=true then oneC l (p.1+1,p.2) 2
 else if onS l p.1 p.2 4 (sgC 3)=true then oneC l (p.1+1,p.2) 3
 else if onS l p.1 p.2 4 (sgC 4)=true then oneC l (p.1+1,p.2) 4
 else if onS l p.1 p.2 4 (sgC 5)=true then oneC l (p.1+1,p.2) 5
 else if onS l p.1 p.2 4 [91]=true then inC l (p.1+1,p.2) false
 else if onS l p.1 p.2 4 [93]=true then inC l (p.1+1,p.2) true
 else oneC l p 1
def testsC (l:List Tok):Nat→CSt→List Tst×CSt
 | 0,p=>([],p)
 | n+1,p=>if onS l (testC l p).2.1 (testC l p).2.2 4 [44]=true then ((testC l p).1::(testsC l n ((testC l p).2.1+1,(testC l p).2.2)).1,(testsC l n ((testC l p).2.1+1,(testC l p).2.2)).2) else ([(testC l p).1],(testC l p).2)
def negC (l:List Tok):Bool:=decide (1<l.length)&&decide ((l.getD 0 t0).k=1)&&decide ((l.getD 0 t0).s=[110,111,116])&&decide ((l.getD 1 t0).k=4)&&decide ((l.getD 1 t0).s=[40])
def cellC (l:List Tok):List Tst×CSt:=testsC l (l.length+1) (if negC l=true then 2 else 0,false)
def endC (l:List Tok):CSt:=if negC l=true then mustC l (cellC l).2 [41] else (cellC l).2
def parseC (s:List UInt8):Cel×Int×Int :=
 if (lexS s).2.2≠0 then (cel0,(lexS s).2.1,(lexS s).2.2)
 else if (lexS s).1.length=1∧onS (lexS s).1 0 false 4 [45]=true then (⟨true,false,[]⟩,0,0)
 else if (endC (lexS s).1).1<(lexS s).1.length then (cel0,((lexS s).1.getD (endC (lexS s).1).1 t0).p,11)
 else if (endC (lexS s).1).2=true then (cel0,s.length,11)
 else if 12<(cellC (lexS s).1).1.length then (cel0,0,24)
 else if rightC ⟨false,negC (lexS s).1,(cellC (lexS s).1).1⟩=true then (⟨false,negC (lexS s).1,(cellC (lexS s).1).1⟩,0,0) else (cel0,0,12)
def fitT (t:Tst) (a b:Int):Bool:=fitS a b&&(decide (t.k=1)||(!decide (a=3) && !decide (b=3)))
def typT1 (t:Tst) (kind:Int) (cl:List Col):Int :=
 if (kindT cl t.a).2≠0 then (kindT cl t.a).2
 else if t.k=6 then (if (kindT cl t.b).2≠0 then (kindT cl t.b).2 else if fitT t kind (kindT cl t.a).1&&fitT t kind (kindT cl t.b).1 then 0 else 14)
 else if fitT t kind (kindT cl t.a).1 then 0 else 14
def typTL (kind:Int) (cl:List Col):List Tst→Int
 | []=>0
 | t::l=>if typT1 t kind cl≠0 then typT1 t kind cl else typTL kind cl l
def typC (c:Cel) (kind:Int) (cl:List Col):Int:=if rightC c=false then 2 else typTL kind cl c.ts
end Go.Proofs.YtbmmnalndollkaaGreatDoor
namespace Go.Proofs.YtbmmnalndollkaaGreatDoor
open Go Go.Dx Go.RowKit
def ovr (n:Int):Int×Int:=if -9223372036854775808≤n∧n≤9223372036854775807 then (n,0) else (0,15)
def niV (r:Int×Int):Value := .tuple #[.int .i64 r.1,.int .i64 r.2]
def divR (a b:Int):Int×Int:=if b=0 then (0,16) else ovr (a.tdiv b)
theorem ovr_in {n:Int} (h : -9223372036854775808≤n∧n≤9223372036854775807):ovr n=(n,0):=if_pos h
theorem ovr_out {n:Int} (h:n < -9223372036854775808∨9223372036854775807<n):ovr n=(0,15):=if_neg (by omega)
theorem wrap_hi {n:Int} (h:9223372036854775807<n) (h2:n≤18446744073709551615):IntKind.i64.wrap n=n - 18446744073709551616:=by
 have e:=wrap_i64 (n:=n - 18446744073709551616) (by omega) (by omega)
 rw [← e]
 simp [IntKind.wrap,IntKind.bits]
theorem wrap_lo {n:Int} (h:n < -9223372036854775808) (h2 : -18446744073709551616≤n):IntKind.i64.wrap n=n+18446744073709551616:=by
 have e:=wrap_i64 (n:=n+18446744073709551616) (by omega) (by omega)
 rw [← e]
 simp [IntKind.wrap,IntKind.bits]
theorem natAbs_sz {a:Int} (h:I64 a):a.natAbs≤9223372036854775808:=by have:=h.1; have:=h.2; omega
theorem tdiv_in (a b:Int) (ha:I64 a) (hb:I64 b) (h:¬ b=0) (h2:¬ a = -9223372036854775808∨¬ b = -1) : -9223372036854775808≤a.tdiv b∧a.tdiv b≤9223372036854775807:=by
 have ha1:=ha.1; have ha2:=ha.2
 have e:(a.tdiv b).natAbs=a.natAbs / b.natAbs:=Int.natAbs_tdiv a b
 by_cases hb1:b=1
 ·subst hb1; rw [Int.tdiv_one]; exact ha
 ·by_cases hb2:b = -1
  ·subst hb2
   rw [Int.tdiv_neg,Int.tdiv_one]; omega
  ·have hge:2≤b.natAbs:=by omega
   have:a.natAbs / b.natAbs≤a.natAbs / 2:=Nat.div_le_div_left hge (by decide)
   omega
def Btw (x y:Int):Prop:=(0≤x∧x≤y)∨(y≤x∧x≤0)
theorem Btw.mul {x y:Int} (a:Int) (h:Btw x y):Btw (a*x) (a*y):=by
 rcases Int.le_total 0 a with ha | ha
 ·rcases h with ⟨h1,h2⟩ | ⟨h1,h2⟩
  ·exact .inl ⟨Int.mul_nonneg ha h1,Int.mul_le_mul_of_nonneg_left h2 ha⟩
  ·refine .inr ⟨Int.mul_le_mul_of_nonneg_left h1 ha,?_⟩
   have:=Int.mul_nonneg (a:=a) (b := -x) ha (by omega)
   rw [Int.mul_neg] at this; omega
 ·rcases h with ⟨h1,h2⟩ | ⟨h1,h2⟩
  ·refine .inr ⟨?_,?_⟩
   ·have:=Int.mul_nonneg (a := -a) (b:=y - x) (by omega) (by omega)
    rw [Int.neg_mul,Int.mul_sub] at this; omega
   ·have:=Int.mul_nonneg (a := -a) (b:=x) (by omega) h1
    rw [Int.neg_mul] at this; omega
  ·refine .inl ⟨?_,?_⟩
   ·have:=Int.mul_nonneg (a := -a) (b := -x) (by omega) (by omega)
    rw [Int.neg_mul_neg] at this; exact this
   ·have:=Int.mul_nonneg (a := -a) (b:=x - y) (by omega) (by omega)
    rw [Int.neg_mul,Int.mul_sub] at this; omega
theorem Btw.out {x y:Int} (h:Btw x y) (ho:x < -9223372036854775808∨9223372036854775807<x):ovr y=(0,15):=ovr_out (by rcases h with h | h <;> omega)
theorem Btw.trans {x y z:Int} (h:Btw x y) (k:Btw y z):Btw x z:=by unfold Btw at *; omega
end Go.Proofs.YtbmmnalndollkaaGreatDoor
namespace Go.Proofs.YtbmmnalndollkaaGreatDoor
open Go Go.Dx Go.RowKit
abbrev EV:=Except Int Val
def truV (b:Bool):Val:=⟨3,if b then 1 else 0,[]⟩
def numR (r:Int×Int):EV:=if r.2=0 then .ok ⟨1,r.1,[]⟩ else .error r.2
def joinE (s t:List UInt8):EV:=if 40<s.length+t.length then .error 5 else .ok ⟨2,0,s++t⟩
def reckR (op a b:Int):Int×Int:=if op=4 then ovr (a+b) else if op=5 then ovr (a - b) else if op=6 then ovr (a*b) else divR a b
def reckE (op a b:Int):EV:=numR (reckR op a b)
def ofG (k:Int):List Val→Bool→Except Int Bool
 | [],nl => .ok nl
 | v::r,nl=>if v.k=k then ofG k r nl else if v.k=0 then ofG k r true else .error 14
theorem of_here {k:Int} {l:List Val} {i:Nat} {nl:Bool} (h:i<l.length) (h1:(l.getD i v0).k=k):ofG k (l.drop i) nl=ofG k (l.drop (i+1)) nl:=by
 rw [List.drop_eq_getElem_cons h,← getD_lt l i v0 h,ofG,if_pos h1]
theorem of_null {k:Int} {l:List Val} {i:Nat} {nl:Bool} (h:i<l.length) (h1:¬ (l.getD i v0).k=k) (h2:(l.getD i v0).k=0):ofG k (l.drop i) nl=ofG k (l.drop (i+1)) true:=by
 rw [List.drop_eq_getElem_cons h,← getD_lt l i v0 h,ofG,if_neg h1,if_pos h2]
theorem of_bad {k:Int} {l:List Val} {i:Nat} {nl:Bool} (h:i<l.length) (h1:¬ (l.getD i v0).k=k) (h2:¬ (l.getD i v0).k=0):ofG k (l.drop i) nl = .error 14:=by
 rw [List.drop_eq_getElem_cons h,← getD_lt l i v0 h,ofG,if_neg h1,if_neg h2]
theorem of_end {k:Int} {l:List Val} {i:Nat} {nl:Bool} (h:¬ i<l.length):ofG k (l.drop i) nl = .ok nl:=by
 rw [List.drop_of_length_le (by omega)]; rfl
theorem of_err {k:Int}:∀ {l:List Val} {nl:Bool} {x:Int},ofG k l nl = .error x→x=14
 | [],nl,x,h=>by cases h
 | v::r,nl,x,h=>by
  rw [ofG] at h
  split at h
  ·exact of_err h
  ·split at h
   ·exact of_err h
   ·cases h; rfl
def kinK (a b:Val):Int:=if a.k=0 then b.k else a.k
def txtQ (op:Int) (a b:Val):Bool:=decide (op=4)&&(decide (a.k=2)||decide (b.k=2))
def sumK (op:Int) (a b:Val):Int:=if txtQ op a b then 2 else 1
def sumsE (op:Int) (a b:Val):EV:=match ofG (sumK op a b) [a,b] false with
 | .error x => .error x
 | .ok true => .ok v0
 | .ok false=>if txtQ op a b then joinE a.s b.s else reckE op a.n b.n
def trusE (op:Int) (a b:Val):EV:=match ofG 3 [a,b] false with
 | .error x => .error x
 | .ok nl=>if a=truV (decide (op=15))∨b=truV (decide (op=15)) then .ok (truV (decide (op=15))) else if nl then .ok v0 else .ok (truV (decide (op=14)))
def cmpE (op:Int) (a b:Val):EV:=match ofG (kinK a b) [a,b] false with
 | .error x => .error x
 | .ok _=>if op=8 then .ok (truV (decide (a=b))) else if op=9 then .ok (truV (!decide (a=b))) else if kinK a b=3 then .error 14 else if a.k=0∨b.k=0 then .ok v0
  else if op=10 then .ok (truV (decide (cmpV a b<0))) else if op=11 then .ok (truV (decide (cmpV a b≤0))) else if op=12 then .ok (truV (decide (0<cmpV a b))) else .ok (truV (decide (0≤cmpV a b)))
end Go.Proofs.YtbmmnalndollkaaGreatDoor
namespace Go.Proofs.YtbmmnalndollkaaGreatDoor
open Go Go.Dx Go.RowKit
def nameG (s:List UInt8):List Col→List Val→EV
 | c::l,v::r=>if c.name=s then .ok v else nameG s l r
 | _,_ => .error 13
def evX (l:List Col) (row:List Val):Nat→Ex→EV
 | 0,_ => .error 0
 | k+1,x =>
  if x.op=1 then .ok x.v
  else if x.op=2 then nameG x.s l row
  else match evX l row k (x.l.getD 0 ex0) with
   | .error e => .error e
   | .ok a =>
    if x.op=3 then (match ofG 1 [a] false with
     | .error e => .error e
     | .ok true => .ok a
     | .ok false=>numR (ovr (0 - a.n)))
    else if x.op=16 then (match ofG 3 [a] false with
     | .error e => .error e
     | .ok _=>if a=truV true then evX l row k (x.l.getD 1 ex0) else evX l row k (x.l.getD 2 ex0))
    else match evX l row k (x.l.getD 1 ex0) with
     | .error e => .error e
     | .ok b =>
      if x.op=4∨x.op=5∨x.op=6∨x.op=7 then sumsE x.op a b
      else if x.op=14∨x.op=15 then trusE x.op a b
      else cmpE x.op a b
end Go.Proofs.YtbmmnalndollkaaGreatDoor
namespace Go.Proofs.YtbmmnalndollkaaGreatDoor
open Go Go.Dx Go.RowKit
def okV (v:Val):Prop:=valOk v=true∧valB v
theorem i64n {n:Int} (h : -9223372036854775808≤n∧n≤9223372036854775807):i64 n:=h
theorem ok_v0:okV v0:=⟨by decide,i64n (by decide),i64n (by decide)⟩
theorem ok_tru (b:Bool):okV (truV b):=by cases b <;> exact ⟨by decide,i64n (by decide),i64n (by decide)⟩
theorem ok_num {n:Int} (h:I64 n):okV ⟨1,n,[]⟩:=⟨by simp [valOk],i64n (n:=1) (by decide),h⟩
theorem numR_good {n:Int} {v:Val} (h:numR (ovr n) = .ok v):okV v:=by
 unfold ovr at h
 split at h
 ·rename_i hb
  rw [numR,if_pos rfl] at h
  cases h
  exact ok_num hb
 ·simp [numR] at h
theorem reck_good {op a b:Int} {v:Val} (h:reckE op a b = .ok v):okV v:=by
 unfold reckE reckR at h
 split at h
 ·exact numR_good h
 ·split at h
  ·exact numR_good h
  ·split at h
   ·exact numR_good h
   ·unfold divR at h
    split at h
    ·simp [numR] at h
    ·exact numR_good h
theorem ofG_two {k:Int} {a b:Val} (h:ofG k [a,b] false = .ok false):a.k=k∧b.k=k:=by
 simp only [ofG] at h
 by_cases h1:a.k=k
 ·rw [if_pos h1] at h
  by_cases h2:b.k=k
  ·exact ⟨h1,h2⟩
  ·rw [if_neg h2] at h; split at h <;> cases h
 ·rw [if_neg h1] at h
  split at h
  ·by_cases h2:b.k=k
   ·rw [if_pos h2] at h; cases h
   ·rw [if_neg h2] at h; split at h <;> cases h
  ·cases h
theorem text_of {v:Val} (h:okV v) (hk:v.k=2):plainS v.s=true:=by
 have:=h.1
 unfold valOk at this
 rw [if_neg (by omega),if_neg (by omega),if_pos hk,Bool.and_eq_true] at this
 exact this.2
theorem len_of {v:Val} (h:okV v):v.s.length≤40:=by
 have:=h.1
 unfold valOk at this
 split at this
 ·simp only [Bool.and_eq_true,decide_eq_true_eq] at this; rw [this.2]; simp
 ·split at this
  ·simp only [decide_eq_true_eq] at this; rw [this]; simp
  ·split at this
   ·simp only [plainS,Bool.and_eq_true,decide_eq_true_eq] at this; exact this.2.1
   ·split at this
    ·simp only [Bool.and_eq_true,decide_eq_true_eq] at this; rw [this.1]; simp
    ·cases this
theorem sums_good {op:Int} {a b v:Val} (ha:okV a) (hb:okV b) (h:sumsE op a b = .ok v):okV v:=by
 unfold sumsE at h
 split at h
 ·cases h
 ·cases h; exact ok_v0
 ·rename_i hof
  obtain ⟨h1,h2⟩:=ofG_two hof
  by_cases hq:txtQ op a b=true
  ·rw [if_pos hq] at h
   rw [sumK,if_pos hq] at h1 h2
   unfold joinE at h
   split at h
   ·cases h
   ·rename_i hl
    cases h
    have p1:=text_of ha h1
    have p2:=text_of hb h2
    simp only [plainS,Bool.and_eq_true,decide_eq_true_eq] at p1 p2
    refine ⟨?_,i64n (n:=2) (by decide),i64n (n:=0) (by decide)⟩
    simp only [valOk,plainS]
    simp only [List.all_append,List.length_append]
    rw [p1.2,p2.2]
    simp; omega
  ·rw [if_neg hq] at h; exact reck_good h
theorem trus_good {op:Int} {a b v:Val} (h:trusE op a b = .ok v):okV v:=by
 unfold trusE at h
 split at h
 ·cases h
 ·split at h
  ·cases h; exact ok_tru _
  ·split at h
   ·cases h; exact ok_v0
   ·cases h; exact ok_tru _
theorem cmp_good {op:Int} {a b v:Val} (h:cmpE op a b = .ok v):okV v:=by
 unfold cmpE at h
 split at h
 ·cases h
 ·repeat' split at h
  all_goals cases h
  all_goals first | exact ok_tru _ | exact ok_v0
theorem nameG_good {s:List UInt8}:∀ {l:List Col} {row:List Val} {v:Val},(∀ w∈row,okV w)→nameG s l row = .ok v→okV v
 | [],row,v,_,h=>by simp [nameG] at h
 | c::l,[],v,_,h=>by simp [nameG] at h
 | c::l,w::row,v,hr,h=>by
  unfold nameG at h
  split at h
  ·cases h; exact hr _ (by simp)
  ·exact nameG_good (λ w hw=>hr w (by simp [hw])) h
theorem right_val1 {x:Ex} (h:rightS x=true) (h1:x.op=1):valOk x.v=true:=by
 rw [right_eq,if_pos h1] at h
 simp only [Bool.and_eq_true] at h
 exact h.2.1.2
theorem evX_good {l:List Col} {row:List Val} (hrow:∀ w∈row,okV w) {h:View}:∀ (k:Nat) (x:Ex) (cs:List Value) (v:Val),RX h cs x→rightS x=true→evX l row k x = .ok v→okV v
 | 0,x,cs,v,_,_,e=>by cases e
 | k+1,x,cs,v,hx,hr,e=>by
  obtain ⟨ad,cap,_,_,hv,hl⟩:=hx.inv
  unfold evX at e
  by_cases h1:x.op=1
  ·rw [if_pos h1] at e; cases e; exact ⟨right_val1 hr h1,hv⟩
  rw [if_neg h1] at e
  by_cases h2:x.op=2
  ·rw [if_pos h2] at e; exact nameG_good hrow e
  rw [if_neg h2] at e
  obtain ⟨hop,hlen,hch⟩:=right_sub hr h1 h2
  have hc:=cnt_pos hop
  have IH:∀ i,i<x.l.length→∀ w,evX l row k (x.l.getD i ex0) = .ok w→okV w:=λ i hi w hw=>by
   obtain ⟨_,_,cs',_,hx',_⟩:=hl.at hi
   exact evX_good hrow k _ cs' w hx' (hch _ (getD_mem x.l i ex0 hi)) hw
  split at e
  ·cases e
  ·rename_i a ha
   have ga:=IH 0 (by omega) a ha
   split at e
   ·rename_i h3
    split at e
    ·cases e
    ·cases e; exact ga
    ·exact numR_good e
   ·split at e
    ·rename_i h3 h4
     have:=hc.2.2.2 h4
     split at e
     ·cases e
     ·split at e
      ·exact IH 1 (by omega) v e
      ·exact IH 2 (by omega) v e
    ·rename_i h3 h4
     have:=hc.2.2.1 (by omega)
     split at e
     ·cases e
     ·rename_i b hb
      have gb:=IH 1 (by omega) b hb
      split at e
      ·exact sums_good ga gb e
      ·split at e
       ·exact trus_good e
       ·exact cmp_good e
end Go.Proofs.YtbmmnalndollkaaGreatDoor
namespace Go.Proofs.YtbmmnalndollkaaGreatDoor
open Go Go.Dx Go.RowKit
def numX (n:Int):Ex:=KX 1 ⟨1,n,[]⟩ []
def exB:Ex := .mk 14 v0 [] [KX 1 v0 [],KX 1 ⟨3,0,[]⟩ []]
theorem right_num {n:Int} (h:0≤n):rightS (numX n)=true:=by
 rw [numX,KX,right_mk]; simp [cntS,valOk,h]
end Go.Proofs.YtbmmnalndollkaaGreatDoor
namespace Go.Proofs.YtbmmnalndollkaaGreatDoor
open Go Go.Dx Go.RowKit
theorem rt_ge (l:List Tok) {i lev:Nat} (h:i≤l.length):i≤(readT l i lev).2.1∧(readT l i lev).2.1≤l.length:=by
 have:=rd_ge l (needS l lev i) lev i false h
 unfold readT
 split <;> exact this
theorem rt_nd {l:List Tok} (hl:TokN l) (i lev:Nat):Nd (readT l i lev).1:=by
 have:=rd_nd hl (needS l lev i) lev i false
 unfold readT
 split
 ·exact nd0
 ·exact this
theorem rt_right {l:List Tok} (hl:∀ t∈l,rightT t=true) {i lev:Nat} (h:(readT l i lev).2.2=0):rightS (readT l i lev).1=true:=by
 have hr:=rd_rt hl (needS l lev i) lev i false
 unfold readT at h ⊢
 split
 ·rename_i hb; rw [if_pos hb] at h; exact absurd (show (11:Int)=0 from h) (by decide)
 ·rename_i hb; exact hr (by simpa using hb)
section rc
variable {l:List Tok}
theorem ex_ge {p:CSt} (h:p.1≤l.length):p.1≤(exprC l p).2.1∧(exprC l p).2.1≤l.length:=by
 unfold exprC
 split
 ·exact ⟨Nat.le_refl _,h⟩
 ·exact rt_ge l h
theorem ex_nd (hl:TokN l) (p:CSt):Nd (exprC l p).1:=by
 unfold exprC
 split
 ·exact nd0
 ·exact rt_nd hl _ _
theorem ex_ok (hl:∀ t∈l,rightT t=true) {p:CSt} (h:(exprC l p).2.2=false):p.2=false∧rightS (exprC l p).1=true:=by
 unfold exprC at h ⊢
 split
 ·rename_i hp; rw [if_pos hp] at h; rw [hp] at h; cases h
 ·rename_i hp
  rw [if_neg hp] at h
  exact ⟨by simpa using hp,rt_right hl (by simpa using h)⟩
theorem mC_ge {p:CSt} (s:List UInt8) (h:p.1≤l.length):p.1≤(mustC l p s).1∧(mustC l p s).1≤l.length:=by
 unfold mustC
 split
 ·rename_i ho
  have:=(on_lt ho (by decide)).1
  exact ⟨Nat.le_succ _,this⟩
 ·exact ⟨Nat.le_refl _,h⟩
theorem mC_ok {p:CSt} {s:List UInt8} (h:(mustC l p s).2=false):p.2=false:=by
 unfold mustC at h
 split at h
 ·exact h
 ·cases h
theorem in_ge {p:CSt} (lo:Bool) (h:p.1≤l.length):p.1≤(inC l p lo).2.1∧(inC l p lo).2.1≤l.length:=by
 have h1:=ex_ge h
 have h2:=mC_ge [46,46] h1.2
 have h3:=ex_ge h2.2
 have h4:=mC_ge [93] h3.2
 unfold inC
 split
 ·rename_i ho
  have:=(on_lt ho (by decide)).1
  refine ⟨?_,this⟩
  show p.1≤_+1
  omega
 ·exact ⟨by show p.1≤(mustC l _ [93]).1; omega,h4.2⟩
theorem in_ok (hl:∀ t∈l,rightT t=true) {p:CSt} {lo:Bool} (h:(inC l p lo).2.2=false):p.2=false∧rightS (inC l p lo).1.a=true∧rightS (inC l p lo).1.b=true:=by
 have key:(exprC l (mustC l (exprC l p).2 [46,46])).2.2=false:=by
  unfold inC at h
  split at h
  ·exact h
  ·exact mC_ok h
 have h2:=ex_ok hl key
 have h3:=ex_ok hl (mC_ok h2.1)
 refine ⟨h3.1,?_⟩
 unfold inC
 split
 ·exact ⟨h3.2,h2.2⟩
 ·exact ⟨h3.2,h2.2⟩
theorem in_nd (hl:TokN l) (p:CSt) (lo:Bool):Nd (inC l p lo).1.a∧Nd (inC l p lo).1.b∧(inC l p lo).1.k=6:=by
 unfold inC
 split
 ·exact ⟨ex_nd hl _,ex_nd hl _,rfl⟩
 ·exact ⟨ex_nd hl _,ex_nd hl _,rfl⟩
theorem test_cases (p:CSt):(∃ q k,testC l p=oneC l q k∧1≤k∧k≤5∧q.2=p.2∧(q.1=p.1∨(q.1=p.1+1∧p.1<l.length)))∨∃ lo,testC l p=inC l (p.1+1,p.2) lo∧p.1<l.length:=by
 unfold testC
 split
 ·rename_i h; exact .inl ⟨_,_,rfl,by decide,by decide,rfl,.inr ⟨rfl,(on_lt h (by decide)).1⟩⟩
 split
 ·rename_i h; exact .inl ⟨_,_,rfl,by decide,by decide,rfl,.inr ⟨rfl,(on_lt h (by decide)).1⟩⟩
 split
 ·rename_i h; exact .inl ⟨_,_,rfl,by decide,by decide,rfl,.inr ⟨rfl,(on_lt h (by decide)).1⟩⟩
 split
 ·rename_i h; exact .inl ⟨_,_,rfl,by decide,by decide,rfl,.inr ⟨rfl,(on_lt h (by decide)).1⟩⟩
 split
 ·rename_i h; exact .inr ⟨_,rfl,(on_lt h (by decide)).1⟩
 split
 ·rename_i h; exact .inr ⟨_,rfl,(on_lt h (by decide)).1⟩
 ·exact .inl ⟨_,_,rfl,by decide,by decide,rfl,.inl rfl⟩
theorem test_ge {p:CSt} (h:p.1≤l.length):p.1≤(testC l p).2.1∧(testC l p).2.1≤l.length:=by
 rcases test_cases (l:=l) p with ⟨q,k,e,_,_,_,hq⟩ | ⟨lo,e,hp⟩
 ·rw [e]
  have h1:p.1≤q.1∧q.1≤l.length:=by omega
  have:=ex_ge h1.2
  exact ⟨Nat.le_trans h1.1 this.1,this.2⟩
 ·rw [e]
  have:=in_ge (p:=(p.1+1,p.2)) lo hp
  exact ⟨Nat.le_trans (Nat.le_succ _) this.1,this.2⟩
def okTs (t:Tst):Prop:=rightS t.a=true∧(rightS t.b=true∨t.b=ex0)
def ndTs (t:Tst):Prop:=Nd t.a∧Nd t.b∧i64 t.k
theorem test_ok (hl:∀ t∈l,rightT t=true) {p:CSt} (h:(testC l p).2.2=false):p.2=false∧okTs (testC l p).1:=by
 rcases test_cases (l:=l) p with ⟨q,k,e,_,_,h2,hq⟩ | ⟨lo,e,hp⟩
 ·rw [e] at h ⊢
  have:=ex_ok hl (p:=q) h
  exact ⟨by rw [← h2]; exact this.1,this.2,.inr rfl⟩
 ·rw [e] at h ⊢
  have:=in_ok hl h
  exact ⟨this.1,this.2.1,.inl this.2.2⟩
theorem test_nd (hl:TokN l) (p:CSt):ndTs (testC l p).1:=by
 rcases test_cases (l:=l) p with ⟨q,k,e,k1,k2,_⟩ | ⟨lo,e,hp⟩
 ·rw [e]; exact ⟨ex_nd hl _,nd0,i64_s (by show -1000≤k∧k≤1000; omega)⟩
 ·rw [e]
  have:=in_nd hl (p.1+1,p.2) lo
  exact ⟨this.1,this.2.1,by rw [this.2.2]; exact i64_s (by omega)⟩
theorem tests_ge:∀ (n:Nat) (p:CSt),p.1≤l.length→p.1≤(testsC l n p).2.1∧(testsC l n p).2.1≤l.length
 | 0,p,h=>⟨Nat.le_refl _,h⟩
 | n+1,p,h=>by
  have h1:=test_ge h
  rw [testsC]
  split
  ·rename_i ho
   have h2:=(on_lt ho (by decide)).1
   have h3:=tests_ge n ((testC l p).2.1+1,(testC l p).2.2) h2
   exact ⟨by have:=h3.1; show p.1≤(testsC l n _).2.1; simp only at this; omega,h3.2⟩
  ·exact h1
theorem tests_ok (hl:∀ t∈l,rightT t=true):∀ (n:Nat) (p:CSt),(testsC l n p).2.2=false→p.2=false∧∀ t∈(testsC l n p).1,okTs t
 | 0,p,h=>⟨h,λ t ht=>by cases ht⟩
 | n+1,p,h=>by
  rw [testsC] at h ⊢
  split
  ·rename_i ho
   rw [if_pos ho] at h
   have h3:=tests_ok hl n _ h
   have h4:=test_ok hl (p:=p) h3.1
   refine ⟨h4.1,λ t ht=>?_⟩
   rcases List.mem_cons.1 ht with rfl | ht
   ·exact h4.2
   ·exact h3.2 t ht
  ·rename_i ho
   rw [if_neg ho] at h
   have h4:=test_ok hl (p:=p) h
   refine ⟨h4.1,λ t ht=>?_⟩
   rcases List.mem_cons.1 ht with rfl | ht
   ·exact h4.2
   ·cases ht
theorem tests_nd (hl:TokN l):∀ (n:Nat) (p:CSt),∀ t∈(testsC l n p).1,ndTs t
 | 0,p,t,ht=>by cases ht
 | n+1,p,t,ht=>by
  rw [testsC] at ht
  split at ht
  ·rcases List.mem_cons.1 ht with rfl | ht
   ·exact test_nd hl p
   ·exact tests_nd hl n _ t ht
  ·rcases List.mem_cons.1 ht with rfl | ht
   ·exact test_nd hl p
   ·cases ht
def dpTs (t:Tst):Prop:=deepS t.a≤1000000000∧deepS t.b≤1000000000
theorem dp0:deepS ex0≤1000000000:=by rw [show deepS ex0=1 from deep_0 _ _ _]; decide
theorem rt_dp (hl:l.length≤200) (i lev:Nat):deepS (readT l i lev).1≤1000000000:=by
 have h1:=rd_deep l (needS l lev i) lev i false
 have h2:needS l lev i≤2009:=by unfold needS; omega
 have h3:needS l lev i*(l.length+2)≤2009*202:=Nat.mul_le_mul h2 (by omega)
 unfold readT
 split
 ·exact dp0
 ·show deepS (rdF l (needS l lev i) lev i false).1≤_; omega
theorem ex_dp (hl:l.length≤200) (p:CSt):deepS (exprC l p).1≤1000000000:=by
 unfold exprC
 split
 ·exact dp0
 ·exact rt_dp hl _ _
theorem in_dp (hl:l.length≤200) (p:CSt) (lo:Bool):dpTs (inC l p lo).1:=by
 unfold inC
 split
 ·exact ⟨ex_dp hl _,ex_dp hl _⟩
 ·exact ⟨ex_dp hl _,ex_dp hl _⟩
theorem test_dp (hl:l.length≤200) (p:CSt):dpTs (testC l p).1:=by
 rcases test_cases (l:=l) p with ⟨q,k,e,_⟩ | ⟨lo,e,hp⟩
 ·rw [e]; exact ⟨ex_dp hl _,dp0⟩
 ·rw [e]; exact in_dp hl _ _
theorem tests_dp (hl:l.length≤200):∀ (n:Nat) (p:CSt),∀ t∈(testsC l n p).1,dpTs t
 | 0,p,t,ht=>by cases ht
 | n+1,p,t,ht=>by
  rw [testsC] at ht
  split at ht
  ·rcases List.mem_cons.1 ht with rfl | ht
   ·exact test_dp hl p
   ·exact tests_dp hl n _ t ht
  ·rcases List.mem_cons.1 ht with rfl | ht
   ·exact test_dp hl p
   ·cases ht
theorem cell_ge:(cellC l).2.1≤l.length:=by
 refine (tests_ge (l:=l) (l.length+1) _ ?_).2
 split
 ·rename_i h
  simp only [negC,Bool.and_eq_true,decide_eq_true_eq] at h
  show 2≤_; omega
 ·exact Nat.zero_le _
theorem end_ge:(endC l).1≤l.length:=by
 unfold endC
 split
 ·exact (mC_ge _ cell_ge).2
 ·exact cell_ge
theorem end_ok (hl:∀ t∈l,rightT t=true) (h:(endC l).2=false):∀ t∈(cellC l).1,okTs t:=by
 have:(cellC l).2.2=false:=by
  unfold endC at h
  split at h
  ·exact mC_ok h
  ·exact h
 exact (tests_ok hl _ _ this).2
end rc
theorem lex_facts2 (s:List UInt8):(∀ t∈(lexS s).1,rightT t=true)∧(lexS s).1.length≤200∧(∀ t∈(lexS s).1,i64 t.p):=by
 have hlen:(lexS s).1.length≤200:=by
  have:=lexS_len s
  by_cases h:200<s.length
  ·rw [lexS,if_pos h]; exact Nat.zero_le _
  ·omega
 have hs:(lexS s).1≠[]→s.length≤200:=λ h=>by
  by_cases h2:200<s.length
  ·exact absurd (by rw [lexS,if_pos h2]) h
  ·omega
 rcases lexS_lay s with ⟨l,e,hl⟩ | ⟨j,e,h,_,_⟩
 ·refine ⟨λ t ht=>?_,hlen,λ t ht=>?_⟩
  ·rw [e] at ht; exact (hl.all t ht).1
  ·have h2:=hs (λ hh=>by rw [hh] at ht; cases ht)
   rw [e] at ht
   have:=lay_p hl t ht
   unfold i64; omega
 ·rw [h]; exact ⟨λ t ht=>absurd ht List.not_mem_nil,Nat.zero_le _,λ t ht=>absurd ht List.not_mem_nil⟩
end Go.Proofs.YtbmmnalndollkaaGreatDoor
namespace Go.Proofs.YtbmmnalndollkaaGreatDoor
open Go Go.Dx Go.RowKit
def RK (v:Val) (k:Int):Prop:=v.k=k∨v.k=0
def okT (r:EV) (k:Int):Prop:=match r with
 | .ok v=>RK v k
 | .error e=>e=15∨e=16∨e=5
theorem ofG_bad' {k:Int} {a b:Val} (h1:a.k=k∨a.k=0) (h2:b.k=k∨b.k=0):ofG k [a,b] false = .ok (!decide (a.k=k∧b.k=k)):=by
 simp only [ofG]
 by_cases h3:a.k=k
 ·rw [if_pos h3]
  by_cases h4:b.k=k
  ·rw [if_pos h4,decide_eq_true ⟨h3,h4⟩]; rfl
  ·rw [if_neg h4,if_pos (by omega),decide_eq_false (λ h=>h4 h.2)]; rfl
 ·rw [if_neg h3,if_pos (by omega),decide_eq_false (λ h=>h3 h.1)]
  by_cases h4:b.k=k
  ·rw [if_pos h4]; rfl
  ·rw [if_neg h4,if_pos (by omega)]; rfl
theorem num_T (n:Int):okT (numR (ovr n)) 1:=by
 unfold ovr
 split
 ·rw [numR,if_pos rfl]; exact .inl rfl
 ·exact .inl rfl
theorem reck_T (op a b:Int):okT (reckE op a b) 1:=by
 unfold reckE reckR
 split
 ·exact num_T _
 ·split
  ·exact num_T _
  ·split
   ·exact num_T _
   ·unfold divR
    split
    ·exact .inr (.inl rfl)
    ·exact num_T _
theorem sums_1 {op:Int} {a b:Val} (ha:RK a 1) (hb:RK b 1):okT (sumsE op a b) 1:=by
 have hq:txtQ op a b=false:=by
  rw [Bool.eq_false_iff]; intro h
  simp only [txtQ,Bool.and_eq_true,Bool.or_eq_true,decide_eq_true_eq] at h
  unfold RK at ha hb; omega
 have hk:sumK op a b=1:=by rw [sumK,hq]; rfl
 rw [sumsE,hk,ofG_bad' ha hb,hq]
 by_cases h:a.k=1∧b.k=1
 ·rw [decide_eq_true h]; exact reck_T _ _ _
 ·rw [decide_eq_false h]; exact .inr rfl
theorem sums_2 {op:Int} (hop:op=4) {a b:Val} (ha:RK a 2) (hb:RK b 2):okT (sumsE op a b) 2:=by
 unfold RK at ha hb
 by_cases h2:a.k=2∨b.k=2
 ·have hq:txtQ op a b=true:=by
   simp only [txtQ,Bool.and_eq_true,Bool.or_eq_true,decide_eq_true_eq]; exact ⟨hop,h2⟩
  have hk:sumK op a b=2:=by rw [sumK,hq]; rfl
  rw [sumsE,hk,ofG_bad' ha hb,hq]
  by_cases h:a.k=2∧b.k=2
  ·rw [decide_eq_true h]
   show okT (joinE a.s b.s) 2
   unfold joinE
   split
   ·exact .inr (.inr rfl)
   ·exact .inl rfl
  ·rw [decide_eq_false h]; exact .inr rfl
 ·have hq:txtQ op a b=false:=by
   rw [Bool.eq_false_iff]; intro h
   simp only [txtQ,Bool.and_eq_true,Bool.or_eq_true,decide_eq_true_eq] at h; omega
  have hk:sumK op a b=1:=by rw [sumK,hq]; rfl
  rw [sumsE,hk,ofG_bad' (by omega) (by omega),hq,decide_eq_false (by omega)]
  exact .inr rfl
theorem trus_T {op:Int} {a b:Val} (ha:RK a 3) (hb:RK b 3):okT (trusE op a b) 3:=by
 rw [trusE,ofG_bad' ha hb]
 have ht:∀ p,(truV p).k=3:=λ p=>rfl
 simp only
 split
 ·exact .inl (ht _)
 ·split
  ·exact .inr rfl
  ·exact .inl (ht _)
theorem cmp_T {op:Int} {a b:Val} (h:a.k=b.k∨a.k=0∨b.k=0) (h3:¬ op=8→¬ op=9→¬ a.k=3∧¬ b.k=3):okT (cmpE op a b) 3:=by
 have hK:(a.k=0∧kinK a b=b.k)∨(¬ a.k=0∧kinK a b=a.k):=by
  unfold kinK
  by_cases h0:a.k=0
  ·rw [if_pos h0]; exact .inl ⟨h0,rfl⟩
  ·rw [if_neg h0]; exact .inr ⟨h0,rfl⟩
 have ht:∀ p,RK (truV p) 3:=λ p => .inl rfl
 rw [cmpE,ofG_bad' (by omega) (by omega)]
 simp only
 split
 ·exact ht _
 ·rename_i h8
  split
  ·exact ht _
  ·rename_i h9
   have:=h3 h8 h9
   rw [if_neg (by omega)]
   split
   ·exact .inr rfl
   ·split
    ·exact ht _
    ·split
     ·exact ht _
     ·split <;> exact ht _
def tOk (c:Col) (v:Val):Bool:=valOk v&&fitS v.k c.kind && !(decide (c.kind=0) && !decide (v.k=0))
def typS (l:List Col) (row:List Val):Bool:=decide (l.length=row.length∧∀ i,i<l.length→tOk (l.getD i c0) (row.getD i v0)=true)
theorem tOk_rk {c:Col} {v:Val} (h:tOk c v=true):RK v c.kind:=by
 simp only [tOk,Bool.and_eq_true,Bool.not_eq_true',Bool.and_eq_false_iff,decide_eq_false_iff_not,Bool.not_eq_false',decide_eq_true_eq,fit_iff] at h
 unfold RK; omega
theorem name_skipT {s:List UInt8} {l:List Col} {row:List Val} (hlr:l.length=row.length):∀ (k:Nat),k≤l.length→(∀ j,j<k→(λ c:Col=>decide (c.name=s)) (l.getD j c0)=false)→nameG s l row=nameG s (l.drop k) (row.drop k)
 | 0,_,_=>rfl
 | k+1,hk,hn=>by
  rw [name_skipT hlr k (by omega) (λ j hj=>hn j (by omega))]
  have h1:=hn k (by omega)
  rw [List.drop_eq_getElem_cons (show k<l.length by omega),List.drop_eq_getElem_cons (show k<row.length by omega),← getD_lt l k c0 (by omega),nameG,if_neg (by simpa using h1)]
theorem name_atT {s:List UInt8} {l:List Col} {row:List Val} (hlr:l.length=row.length):(atS l s = -1∧nameG s l row = .error 13)∨∃ k:Nat,atS l s=(k:Int)∧k<l.length∧nameG s l row = .ok (row.getD k v0):=by
 rcases idx_cases (p:=λ c:Col=>decide (c.name=s)) (l:=l) c0 with ⟨h1,h2⟩ | ⟨k,h1,h2,h3,h4⟩
 ·refine .inl ⟨h1,?_⟩
  rw [name_skipT hlr l.length (Nat.le_refl _) h2,List.drop_of_length_le (l:=l) (Nat.le_refl _)]
  cases row.drop l.length <;> rfl
 ·refine .inr ⟨k,h1,h2,?_⟩
  rw [name_skipT hlr k (by omega) h4,List.drop_eq_getElem_cons h2,List.drop_eq_getElem_cons (show k<row.length by omega),← getD_lt l k c0 h2,← getD_lt row k v0 (by omega),nameG,if_pos (by simpa using h3)]
theorem getD_mapK (cl:List Col) (l:List Ex) (j:Nat) (h:j<l.length):(l.map λ y=>(kindS cl y).1).getD j 0=(kindS cl (l.getD j ex0)).1:=by
 simp [List.getD,h]
theorem evX_typed {l:List Col} {row:List Val} (hlr:l.length=row.length) (ht:∀ i,i<l.length→tOk (l.getD i c0) (row.getD i v0)=true):∀ (n:Nat) (x:Ex),SizeOf.sizeOf x<n→rightS x=true→(kindS l x).2=0→okT (evX l row n x) (kindS l x).1:=by
 intro n
 induction n with
 | zero=>intro x h; omega
 | succ n ih =>
  intro x hn hr hk
  by_cases h1:x.op=1
  ·rw [evX,if_pos h1,kind_eq,if_pos h1]; exact .inl rfl
  by_cases h2:x.op=2
  ·rw [evX,if_neg h1,if_pos h2]
   rw [kind_eq,if_neg h1,if_pos h2] at hk ⊢
   rcases name_atT (s:=x.s) hlr with ⟨h3,h4⟩ | ⟨k,h3,h4,h5⟩
   ·rw [if_pos (by omega)] at hk; simp at hk
   ·rw [if_neg (by omega),h5,h3]
    have:=tOk_rk (ht k h4)
    exact this
  obtain ⟨hop,hlen,hch⟩:=right_sub hr h1 h2
  have hc:=cnt_pos hop
  have hkids:∀ y∈x.l,(kindS l y).2=0:=by
   rcases kindL_cases l x.l with ⟨ha,_⟩ | ⟨k,hkl,_,hne,ea⟩
   ·exact ha
   ·rw [kind_eq,if_neg h1,if_neg h2,ea] at hk; exact absurd hk hne
  have hks:kindS l x=ofK (rulS x.op (x.l.map λ y=>(kindS l y).1)):=by
   rw [kind_eq,if_neg h1,if_neg h2,kindL_ok l x.l hkids]
  rw [hks] at hk ⊢
  obtain ⟨hru,hr1⟩:=ofK_ok hk
  rw [hr1]
  have IH:∀ i,i<x.l.length→okT (evX l row n (x.l.getD i ex0)) (kindS l (x.l.getD i ex0)).1:=λ i hi=>by
   have hm:=getD_mem x.l i ex0 hi
   exact ih _ (by have:=Ex.lt hm; omega) (hch _ hm) (hkids _ hm)
  have gk:=λ j hj=>getD_mapK l x.l j hj
  have hml:(x.l.map λ y=>(kindS l y).1).length=x.l.length:=List.length_map _
  generalize hks':(x.l.map λ y=>(kindS l y).1)=ks at hru hr1 gk hml ⊢
  have I0:=IH 0 (by omega)
  rw [← gk 0 (by omega)] at I0
  unfold evX
  rw [if_neg h1,if_neg h2]
  cases e0:evX l row n (x.l.getD 0 ex0) with
  | error e=>rw [e0] at I0; exact I0
  | ok a =>
   rw [e0] at I0
   have ra:RK a (ks.getD 0 0):=I0
   simp only
   by_cases h3:x.op=3
   ·rw [if_pos h3]
    rw [rul1 (by omega)] at hru ⊢
    rw [all_1 (by have:=hc.2.1 h3; omega)] at hru
    have hf:=fit_iff.1 hru
    unfold RK at ra
    simp only [ofG]
    by_cases h4:a.k=1
    ·rw [if_pos h4]; exact num_T _
    ·rw [if_neg h4,if_pos (by omega)]; exact .inr (by omega)
   rw [if_neg h3]
   by_cases h4:x.op=16
   ·rw [if_pos h4]
    have hl3:=hc.2.2.2 h4
    rw [rul6 h4] at hru ⊢
    simp only [Bool.and_eq_true,fit_iff] at hru
    have I1:=IH 1 (by omega)
    have I2:=IH 2 (by omega)
    rw [← gk 1 (by omega)] at I1
    rw [← gk 2 (by omega)] at I2
    unfold RK at ra
    have hs:=eith_spec (ks.getD 1 0) (ks.getD 2 0)
    have up:∀ (r:EV) (p q:Int),okT r p→(p=q∨p=0)→okT r q:=λ r p q h hpq=>by
     cases r with
     | ok v=>simp only [okT,RK] at h ⊢; omega
     | error e=>exact h
    have:ofG 3 [a] false = .ok (!decide (a.k=3)):=by
     simp only [ofG]
     by_cases h5:a.k=3
     ·rw [if_pos h5,decide_eq_true h5]; rfl
     ·rw [if_neg h5,if_pos (by omega),decide_eq_false h5]; rfl
    rw [this]
    simp only
    split
    ·exact up _ _ _ I1 (by omega)
    ·exact up _ _ _ I2 (by omega)
   rw [if_neg h4]
   have hl2:=hc.2.2.1 (by omega)
   have I1:=IH 1 (by omega)
   rw [← gk 1 (by omega)] at I1
   cases e1:evX l row n (x.l.getD 1 ex0) with
   | error e=>rw [e1] at I1; exact I1
   | ok b =>
    rw [e1] at I1
    have rb:RK b (ks.getD 1 0):=I1
    simp only
    unfold RK at ra rb
    by_cases h5:x.op=4
    ·rw [if_pos (by omega)]
     rw [rul2 h5] at hru ⊢
     rw [all_2 (by omega)] at hru
     simp only [Bool.and_eq_true,fit_iff] at hru
     rcases addK_spec (ks.getD 0 0) (ks.getD 1 0) with ⟨q1,q2⟩ | ⟨q1,q2⟩
     ·rw [q1] at hru ⊢; exact sums_2 h5 (by unfold RK; omega) (by unfold RK; omega)
     ·rw [q1] at hru ⊢; exact sums_1 (by unfold RK; omega) (by unfold RK; omega)
    by_cases h6:x.op=5∨x.op=6∨x.op=7
    ·rw [if_pos (by omega)]
     rw [rul1 (by omega)] at hru ⊢
     rw [all_2 (by omega)] at hru
     simp only [Bool.and_eq_true,fit_iff] at hru
     exact sums_1 (by unfold RK; omega) (by unfold RK; omega)
    rw [if_neg (by omega)]
    by_cases h7:x.op=14∨x.op=15
    ·rw [if_pos h7]
     rw [rul5 h7] at hru ⊢
     rw [all_2 (by omega)] at hru
     simp only [Bool.and_eq_true,fit_iff] at hru
     exact trus_T (by unfold RK; omega) (by unfold RK; omega)
    rw [if_neg h7]
    by_cases h8:x.op=8∨x.op=9
    ·rw [rul3 h8] at hru ⊢
     have hf:=fit_iff.1 hru
     exact cmp_T (by omega) (λ h9 h10=>by omega)
    ·rw [rul4 (by omega)] at hru ⊢
     rw [con_2 (by omega)] at hru
     simp only [Bool.and_eq_true,Bool.not_eq_true',Bool.or_eq_false_iff,decide_eq_false_iff_not,fit_iff] at hru
     exact cmp_T (by omega) (λ _ _=>by omega)
end Go.Proofs.YtbmmnalndollkaaGreatDoor
namespace Go.Proofs.YtbmmnalndollkaaGreatDoor
open Go Go.Dx Go.RowKit
abbrev CoO:=Col×List Val
structure Tab where
 name:List UInt8
 ins:List CoO
 outs:List CoO
 pol:Int
 agg:Int
 rules:List (List (List UInt8)×List (List UInt8))
structure Lin where
 cs:List Cel
 os:List Ex
structure Rdy where
 t:Tab
 ls:List Lin
def tab0:Tab:=⟨[],[],[],0,0,[]⟩
def lin0:Lin:=⟨[],[]⟩
def rdy0:Rdy:=⟨tab0,[]⟩
def colsO (l:List CoO):List Col:=l.map (·.1)
abbrev co0:CoO:=(c0,[])
abbrev ru0:List (List UInt8)×List (List UInt8):=([],[])
def firstE (f:Nat→Int):Nat→Int
 | 0=>0
 | n+1=>if firstE f n≠0 then firstE f n else f n
theorem fir_ok {f:Nat→Int}:∀ {n:Nat},(∀ j,j<n→f j=0)→firstE f n=0
 | 0,_=>rfl
 | n+1,h=>by
  rw [firstE,fir_ok (n:=n) λ j hj=>h j (by omega),if_neg (λ hh=>hh rfl)]
  exact h n (Nat.lt_succ_self _)
theorem fir_er {f:Nat→Int} {k:Nat} (hz:∀ j,j<k→f j=0) (he:f k≠0):∀ {n:Nat},k<n→firstE f n=f k
 | 0,h=>absurd h (Nat.not_lt_zero _)
 | n+1,h=>by
  rw [firstE]
  by_cases hk:k<n
  ·rw [fir_er hz he hk,if_pos he]
  ·have:k=n:=by omega
   subst this
   rw [fir_ok hz,if_neg (λ hh=>hh rfl)]
theorem fir_inv {f:Nat→Int}:∀ {n:Nat},firstE f n=0→∀ j,j<n→f j=0
 | 0,_,j,hj=>absurd hj (Nat.not_lt_zero _)
 | n+1,h,j,hj=>by
  rw [firstE] at h
  by_cases h1:firstE f n≠0
  ·rw [if_pos h1] at h; exact absurd h h1
  ·rw [if_neg h1] at h
   by_cases hjn:j=n
   ·rw [hjn]; exact h
   ·exact fir_inv (n:=n) (by simpa using h1) j (by omega)
def ordG (k:Int) (o:List Val) (i:Nat):Prop:=valOk (o.getD i v0)=true∧(o.getD i v0).k=k∧∀ j,j<i→o.getD j v0≠o.getD i v0
instance (k:Int) (o:List Val) (i:Nat):Decidable (ordG k o i):=inferInstanceAs (Decidable (_∧_))
def ordOk (asked:Bool) (p:CoO):Bool:=if asked=false then decide (p.2.length=0) else decide ((∀ i,i<p.2.length→ordG p.1.kind p.2 i)∧1≤p.2.length∧p.2.length≤8)
def colE (l:List CoO) (asked:Bool):Int:=if colsS (colsO l)≠0 then colsS (colsO l) else if l.all (ordOk asked)=false∨l.length=0 then 17 else 0
def polOk (t:Tab):Bool :=
 if t.pol<1∨6<t.pol then false else if t.agg=0 then true
 else if t.pol≠5∨t.agg<1∨4<t.agg∨t.outs.length≠1 then false
 else decide (t.agg=4)||(decide ((t.outs.getD 0 co0).1.kind=1)||(decide ((t.outs.getD 0 co0).1.kind=2) && !decide (t.agg=1)))
def frameE (t:Tab):Int :=
 if nameOk t.name=false then 13 else if colE t.ins false≠0 then colE t.ins false else if colE t.outs (decide (t.pol=3))≠0 then colE t.outs (decide (t.pol=3))
 else if polOk t=false then 17 else if 24<t.rules.length then 24 else 0
def cellE (t:Tab) (k:Nat) (s:List UInt8):Int:=if (parseC s).2.2≠0 then (parseC s).2.2 else typC (parseC s).1 (t.ins.getD k co0).1.kind (colsO t.ins)
def outE (t:Tab) (k:Nat) (s:List UInt8):Int :=
 if (parseT s).2.2≠0 then (parseT s).2.2 else if (kindT (colsO t.ins) (parseT s).1).2≠0 then (kindT (colsO t.ins) (parseT s).1).2
 else if fitS (kindT (colsO t.ins) (parseT s).1).1 (t.outs.getD k co0).1.kind=false then 14 else 0
def lineE (t:Tab) (r:List (List UInt8)×List (List UInt8)):Int :=
 if r.1.length≠t.ins.length∨r.2.length≠t.outs.length then 17
 else if firstE (λ k=>cellE t k (r.1.getD k [])) r.1.length≠0 then firstE (λ k=>cellE t k (r.1.getD k [])) r.1.length
 else firstE (λ k=>outE t k (r.2.getD k [])) r.2.length
def lineV (r:List (List UInt8)×List (List UInt8)):Lin:=⟨r.1.map λ s=>(parseC s).1,r.2.map λ s=>(parseT s).1⟩
def makeE (t:Tab):Int:=if frameE t≠0 then frameE t else firstE (λ i=>lineE t (t.rules.getD i ru0)) t.rules.length
def makeV (t:Tab):Rdy:=⟨t,t.rules.map lineV⟩
end Go.Proofs.YtbmmnalndollkaaGreatDoor
namespace Go.Proofs.YtbmmnalndollkaaGreatDoor
open Go Go.Dx Go.RowKit
theorem sound_parts {t:Tst} (h:soundT t=true):1≤t.k∧t.k≤6∧partX t.a=true∧(t.k=6→partX t.b=true)∧(t.k≠6→sameX t.b ex0=true∧t.lo=false∧t.hi=false):=by
 unfold soundT at h
 by_cases h6:t.k=6
 ·rw [if_pos h6,Bool.and_eq_true] at h
  exact ⟨by omega,by omega,h.1,λ _=>h.2,λ hh=>absurd h6 hh⟩
 ·rw [if_neg h6] at h
  by_cases h1:t.k<1∨6<t.k
  ·rw [if_pos h1] at h; cases h
  ·rw [if_neg h1] at h
   simp only [Bool.and_eq_true,Bool.not_eq_true'] at h
   exact ⟨by omega,by omega,h.1,λ hh=>absurd hh h6,λ _=>⟨h.2.1,h.2.2.1,h.2.2.2⟩⟩
theorem part_r {x:Ex} (h:partX x=true):rightS x=true∧deepS x≤12:=by
 unfold partX at h; simpa using h
theorem same_ex0 {x:Ex} (h:sameX x ex0=true):x=ex0:=by
 rw [same_eq] at h
 simp only [Bool.and_eq_true,decide_eq_true_eq] at h
 obtain ⟨⟨⟨h1,h2⟩,h3⟩,h4⟩:=h
 refine ex_eta h1 h2 h3 ?_
 cases hl:x.l with
 | nil=>rfl
 | cons y q=>rw [hl] at h4; exact absurd h4 (by show ¬ (sameXL (y::q) []=true); rw [sameXL]; decide)
end Go.Proofs.YtbmmnalndollkaaGreatDoor
namespace Go.Dx
open Go Go.RowKit
section reg
variable {c:Cx} (hT:c.T.Ok c.P)
include hT
end reg
end Go.Dx
namespace Go.Dx
open Go Go.RowKit
theorem buf_storeP {P:Program} {w:World} {T t2 sz n cap p g o:Nat} {v:Value} {xs new:List Value} (hC:BufC T sz (.slice (some ⟨g,o,none⟩) n cap) xs w.heap[g]?) (hp:p+new.length≤n*sz) (hc:v.cells=new.toArray) (hsz:SzIs P t2 new.length) (h1:allOne new=true) :
  ∃ w',(storeVar t2 ⟨g,o+p,none⟩ v).run P w = .ok () w'∧Keep [g] w w'∧BufC T sz (.slice (some ⟨g,o,none⟩) n cap) (xs.take p++new++xs.drop (p+new.length)) w'.heap[g]?:=by
 rcases hC with ⟨e,_⟩ | ⟨g',off,n',cap',cur,fz,e,hg,hf,hl,hle,hcm,hfit,hx⟩
 ·cases e
 cases e
 have hnc:n*sz≤cap*sz:=Nat.mul_le_mul_right _ hle
 obtain ⟨inf,hi,hs⟩:=hsz
 have hst:=run_storeCells_fz P g (o+p) T fz new 0 cur w hg hf (by omega) (allOne_mem h1)
 simp only [Nat.add_zero] at hst
 refine ⟨w.setRow g (cur.toList.take (o+p)++new++cur.toList.drop (o+p+new.length)).toArray,?_,keep_setRow _ _ _,.inr ⟨g,o,n,cap,_,fz,rfl,setRow_heap w g cur _ T fz hg,?_,?_,hle,hcm,?_,?_⟩⟩
 ·unfold storeVar
  simp [sizeOf,typeInfo,hi,hs,hc,hst]
 ·have:(cur.toList.take (o+p)++new++cur.toList.drop (o+p+new.length)).toArray.size=cur.size:=by
   rw [List.size_toArray,splL _ _ _ (by simp; omega)]; simp
  rw [this]; exact hf
 ·rw [splL _ _ _ (by omega)]; exact hl
 ·rw [List.size_toArray,splL _ _ _ (by simp; omega)]; simpa using hfit
 ·rw [win_upd _ _ _ _ _ hp (by simp; omega),hx]
theorem buf_cellP {w:World} {T sz n cap p g o q:Nat} {v:Value} {xs:List Value} (hC:BufC T sz (.slice (some ⟨g,o,none⟩) n cap) xs w.heap[g]?) (hq:q=o+p) (hv:xs[p]?=some v):w.cell? ⟨g,q,none⟩=some v:=by
 subst hq
 rcases hC with ⟨e,_⟩ | ⟨g',off,n',cap',cur,fz,e,hg,hf,hl,hle,hcm,hfit,hx⟩
 ·cases e
 cases e
 have hg':w.heap[g]?=some (.cells cur T fz):=hg
 rw [← hx,List.getElem?_take] at hv
 split at hv
 ·rw [List.getElem?_drop] at hv
  simp only [World.cell?,hg']
  simpa using hv
 ·cases hv
section
variable {c:Cx} (hT:c.T.Ok c.P)
include hT
theorem stW {al:List Oper} {K:KR} {t2:Nat} {x z:Operand} {ty2:TypeId} {pos2:String} {af2:Array Edge} {r:List Oper} {L:SL} {B:BL} {F:FV} {b o n cp p q T sz:Nat} {xs new:List Value} {v:Value} {sz':SV} (k:Nat)
  (hB:lkA B k=some (.e (bufE T sz (.slice (some ⟨b,o,none⟩) n cp) xs))) (hx:rdS L [] none x=some (.v (.pointer (some ⟨b,q,none⟩)))) (hq:q=o+p)
  (hz:rdS L [] none z=some sz') (hzv:dvO B sz'=some v) (hc:v.cells=new.toArray) (hp:p+new.length≤n*sz) (hsz:SzIs c.P t2 new.length) (h1:allOne new=true)
  (h:setAK B k (.e (bufE T sz (.slice (some ⟨b,o,none⟩) n cp) (xs.take p++new++xs.drop (p+new.length)))) λ B'=>WP c al r L [] B' F K) :
  WP c al (⟨none,.store t2 x z,ty2,pos2,af2,none⟩::r) L [] B F K:=by
 have _:=hT
 subst hq
 refine ⟨λ Q ac w hn hpp hD hS=>?_⟩
 obtain ⟨i,hi,hset⟩:=lkE_ix hB
 have hC:BufC T sz (.slice (some ⟨b,o,none⟩) n cp) xs w.heap[b]?:=hS.st.own _ (List.mem_of_getElem? hi)
 refine wpM_plain rfl λ K' hK=>?_
 obtain ⟨w',hst,hkeep,hC'⟩:=buf_storeP (P:=c.P) (t2:=t2) (v:=v) hC hp hc hsz h1
 have ex:ac.eval x = .pointer (some ⟨b,o+p,none⟩):=hD.fr.ev (ev_sl hx rfl)
 have ez:ac.eval z=v:=hD.fr.ev (rdS_ev inv_nil (cx:=none) (og:=none) rfl yes_none hz hzv)
 have hrun:(execOp ac.eval ⟨none,.store t2 x z,ty2,pos2,af2,none⟩).run c.P w = .ok .skip w':=by
  simp only [execOp,ex,ez,Instr.storeAt,Instr.sureAddr,Sem.run_bind,Sem.run_pure,Result.andThen_ok,hst]
 obtain ⟨B',hr,h3,h4,h5⟩:=hset h
 have hdv:=dvO_setE hB h4
 refine opM_of_skip hrun (hK _ _ (hr.run Q _ w' hn hpp ⟨?_,inv_nil⟩ ⟨by rw [h3]; exact hS.st.write hi hkeep hC',λ q' g' b o cs hq'=>?_⟩))
 ·rw [fl_congr hdv]; exact hD.fr
 ·rcases h5 _ hq' with hq' | hq'
  ·exact hS.bk _ _ _ _ _ hq'
  ·cases hq'
omit hT in
theorem own_buf {B:BL} {F:FV} {w:World} {T sz k:Nat} {v:Value} {xs:List Value} (hB:lkA B k=some (.e (bufE T sz v xs))) (hS:Sx c B F w):BufC T sz v xs (v.ownBlock.bind λ b=>w.heap[b]?):=by
 obtain ⟨q,hq,_⟩:=lkE_ix hB
 exact hS.st.own _ (List.mem_of_getElem? hq)
omit hT in
theorem own_ad {B:BL} {F:FV} {w:World} {T sz k n cp:Nat} {a:Option Addr} {xs:List Value} (hB:lkA B k=some (.e (bufE T sz (.slice a n cp) xs))) (hn:0<n) (hS:Sx c B F w):∃ b o,a=some ⟨b,o,none⟩:=by
 rcases own_buf hB hS with ⟨h1,_⟩ | ⟨g,off,n',cap,cur,fz,h1,_⟩
 ·cases h1; omega
 ·cases h1; exact ⟨g,off,rfl⟩
end
def wpAnyI (P:Program) (ops:Array Oper) (Q:Exit→Act→World→Prop) (R:Nat→World→World→Prop):Nat→Array Bool→Act→World→Prop
 | 0,listed,a,w=>Region.ready .any ops listed=[]∧Q .normal a w
 | f+1,listed,a,w=>(Region.ready .any ops listed=[]→Q .normal a w)∧∀ i∈Region.ready .any ops listed,wpOp P ops Q i (λ a' w'=>R i w w'∧wpAnyI P ops Q R f (listed.setIfInBounds i true) a' w') a w
section anyI
variable {P:Program} {ops:Array Oper} {Q:Exit→Act→World→Prop} {R:Nat→World→World→Prop}
theorem wpAny_of_I:∀ (f:Nat) (listed:Array Bool) (a:Act) (w:World),wpAnyI P ops Q R f listed a w→wpAny P .any ops Q f listed a w
 | 0,_,_,_,h=>h
 | f+1,_,_,_,h=>⟨h.1,λ i hi=>wpOp_mono (λ a' w' h'=>wpAny_of_I f _ a' w' h'.2) (h.2 i hi)⟩
theorem wpAnyI_first {i:Nat} {oi:Oper} {v:Value} {T:World→Prop} (hi:ops[i]?=some oi) (hsel:Region.noSelect ops=true) (hQ:∀ c a w,Q (.panic c) (a.put oi.dst v) w→Q (.panic c) a w)
  (hnd:∀ j,j≠i→(∃ f,depB ops f j i=true)∨∀ w w',T w→R j w w'→T w') (hR:∀ w,R i w w):∀ (f:Nat) (listed:Array Bool) (a:Act) (w:World),Closed ops listed →
   (∀ j oj,ops[j]?=some oj→j≠i→listed.getD j true=false→(∀ e∈oj.after,Region.binds .any e=true→e.on≠i)→oi.apart ops oj=true) →
   i∈Region.ready .any ops listed→YieldsIf P ops T oi v a→T w→wpAnyI P ops Q R f (listed.setIfInBounds i true) (a.put oi.dst v) w→wpAnyI P ops Q R (f+1) listed a w:=by
 intro f
 induction f with
 | zero =>
  intro listed a w _ _ hr hy hS H
  refine ⟨λ h=>(by rw [h] at hr; cases hr),λ j hj=>?_⟩
  by_cases hji:j=i
  ·subst hji; exact hy.wpOp hi hS ⟨hR _,H⟩
  ·exfalso
   obtain ⟨h1,o,ho,hall⟩:=mem_ready.1 hj
   have:j∈Region.ready .any ops (listed.setIfInBounds i true):=mem_ready.2 ⟨by rw [getD_set_ne' true (Ne.symm hji)]; exact h1,o,ho,λ e he hb=>by
    have:=hall e he hb
    by_cases hk:i=e.on
    ·have h2:=(mem_ready.1 hr).1
     rw [hk] at h2
     rw [getD_both h2] at this; cases this
    ·rw [getD_set_ne' false hk]; exact this⟩
   rw [H.1] at this
   cases this
 | succ f ih =>
  intro listed a w hc hfree hr hy hS H
  refine ⟨λ h=>(by rw [h] at hr; cases hr),λ j hj=>?_⟩
  by_cases hji:j=i
  ·subst hji; exact hy.wpOp hi hS ⟨hR _,H⟩
  ·obtain ⟨hjun,oj,hoj,hall⟩:=mem_ready.1 hj
   have hiun:=(mem_ready.1 hr).1
   have hnot:∀ e∈oj.after,Region.binds .any e=true→e.on≠i:=λ e he hb heq=>by
    have h1:=hall e he hb
    rw [heq,getD_both hiun] at h1; cases h1
   have hjr:j∈Region.ready .any ops (listed.setIfInBounds i true):=mem_ready.2 ⟨by rw [getD_set_ne' true (Ne.symm hji)]; exact hjun,oj,hoj,λ e he hb=>by
    rw [getD_set_ne' false (Ne.symm (hnot e he hb))]; exact hall e he hb⟩
   have h1:=H.2 j hjr
   have h2:=wpOp_putIf hoj (hfree j oj hoj hji hjun hnot) (λ cs b=>Region.noSelect_spec hsel i oi cs b hi) (λ cs b=>Region.noSelect_spec hsel j oj cs b hoj) hQ hy h1
   have hSn:∀ w',R j w w'→T w':=λ w' h=>by
    rcases hnd j hji with ⟨f',hf'⟩ | hT
    ·have:=depB_listed hc f' j i oj hoj hall hf'
     rw [getD_both hiun] at this; cases this
    ·exact hT w w' hS h
   refine wpOp_mono (λ a' w' h3=>⟨h3.2.1,ih (listed.setIfInBounds j true) a' w' (hc.set hj) (λ k ok hk hki hun hno=>?_) ?_ h3.1 (hSn w' h3.2.1) ?_⟩) h2
   ·refine hfree k ok hk hki ?_ hno
    by_cases hjk:j=k
    ·subst hjk; exact hjun
    ·rw [getD_set_ne' true hjk] at hun; exact hun
   ·obtain ⟨h4,o,ho,hall2⟩:=mem_ready.1 hr
    refine mem_ready.2 ⟨by rw [getD_set_ne' true hji]; exact h4,o,ho,λ e he hb=>?_⟩
    by_cases hk:j=e.on
    ·have:=hall2 e he hb
     rw [← hk,getD_both hjun] at this; cases this
    ·rw [getD_set_ne' false hk]; exact hall2 e he hb
   ·rw [Array.setIfInBounds_comm _ _ hji]
    exact h3.2.2
end anyI
def mvX (c:Cx) (al:List Oper) (F:FV) (S:World→Prop) (ex hd:List Nat):List Nat→SL→BL→(SL→BL→Prop)→Prop
 | [],L,B,K=>K L B
 | i::r,L,B,K=>match nthV al i with
  | some ⟨some d,op,ty,pos,af,none⟩=>(match memF hd d with
   | true=>∃ v,(∀ w,S w→Pu c.P (fl L [] B) ⟨some d,op,ty,pos,af,none⟩ w v)∧Nat.blt d c.n=true∧mvX c al F S ex hd r ((d,.v v)::L) B K
   | false=>mvO c F ex d op L B λ L B=>mvX c al F S ex hd r L B K)
  | some ⟨some d,op,ty,pos,af,some (j,b)⟩=>guardAt al L [] j b λ _ g=>(g=true→(match memF hd d with
   | true=>∃ v,(∀ w,S w→Pu c.P (fl L [] B) ⟨some d,op,ty,pos,af,none⟩ w v)∧Nat.blt d c.n=true∧mvX c al F S ex hd r ((d,.v v)::L) B K
   | false=>mvO c F ex d op L B λ L B=>mvX c al F S ex hd r L B K))∧(g=false→bif Nat.blt d c.n then mvX c al F S ex hd r ((d,.v undef)::L) B K else False)
  | _=>False
def tlX (c:Cx) (al:List Oper) (BS:BL) (F0:FV):List Nat→SL→IL→BL→FV→KR→Prop
 | [],L,I,B,F,K=>K L I B F
 | j::r,L,I,B,F,K=>match nthV al j with
  | some o=>WP c al [o] L I B F λ L I B F=>keepsB BS F0 B F∧tlX c al BS F0 r L I B F K
  | none=>False
def handB (l:List Oper) (hd:List Nat) (i:Nat):Bool:=match nthV l i with
 | some ⟨some d,_,_,_,_,_⟩=>memF hd d
 | _=>false
def chkX (l:List Oper) (mv rest hd:List Nat):Bool :=
 Region.noSelect l.toArray&&(mv.all λ i => !memF rest i)&&(rest.all λ j=>mv.all λ i => !handB l hd i||depB l.toArray l.length j i)&&Nat.beq (mv.length+rest.length) l.length&&chkM l.toArray mv (Array.replicate l.length false) (chkR l.toArray rest)
theorem memF_of:∀ {r:List Nat} {j:Nat},j∈r→memF r j=true
 | k::r,j,h=>by
  by_cases hk:k=j
  ·subst hk; simp [memF]
  ·rw [memF,beq_ne hk]
   rcases List.mem_cons.1 h with h | h
   ·exact absurd h.symm hk
   ·exact memF_of h
section reg
variable {c:Cx} (hT:c.T.Ok c.P)
include hT
omit hT in
def RI (c:Cx) (B0:BL) (F:FV) (ex rest:List Nat) (j:Nat) (w w':World):Prop:=match memF rest j with
 | true=>WOk c.h0 F (exB ex B0) w'
 | false=>w'=w
omit hT in
theorem tlX_sound {l:List Oper} {B0:BL} {F0:FV} {ex rs:List Nat} {K:KR} {Q:Exit→Act→World→Prop} (hmd:c.md = .wp) (hn:NormOk c K Q) :
  ∀ (rest:List Nat) (L:SL) (I:IL) (B:BL) (F:FV) (listed:Array Bool) (a:Act) (w:World),chkR l.toArray rest listed=true→(∀ j∈rest,memF rs j=true)→tlX c l (exB ex B0) F0 rest L I B F K→Dn c L I B a→Sx c B F w→wpAnyI c.P l.toArray (panQ c Q) (RI c B0 F0 ex rs) rest.length listed a w
 | [],L,I,B,F,listed,a,w,hk,_,h,hD,hS=>⟨by simpa [chkR] using hk,hn L I B F a w h hD hS⟩
 | j::r,L,I,B,F,listed,a,w,hk,hnd,h,hD,hS=>by
  simp only [chkR,Bool.and_eq_true,decide_eq_true_eq] at hk
  unfold tlX at h
  split at h
  ·rename_i o ho
   have hrd:=hk.1
   have hoj:l.toArray[j]?=some o:=by rw [nthV_eq] at ho; simpa using ho
   have hnj:=hnd j (List.mem_cons_self ..)
   refine ⟨λ h0=>(by rw [hrd] at h0; cases h0),λ i hi=>?_⟩
   rw [hrd] at hi
   obtain rfl:=List.mem_singleton.1 hi
   have ih:=λ L I B F a w=>tlX_sound (B0:=B0) (F0:=F0) (ex:=ex) (rs:=rs) hmd hn r L I B F (listed.setIfInBounds i true) a w hk.2 (λ j hj=>hnd j (List.mem_cons_of_mem _ hj))
   have hrun:=h.run (λ e a' w'=>match e with
    | .normal=>RI c B0 F0 ex rs i w w'∧wpAnyI c.P l.toArray (panQ c Q) (RI c B0 F0 ex rs) r.length (listed.setIfInBounds i true) a' w'
    | e=>panQ c Q e a' w') a w (λ L' I' B' F' a' w' hk' hD' hS'=>⟨by unfold RI; rw [hnj]; exact keepsB_wok hk'.1 hS' (λ k b T cs h=>exB_mem h),ih _ _ _ _ _ _ hk'.2 hD' hS'⟩) (λ ch a w h1 h2 h3=>⟨h1,h2,h3⟩) hD hS
   rw [hmd] at hrun
   simp only [wpM,wpList] at hrun
   unfold wpOp
   rw [hoj]
   simp only
   split
   ·rename_i hw
    rw [if_pos hw] at hrun
    rcases hrun with hrun | ⟨h1,h2⟩
    ·exact .inl (oper_wpQ (λ _ _ _ h=>h) (λ ⟨a,w,h⟩=>⟨a,w,h⟩) hrun)
    ·exact .inr ⟨h1,let ⟨a,w,h⟩:=h2; ⟨a,w,h⟩⟩
   ·rename_i hw
    rw [if_neg hw] at hrun
    exact hrun
  ·exact h.elim
theorem mvO_soundI {l:List Oper} {R:Nat→World→World→Prop} {ex:List Nat} {F:FV} {Q:Exit→Act→World→Prop} {m i d:Nat} {op:Op} {ty:TypeId} {pos:String} {af:Array Edge} {gd:Option (Nat×Bool)} {L:SL} {B B0:BL} {listed:Array Bool} {a:Act} {w:World} {K:SL→BL→Prop} (hsel:Region.noSelect l.toArray=true)
  (hoi:l.toArray[i]?=some ⟨some d,op,ty,pos,af,gd⟩) (hw:Region.wanted ⟨some d,op,ty,pos,af,gd⟩ (yielded l.toArray a.tmps)=true) (hr:i∈Region.ready .any l.toArray listed) (hfree:Region.free .any l.toArray listed i=true) (hc:Closed l.toArray listed)
  (hnd:∀ j w w',WOk c.h0 F (exB ex B0) w→R j w w'→WOk c.h0 F (exB ex B0) w') (hR:∀ w,R i w w) (hSw:∀ w,WOk c.h0 F (exB ex B0) w→WOk c.h0 F (exB ex B) w) (h0:WOk c.h0 F (exB ex B0) w) (h:mvO c F ex d op L B K) (hD:Dn c L [] B a) (hS:Sx c B F w)
  (H:∀ L' B' v,K L' B'→(∀ w,WOk c.h0 F (exB ex B0) w→WOk c.h0 F (exB ex B') w)→Dn c L' [] B' (a.put (some d) v)→Sx c B' F w→wpAnyI c.P l.toArray (panQ c Q) R m (listed.setIfInBounds i true) (a.put (some d) v) w) :
  wpAnyI c.P l.toArray (panQ c Q) R (m+1) listed a w:=by
 have go:∀ (v:Value),(∀ w,WOk c.h0 F (exB ex B0) w→Pu c.P (fl L [] B) ⟨some d,op,ty,pos,af,none⟩ w v)→wpAnyI c.P l.toArray (panQ c Q) R m (listed.setIfInBounds i true) (a.put (some d) v) w→wpAnyI c.P l.toArray (panQ c Q) R (m+1) listed a w:=by
  intro v hpu h'
  exact wpAnyI_first (T:=WOk c.h0 F (exB ex B0)) (v:=v) hoi hsel (λ ch a w h=>⟨h.1,by rw [← put_df a (some d) v]; exact h.2.1,h.2.2⟩) (λ j _ => .inr (hnd j)) hR m listed a w hc (Region.free_spec hoi hfree) hr (.inl ⟨hw,λ w hw=>hpu w hw a.eval λ x _ u hu=>hD.fr.ev hu⟩) h0 h'
 unfold mvO at h
 split at h
 ·rename_i t x y
  obtain ⟨s,hs,h⟩:=rd1_sound h
  obtain ⟨s',hs',h⟩:=rd1_sound h
  have hρ:yes none→∀ x s v,rdS L [] none x=some s→dvO (exB ex B) s=some v→ev (fl L [] B) x=some v:=λ _ x s v h1 h2=>rdS_ev inv_nil (cx:=none) (og:=none) rfl yes_none h1 (exB_dv h2)
  obtain ⟨b,o,cs,h,hkn,hpu⟩:=ixG_sound (B:=exB ex B) hT hρ hs hs' h
  obtain ⟨hl,hfl,h⟩:=fresh_sound h
  cases hd:Nat.blt d c.n with
  | false=>rw [hd] at h; exact h.elim
  | true =>
   rw [hd] at h
   have hB':Sx c ((d,.k none b o cs)::B) F w:=⟨by rw [oes_k]; exact hS.st,bok_k hS.bk hkn⟩
   refine go (.pointer (some ⟨b,o,none⟩)) (λ w hw=>hpu yes_none w (hSw w hw) _ _ _ _ _) (H _ _ _ h (λ w hw=>⟨(hSw w hw).vw,λ k b T cs hk=>?_⟩) ?_ hB')
   ·refine (hSw w hw).own k b T cs ?_
    simp only [exB] at hk
    by_cases hkd:d=k
    ·subst hkd; rw [lkA_eq] at hk; cases hk
    ·rwa [lkA_ne hkd] at hk
   ·refine Dn.cons (rr:=some (.pointer (some ⟨b,o,none⟩))) (hD.fr.put hd _) inv_nil (λ t=>?_) (λ u hu=>(Option.some.inj hu).symm)
    unfold kv
    simp only [lkA]
    by_cases ht:t=d
    ·subst ht; simp [dvO,lkA_eq]
    ·rw [beq_ne (Ne.symm ht),if_neg ht]
     simp only [cond_false]
     have:=kv_fl (L:=L) (I:=[]) (hfl (.k none b o cs)) t
     unfold kv at this
     simpa only [lkA] using this
 ·cases hd:(isPure op&&Nat.blt d c.n) with
  | false=>rw [hd] at h; exact h.elim
  | true =>
   rw [hd] at h
   simp only [Bool.and_eq_true] at hd
   have hρ:yes none→∀ x s v,rdS L [] none x=some s→dvO (exB ex B) s=some v→ev (fl L [] B) x=some v:=λ _ x s v h1 h2=>rdS_ev inv_nil (cx:=none) (og:=none) rfl yes_none h1 (exB_dv h2)
   obtain ⟨s,v,hs,hv,hpu⟩:=pv_sound (L:=fl L [] B) hT (exB_bok (ex:=ex) hS.bk) hρ h
   obtain ⟨_,_,h⟩:=hasN_sound hs
   refine go v (λ w hw=>hpu yes_none w (hSw w hw) _ _ _ _ _) (H _ _ _ h hSw ?_ hS)
   have hv':=exB_dv hv
   exact Dn.cons (rr:=some v) (hD.fr.put hd.2 _) inv_nil (λ t=>by
    unfold kv
    simp only [lkA]
    by_cases ht:t=d
    ·subst ht; simp [hv']
    ·rw [beq_ne (Ne.symm ht),if_neg ht]; rfl) (λ u hu=>(Option.some.inj hu).symm)
theorem mvX_sound {l:List Oper} {ex hd rs:List Nat} {B0:BL} {F:FV} {K:SL→BL→Prop} {Q:Exit→Act→World→Prop} {k:Array Bool→Bool} {m:Nat} (hsel:Region.noSelect l.toArray=true) :
  ∀ (mv:List Nat) (L:SL) (B:BL) (listed:Array Bool) (a:Act) (w:World),chkM l.toArray mv listed k=true→(∀ i∈mv,memF rs i=false)→(∀ i∈mv,handB l hd i=true→∀ j,memF rs j=true→∃ f,depB l.toArray f j i=true)→Closed l.toArray listed→(∀ w,WOk c.h0 F (exB ex B0) w→WOk c.h0 F (exB ex B) w)→Sx c B0 F w →
   mvX c l F (Sx c B0 F) ex hd mv L B K→Dn c L [] B a→Sx c B F w →
   (∀ L' B' a' listed',K L' B'→k listed'=true→Dn c L' [] B' a'→Sx c B' F w→wpAnyI c.P l.toArray (panQ c Q) (RI c B0 F ex rs) m listed' a' w)→wpAnyI c.P l.toArray (panQ c Q) (RI c B0 F ex rs) (m+mv.length) listed a w
 | [],L,B,listed,a,w,hk,_,_,_,_,_,h,hD,hS,H=>H L B a listed h hk hD hS
 | i::r,L,B,listed,a,w,hk,hmr,hnd,hc,hSw,hw,h,hD,hS,H=>by
  simp only [chkM,Bool.and_eq_true] at hk
  obtain ⟨⟨hr,hfree⟩,hk⟩:=hk
  have hr:i∈Region.ready .any l.toArray listed:=by simpa using hr
  have hmi:=hmr i (List.mem_cons_self ..)
  have hRi:∀ w,RI c B0 F ex rs i w w:=λ w=>by unfold RI; rw [hmi]
  have hq:∀ (d:Nat) (v:Value) (ch:List PanicEntry) (a:Act) (w:World),panQ c Q (.panic ch) (a.put (some d) v) w→panQ c Q (.panic ch) a w:=λ d v ch a w h=>⟨h.1,by rw [← put_df a (some d) v]; exact h.2.1,h.2.2⟩
  have hU:∀ j w w',WOk c.h0 F (exB ex B0) w→RI c B0 F ex rs j w w'→WOk c.h0 F (exB ex B0) w':=λ j w w' h h'=>by
   unfold RI at h'
   split at h'
   ·exact h'
   ·rw [h']; exact h
  have ih:=λ L' B' a' hSw' h' hD' hS'=>mvX_sound (hd:=hd) hsel r L' B' (listed.setIfInBounds i true) a' w hk (λ i hi=>hmr i (List.mem_cons_of_mem _ hi)) (λ i hi=>hnd i (List.mem_cons_of_mem _ hi)) (hc.set hr) hSw' hw h' hD' hS' H
  have one:∀ (d:Nat) (op:Op) (ty:TypeId) (pos:String) (af:Array Edge) (gd:Option (Nat×Bool)),nthV l i=some ⟨some d,op,ty,pos,af,gd⟩→l.toArray[i]?=some ⟨some d,op,ty,pos,af,gd⟩→Region.wanted ⟨some d,op,ty,pos,af,gd⟩ (yielded l.toArray a.tmps)=true→(match memF hd d with
   | true=>∃ v,(∀ w,Sx c B0 F w→Pu c.P (fl L [] B) ⟨some d,op,ty,pos,af,none⟩ w v)∧Nat.blt d c.n=true∧mvX c l F (Sx c B0 F) ex hd r ((d,.v v)::L) B K
   | false=>mvO c F ex d op L B λ L B=>mvX c l F (Sx c B0 F) ex hd r L B K)→wpAnyI c.P l.toArray (panQ c Q) (RI c B0 F ex rs) (m+(r.length+1)) listed a w:=by
   intro d op ty pos af gd hno hoi hwt h
   cases hm:memF hd d with
   | true =>
    rw [hm] at h
    obtain ⟨v,hpu,hdn,h⟩:=h
    refine wpAnyI_first (T:=Sx c B0 F) (v:=v) hoi hsel (hq d v) (λ j hji=>?_) hRi (m+r.length) listed a w hc (Region.free_spec hoi hfree) hr (.inl ⟨hwt,λ w hw=>hpu w hw a.eval λ x _ u hu=>hD.fr.ev hu⟩) hw (ih _ _ _ hSw h ?_ hS)
    ·cases hjr:memF rs j with
     | true=>exact .inl (hnd i (List.mem_cons_self ..) (by unfold handB; rw [hno]; exact hm) j hjr)
     | false=>exact .inr λ w w' h h'=>by unfold RI at h'; rw [hjr] at h'; rw [h']; exact h
    ·exact Dn.cons (rr:=some v) (hD.fr.put hdn _) inv_nil (λ t=>by
      unfold kv
      simp only [lkA]
      by_cases ht:t=d
      ·subst ht; simp [dvO]
      ·rw [beq_ne (Ne.symm ht),if_neg ht]; rfl) (λ u hu=>(Option.some.inj hu).symm)
   | false =>
    rw [hm] at h
    exact mvO_soundI hT (B0:=B0) (m:=m+r.length) hsel hoi hwt hr hfree hc hU hRi hSw (exB_wok hw.wok) h hD hS λ L' B' v h' hSw' hD' hS'=>ih L' B' _ hSw' h' hD' hS'
  unfold mvX at h
  split at h
  ·rename_i d op ty pos af ho
   exact one d op ty pos af none ho (by rw [nthV_eq] at ho; simpa using ho) (by simp [Region.wanted]) h
  ·rename_i d op ty pos af j b ho
   have hoi:l.toArray[i]?=some ⟨some d,op,ty,pos,af,some (j,b)⟩:=by rw [nthV_eq] at ho; simpa using ho
   obtain ⟨o,t,g,ho',hod,hgx,h⟩:=guardAt_sound h
   have hwt:=wanted_of (o:=⟨some d,op,ty,pos,af,some (j,b)⟩) ho' hod (λ v hv=>hD.fr.kv hv) hgx rfl
   cases hg:g with
   | true=>exact one d op ty pos af (some (j,b)) ho hoi (hwt.trans hg) (h.1 hg)
   | false =>
    have h2:=h.2 hg
    cases hd':Nat.blt d c.n with
    | false=>rw [hd'] at h2; exact h2.elim
    | true =>
     rw [hd'] at h2
     have hD':Dn c ((d,.v undef)::L) [] B (a.put (some d) undef):=Dn.cons (rr:=some undef) (hD.fr.put hd' _) inv_nil (λ t=>by
      unfold kv
      simp only [lkA]
      by_cases ht:t=d
      ·subst ht; simp [dvO]
      ·rw [beq_ne (Ne.symm ht),if_neg ht]; rfl) (λ u hu=>(Option.some.inj hu).symm)
     exact wpAnyI_first (T:=λ _=>True) (v:=undef) hoi hsel (hq d undef) (λ j _ => .inr λ _ _ _ _=>trivial) hRi (m+r.length) listed a w hc (Region.free_spec hoi hfree) hr (.inr ⟨hwt.trans hg,rfl⟩) trivial (ih _ _ _ hSw h2 hD' hS)
  ·exact h.elim
theorem regW {i:Nat} {l:List Oper} (mv rest ex hd:List Nat) {L:SL} {B:BL} {F:FV} {kn:KN} {kx:Nat→KN} {kr:KN}
  (h:mvX c l F (Sx c B F) ex hd mv L B λ L' B'=>tlX c l (exB ex B) F rest L' [] B' F λ L I B F=>pushK I L λ L=>kn L B F)
  (hq:chkX l mv rest hd=true:=by kernel_rfl) (hmd:c.md = .wp:=by rfl):CP c (.region i ⟨l⟩ true) L B F kn kx kr:=by
 simp only [chkX,Bool.and_eq_true] at hq
 obtain ⟨⟨⟨⟨hsel,hdis⟩,hfr⟩,hlen⟩,hchk⟩:=hq
 have hlen:=Nat.eq_of_beq_eq_true hlen
 refine ⟨λ Q a w hn _ _ hp hD hS=>?_⟩
 rw [hmd]
 refine wp_mono (wp_region_any (Q:=panQ c Q) hT.mix (wpAny_of_I (R:=RI c B F ex rest) _ _ _ _ ?_)) λ e a w he=>?_
 ·have hS1:Sx c B F { w with drawn:=w.drawn+1 }:=hS.step (keep_drawn w)
  have e:l.toArray.size=rest.length+mv.length:=by rw [List.size_toArray]; omega
  rw [e]
  refine mvX_sound hT (F:=F) (B0:=B) (k:=chkR l.toArray rest) hsel mv L B _ a _ (by rw [← e,List.size_toArray]; exact hchk) (λ i hi=>by have:=List.all_eq_true.1 hdis i hi; simpa using this) (λ i hi hh j hj=>?_) (λ j oj hj hl=>?_) (λ w hw=>hw) hS1 h hD hS1 (λ L' B' a' listed' hk hc hD' hS'=>tlX_sound hmd (push_ok hn) rest L' [] B' F listed' a' _ hc (λ j hj=>memF_of hj) hk hD' hS')
  ·have:=List.all_eq_true.1 (List.all_eq_true.1 hfr j (memF_mem hj)) i hi
   rw [hh] at this
   exact ⟨_,by simpa using this⟩
  ·rw [getD_replicate_false] at hl; cases hl
 ·cases e with
  | panic ch=>exact hp ch a w he.1 he.2.1 he.2.2
  | _=>exact he
end reg
end Go.Dx
namespace Go.Dx
open Go Go.RowKit
theorem goR {c:Cx} (hT:c.T.Ok c.P) {al r:List Oper} {K:KR} {L:SL} {B:BL} {F:FV} (h:runs c al true K r L [] B F):WP c al r L [] B F K:=runs_sound hT r _ _ _ _ h inv_nil
end Go.Dx
namespace Go.Dx
open Go Go.RowKit
theorem pureW {c:Cx} {al r:List Oper} {K:KR} {L:SL} {I:IL} {B:BL} {F:FV} {X:Prop} (H:∀ v,VLe c.h0 v→F v→X) (h:X→WP c al r L I B F K):WP c al r L I B F K :=
 ⟨λ Q a w hn hp hD hS=>(h (H _ hS.st.base_cv hS.st.facts)).run Q a w hn hp hD hS⟩
end Go.Dx
namespace Go.Dx
open Go Go.RowKit
theorem ownC {c:Cx} {co:Code} {L:SL} {B:BL} {F:FV} {kn:KN} {kx:Nat→KN} {kr:KN} {X:Prop} (H:∀ w,Sx c B F w→X) (h:X→CP c co L B F kn kx kr):CP c co L B F kn kx kr :=
 ⟨λ Q a w hn hx hr hp hD hS=>(h (H w hS)).run Q a w hn hx hr hp hD hS⟩
section hands
variable {c:Cx} {S:World→Prop} {L:SL} {B B0:BL} {F:FV} {d t:Nat} {x y:Operand} {ty:TypeId} {pos:String} {af:Array Edge} {Y:Value→Prop}
theorem hIx {e sz b o n cp m:Nat} {it:IntKind} {i:Int} (ht:SlT c.P t e sz) (hx:rdS L [] none x=some (.v (.slice (some ⟨b,o,none⟩) n cp))) (hy:rdS L [] none y=some (.v (.int it i))) (hi:i=(m:Int)) (hm:m<n) (h:Y (.pointer (some ⟨b,o+m*sz,none⟩))) (hd:Nat.blt d c.n=true:=by rfl) :
  ∃ v,(∀ w,S w→Pu c.P (fl L [] B) ⟨some d,.indexAddr t x y,ty,pos,af,none⟩ w v)∧Nat.blt d c.n=true∧Y v :=
 ⟨_,λ w _=>pu_iaddr_sla (P:=c.P) (w:=w) (d:=some d) (ty:=ty) (pos:=pos) (af:=af) (g:=none) (L:=fl L [] B) (j:=m) rfl ht (ev_sl hx rfl) (ev_sl (v := .int it i) hy rfl) hi hm,hd,h⟩
theorem hLd {T sz b o n cp p q:Nat} {xs:List Value} {v:Value} (k:Nat) (hB:lkA B0 k=some (.e (bufE T sz (.slice (some ⟨b,o,none⟩) n cp) xs))) (ht:OneT c.P t) (hx:rdS L [] none x=some (.v (.pointer (some ⟨b,q,none⟩)))) (hq:q=o+p) (hm:xs[p]?=some v) (h:Y v) (hd:Nat.blt d c.n=true:=by rfl) :
  ∃ v,(∀ w,Sx c B0 F w→Pu c.P (fl L [] B) ⟨some d,.load t x,ty,pos,af,none⟩ w v)∧Nat.blt d c.n=true∧Y v :=
 ⟨v,λ w hS=>pu_load1 ht (ev_sl hx rfl) (buf_cellP (own_buf hB hS) hq hm),hd,h⟩
end hands
end Go.Dx
namespace Go.Dx
open Go Go.RowKit
theorem wiE {n:Int} {K:Int→Prop} (m:Int) (e:n=m) (k:K m) (h : -9223372036854775808≤m∧m≤9223372036854775807:=by omega):∃ r,IntKind.i64.wrap n=r∧K r:=by
 subst e; exact ⟨n,wrap_i64 h.1 h.2,k⟩
end Go.Dx
namespace Go.Dx
open Go Go.RowKit
end Go.Dx
namespace Go.Dx
open Go Go.RowKit
section
variable {c:Cx} (hT:c.T.Ok c.P)
include hT
end
end Go.Dx
namespace Go.Dx
open Go Go.RowKit
theorem Sx.ex {c:Cx} {B:BL} {F:FV} {w:World} {α:Type} {Φ:α→FV} (hS:Sx c B F w) (hm:∀ x,Mono (Φ x)) (H:∀ v,VLe c.h0 v→F v→∃ x,Φ x v):∃ x,Sx c B (λ h=>F h∧Φ x h) w:=by
 obtain ⟨x,hx⟩:=H _ hS.st.base_cv hS.st.facts
 exact ⟨x,hS.st.add (hm x) hx,λ k g b o cs hb=>gc_mk λ hy=>λ v w h1 h2 h3=>gc_yes (hS.bk k g b o cs hb) hy v w h1 h2.1 h3⟩
theorem exfC {c:Cx} {co:Code} {L:SL} {B:BL} {F:FV} {kn:KN} {kx:Nat→KN} {kr:KN} {α:Type} {Φ:α→FV} (hm:∀ x,Mono (Φ x)) (H:∀ v,VLe c.h0 v→F v→∃ x,Φ x v) (h:∀ x,CP c co L B (λ h=>F h∧Φ x h) kn kx kr):CP c co L B F kn kx kr :=
 ⟨λ Q a w hn hx hr hp hD hS=>by
  obtain ⟨x,hS'⟩:=hS.ex hm H
  exact (h x).run Q a w hn hx hr hp hD hS'⟩
end Go.Dx
namespace Go.Dx
open Go Go.RowKit
def recP (r:Loop) (j:Option Code):Loop:={ r with state:=if j.isNone then .ready else .done,pending:=j }
theorem recP_none {r:Loop} (h:r.state = .ready) (hp:r.pending=none):recP r none=r:=by cases r; cases h; cases hp; rfl
def JL {σ:Type} (JR:σ→BL) (kl l:Nat) (rec:Loop) (z:Option Code×σ):BL:=JR z.2++[(kl,.e (some l,LoopC (recP rec z.1)))]
theorem oes_JL {σ:Type} (JR:σ→BL) (kl l:Nat) (rec:Loop) (z:Option Code×σ):oes (JL JR kl l rec z)=oes (JR z.2)++[(some l,LoopC (recP rec z.1))]:=by unfold JL; rw [oes_app]; rfl
def endJ {σ:Type} (JR:σ→BL) (kl l:Nat) (rec:Loop) (Ψ:Option Code→σ→Prop) (j:Option Code) (B:BL):Prop :=
 ∃ s',Ψ j s'∧keysN (JR s'++[(kl,.e (some l,LoopC { rec with state := .busy }))])=true∧lksJ B (JR s'++[(kl,.e (some l,LoopC { rec with state := .busy }))])
theorem round_end {σ:Type} {c:Cx} {P:Program} {JR:σ→BL} {kl l:Nat} {rec:Loop} {s:σ} {Ψ:Option Code→σ→Prop} {j:Option Code} {B:BL} {F:FV} {w w2:World} (hw0:c.w0=w) (hM:c.M=ids (oes (JL JR kl l rec (none,s)))) (hS:Sx c B F w2) (h:endJ JR kl l rec Ψ j B) :
  ∃ v w',(Instr.endRound l j).run P w2 = .ok v w'∧RetJ (JL JR kl l rec) (none,s) w (λ u z=>u = .bool z.1.isNone∧Ψ z.1 z.2) (.returned v) w':=by
 obtain ⟨s',hΨ,hkn,hlk⟩:=h
 obtain ⟨g1,g2⟩:=ownJ_sub hS hkn hlk
 have eo:∀ C,oes (JR s'++[(kl,OB.e (some l,C))])=oes (JR s')++[(some l,C)]:=λ C=>by rw [oes_app]; rfl
 have ei:∀ C:Option Obj→Prop,ids (oes (JR s')++[(some l,C)])=ids (oes (JR s'))++[l]:=λ C=>by rw [ids_app]; rfl
 rw [eo] at g1 g2
 rw [ei] at g2
 have hl2:w2.heap[l]?=some (.loop { rec with state := .busy }):=g1.own (some l,_) (List.mem_append_right _ (List.mem_singleton.2 rfl))
 have hlt2:l<w2.heap.size:=(Array.getElem?_eq_some_iff.1 hl2).1
 have hnd:=g1.nd
 rw [ei] at hnd
 have hnl:∀ b∈ids (oes (JR s')),b≠l:=λ b hb e=>(List.nodup_append.1 hnd).2.2 b hb l (List.mem_singleton.2 rfl) e
 have hend:=run_endRound (P:=P) j hl2
 have hk2:Keep (ids (oes (JL JR kl l rec (none,s)))) w w2:=by
  have:=hS.st.keep
  rwa [hw0,hM] at this
 refine ⟨_,_,hend,_,(j,s'),rfl,⟨rfl,hΨ⟩,?_,?_,?_⟩
 ·refine hk2.trans (keep_put.mono λ b hb _=>?_)
  have:b=l:=by simpa using hb
  subst this
  rw [oes_JL,ids_app]; exact List.mem_append_right _ (List.mem_singleton.2 rfl)
 ·rw [oes_JL]
  refine ⟨λ e he=>?_,by rw [ei]; exact hnd,λ b hb=>?_⟩
  ·rcases List.mem_append.1 he with he | he
   ·have:=g1.own e (List.mem_append_left _ he)
    cases h1:e.1 with
    | none=>rw [h1] at this; exact this
    | some b =>
     rw [h1] at this
     have hb:b∈ids (oes (JR s')):=List.mem_filterMap.2 ⟨e,he,h1⟩
     simp only [Option.bind_some] at this ⊢
     rw [World.putObj_heap_other (hnl b hb)]; exact this
   ·rw [List.mem_singleton.1 he]
    exact World.putObj_heap_same (o := .loop (recP rec j)) hlt2
  ·rw [World.putObj_size]
   rw [ei] at hb
   have:=g1.lt b
   rw [ei] at this
   exact this hb
 ·intro b hb
  rw [oes_JL,ei] at hb
  have:=g2 b hb
  rw [hw0,hM] at this
  exact this.symm
set_option maxHeartbeats 1000000 in
theorem roundP {σ:Type} {P:Program} {T:Tab} (hT:T.Ok P) (JR:σ→BL) (kl:Nat) {rec:Loop} (hrec:rec.state = .ready) (hpe:rec.pending=none) (s:σ) {Ψ:Option Code→σ→Prop} (stop cut:List Nat) (L0:SL) {l n:Nat} {v:View} {w:World} {tmps:Array Value}
  (hv:VLe v (Full w)) (hno:∀ b∈ids (oes (JL JR kl l rec (none,s))),v b=none) (ho:OwnJ w (oes (JL JR kl l rec (none,s)))) (hsz:tmps.size=n)
  (hL:∀ t x,kv L0 [] (JL JR kl l rec (none,s)) t=some x→tmps.getD t undef=x)
  (h:vcC ⟨P,T,.rd (some l),n,w,v,ids (oes (JL JR kl l rec (none,s))),λ _=>False,stop,cut⟩ rec.assign L0 (JL JR kl l rec (none,s)) (λ _=>True)
   (λ L B F=>lkA B kl=some (.e (some l,LoopC (recP rec none)))∧setAK B kl (.e (some l,LoopC { rec with state := .busy })) λ B =>
    vcC ⟨P,T,.rd (some l),n,w,v,ids (oes (JL JR kl l rec (none,s))),λ _=>False,stop,cut⟩ rec.body L B F
     (λ _ B _=>endJ JR kl l rec Ψ none B) (λ i _ B _=>bif Nat.blt i 1000000 then endJ JR kl l rec Ψ (some (.exit i)) B else False) (λ _ B _=>endJ JR kl l rec Ψ (some .ret) B))
   (λ _ _ _ _=>False) (λ _ _ _=>False)) (hnk:noK (JL JR kl l rec (none,s))=true:=by rfl) :
  RoundIn Fence.wide 0 P l rec.fn tmps rec.assign rec.body w (RetJ (JL JR kl l rec) (none,s) w λ u z=>u = .bool z.1.isNone∧Ψ z.1 z.2):=by
 refine roundIn_of_wpIn trivial ?_
 rw [← wide_some]
 generalize hM:ids (oes (JL JR kl l rec (none,s)))=M at h
 have hS0:Sx ⟨P,T,.rd (some l),n,w,v,M,λ _=>False,stop,cut⟩ (JL JR kl l rec (none,s)) (λ _=>True) w:=sx_J rfl hM.symm hv hno ho hnk
 refine (vcC_sound (c:=⟨P,T,.rd (some l),n,w,v,M,λ _=>False,stop,cut⟩) hT rec.assign _ _ _ _ _ _ h).run _ ⟨tmps,[]⟩ w (λ L B F a w1 hk hD hS=>?_) ⟨λ _ _ _ _ _ _ _ h=>h.elim,λ _ _ _ _ _ _ h=>h.elim⟩ (λ _ _ _ _ _ h _ _=>h.elim) (λ _ _ _ h _ _=>h.elim)
  ⟨Fr.of_kv rfl hsz λ t x hx=>hL t x hx,inv_nil⟩ hS0
 obtain ⟨hB,hset⟩:=hk
 have hl1:w1.heap[l]?=some (.loop (recP rec none)):=by
  obtain ⟨i,hi,_⟩:=lkE_ix hB
  exact hS.st.at hi
 rw [recP_none hrec hpe] at hl1
 have hlt1:l<w1.heap.size:=(Array.getElem?_eq_some_iff.1 hl1).1
 refine ⟨_,run_beginRound hl1 hrec,?_⟩
 obtain ⟨B',hvc,hS',hdv⟩:=setAK_own hB hset hS keep_put (C':=LoopC { rec with state := .busy }) (World.putObj_heap_same hlt1)
 refine (vcC_sound (c:=⟨P,T,.rd (some l),n,w,v,M,λ _=>False,stop,cut⟩) hT rec.body _ _ _ _ _ _ hvc).run (roundPost P l _) a _ (λ L B F a w2 hk hD hS=>?_) ⟨λ i hi L B F a w2 hk hD hS=>?_,λ l L B F a w2 hk hD hS=>?_⟩ (λ L B F a w2 hk hD hS=>?_) (λ _ _ _ h _ _=>h.elim)
  ⟨by rw [fl_congr hdv]; exact hD.fr,inv_nil⟩ hS'
 ·exact round_end rfl hM.symm hS hk
 ·rw [hi] at hk
  exact round_end rfl hM.symm hS hk
 ·rw [no_blt] at hk; exact hk.elim
 ·exact round_end rfl hM.symm hS hk
set_option maxHeartbeats 1000000 in
theorem rangeP {c:Cx} {σ:Type} (JR:σ→BL) (s:σ) (kl kd:Nat) (ds:List Deferred) {Ψ:Option Code→σ→Prop} {g:Operand} {ps:Array Tmp} {assign body:Code} {gf:Nat} {lb:List Value} {L:SL} {B:BL} {F:FV} {Q:Exit→Act→World→Prop} {a:Act} {w:World}
  (hD:Dn c L [] B a) (hS:Sx c B F w) (hg:a.eval g = .func (.func gf) #[] lb.toArray) (hgf:CallOk c.P gf)
  (hl:lksJ B (JR s)) (hkn:keysN (JR s)=true) (ha:∀ s s',(JR s).map (λ p=>(p.1,adOf p.2))=(JR s').map (λ p=>(p.1,adOf p.2))) (hnk':∀ s,noK (JR s)=true)
  (hkd:∀ s',lkA (JR s'++delL B (JR s)) kd=none)
  (H:∀ (rec:Loop) (l:Nat),rec.state = .ready→rec.pending=none→rec.tmps=a.tmps→rec.params=ps→rec.assign=assign→rec.body=body→∀ w1 v,VLe c.h0 v→F v→VLe v (Full w1) →
   (∀ b∈ids (oes (JL JR kl l rec (none,s))),v b=none)→OwnJ w1 (oes (JL JR kl l rec (none,s)))→Calls c.P gf (Value.func (.yield l) #[] #[]::lb).toArray w1 (RetJ (JL JR kl l rec) (none,s) w1 λ _ z=>Ψ z.1 z.2))
  (k:∀ j s' D w',Ψ j s'→Dn c L [] ((kd,.e (some D,DefC))::(JR s'++delL B (JR s))) a→Sx c ((kd,.e (some D,DefC))::(JR s'++delL B (JR s))) F w' →
   match j with
   | none=>Q .normal { a with defers:=⟨.collected D,#[]⟩::ds } w'
   | some cd=>cd.wp c.P Q { a with defers:=⟨.collected D,#[]⟩::ds } w') :
  (Code.rangeFunc g ps assign body).wp c.P Q { a with defers:=ds } w:=by
 refine (wpIn_wide (n:=1)).1 (wpIn_rangeFunc ?_)
 intro fn _
 have hperm:=lksJ_perm hkn hl
 have hoes:(oes B).Perm (oes (JR s)++oes (delL B (JR s))):=by rw [← oes_app]; exact oes_perm hperm
 have hS0:St c.w0 c.h0 c.M w (oes (JR s)++oes (delL B (JR s))) F:=hS.st.perm hoes
 obtain ⟨rec,hrec⟩:∃ rec:Loop,rec={ state := .ready,pending:=none,fn,tmps:=a.tmps,params:=ps,assign,body,defers:=w.heap.size }:=⟨_,rfl⟩
 have hrn:recP rec none=rec:=recP_none (by rw [hrec]) (by rw [hrec])
 obtain ⟨W1,hW1⟩:∃ W1,(w.alloc (.deferred (some []))).alloc (.loop rec)=W1:=⟨_,rfl⟩
 obtain ⟨D,hDe⟩:∃ D,D=w.heap.size:=⟨_,rfl⟩
 obtain ⟨l,hle⟩:∃ l,l=w.heap.size+1:=⟨_,rfl⟩
 have hS1:=(hS0.new (.deferred (some [])) (C:=DefC) rfl).new (.loop rec) (C:=LoopC (recP rec none)) (by rw [hrn]; rfl)
 rw [hW1,World.size_alloc,← hDe,show D+1=l by omega] at hS1
 have pm:((some l,LoopC (recP rec none))::(some D,DefC)::(oes (JR s)++oes (delL B (JR s)))).Perm ((oes (JR s)++[(some l,LoopC (recP rec none))])++((some D,DefC)::oes (delL B (JR s)))):=by
  rw [List.append_assoc,List.singleton_append]
  refine (List.Perm.trans ?_ List.perm_middle.symm)
  exact List.Perm.cons _ List.perm_middle.symm
 have hS2:=hS1.perm pm
 have hin:∀ b∈ids (oes (JR s)++[(some l,LoopC (recP rec none))]),b∈ids ((oes (JR s)++[(some l,LoopC (recP rec none))])++((some D,DefC)::oes (delL B (JR s)))):=λ b hb=>by rw [ids_app]; exact List.mem_append_left _ hb
 have hown:OwnJ W1 (oes (JR s)++[(some l,LoopC (recP rec none))]):=⟨λ e he=>hS2.own e (List.mem_append_left _ he),by have:=hS2.nd; rw [ids_app] at this; exact (List.nodup_append.1 this).1,λ b hb=>(hS2.fresh b (hin b hb)).2⟩
 have hcall:=H rec l (by rw [hrec]) (by rw [hrec]) (by rw [hrec]) (by rw [hrec]) (by rw [hrec]) (by rw [hrec]) W1 _ hS2.base_cv hS2.facts hS2.view (λ b hb=>cv_own (hin b (by rw [oes_JL] at hb; exact hb))) (by rw [oes_JL]; exact hown)
 refine ⟨l,[⟨.collected D,#[]⟩],W1,{ target := .fn (.func gf) lb.toArray,args:=#[.func (.yield l) #[] #[]] },W1,gf,#[.func (.yield l) #[] #[]]++lb.toArray,W1,?_,?_,λ _ _=>trivial,?_,λ _=>Nat.le_refl _,?_⟩
 ·have:=run_enterLoop_outer (P:=c.P) (w:=w) fn a.tmps ps assign body
  rw [← hrec,hW1,← hDe,show D+1=l by omega] at this
  exact this
 ·have hg':({ a with defers:=ds }:Act).eval g = .func (.func gf) #[] lb.toArray:=hg
  simp only [resolve,hg']
  simp [go_sem]
 ·simp only [invoke]
  exact run_call hgf
 ·refine callsIn_wide.2 ?_
  have e0:(#[.func (.yield l) #[] #[]]++lb.toArray:Array Value)=(Value.func (.yield l) #[] #[]::lb).toArray:=by simp
  rw [e0]
  refine hcall.mono ?_
  rintro e W2 ⟨u,⟨j,s'⟩,rfl,hΨ,hk2,ho2,hf2⟩
  rw [oes_JL] at hk2 ho2 hf2
  rw [oes_JL] at hf2
  dsimp only at hk2 ho2 hf2 hΨ
  have hS3:=hS2.go hk2 ho2 hf2
  have pm2:((oes (JR s')++[(some l,LoopC (recP rec j))])++((some D,DefC)::oes (delL B (JR s)))).Perm ((some l,LoopC (recP rec j))::(some D,DefC)::(oes (JR s')++oes (delL B (JR s)))):=by
   rw [List.append_assoc,List.singleton_append]
   refine List.Perm.trans List.perm_middle ?_
   exact List.Perm.cons _ List.perm_middle
  have hS4:=hS3.perm pm2
  have hl2:W2.heap[l]?=some (.loop (recP rec j)):=hS4.at (i:=0) rfl
  have hlt2:l<W2.heap.size:=(Array.getElem?_eq_some_iff.1 hl2).1
  have hend:=run_endLoop (P:=c.P) hl2 (by unfold recP; cases j <;> simp)
  have hS5:=hS4.write (i:=0) (C':=λ _=>True) rfl (keep_put (o := .loop { recP rec j with state := .exhausted })) trivial
  have hS6:=St.suffix (A:=[(some l,λ _=>True)]) hS5
  have hdv:∀ sv,dvO ((kd,.e (some D,DefC))::(JR s'++delL B (JR s))) sv=dvO B sv:=λ sv=>(nil_dv (hkd s') (some D,DefC) sv).trans (dvO_go hl (ha s s') sv)
  have fin:=k j s' D (W2.putObj l (.loop { recP rec j with state := .exhausted })) hΨ ⟨by rw [fl_congr hdv]; exact hD.fr,inv_nil⟩ ⟨by
   show St _ _ _ _ ((some D,DefC)::oes (JR s'++delL B (JR s))) _
   rw [oes_app]; exact hS6,λ m g' b o cs hm=>by
   rcases List.mem_cons.1 hm with hm | hm
   ·cases hm
   rcases List.mem_append.1 hm with hm | hm
   ·exact absurd hm (noK_ne (hnk' s') _ _ _ _ _)
   ·exact hS.bk m g' b o cs (hperm.mem_iff.2 (List.mem_append_right _ hm))⟩
  refine ⟨j,_,hend,?_⟩
  cases j with
  | none=>exact fin
  | some cd=>exact (wpIn_wide (n:=1)).2 fin
def mkD (D:Nat):Deferred:=⟨.collected D,#[]⟩
def omD (Ds:List Nat):List OE:=Ds.map λ D=>(some D,DefC)
theorem retMs {c:Cx} (hT:c.T.Ok c.P) {L:SL} {B:BL} {F:FV} {a:Act} {fn:Func} {rs:List ResultVar} {R:Ending→World→Prop} {E:BL→FV→List Value→Prop} (hr:fn.results=rs.toArray) (hb:∀ k g b o cs,(k,OB.k g b o cs)∈B→False)
  (h:resK c.T L B rs (E B F)) (hD:Dn c L [] B a) (hE:∀ vs w,E B F vs→Sx c B F w→R (.returned (tupV vs)) w):∀ (Ds:List Nat) (w:World),St c.w0 c.h0 c.M w (oes B++omD Ds) F →
  LeavesInM Fence.wide 1 c.P fn a.tmps R (Ds.map mkD) .returning w
 | [],w,hS=>by
  have hS':Sx c B F w:=⟨by simpa [omD] using hS,λ k g b o cs hk=>(hb k g b o cs hk).elim⟩
  obtain ⟨vs,h1,h2⟩:=resK_sound (c:=c) hT hD hS'.wok h
  obtain ⟨_,v,hv1,hv2⟩:=f_ret (R:=R) hD.fr hr h2 (hE _ _ h1 hS')
  exact ⟨v,hv1,hv2⟩
 | D::Ds,w,hS=>by
  have pm:(oes B++omD (D::Ds)).Perm ((some D,DefC)::(oes B++omD Ds)):=List.perm_middle
  have h1:=hS.perm pm
  have hd:w.heap[D]?=some (.deferred (some [])):=h1.at (i:=0) rfl
  have h2:=h1.write (i:=0) (C':=λ _=>True) rfl (keep_put (o := .deferred none)) trivial
  have h3:=St.suffix (A:=[(some D,λ _=>True)]) h2
  exact ⟨by simp,.inl ⟨D,_,rfl,run_takeDeferred hd,retMs hT hr hb h hD hE Ds _ h3⟩⟩
open Go.Conc in
theorem stepGR_comm {P:Program} {b:Frame} {a:Act} {ops:Array Oper} {i:Nat} {rest:List Nat} {k:List Item} {cs:List Frame} {w w':World} {o:Oper} {cases:Array CommCase} {bl:Bool} {sh:CommShape} (ho:ops[i]?=some o) (hw:Region.wanted o (yielded ops a.tmps)=true)
  (hnd:∀ c,o.op ≠ .defer c) (hr:(execOp a.eval o).run P w = .ok (.comm cases bl sh) w'):∃ es,Go.stepG P true (G (b.atR a (.inRegion ops (i::rest)::k)) cs) w = .comm (G (b.atR a (.inRegion ops (i::rest)::k)) cs) cases bl sh w' es:=by
 have hg:=stepGR_op (P:=P) (b:=b) (k:=k) (cs:=cs) (w:=w) (rest:=rest) ho hw
 rw [Oper.semAt_eq _ _ _ hnd] at hg
 have e:Go.stepG P true (G (b.atR a (.inRegion ops (i::rest)::k)) cs) w=_:=hg
 rw [e]
 simp [Go.stepG.apply,hr,G,Frame.atR,GStep.after]
open Go.Conc in
def CommTo (P:Program) (o:Oper) (ρ:Operand→Value) (w:World) (v:Value) (w':World):Prop :=
 ∃ cases bl sh,(execOp ρ o).run P w = .ok (.comm cases bl sh) w∧∀ fr cs es,Go.stepG P true (G fr cs) w = .comm (G fr cs) cases bl sh w es→step P (solo (G fr cs) w) = .next (solo (G (fr.finish v) cs) w')
theorem wpIn_comm {F:Fence} {n:Nat} {P:Program} {id:Nat} {o:Oper} {rest:List Oper} {Q:Exit→Act→World→Prop} {a:Act} {w w':World} {v:Value} (hg:o.guard=none) (hnd:∀ c,o.op ≠ .defer c) (hab:o.about P w a.eval=none)
  (hst:CommTo P o a.eval w v w') (h:wpListIn F n P (o::rest).toArray Q rest (a.put o.dst v) w'):(Code.region id (o::rest).toArray false).wpIn F n P Q a w:=by
 intro b k cs hro hb hr
 have hl:wpOpsIn F n P (o::rest).toArray Q (List.range' 1 rest.length) (a.put o.dst v) w':=by
  rw [wpOpsIn_eq_wpListIn rest 1 (λ j=>by simp [Nat.add_comm])]; exact h
 obtain ⟨e,a',w'',hq,harr⟩:=wp_opsIn _ _ _ hl b k cs hro hb hr
 have e0:List.range (o::rest).toArray.size=0::List.range' 1 rest.length:=by simp [List.range_eq_range',List.range'_succ]
 have hfin:(b.atR a (.inRegion (o::rest).toArray (0::List.range' 1 rest.length)::k)).finish v=b.atR (a.put o.dst v) (.inRegion (o::rest).toArray (List.range' 1 rest.length)::k):=by rw [Frame.finish_atR]; rfl
 obtain ⟨cases,bl,sh,h1,h2⟩:=hst
 obtain ⟨es,h3⟩:=stepGR_comm (b:=b) (k:=k) (cs:=cs) (ops:=(o::rest).toArray) (i:=0) (rest:=List.range' 1 rest.length) (o:=o) (by simp) (by simp [Region.wanted,hg]) hnd h1
 have h4:=h2 _ _ _ h3
 rw [hfin] at h4
 refine ⟨e,a',w'',hq,.of_steps (.one (fenced_calm hb hr rfl) stepR_region) ?_⟩
 rw [e0]
 exact .of_steps (.one (fenced_oper (o:=o) hb hr (by simp) (by rw [hab]; intro f hf; cases hf)) h4) harr
theorem wp_comm {P:Program} {id:Nat} {o:Oper} {rest:List Oper} {Q:Exit→Act→World→Prop} {a:Act} {w w':World} {v:Value} (hg:o.guard=none) (hnd:∀ c,o.op ≠ .defer c)
  (hst:CommTo P o a.eval w v w') (h:wpList P (o::rest).toArray Q rest (a.put o.dst v) w'):(Code.region id (o::rest).toArray false).wp P Q a w:=by
 intro b k cs
 have hl:wpOps P (o::rest).toArray Q (List.range' 1 rest.length) (a.put o.dst v) w':=by
  rw [wpOps_eq_wpList rest 1 (λ j=>by simp [Nat.add_comm])]; exact h
 obtain ⟨e,a',w'',hq,harr⟩:=wp_ops _ _ _ hl b k cs
 have e0:List.range (o::rest).toArray.size=0::List.range' 1 rest.length:=by simp [List.range_eq_range',List.range'_succ]
 have hfin:(b.at a (.inRegion (o::rest).toArray (0::List.range' 1 rest.length)::k)).finish v=b.at (a.put o.dst v) (.inRegion (o::rest).toArray (List.range' 1 rest.length)::k):=by rw [Frame.finish_at]; rfl
 obtain ⟨cases,bl,sh,h1,h2⟩:=hst
 obtain ⟨es,h3⟩:=stepGR_comm (b:={ b with roundOf:=none }) (k:=k) (cs:=cs) (ops:=(o::rest).toArray) (i:=0) (rest:=List.range' 1 rest.length) (o:=o) (by simp) (by simp [Region.wanted,hg]) hnd h1
 rw [Frame.atR_of_none rfl] at h3
 have h4:=h2 _ _ _ h3
 have e1:(({ b with roundOf:=none }:Frame).at a (.inRegion (o::rest).toArray (0::List.range' 1 rest.length)::k))=b.at a (.inRegion (o::rest).toArray (0::List.range' 1 rest.length)::k):=rfl
 rw [e1,hfin] at h4
 refine ⟨e,a',w'',hq,.of_steps (.one step_region) ?_⟩
 rw [e0]
 exact .of_steps (.one h4) harr
def ChanC (cap:Nat) (buf:List Value) (closed:Bool):Option Obj→Prop:=λ o=>∃ s r,o=some (.chan cap buf.toArray closed s r false)
theorem keep_chan {w:World} {q cap s r:Nat} {buf:Array Value} {cl tm:Bool}:Keep [q] w (w.setChan q cap buf cl s r tm):=⟨rfl,rfl,rfl,Nat.le_refl _,by simp [Go.Conc.size_setChan],λ k _ hn=>by
 simp only [World.setChan]
 exact Array.getElem?_setIfInBounds_ne λ e=>hn (by simp [e])⟩
theorem cpComm {c:Cx} (hT:c.T.Ok c.P) {i d:Nat} {o:Oper} {rest:List Oper} {L:SL} {B:BL} {F:FV} {kn:KN} {kx:Nat→KN} {kr:KN} {v:Value} (B':BL) (hd:o.dst=some d) (hn:Nat.blt d c.n=true) (hg:o.guard=none) (hnd:∀ cc,o.op ≠ .defer cc) (hab:∀ w ρ,o.about c.P w ρ=none)
  (H:∀ a w,Dn c L [] B a→Sx c B F w→∃ w',CommTo c.P o a.eval w v w'∧Sx c B' F w') (hdv:∀ s,dvO B' s=dvO B s)
  (k:runs c (o::rest) true (λ L I B F=>pushK I L λ L=>kn L B F) rest ((d,.v v)::L) [] B' F):CP c (.region i ⟨o::rest⟩ false) L B F kn kx kr:=by
 refine ⟨λ Q a w hn' hx hr hp hD hS=>?_⟩
 obtain ⟨w',h1,h3⟩:=H a w hD hS
 have hD':Dn c ((d,.v v)::L) [] B' (a.put (some d) v):=by
  refine ⟨?_,inv_nil⟩
  have:=hD.fr.put hn v
  rw [← fl_congr hdv] at this
  exact this
 have hrun:=(runs_sound hT rest _ _ _ _ k inv_nil).run Q _ w' (push_ok hn') hp hD' h3
 cases hmd:c.md with
 | wp =>
  rw [hmd] at hrun
  refine wp_comm hg hnd h1 ?_
  rw [hd]; exact hrun
 | rd r =>
  rw [hmd] at hrun
  refine wpIn_comm hg hnd (hab _ _) h1 ?_
  rw [hd]; exact hrun
 | df ds =>
  rw [hmd] at hrun
  refine wp_comm (a:={ a with defers:=ds }) hg hnd h1 ?_
  rw [hd,put_dfl]; exact hrun
open Go.Conc in
theorem comm_send {P:Program} {ρ:Operand→Value} {w:World} {d:Option Nat} {x y:Operand} {t:TypeId} {z u:Value} {ty:TypeId} {pos:String} {af:Array Edge} {q cap s r:Nat} {buf:List Value} (hx:ρ x = .chan (some q)) (hy:ρ y=u) (hz:∀ w,(zeroValue t).run P w = .ok z w) (hq:w.heap[q]?=some (.chan cap buf.toArray false s r false)) :
  if buf.length<cap then CommTo P ⟨d,.select #[⟨x,some y,t⟩] false,ty,pos,af,none⟩ ρ w (.tuple #[goInt 0,.bool false]) (w.setChan q cap (buf++[u]).toArray false (s+1) r false)
  else CommTo P ⟨d,.select #[⟨x,some y,t⟩] false,ty,pos,af,none⟩ ρ w (.tuple #[goInt (-1),.bool false]) w:=by
 have hrun:(execOp ρ ⟨d,.select #[⟨x,some y,t⟩] false,ty,pos,af,none⟩).run P w = .ok (.comm #[scase q u z] false .select) w:=by
  simp [execOp,Sem.run_bind,hz,hx,hy,scase]
 split
 ·rename_i h
  refine ⟨_,_,_,hrun,λ fr cs es hh=>?_⟩
  have:=step_lone_select_send_room hh hq (by simpa using h)
  rw [this,show buf.toArray.push u=(buf++[u]).toArray by simp]
 ·rename_i h
  exact ⟨_,_,_,hrun,λ fr cs es hh=>step_lone_select_send_full hh hq (by simpa using h)⟩
open Go.Conc in
theorem comm_recv {P:Program} {ρ:Operand→Value} {w:World} {d:Option Nat} {x:Operand} {t e:TypeId} {dir:ChanDir} {z:Value} {ty:TypeId} {pos:String} {af:Array Edge} {q cap s r:Nat} {buf:List Value} (ht:P.underlying t=some (.chan dir e)) (hx:ρ x = .chan (some q)) (hz:∀ w,(zeroValue e).run P w = .ok z w) (hq:w.heap[q]?=some (.chan cap buf.toArray true s r false)) :
  match buf with
  | []=>CommTo P ⟨d,.recv t x true,ty,pos,af,none⟩ ρ w (.tuple #[z,.bool false]) w
  | u::l=>CommTo P ⟨d,.recv t x true,ty,pos,af,none⟩ ρ w (.tuple #[u,.bool true]) (w.setChan q cap l.toArray true s (r+1) false):=by
 have hrun:(execOp ρ ⟨d,.recv t x true,ty,pos,af,none⟩).run P w = .ok (.comm #[rcase q z] true (.recv true)) w:=by
  simp [execOp,Sem.run_bind,run_underlying ht,hz,hx,rcase]
 cases buf with
 | nil=>exact ⟨_,_,_,hrun,λ fr cs es hh=>by simpa [got] using step_lone_recv_shut true hh hq⟩
 | cons u l =>
  refine ⟨_,_,_,hrun,λ fr cs es hh=>?_⟩
  have:=step_lone_recv_buf true hh hq (by simp)
  simpa [got] using this
section
variable {c:Cx}
theorem hLdA {B0 B:BL} {F:FV} {L:SL} {d t T sz b o n cp m q:Nat} {x:Operand} {ty:TypeId} {pos:String} {af:Array Edge} {xs new:List Value} {Y:Value→Prop} (k:Nat) (hB:lkA B0 k=some (.e (bufE T sz (.slice (some ⟨b,o,none⟩) n cp) xs))) (ht:AggT c.P t new.length) (hx:rdS L [] none x=some (.v (.pointer (some ⟨b,q,none⟩)))) (hq:q=o+m*sz) (hm:m<n) (hnew:(xs.drop (m*sz)).take sz=new) (hnl:new.length=sz) (h:Y (.agg new.toArray)) (hd:Nat.blt d c.n=true:=by rfl) :
  ∃ v,(∀ w,Sx c B0 F w→Pu c.P (fl L [] B) ⟨some d,.load t x,ty,pos,af,none⟩ w v)∧Nat.blt d c.n=true∧Y v :=
 ⟨_,λ w hS=>pu_loadA ht (ev_sl hx rfl) λ j v hj=>by rw [add_mk,hq]; exact buf_cells (own_buf hB hS) hm hnew hnl j v hj,hd,h⟩
theorem clear_buf {P:Program} {w:World} {T t ty e sz n cp m g o:Nat} {c':Nat} {xs:List Value} {inf:TypeInfo} {z:Value} (hC:BufC T sz (.slice (some ⟨g,o,none⟩) n cp) xs w.heap[g]?) (ht:P.underlying t=some (.slice e)) (hi:P.info? e=some inf) (hz:inf.zero=some z) (hzs:z.cells.size=sz) (hz1:∀ v∈z.cells.toList,v.oneCell'=true) (hm:m<n) :
  ∃ w',(Builtin.clear_ #[t] ty #[.slice (some ⟨g,o+m*sz,none⟩) (n - m) c']).run P w = .ok (.tuple #[]) w'∧Keep [g] w w'∧BufC T sz (.slice (some ⟨g,o,none⟩) m cp) (xs.take (m*sz)) w'.heap[g]?:=by
 rcases hC with ⟨e,_⟩ | ⟨g',off,n',cap',cur,fz,e,hg,hf,hl,hle,hcm,hfit,hx⟩
 ·cases e
 cases e
 have hlen:(Builtin.zeroCells z.cells (n - m)).toList.length=(n - m)*sz:=by simp [Builtin.zeroCells,hzs]
 have hone:∀ v∈(Builtin.zeroCells z.cells (n - m)).toList,v.oneCell'=true:=by
  intro v hv
  simp only [Builtin.zeroCells,Array.toList_map,List.mem_map] at hv
  obtain ⟨i,hi',rfl⟩:=hv
  have hi2:i<(n - m)*z.cells.size:=by simpa using hi'
  have hzp:0<z.cells.size:=by
   rcases Nat.eq_zero_or_pos z.cells.size with h | h
   ·rw [h] at hi2; omega
   ·exact h
  have:i % z.cells.size<z.cells.size:=Nat.mod_lt _ hzp
  rw [getElem!_pos z.cells (i % z.cells.size) this]
  exact hz1 _ (by simp)
 have hmn:m*sz+(n - m)*sz=n*sz:=by rw [← Nat.add_mul]; congr 1; omega
 have hnc:n*sz≤cp*sz:=Nat.mul_le_mul_right _ hle
 have hst:=run_storeCells_fz P g (o+m*sz) T fz (Builtin.zeroCells z.cells (n - m)).toList 0 cur w hg hf (by rw [hlen]; omega) hone
 simp only [Nat.add_zero] at hst
 have hsz:(cur.toList.take (o+m*sz)++(Builtin.zeroCells z.cells (n - m)).toList++cur.toList.drop (o+m*sz+(Builtin.zeroCells z.cells (n - m)).toList.length)).toArray.size=cur.size:=by
  rw [List.size_toArray,splL _ _ _ (by rw [hlen]; simp; omega)]; simp
 refine ⟨w.setRow g (cur.toList.take (o+m*sz)++(Builtin.zeroCells z.cells (n - m)).toList++cur.toList.drop (o+m*sz+(Builtin.zeroCells z.cells (n - m)).toList.length)).toArray,?_,keep_setRow _ _ _,.inr ⟨g,o,m,cp,_,fz,rfl,setRow_heap w g cur _ T fz hg,by rw [hsz]; exact hf,?_,by omega,hcm,by rw [hsz]; exact hfit,?_⟩⟩
 ·obtain ⟨q,hq⟩:∃ q,n - m=q+1:=⟨n - m - 1,by omega⟩
  rw [hq] at hst ⊢
  simp [Builtin.clear_,run_underlying ht,zeroValue,typeInfo,hi,hz,hst]
 ·rw [List.length_take,hl]; omega
 ·have e1:(cur.toList.take (o+m*sz)++(Builtin.zeroCells z.cells (n - m)).toList++cur.toList.drop (o+m*sz+(Builtin.zeroCells z.cells (n - m)).toList.length)).toArray.toList=cur.toList.take (o+m*sz)++((Builtin.zeroCells z.cells (n - m)).toList++cur.toList.drop (o+m*sz+(Builtin.zeroCells z.cells (n - m)).toList.length)):=by simp
  rw [e1,← hx]
  apply List.ext_getElem?
  intro i
  have hcl:(cur.toList.take (o+m*sz)).length=o+m*sz:=by rw [List.length_take]; simp; omega
  by_cases hi2:i<m*sz
  ·rw [List.getElem?_take_of_lt hi2,List.getElem?_drop,List.getElem?_append_left (by rw [hcl]; omega),List.getElem?_take_of_lt (by omega),List.getElem?_take_of_lt hi2,List.getElem?_take_of_lt (by omega),List.getElem?_drop]
  ·rw [List.getElem?_eq_none (by rw [List.length_take]; omega),List.getElem?_eq_none (by rw [List.length_take]; omega)]
theorem clrB (hT:c.T.Ok c.P) {al:List Oper} {K:KR} {t e sz n cp m T:Nat} {c':Nat} {x:Operand} {ty:TypeId} {pos:String} {af:Array Edge} {r:List Oper} {L:SL} {B:BL} {F:FV} {b o:Nat} {xs:List Value} {td:TD} (k:Nat)
  (hB:lkA B k=some (.e (bufE T sz (.slice (some ⟨b,o,none⟩) n cp) xs))) (ht:SlT c.P t e sz) (htd:tdOf c.P e=some td) (hzs:td.z.length=sz) (hz1:allOne td.z=true) (hx:rdS L [] none x=some (.v (.slice (some ⟨b,o+m*sz,none⟩) (n - m) c'))) (hm:m<n)
  (h:setAK B k (.e (bufE T sz (.slice (some ⟨b,o,none⟩) m cp) (xs.take (m*sz)))) λ B'=>runs c al true K r L [] B' F):true=true∧WP c al (⟨none,.call ⟨.builtin .clear,⟨[x]⟩,⟨[t]⟩⟩,ty,pos,af,none⟩::r) L [] B F K:=by
 refine ⟨rfl,⟨λ Q ac w hn hp hD hS=>?_⟩⟩
 obtain ⟨q,hq,hset⟩:=lkE_ix hB
 have hC:BufC T sz (.slice (some ⟨b,o,none⟩) n cp) xs w.heap[b]?:=hS.st.own _ (List.mem_of_getElem? hq)
 obtain ⟨inf,z,hi,hz,hzc⟩:=td_zero htd
 obtain ⟨w',hrun0,hkeep,hC'⟩:=clear_buf (P:=c.P) (ty:=ty) (c':=c') hC ht.1 hi hz (by rw [hzc]; simpa using hzs) (by rw [hzc]; simpa using allOne_mem hz1) hm
 have ex:ac.eval x = .slice (some ⟨b,o+m*sz,none⟩) (n - m) c':=hD.fr.ev (ev_sl hx rfl)
 refine wpM_plain rfl λ K' hK=>opM_of_does ?_
 obtain ⟨B',hr,h3,h4,h5⟩:=hset h
 have hdv:=dvO_setE hB h4
 unfold Does
 have hrun:(execOp ac.eval ⟨none,.call ⟨.builtin .clear,⟨[x]⟩,⟨[t]⟩⟩,ty,pos,af,none⟩).run c.P w = .ok (.value (.tuple #[])) w':=by
  simp only [execOp,resolve,List.map_toArray,List.map_cons,List.map_nil,ex,Sem.run_bind,Sem.run_pure,Result.andThen_ok,invoke,builtin,hrun0]
 rw [hrun]
 refine hK _ _ ((runs_sound hT r _ _ _ _ hr inv_nil).run Q _ w' hn hp ⟨?_,inv_nil⟩ ⟨by rw [h3]; exact hS.st.write hq hkeep hC',λ q' g' b o cs hq'=>?_⟩)
 ·rw [fl_congr hdv]; exact hD.fr
 ·rcases h5 _ hq' with hq' | hq'
  ·exact hS.bk _ _ _ _ _ hq'
  ·cases hq'
end
theorem backS {c':Cx} {w0 w w2:World} {h0:View} {M:List Nat} {B1 B' J:BL} {O2:List OE} {F F':FV} (hS:St w0 h0 M w (oes B1++O2) F) (hS2:Sx c' B' F' w2) (hw:c'.w0=w) (hM:c'.M=ids (oes B1)) (hk:keysN J=true) (hl:lksJ B' J):St w0 h0 M w2 (oes J++O2) F:=by
 obtain ⟨g1,g2⟩:=ownJ_sub hS2 hk hl
 refine hS.go ?_ g1 λ b hb=>?_
 ·have:=hS2.st.keep
  rwa [hw,hM] at this
 ·have:=g2 b hb
  rw [hw,hM] at this
  exact this.symm
theorem ownS {w0 w:World} {h0:View} {M:List Nat} {O1 O2:List OE} {F:FV} (hS:St w0 h0 M w (O1++O2) F):OwnJ w O1∧∀ b∈ids O1,cv w0.heap.size h0 (ids (O1++O2)) w b=none:=by
 have hin:∀ b∈ids O1,b∈ids (O1++O2):=λ b hb=>by rw [ids_app]; exact List.mem_append_left _ hb
 refine ⟨⟨λ e he=>hS.own e (List.mem_append_left _ he),?_,λ b hb=>(hS.fresh b (hin b hb)).2⟩,λ b hb=>cv_own (hin b hb)⟩
 have:=hS.nd
 rw [ids_app] at this
 exact (List.nodup_append.1 this).1
theorem handF {c:Cx} (hT:c.T.Ok c.P) {ds:List Deferred} (hmd:c.md = .df ds) {k:Code} {L:SL} {B:BL} {F:FV} {Q:Exit→Act→World→Prop} {a:Act} {w:World} (hD:Dn c L [] B a) (hS:Sx c B F w)
  (h:vcC c k L B F (λ L B F=>∀ a w,Dn c L [] B a→Sx c B F w→Q .normal { a with defers:=ds } w) (λ i L B F=>Nat.blt i 1000000=true∧∀ a w,Dn c L [] B a→Sx c B F w→Q (.exit i) { a with defers:=ds } w) (λ L B F=>∀ a w,Dn c L [] B a→Sx c B F w→Q .ret { a with defers:=ds } w))
  (hp:∀ ch,c.kp ch→False):k.wp c.P Q { a with defers:=ds } w:=by
 have:=(vcC_sound hT k L B F _ _ _ h).run (λ e a w=>Q e { a with defers:=ds } w) a w (λ _ _ _ a w hk hD hS=>hk a w hD hS) ⟨λ _ _ _ _ _ a w hk hD hS=>hk.2 a w hD hS,λ l _ _ _ _ _ hk _ _=>by rw [no_blt] at hk; cases hk.1⟩ (λ _ _ _ a w hk hD hS=>hk a w hD hS) (λ ch _ _ hk _ _=>(hp ch hk).elim) hD hS
 rw [hmd] at this
 refine wp_mono this λ e a w he=>?_
 obtain ⟨a0,rfl,he⟩:=he
 exact he
end Go.Dx
namespace Go.Proofs.YtbmmnalndollkaaGreatDoor
open Go Go.Dx Go.RowKit
section sorts
variable {α:Type}
theorem mem_getD {l:List α} {x d:α} (h:x∈l):∃ i,i<l.length∧l.getD i d=x:=by
 obtain ⟨i,hi,rfl⟩:=List.mem_iff_getElem.1 h
 exact ⟨i,hi,by simp [List.getD,hi]⟩
end sorts
section orders
variable {α:Type}
structure Ord3 (lt:α→α→Bool):Prop where
 tr:∀ x y z,lt y x=false→lt z y=false→lt z x=false
 as:∀ x y,lt x y=true→lt y x=false
 rf:∀ x,lt x x=false
def Srt (lt:α→α→Bool) (l:List α):Prop:=l.Pairwise λ x y=>lt y x=false
variable {lt:α→α→Bool}
theorem srt_uniq {l m:List α} (hO:Ord3 lt) (he:∀ x y,lt x y=false→lt y x=false→x=y) (h1:Srt lt l) (h2:Srt lt m) (hp:l.Perm m):l=m :=
 List.Perm.eq_of_pairwise (le:=λ x y=>lt y x=false) (λ a b _ _ h1 h2=>he _ _ h2 h1) h1 h2 hp
end orders
end Go.Proofs.YtbmmnalndollkaaGreatDoor
namespace Go.Proofs.YtbmmnalndollkaaGreatDoor
open Go Go.Dx Go.RowKit
def RetJV {σ:Type} (J:σ→BL) (s:σ) (w:World) (h:View) (Ψ:Value→σ→Prop) (Φ:σ→FV):Ending→World→Prop:=λ e w'=>∃ u s',e = .returned u∧Ψ u s'∧Keep (ids (oes (J s))) w w'∧OwnJ w' (oes (J s'))∧(∀ b∈ids (oes (J s')),b∈ids (oes (J s))∨w.heap.size≤b)∧Φ s' (cv w.heap.size h (ids (oes (J s'))) w')
def YJV {σ:Type} (P:Program) (J:σ→BL) (s:σ) (l:Nat) (args:List Value) (w:World) (h:View) (Ψ:Value→σ→Prop) (Φ:σ→FV):Prop :=
 ∃ fn tmps assign body,(Instr.yield l args.toArray).run P w = .ok (.round l fn tmps assign body) w∧RoundIn Fence.wide 0 P l fn tmps assign body w (RetJV J s w h Ψ Φ)
theorem cv_sub {n:Nat} {h:View} {I I':List Nat} {w:World} (hs:∀ b∈I',b∈I):VLe (cv n h I w) (cv n h I' w):=by
 intro k o hk
 unfold cv at hk ⊢
 split at hk
 ·cases hk
 ·rename_i hn
  rw [if_neg λ hm=>hn (hs k hm)]
  exact hk
theorem cv_pm {n:Nat} {h:View} {I I':List Nat} {w:World} (hp:I.Perm I'):cv n h I w=cv n h I' w:=by
 funext k
 unfold cv
 by_cases hk:k∈I
 ·rw [if_pos hk,if_pos (hp.mem_iff.1 hk)]
 ·rw [if_neg hk,if_neg λ hm=>hk (hp.mem_iff.2 hm)]
theorem subJ {B J:BL} (hk:keysN J=true) (hl:lksJ B J):∀ b∈ids (oes J),b∈ids (oes B):=λ b hb=>by
 have hp:=oes_perm (lksJ_perm hk hl)
 rw [oes_app] at hp
 exact (ids_perm hp).mem_iff.2 (by rw [ids_app]; exact List.mem_append_left _ hb)
theorem cvv {w0 w w':World} {h0:View} {M:List Nat} {A A' R:List OE} {F:View→Prop} (hS:St w0 h0 M w (A++R) F) (hk:Keep (ids A) w w'):VLe (cv w.heap.size (cv w0.heap.size h0 (ids (A++R)) w) (ids A') w') (cv w0.heap.size h0 (ids (A'++R)) w'):=by
 intro k o h
 unfold cv at h ⊢
 rw [ids_app] at h ⊢
 split at h
 ·cases h
 rename_i hA'
 split at h
 ·rename_i hlt
  split at h
  ·cases h
  rename_i hAR
  have hA:k ∉ ids A:=λ hm=>hAR (List.mem_append_left _ hm)
  rw [if_neg λ hm=>by
   rcases List.mem_append.1 hm with hm | hm
   ·exact hA' hm
   ·exact hAR (List.mem_append_right _ hm)]
  split at h
  ·rename_i h2; rw [if_pos h2]; exact h
  ·rename_i h2; rw [if_neg h2,hk.block k hlt hA]; exact h
 ·rename_i hge
  rw [if_neg λ hm=>by
   rcases List.mem_append.1 hm with hm | hm
   ·exact hA' hm
   ·exact hge (hS.fresh k (by rw [ids_app]; exact List.mem_append_right _ hm)).2,if_neg λ h2=>hge (Nat.lt_of_lt_of_le h2 hS.keep.size)]
  exact h
theorem stGoV {w0 w w':World} {h0:View} {M I:List Nat} {A A' R:List OE} {F Φ:View→Prop} (hS:St w0 h0 M w (A++R) F) (hk:Keep (ids A) w w') (ho:OwnJ w' A') (hf:∀ b∈ids A',b∈ids A∨w.heap.size≤b) (hm:Mono Φ) (hI:I.Perm (ids (A++R))) (hΦ:Φ (cv w.heap.size (cv w0.heap.size h0 I w) (ids A') w')):St w0 h0 M w' (A'++R) λ h=>F h∧Φ h :=
 (hS.go hk ho hf).add hm (hm _ _ (cvv hS hk) (by rw [cv_pm hI] at hΦ; exact hΦ))
section yv
variable {c:Cx} (hT:c.T.Ok c.P)
include hT
theorem yV {σ:Type} (J:σ→BL) (s:σ) {g:σ→Value} {Ψ:σ→Prop} {Φ:σ→FV} (hm:∀ s,Mono (Φ s)) {al:List Oper} {K:KR} {d l:Nat} {x:Operand} {args:List Operand} {ats:Array TypeId} {ty:TypeId} {pos:String} {af:Array Edge} {rest:List Oper} {L:SL} {B:BL} {F:FV} {vsl:List Value}
  (H:∀ w v,VLe c.h0 v→F v→VLe v (Full w)→(∀ b∈ids (oes (J s)),v b=none)→OwnJ w (oes (J s))→YJV c.P J s l vsl w v (λ u s'=>u=g s'∧Ψ s') Φ)
  (k:∀ s',Ψ s'→wr c.n d (.v (g s')) L [] λ L I=>runs c al true K rest L I (J s'++delL B (J s)) (λ h=>F h∧Φ s' h))
  (hmd:c.md = .rd none:=by rfl) (hx:rdS L [] none x=some (.v (.func (.yield l) #[] #[])):=by rfl)
  (hl:lksJ B (J s):=by exact ⟨rfl,rfl,trivial⟩) (hkn:keysN (J s)=true:=by rfl) (ha:∀ s s',(J s).map (λ p=>(p.1,adOf p.2))=(J s').map (λ p=>(p.1,adOf p.2)):=by exact λ _ _=>rfl) (hnk:noK (J s)=true:=by rfl) (hnk':∀ s,noK (J s)=true:=by exact λ _=>rfl)
  (hv:argK (rdS L [] none) B args λ l=>l=vsl:=by exact rfl) :
  true=true∧WP c al (⟨some d,.call ⟨.value x,⟨args⟩,ats⟩,ty,pos,af,none⟩::rest) L [] B F K:=by
 have hperm:=lksJ_perm hkn hl
 have hoes:(oes B).Perm (oes (J s)++oes (delL B (J s))):=by rw [← oes_app]; exact oes_perm hperm
 refine ⟨rfl,⟨λ Q a w hn hp hD hS=>?_⟩⟩
 have hInv:Inv L []:=inv_nil
 obtain ⟨vl,rfl,hev⟩:=argK_sound (hρ_of (B:=B) hInv (cx:=none) (og:=none) rfl) hv
 have hS1:St c.w0 c.h0 c.M w (oes (J s)++oes (delL B (J s))) F:=hS.st.perm hoes
 have hin:∀ b∈ids (oes (J s)),b∈ids (oes B):=λ b hb=>(ids_perm hoes).mem_iff.2 (by rw [ids_app]; exact List.mem_append_left _ hb)
 have hown:OwnJ w (oes (J s)):=⟨λ e he=>hS1.own e (List.mem_append_left _ he),by have:=hS1.nd; rw [ids_app] at this; exact (List.nodup_append.1 this).1,λ b hb=>(hS.st.fresh b (hin b hb)).2⟩
 obtain ⟨fn,tmps,assign,body,hy,hR⟩:=H w _ hS.st.base_cv hS.st.facts hS.st.view (λ b hb=>cv_own (hin b hb)) hown
 refine wpM_plain rfl λ K' hK=>?_
 have fin:∀ v w',(∃ s',(v=g s'∧Ψ s')∧Keep (ids (oes (J s))) w w'∧OwnJ w' (oes (J s'))∧(∀ b∈ids (oes (J s')),b∈ids (oes (J s))∨w.heap.size≤b)∧Φ s' (cv w.heap.size (cv c.w0.heap.size c.h0 (ids (oes B)) w) (ids (oes (J s'))) w'))→K' (a.put (some d) v) w':=by
  rintro v w' ⟨s',⟨rfl,hΨ⟩,hk,ho,hfr,hΦ⟩
  obtain ⟨L',I',hX,hI',hdn,hkv,hrw⟩:=wr_sound hInv (k s' hΨ)
  refine hK _ _ ((runs_sound hT rest _ _ _ _ hX hI').run Q _ w' hn hp (Dn.cons (rr:=some (g s')) (hD.fr.put hdn _) hI' (λ t=>?_) (λ u hu=>(Option.some.inj hu).symm)) ⟨?_,λ m g' b o cs hmm=>?_⟩)
  ·rw [hkv,kv_fl (fl_congr λ sv=>dvO_go hl (ha s s') sv)]; rfl
  ·rw [oes_app]; exact stGoV hS1 hk ho hfr (hm s') (ids_perm hoes) hΦ
  ·rcases List.mem_append.1 hmm with hmm | hmm
   ·exact absurd hmm (noK_ne (hnk' s') _ _ _ _ _)
   ·exact gc_mk λ hy=>λ v w h1 h2 h3=>gc_yes (hS.bk m g' b o cs (hperm.mem_iff.2 (List.mem_append_right _ hmm))) hy v w h1 h2.1 h3
 rw [hmd]
 show Oper.wpIn (wideR none) 0 c.P _ a w K' Q
 have e1:a.eval x = .func (.yield l) #[] #[]:=hD.fr.ev (ev_sl hx rfl)
 have e2:args.map a.eval=vl:=evs_map _ vl (hev yes_none) λ y _ u hu=>hD.fr.ev hu
 have hrun:(execOp a.eval ⟨some d,.call ⟨.value x,⟨args⟩,ats⟩,ty,pos,af,none⟩).run c.P w = .ok (.round l fn tmps assign body) w:=by
  simp only [execOp,resolve,List.map_toArray,e1,e2,Deferred.ofValue,Sem.run_bind,Sem.run_pure,Result.andThen_ok,invoke,Array.empty_append]
  exact hy
 refine ⟨λ _ _=>trivial,?_⟩
 rw [Oper.semAt_eq _ _ _ (λ c hc=>by cases hc),hrun,Oper.uponIn_round]
 refine ⟨(λ h=>by cases h),hR.mono ?_⟩
 rintro e w' ⟨u,s',rfl,⟨h1,h2⟩,h3,h4,h5,h6⟩
 exact fin u w' ⟨s',⟨h1,h2⟩,h3,h4,h5,h6⟩
end yv
theorem entJV {σ:Type} (J:σ→BL) (s:σ) {g:σ→Value} {Ψ:σ→Prop} {Φ:σ→FV} (hm:∀ s,Mono (Φ s)) {P:Program} {T:Go.Dx.Tab} (hT:T.Ok P) {f:FuncId} {fn:Func} {code:Code} {args:List Value} {w0:World} {h0:View} {rs:List ResultVar} {n:Nat} (stop cut:List Nat) (as:List SV)
  (hf:P.funcs[f]?=some fn) (hb:fn.body=some code) (hn:fn.ntmps=n) (hle:Nat.ble as.length n=true) (hr:fn.results=rs.toArray) (hv:VLe h0 (Full w0)) (hno:∀ b∈ids (oes (J s)),h0 b=none) (ho:OwnJ w0 (oes (J s))) (ha:args=as.map (dv (J s)))
  (h:vcC ⟨P,T,.rd none,n,w0,h0,ids (oes (J s)),λ _=>False,stop,cut⟩ code (argV as 0) (J s) (λ _=>True) (λ L B F=>resK T L B rs λ vs=>∃ s',tupV vs=g s'∧Ψ s'∧keysN (J s')=true∧lksJ B (J s')∧∀ hh,VLe h0 hh→F hh→Φ s' hh) (λ _ _ _ _=>False)
   (λ L B F=>resK T L B rs λ vs=>∃ s',tupV vs=g s'∧Ψ s'∧keysN (J s')=true∧lksJ B (J s')∧∀ hh,VLe h0 hh→F hh→Φ s' hh)) (hnk:noK (J s)=true:=by rfl):Calls P f args.toArray w0 (RetJV J s w0 h0 (λ u s'=>u=g s'∧Ψ s') Φ):=by
 rw [ha]
 refine entGR (E:=λ B F vs=>∃ s',tupV vs=g s'∧Ψ s'∧keysN (J s')=true∧lksJ B (J s')∧∀ hh,VLe h0 hh→F hh→Φ s' hh) (h0:=h0) (kp:=λ _=>False) hT stop cut (ids (oes (J s))) as (J s) hf hb hn hle hr (λ _ _ h _=>h.elim) (sx_J rfl rfl hv hno ho hnk)
  (λ B F vs w ⟨s',h1,h2,h3,h4,h5⟩ hS=>?_) h
 obtain ⟨g1,g2⟩:=ownJ_sub hS h3 h4
 exact ⟨_,s',rfl,⟨h1,h2⟩,hS.st.keep,g1,λ b hb=>(g2 b hb).symm,hm s' _ _ (cv_sub (subJ h3 h4)) (h5 _ hS.st.base_cv hS.st.facts)⟩
def endV {σ:Type} (JR:σ→BL) (kl l:Nat) (rec:Loop) (v:View) (Ψ:Option Code→σ→Prop) (Φ:σ→FV) (j:Option Code) (B:BL) (F:FV):Prop :=
 ∃ s',Ψ j s'∧keysN (JR s'++[(kl,.e (some l,LoopC { rec with state := .busy }))])=true∧lksJ B (JR s'++[(kl,.e (some l,LoopC { rec with state := .busy }))])∧∀ hh,VLe v hh→F hh→Φ s' hh
theorem round_endV {σ:Type} {Φ:σ→FV} (hm:∀ s,Mono (Φ s)) {c:Cx} {P:Program} {JR:σ→BL} {kl l:Nat} {rec:Loop} {s:σ} {Ψ:Option Code→σ→Prop} {j:Option Code} {B:BL} {F:FV} {w w2:World} (hw0:c.w0=w) (hM:c.M=ids (oes (JL JR kl l rec (none,s)))) (hS:Sx c B F w2) (h:endV JR kl l rec c.h0 Ψ Φ j B F) :
  ∃ v w',(Instr.endRound l j).run P w2 = .ok v w'∧RetJV (JL JR kl l rec) (none,s) w c.h0 (λ u z=>u = .bool z.1.isNone∧Ψ z.1 z.2) (λ z=>Φ z.2) (.returned v) w':=by
 obtain ⟨s',hΨ,hkn,hlk,hΦ⟩:=h
 obtain ⟨g1,g2⟩:=ownJ_sub hS hkn hlk
 have eo:∀ C,oes (JR s'++[(kl,OB.e (some l,C))])=oes (JR s')++[(some l,C)]:=λ C=>by rw [oes_app]; rfl
 have ei:∀ C:Option Obj→Prop,ids (oes (JR s')++[(some l,C)])=ids (oes (JR s'))++[l]:=λ C=>by rw [ids_app]; rfl
 rw [eo] at g1 g2
 rw [ei] at g2
 have hl2:w2.heap[l]?=some (.loop { rec with state := .busy }):=g1.own (some l,_) (List.mem_append_right _ (List.mem_singleton.2 rfl))
 have hlt2:l<w2.heap.size:=(Array.getElem?_eq_some_iff.1 hl2).1
 have hnd:=g1.nd
 rw [ei] at hnd
 have hnl:∀ b∈ids (oes (JR s')),b≠l:=λ b hb e=>(List.nodup_append.1 hnd).2.2 b hb l (List.mem_singleton.2 rfl) e
 have hend:=run_endRound (P:=P) j hl2
 have hk2:Keep (ids (oes (JL JR kl l rec (none,s)))) w w2:=by
  have:=hS.st.keep
  rwa [hw0,hM] at this
 refine ⟨_,_,hend,_,(j,s'),rfl,⟨rfl,hΨ⟩,?_,?_,?_,?_⟩
 ·refine hk2.trans (keep_put.mono λ b hb _=>?_)
  have:b=l:=by simpa using hb
  subst this
  rw [oes_JL,ids_app]; exact List.mem_append_right _ (List.mem_singleton.2 rfl)
 ·rw [oes_JL]
  refine ⟨λ e he=>?_,by rw [ei]; exact hnd,λ b hb=>?_⟩
  ·rcases List.mem_append.1 he with he | he
   ·have:=g1.own e (List.mem_append_left _ he)
    cases h1:e.1 with
    | none=>rw [h1] at this; exact this
    | some b =>
     rw [h1] at this
     have hb:b∈ids (oes (JR s')):=List.mem_filterMap.2 ⟨e,he,h1⟩
     simp only [Option.bind_some] at this ⊢
     rw [World.putObj_heap_other (hnl b hb)]; exact this
   ·rw [List.mem_singleton.1 he]
    exact World.putObj_heap_same (o := .loop (recP rec j)) hlt2
  ·rw [World.putObj_size]
   rw [ei] at hb
   have:=g1.lt b
   rw [ei] at this
   exact this hb
 ·intro b hb
  rw [oes_JL,ei] at hb
  have:=g2 b hb
  rw [hw0,hM] at this
  exact this.symm
 ·refine hm s' _ _ (λ k o hk=>?_) (hΦ _ hS.st.base_cv hS.st.facts)
  rw [← hw0,oes_JL,ei]
  have hk2:=cv_sub (n:=c.w0.heap.size) (h:=c.h0) (w:=w2) (λ b hb=>subJ hkn hlk b (by rw [eo,ei]; exact hb)) k o hk
  unfold cv at hk2 ⊢
  split at hk2
  ·cases hk2
  ·rename_i hnm
   have hkl:k≠l:=λ e=>hnm (by rw [e]; exact List.mem_append_right _ (List.mem_singleton.2 rfl))
   rw [if_neg hnm,World.putObj_heap_other hkl]
   exact hk2
set_option maxHeartbeats 1000000 in
theorem roundV {σ:Type} {Φ:σ→FV} (hm:∀ s,Mono (Φ s)) {P:Program} {T:Go.Dx.Tab} (hT:T.Ok P) (JR:σ→BL) (kl:Nat) {rec:Loop} (hrec:rec.state = .ready) (hpe:rec.pending=none) (s:σ) {Ψ:Option Code→σ→Prop} (stop cut:List Nat) (L0:SL) {l n:Nat} {v:View} {w:World} {tmps:Array Value}
  (hv:VLe v (Full w)) (hno:∀ b∈ids (oes (JL JR kl l rec (none,s))),v b=none) (ho:OwnJ w (oes (JL JR kl l rec (none,s)))) (hsz:tmps.size=n)
  (hL:∀ t x,kv L0 [] (JL JR kl l rec (none,s)) t=some x→tmps.getD t undef=x)
  (h:vcC ⟨P,T,.rd (some l),n,w,v,ids (oes (JL JR kl l rec (none,s))),λ _=>False,stop,cut⟩ rec.assign L0 (JL JR kl l rec (none,s)) (λ _=>True)
   (λ L B F=>lkA B kl=some (.e (some l,LoopC (recP rec none)))∧setAK B kl (.e (some l,LoopC { rec with state := .busy })) λ B =>
    vcC ⟨P,T,.rd (some l),n,w,v,ids (oes (JL JR kl l rec (none,s))),λ _=>False,stop,cut⟩ rec.body L B F
     (λ _ B F=>endV JR kl l rec v Ψ Φ none B F) (λ i _ B F=>bif Nat.blt i 1000000 then endV JR kl l rec v Ψ Φ (some (.exit i)) B F else False) (λ _ B F=>endV JR kl l rec v Ψ Φ (some .ret) B F))
   (λ _ _ _ _=>False) (λ _ _ _=>False)) (hnk:noK (JL JR kl l rec (none,s))=true:=by rfl) :
  RoundIn Fence.wide 0 P l rec.fn tmps rec.assign rec.body w (RetJV (JL JR kl l rec) (none,s) w v (λ u z=>u = .bool z.1.isNone∧Ψ z.1 z.2) (λ z=>Φ z.2)):=by
 refine roundIn_of_wpIn trivial ?_
 rw [← wide_some]
 generalize hM:ids (oes (JL JR kl l rec (none,s)))=M at h
 have hS0:Sx ⟨P,T,.rd (some l),n,w,v,M,λ _=>False,stop,cut⟩ (JL JR kl l rec (none,s)) (λ _=>True) w:=sx_J rfl hM.symm hv hno ho hnk
 refine (vcC_sound (c:=⟨P,T,.rd (some l),n,w,v,M,λ _=>False,stop,cut⟩) hT rec.assign _ _ _ _ _ _ h).run _ ⟨tmps,[]⟩ w (λ L B F a w1 hk hD hS=>?_) ⟨λ _ _ _ _ _ _ _ h=>h.elim,λ _ _ _ _ _ _ h=>h.elim⟩ (λ _ _ _ _ _ h _ _=>h.elim) (λ _ _ _ h _ _=>h.elim)
  ⟨Fr.of_kv rfl hsz λ t x hx=>hL t x hx,inv_nil⟩ hS0
 obtain ⟨hB,hset⟩:=hk
 have hl1:w1.heap[l]?=some (.loop (recP rec none)):=by
  obtain ⟨i,hi,_⟩:=lkE_ix hB
  exact hS.st.at hi
 rw [recP_none hrec hpe] at hl1
 have hlt1:l<w1.heap.size:=(Array.getElem?_eq_some_iff.1 hl1).1
 refine ⟨_,run_beginRound hl1 hrec,?_⟩
 obtain ⟨B',hvc,hS',hdv⟩:=setAK_own hB hset hS keep_put (C':=LoopC { rec with state := .busy }) (World.putObj_heap_same hlt1)
 refine (vcC_sound (c:=⟨P,T,.rd (some l),n,w,v,M,λ _=>False,stop,cut⟩) hT rec.body _ _ _ _ _ _ hvc).run (roundPost P l _) a _ (λ L B F a w2 hk hD hS=>?_) ⟨λ i hi L B F a w2 hk hD hS=>?_,λ l L B F a w2 hk hD hS=>?_⟩ (λ L B F a w2 hk hD hS=>?_) (λ _ _ _ h _ _=>h.elim)
  ⟨by rw [fl_congr hdv]; exact hD.fr,inv_nil⟩ hS'
 ·exact round_endV (c:=⟨P,T,.rd (some l),n,w,v,M,λ _=>False,stop,cut⟩) hm rfl hM.symm hS hk
 ·rw [hi] at hk
  exact round_endV (c:=⟨P,T,.rd (some l),n,w,v,M,λ _=>False,stop,cut⟩) hm rfl hM.symm hS hk
 ·rw [no_blt] at hk; exact hk.elim
 ·exact round_endV (c:=⟨P,T,.rd (some l),n,w,v,M,λ _=>False,stop,cut⟩) hm rfl hM.symm hS hk
set_option maxHeartbeats 1000000 in
theorem rangeV {c:Cx} {σ:Type} {Φ:σ→FV} (hm:∀ s,Mono (Φ s)) (JR:σ→BL) (s:σ) (kl kd:Nat) (ds:List Deferred) {Ψ:Option Code→σ→Prop} {g:Operand} {ps:Array Tmp} {assign body:Code} {gf:Nat} {lb:List Value} {L:SL} {B:BL} {F:FV} {Q:Exit→Act→World→Prop} {a:Act} {w:World}
  (hD:Dn c L [] B a) (hS:Sx c B F w) (hg:a.eval g = .func (.func gf) #[] lb.toArray) (hgf:CallOk c.P gf)
  (hl:lksJ B (JR s)) (hkn:keysN (JR s)=true) (ha:∀ s s',(JR s).map (λ p=>(p.1,adOf p.2))=(JR s').map (λ p=>(p.1,adOf p.2))) (hnk':∀ s,noK (JR s)=true)
  (hkd:∀ s',lkA (JR s'++delL B (JR s)) kd=none)
  (H:∀ (rec:Loop) (l:Nat),rec.state = .ready→rec.pending=none→rec.tmps=a.tmps→rec.params=ps→rec.assign=assign→rec.body=body→∀ w1 v,VLe c.h0 v→F v→VLe v (Full w1) →
   (∀ b∈ids (oes (JL JR kl l rec (none,s))),v b=none)→OwnJ w1 (oes (JL JR kl l rec (none,s)))→Calls c.P gf (Value.func (.yield l) #[] #[]::lb).toArray w1 (RetJV (JL JR kl l rec) (none,s) w1 v (λ _ z=>Ψ z.1 z.2) (λ z=>Φ z.2)))
  (k:∀ j s' D w',Ψ j s'→Dn c L [] ((kd,.e (some D,DefC))::(JR s'++delL B (JR s))) a→Sx c ((kd,.e (some D,DefC))::(JR s'++delL B (JR s))) (λ h=>F h∧Φ s' h) w' →
   match j with
   | none=>Q .normal { a with defers:=⟨.collected D,#[]⟩::ds } w'
   | some cd=>cd.wp c.P Q { a with defers:=⟨.collected D,#[]⟩::ds } w') :
  (Code.rangeFunc g ps assign body).wp c.P Q { a with defers:=ds } w:=by
 refine (wpIn_wide (n:=1)).1 (wpIn_rangeFunc ?_)
 intro fn _
 have hperm:=lksJ_perm hkn hl
 have hoes:(oes B).Perm (oes (JR s)++oes (delL B (JR s))):=by rw [← oes_app]; exact oes_perm hperm
 have hS0:St c.w0 c.h0 c.M w (oes (JR s)++oes (delL B (JR s))) F:=hS.st.perm hoes
 obtain ⟨rec,hrec⟩:∃ rec:Loop,rec={ state := .ready,pending:=none,fn,tmps:=a.tmps,params:=ps,assign,body,defers:=w.heap.size }:=⟨_,rfl⟩
 have hrn:recP rec none=rec:=recP_none (by rw [hrec]) (by rw [hrec])
 obtain ⟨W1,hW1⟩:∃ W1,(w.alloc (.deferred (some []))).alloc (.loop rec)=W1:=⟨_,rfl⟩
 obtain ⟨D,hDe⟩:∃ D,D=w.heap.size:=⟨_,rfl⟩
 obtain ⟨l,hle⟩:∃ l,l=w.heap.size+1:=⟨_,rfl⟩
 have hS1:=(hS0.new (.deferred (some [])) (C:=DefC) rfl).new (.loop rec) (C:=LoopC (recP rec none)) (by rw [hrn]; rfl)
 rw [hW1,World.size_alloc,← hDe,show D+1=l by omega] at hS1
 have pm:((some l,LoopC (recP rec none))::(some D,DefC)::(oes (JR s)++oes (delL B (JR s)))).Perm ((oes (JR s)++[(some l,LoopC (recP rec none))])++((some D,DefC)::oes (delL B (JR s)))):=by
  rw [List.append_assoc,List.singleton_append]
  refine (List.Perm.trans ?_ List.perm_middle.symm)
  exact List.Perm.cons _ List.perm_middle.symm
 have hS2:=hS1.perm pm
 have hin:∀ b∈ids (oes (JR s)++[(some l,LoopC (recP rec none))]),b∈ids ((oes (JR s)++[(some l,LoopC (recP rec none))])++((some D,DefC)::oes (delL B (JR s)))):=λ b hb=>by rw [ids_app]; exact List.mem_append_left _ hb
 have hown:OwnJ W1 (oes (JR s)++[(some l,LoopC (recP rec none))]):=⟨λ e he=>hS2.own e (List.mem_append_left _ he),by have:=hS2.nd; rw [ids_app] at this; exact (List.nodup_append.1 this).1,λ b hb=>(hS2.fresh b (hin b hb)).2⟩
 have hcall:=H rec l (by rw [hrec]) (by rw [hrec]) (by rw [hrec]) (by rw [hrec]) (by rw [hrec]) (by rw [hrec]) W1 _ hS2.base_cv hS2.facts hS2.view (λ b hb=>cv_own (hin b (by rw [oes_JL] at hb; exact hb))) (by rw [oes_JL]; exact hown)
 refine ⟨l,[⟨.collected D,#[]⟩],W1,{ target := .fn (.func gf) lb.toArray,args:=#[.func (.yield l) #[] #[]] },W1,gf,#[.func (.yield l) #[] #[]]++lb.toArray,W1,?_,?_,λ _ _=>trivial,?_,λ _=>Nat.le_refl _,?_⟩
 ·have:=run_enterLoop_outer (P:=c.P) (w:=w) fn a.tmps ps assign body
  rw [← hrec,hW1,← hDe,show D+1=l by omega] at this
  exact this
 ·have hg':({ a with defers:=ds }:Act).eval g = .func (.func gf) #[] lb.toArray:=hg
  simp only [resolve,hg']
  simp [go_sem]
 ·simp only [invoke]
  exact run_call hgf
 ·refine callsIn_wide.2 ?_
  have e0:(#[.func (.yield l) #[] #[]]++lb.toArray:Array Value)=(Value.func (.yield l) #[] #[]::lb).toArray:=by simp
  rw [e0]
  refine hcall.mono ?_
  rintro e W2 ⟨u,⟨j,s'⟩,rfl,hΨ,hk2,ho2,hf2,hΦ⟩
  rw [oes_JL] at hk2 ho2 hf2 hΦ
  rw [oes_JL] at hf2
  dsimp only at hk2 ho2 hf2 hΨ hΦ
  have hS3:=stGoV hS2 hk2 ho2 hf2 (hm s') (List.Perm.refl _) hΦ
  have pm2:((oes (JR s')++[(some l,LoopC (recP rec j))])++((some D,DefC)::oes (delL B (JR s)))).Perm ((some l,LoopC (recP rec j))::(some D,DefC)::(oes (JR s')++oes (delL B (JR s)))):=by
   rw [List.append_assoc,List.singleton_append]
   refine List.Perm.trans List.perm_middle ?_
   exact List.Perm.cons _ List.perm_middle
  have hS4:=hS3.perm pm2
  have hl2:W2.heap[l]?=some (.loop (recP rec j)):=hS4.at (i:=0) rfl
  have hlt2:l<W2.heap.size:=(Array.getElem?_eq_some_iff.1 hl2).1
  have hend:=run_endLoop (P:=c.P) hl2 (by unfold recP; cases j <;> simp)
  have hS5:=hS4.write (i:=0) (C':=λ _=>True) rfl (keep_put (o := .loop { recP rec j with state := .exhausted })) trivial
  have hS6:=St.suffix (A:=[(some l,λ _=>True)]) hS5
  have hdv:∀ sv,dvO ((kd,.e (some D,DefC))::(JR s'++delL B (JR s))) sv=dvO B sv:=λ sv=>(nil_dv (hkd s') (some D,DefC) sv).trans (dvO_go hl (ha s s') sv)
  have fin:=k j s' D (W2.putObj l (.loop { recP rec j with state := .exhausted })) hΨ ⟨by rw [fl_congr hdv]; exact hD.fr,inv_nil⟩ ⟨by
   show St _ _ _ _ ((some D,DefC)::oes (JR s'++delL B (JR s))) _
   rw [oes_app]; exact hS6,λ m g' b o cs hmm=>by
   rcases List.mem_cons.1 hmm with hmm | hmm
   ·cases hmm
   rcases List.mem_append.1 hmm with hmm | hmm
   ·exact absurd hmm (noK_ne (hnk' s') _ _ _ _ _)
   ·exact gc_mk λ hy=>λ v w h1 h2 h3=>gc_yes (hS.bk m g' b o cs (hperm.mem_iff.2 (List.mem_append_right _ hmm))) hy v w h1 h2.1 h3⟩
  refine ⟨j,_,hend,?_⟩
  cases j with
  | none=>exact fin
  | some cd=>exact (wpIn_wide (n:=1)).2 fin
theorem rdWp {c:Cx} (hmd:c.md = .rd none) {co:Code} {L:SL} {B:BL} {F:FV} {kn:KN} {kx:Nat→KN} {kr:KN} (h:CP ⟨c.P,c.T,.wp,c.n,c.w0,c.h0,c.M,c.kp,c.stop,c.cut⟩ co L B F kn kx kr):CP c co L B F kn kx kr:=by
 refine ⟨λ Q a w hn hx hr hp hD hS=>?_⟩
 rw [hmd]
 show co.wpIn (wideR none) 0 c.P Q a w
 refine wpIn_wide.2 (h.run Q a w (λ L B F a w hk hD hS=>hn L B F a w hk ⟨hD.fr,hD.inv⟩ ⟨hS.st,hS.bk⟩) ⟨λ i hi L B F a w hk hD hS=>hx.ex i hi L B F a w hk ⟨hD.fr,hD.inv⟩ ⟨hS.st,hS.bk⟩,λ l L B F a w hk hD hS=>hx.go l L B F a w hk ⟨hD.fr,hD.inv⟩ ⟨hS.st,hS.bk⟩⟩ (λ L B F a w hk hD hS=>hr L B F a w hk ⟨hD.fr,hD.inv⟩ ⟨hS.st,hS.bk⟩) (λ ch a w h1 h2 h3=>hp ch a w h1 h2 h3) ⟨hD.fr,hD.inv⟩ ⟨hS.st,hS.bk⟩)
section sealv
variable {c:Cx} {α:Type} {T sz nn cp k:Nat} {a0:Option Addr} {g:α→List Value} {l:List α} {B:BL} {F:FV}
theorem seal_sxV (hM:∀ b∈c.M,∃ k' C,k'≠k∧lkA B k'=some (.e (some b,C))) (hB:lkA B k=some (.e (bufE T sz (.slice a0 nn cp) (l.map g).flatten))) (hn:nn=l.length) (hg:∀ x∈l,(g x).length=sz) {X:BL→Prop} (h:delE B k X) :
  ∃ B',X B'∧(∀ s,dvO B' s=dvO B s)∧∀ w,Sx c B F w→Sx c B' (λ h=>F h∧SlC T sz (flatR g) h (.slice a0 nn cp) l) w:=by
 obtain ⟨B',i,h1,h2,h3,h4,h5⟩:=delE_sound hB h
 refine ⟨B',h1,dvO_delE hB h4,λ w hS=>⟨?_,hS.bk.sub h5 λ v h=>h.1⟩⟩
 have hst:=hS.st
 rw [h3]
 cases a0 with
 | none =>
  refine (hst.forget i).add Mono.slF ?_
  have hC:=hst.own _ (List.mem_of_getElem? h2)
  exact BufC.sl hC (λ b hb=>by cases hb) hg hn
 | some ad =>
  cases hown:(Value.slice (some ad) nn cp).ownBlock with
  | none =>
   refine (hst.forget i).add Mono.slF ?_
   have hC:=hst.own _ (List.mem_of_getElem? h2)
   exact BufC.sl hC (λ b hb=>by rw [hown] at hb; cases hb) hg hn
  | some b =>
   have h2':(oes B)[i]?=some (some b,BufC T sz (.slice (some ad) nn cp) (l.map g).flatten):=by rw [h2]; unfold bufE; rw [hown]
   have hbM:b ∉ c.M:=by
    intro hmem
    obtain ⟨k',C,hk1,hk2⟩:=hM b hmem
    obtain ⟨g1,_⟩:=ids_eraseM h2' hst.nd
    rw [← h3] at g1
    have hk3:lkA B' k'=some (.e (some b,C)):=by rw [h4,if_neg hk1]; exact hk2
    exact g1 (List.mem_filterMap.2 ⟨_,oes_mem hk3 rfl,rfl⟩)
   refine hst.shutM h2' hbM Mono.slF λ hh o hv hF hb hC=>BufC.sl hC (λ b' hb'=>?_) hg hn
   rw [hown] at hb'; cases hb'; exact hb
theorem sealV {al r:List Oper} {L:SL} {K:KR} (k:Nat) (hM:∀ b∈c.M,∃ k' C,k'≠k∧lkA B k'=some (.e (some b,C))) (hB:lkA B k=some (.e (bufE T sz (.slice a0 nn cp) (l.map g).flatten))) (hn:nn=l.length) (h:delE B k λ B'=>WP c al r L [] B' (λ h=>F h∧SlC T sz (flatR g) h (.slice a0 nn cp) l) K)
  (hg:∀ x∈l,(g x).length=sz:=by intros; rfl):WP c al r L [] B F K:=by
 obtain ⟨B',h1,h2,h3⟩:=seal_sxV hM hB hn hg h
 exact ⟨λ Q a w hn hp hD hS=>h1.run Q a w hn hp ⟨by rw [fl_congr h2]; exact hD.fr,hD.inv⟩ (h3 w hS)⟩
end sealv
section mk
variable {c:Cx} (hT:c.T.Ok c.P)
include hT
theorem mkI {al:List Oper} {K:KR} {d t e m:Nat} {k1 k2:IntKind} {x y:Operand} {ty:TypeId} {pos:String} {af:Array Edge} {r:List Oper} {L:SL} {B:BL} {F:FV} (kn:Nat) (hk:lkA B kn=none) (ht:c.P.underlying t=some (.slice e)) (hz:(c.P.info? e).map (λ i=>(i.zero,i.size,i.bytes))=some (some (.int .i64 0),1,8))
  (hx:rdS L [] none x=some (.v (.int k1 (m:Int)))) (hy:rdS L [] none y=some (.v (.int k2 (m:Int)))) (hm:m≤1000000)
  (h:∀ b,runs c al true K r ((d,.v (.slice (some ⟨b,0,none⟩) m m))::L) [] ((kn,.e (bufE e 1 (.slice (some ⟨b,0,none⟩) m m) (List.replicate m (.int .i64 0))))::B) F) (hd:Nat.blt d c.n=true:=by rfl) :
  true=true∧WP c al (⟨some d,.makeSlice t x y,ty,pos,af,none⟩::r) L [] B F K:=by
 refine ⟨rfl,⟨λ Q a w hn hp hD hS=>?_⟩⟩
 obtain ⟨i,hi,hzz,hs,hb⟩:∃ i,c.P.info? e=some i∧i.zero=some (.int .i64 0)∧i.size=1∧i.bytes=8:=by
  cases hi:c.P.info? e with
  | none=>rw [hi] at hz; cases hz
  | some i =>
   rw [hi] at hz
   have hz:=Option.some.inj hz
   simp only [Prod.mk.injEq] at hz
   exact ⟨i,rfl,hz.1,hz.2.1,hz.2.2⟩
 have e2:IntKind.i64.wrap (m:Int)=(m:Int):=wrap_i64 (by omega) (by omega)
 have hrun:Ds c.P (fl L [] B) ⟨some d,.makeSlice t x y,ty,pos,af,none⟩ w λ v' w'=>v' = .slice (some ⟨w.heap.size,0,none⟩) m m∧w'=w.alloc (.cells (List.replicate m (.int .i64 0)).toArray e):=by
  intro ρ hρ
  have h1:¬ ((281474976710656:Int)<8*(m:Int)):=by omega
  unfold Dx.Does
  have hr:(Instr.makeSlice t (.int k1 (m:Int)) (.int k2 (m:Int))).run c.P w = .ok (.slice (some ⟨w.heap.size,0,none⟩) m m) (w.alloc (.cells (List.replicate m (.int .i64 0)).toArray e)):=by
   unfold Instr.makeSlice
   by_cases hne:m=0
   ·subst hne
    have e3:IntKind.i64.wrap 0=0:=e2
    simp [e3,run_underlying ht,asInt,asIntOf,typeInfo,hi,e2,sizeOf,hs,hb,newRow,zeroValue,hzz,Value.cells,askRoom,roomBytes]
    congr 2
    apply Array.toList_inj.1
    simp [Array.range]
   simp [run_underlying ht,asInt,asIntOf,typeInfo,hi,e2,sizeOf,hs,hb,newRow,zeroValue,hzz,Value.cells,h1,show ¬ (m:Int)<0 by omega,askRoom,hne,show ¬ roomBytes<m*8 by simp only [roomBytes]; omega]
   congr 2
   apply Array.toList_inj.1
   apply List.ext_getElem?
   intro j
   by_cases hj:j<m
   ·simp [hj,Nat.mod_one]
   ·simp [hj]
  have:(execOp ρ ⟨some d,.makeSlice t x y,ty,pos,af,none⟩).run c.P w = .ok (.value (.slice (some ⟨w.heap.size,0,none⟩) m m)) (w.alloc (.cells (List.replicate m (.int .i64 0)).toArray e)):=by
   simp only [execOp,hρ x (by simp [Op.operands]) _ (ev_sl hx rfl),hρ y (by simp [Op.operands]) _ (ev_sl hy rfl),Sem.run_bind,hr,Result.andThen_ok,Sem.run_pure]
  rw [this]
  exact ⟨rfl,rfl⟩
 refine s_ds hD.fr hrun hd ?_
 rintro v' w' a' ⟨rfl,rfl⟩ hF'
 refine (runs_sound hT r _ _ _ _ (h w.heap.size) inv_nil).run Q a' _ hn hp ⟨by rw [fl_congr (nil_dv hk _)]; exact hF',inv_nil⟩ ⟨?_,λ q g b o cs hq=>?_⟩
 ·refine hS.st.new _ (C:=BufC e 1 (.slice (some ⟨w.heap.size,0,none⟩) m m) (List.replicate m (.int .i64 0))) (.inr ⟨w.heap.size,0,m,m,(List.replicate m (.int .i64 0)).toArray,(0,0),rfl,rfl,noFz00 _,by simp,Nat.le_refl _,by simp only [maxLen]; omega,by simp,by simp⟩)
 ·rcases List.mem_cons.1 hq with hq | hq
  ·cases hq
  ·exact hS.bk _ _ _ _ _ hq
end mk
end Go.Proofs.YtbmmnalndollkaaGreatDoor
