/- Laws of walks, and what functions of the program compute: part 2. Each with the conditions that it names. -/
import Derived.Recover
import Derived.OrdersHeld
import Derived.Lib.Builder
import Derived.Lib.UnsafeStr
import Derived.Laws.Pointers
import Derived.Laws.Externs
import Derived.RangeFuncRecord
import Derived.Test.YtbmmnalndollkaaGreatDoorSda
set_option linter.unusedSimpArgs false
set_option linter.unusedVariables false
namespace Go.Dx
open Go Go.RowKit
structure Cx where
 P:Program
 T:Tab
 md:Md
 n:Nat
 w0:World
 h0:View
 M:List Nat
 kp:List PanicEntry→Prop
 stop:List Nat
 cut:List Nat
abbrev FV:=View→Prop
abbrev KR:=SL→IL→BL→FV→Prop
def oeOf:OB→Option OE
 | .c b T cs=>some (some b,CellsC T cs)
 | .k ..=>none
 | .e e=>some e
def oes (B:BL):List OE:=B.filterMap λ p=>oeOf p.2
structure Sx (c:Cx) (B:BL) (F:FV) (w:World):Prop where
 st:St c.w0 c.h0 c.M w (oes B) F
 bk:BOk c.h0 F B
structure Dn (c:Cx) (L:SL) (I:IL) (B:BL) (a:Act):Prop where
 fr:Fr a c.n (fl L I B)
 inv:Inv L I
def PanOk (c:Cx) (Q:Exit→Act→World→Prop):Prop:=∀ ch a w,c.kp ch→a.defers=[]→Keep c.M c.w0 w→Q (.panic ch) a w
def NormOk (c:Cx) (K:KR) (Q:Exit→Act→World→Prop):Prop:=∀ L I B F a w,K L I B F→Dn c L I B a→Sx c B F w→Q .normal a w
structure WP (c:Cx) (al l:List Oper) (L:SL) (I:IL) (B:BL) (F:FV) (K:KR):Prop where
 run:∀ Q a w,NormOk c K Q→PanOk c Q→Dn c L I B a→Sx c B F w→wpM c.md c.P al.toArray Q l a w
def noNm:SL→Nat→Bool
 | [],_=>true
 | (_,.o k _)::r,d=>bif Nat.beq k d then false else noNm r d
 | (_,.s k _ _ _)::r,d=>bif Nat.beq k d then false else noNm r d
 | (_,_)::r,d=>noNm r d
def noNmI:IL→Nat→Bool
 | [],_=>true
 | (_,⟨_,_,_,.o k _⟩)::r,d=>bif Nat.beq k d then false else noNmI r d
 | (_,⟨_,_,_,.s k _ _ _⟩)::r,d=>bif Nat.beq k d then false else noNmI r d
 | (_,_)::r,d=>noNmI r d
def noLab:IL→Nat→Bool
 | [],_=>true
 | (_,e)::r,d=>bif Nat.beq e.t d then false else noLab r d
def delK:IL→Nat→(IL→Prop)→Prop
 | [],_,K=>K []
 | (k,e)::r,d,K=>bif Nat.beq k d then delK r d K else delK r d λ r'=>K ((k,e)::r')
def wr (n d:Nat) (s:SV) (L:SL) (I:IL) (X:SL→IL→Prop):Prop :=
 bif Nat.blt d n&&noLab I d then delK I d λ I'=>X ((d,s)::L) I' else False
def wrG (n d t:Nat) (c g:Bool) (s:SV) (L:SL) (I:IL) (X:SL→IL→Prop):Prop :=
 bif Nat.blt d n&&noLab I d && !Nat.beq d t then X ((d,.u)::L) ((d,⟨t,c,g,s⟩)::I) else False
def fresh (d:Nat) (L:SL) (I:IL) (B:BL) (X:Prop):Prop:=match lkA B d with
 | some _=>False
 | none=>bif noNm L d&&noNmI I d then X else False
def setAK:BL→Nat→OB→(BL→Prop)→Prop
 | [],_,_,_=>False
 | (k,o)::r,d,o',K=>bif Nat.beq k d then K ((k,o')::r) else setAK r d o' λ r'=>K ((k,o)::r')
def adB (a:Option Addr):Nat:=match a with
 | some x=>x.block
 | none=>0
def adO (a:Option Addr):Nat:=match a with
 | some x=>x.off
 | none=>0
inductive CallG (c:Cx) (sq:Bool) (og:Option Bool) (B:BL) (F:FV) (f:Nat) (vsl:List Value) (Kv:SV→Prop) (W:Prop):Prop where
 | v (x:Value) (H:gc og (∀ w,Sx c B F w→∃ h,Calls c.P f vsl.toArray w (Ret w h λ u _=>u=x))) (k:Kv (.v x)):CallG c sq og B F f vsl Kv W
 | w (hs:sq=true) (h:W):CallG c sq og B F f vsl Kv W
 | r (e n:Nat) (cs:List Value) (hs:sq=false) (ho:og=none) (H:∀ w,Sx c B F w→Calls c.P f vsl.toArray w (RetM [] w λ v w'=>∃ b,v = .slice (some ⟨b,0,none⟩) n n∧NewRow w e cs b w')) (k:Kv (.r e n cs)):CallG c sq og B F f vsl Kv W
def calG (c:Cx) (sq:Bool) (og:Option Bool) (B:BL) (F:FV) (ρ:Operand→Option SV) (f:Operand) (args:List Operand) (Kv:SV→Prop) (W:Prop):Prop:=match f with
 | .func g=>bif memF c.T.fs g then argK ρ B args λ vsl=>CallG c sq og B F g vsl Kv W else False
 | x=>rd1 ρ x λ s=>match s with
  | .v (.func (.func g) ⟨first⟩ ⟨cap⟩)=>bif memF c.T.fs g then argK ρ B args λ vsl=>CallG c sq og B F g (first++vsl++cap) Kv W else False
  | .v (.func (.yield _) _ _)=>sq=true∧W
  | _=>False
def ElC (h0:View) (F:FV) (ad:Option Addr) (o:Nat) (cs:List Value):Prop:=∀ v,VLe h0 v→F v→ad=some ⟨adB ad,adO ad,none⟩∧∀ w,VLe v (Full w)→∀ j x,cs[j]?=some x→w.cell? ⟨adB ad,adO ad+o+j,none⟩=some x
def ixG (c:Cx) (F:FV) (og:Option Bool) (td:Option TD) (s s':SV) (X:Nat→Nat→List Value→Prop):Prop:=match td,s,s' with
 | some ⟨.sl _ sz,_,_,_⟩,.v (.slice ad n _),.v (.int _ i)=>∃ (j:Nat) (cs:List Value),gc og (i=(j:Int)∧j<n∧ElC c.h0 F ad (j*sz) cs)∧X (adB ad) (adO ad+j*sz) cs
 | _,_,_=>False
def isSl (td:Option TD):Bool:=match td with
 | some ⟨.sl _ _,_,_,_⟩=>true
 | _=>false
def usC (I:IL) (cx:Option (Nat×Bool)) (t:Nat) (c:Bool):Bool:=match cx with
 | none=>false
 | some (t0,c0)=>usb I 8 t0 c0 t c
def armS (L:SL) (I:IL) (cx:Option (Nat×Bool)) (tc:Nat) (p:Bool):Operand→Option SV
 | .tmp t=>match lkA I t with
  | some e=>bif (Nat.beq e.t tc&&bq e.c p)||usC I cx e.t e.c then some e.s else none
  | none=>lkA L t
 | .const v=>some (.v v)
 | _=>none
def pickK (b:Bool) (x y:Operand) (sx sy:Option SV) (K:SV→Prop):Prop:=match sx,sy with
 | some (.v vx),some (.v vy)=>match x,y with
  | .const (.bool true),_=>match vy with
   | .bool q=>K (.v (.bool (b||q)))
   | _=>False
  | _,.const (.bool false)=>match vx with
   | .bool p=>K (.v (.bool (b&&p)))
   | _=>False
  | _,_=>match vx,vy with
   | .bool p,.bool q=>K (.v (.bool (bif b then p else q)))
   | .int k m,.int k2 n=>bif ikb k k2 then K (.v (.int k (bif b then m else n))) else False
   | .string ⟨⟨l⟩⟩,.string ⟨⟨l'⟩⟩=>K (.v (vs (bif b then l else l')))
   | _,_=>K (.v (bif b then vx else vy))
 | _,_=>False
def pkG (L:SL) (I:IL) (cx:Option (Nat×Bool)) (x y z:Operand) (K:SV→Prop):Prop:=match x with
 | .tmp tc=>match rdT L I cx tc with
  | some (.v (.bool b))=>pickK b y z (armS L I cx tc true y) (armS L I cx tc false z) K
  | _=>False
 | _=>False
def unEnum:Nat→List (Nat×Operand)→Option (List Operand)
 | _,[]=>some []
 | k,(i,x)::r=>bif Nat.beq i k then (match unEnum (k+1) r with
  | some l=>some (x::l)
  | none=>none) else none
def bslK (ρ:Operand→Option SV) (B:BL) (sz:Nat):List Operand→(List Value→Prop)→Prop
 | [],K=>K []
 | x::r,K=>rd1 ρ x λ s=>celK B s λ cs=>bif lenB cs sz then bslK ρ B sz r λ rest=>K (cs++rest) else False
def bsl (ρ:Operand→Option SV) (B:BL) (T:Tab) (t len:Nat) (ps:List (Nat×Operand)) (X:Nat→List Value→Prop):Prop:=match lkA T.tys t with
 | some ⟨.sl e sz,_,_,_⟩=>match lkA T.tys e,unEnum 0 ps with
  | some te,some xs=>bif lenB te.z sz&&Nat.beq xs.length len&&Nat.ble (len*sz) 16777216 then bslK ρ B sz xs λ cs=>X e cs else False
  | _,_=>False
 | _=>False
def strS (sq:Bool) (B:BL) (x:SV) (X:List Value→Prop):Prop:=match x with
 | .r _ n cs=>bif !sq&&lenB cs n then X cs else False
 | .s k f n _=>match lkA B k with
  | some (.c _ _ cs)=>bif Nat.beq f 0&&lenB cs n then X cs else False
  | _=>False
 | _=>False
def isBytes (T:Tab) (a b:Nat):Bool:=match lkA T.tys a,lkA T.tys b with
 | some ⟨.sl e _,_,_,_⟩,some ⟨.str,_,_,_⟩=>match lkA T.tys e with
  | some ⟨.int .u8,_,_,_⟩=>true
  | _=>false
 | _,_=>false
def splitR (ρ:Operand→Option SV):List Operand→Option (List Operand×List Operand×Nat×Nat×List Value)
 | []=>none
 | x::r=>match ρ x with
  | some (.r e n cs)=>some ([],r,e,n,cs)
  | _=>match splitR ρ r with
   | some (l,q)=>some (x::l,q)
   | none=>none
structure CallR (c:Cx) (B:BL) (F:FV) (f:Nat) (vsl vsr:List Value) (e n:Nat) (cs:List Value) (Kv:SV→Prop):Prop where
 ex:∃ x:Value,(∀ (w:World) (b:Nat),Sx c B F w→w.heap[b]?=some (.cells cs.toArray e (0,0))→∃ h,Calls c.P f (vsl++Value.slice (some ⟨b,0,none⟩) n n::vsr).toArray w (Ret w h λ u _=>u=x))∧Kv (.v x)
def isPure:Op→Bool
 | .move _ | .assign _ | .nilCheck _ | .binOp .. | .unOp .. | .convert .. | .extract .. | .makeFunc .. | .fieldAddr .. | .field .. | .index .. | .slice .. | .load .. | .build ..=>true
 | .call ⟨.builtin .len,_,_⟩ | .call ⟨.builtin .min,_,_⟩ | .call ⟨.builtin .max,_,_⟩=>true
 | _=>false
def stepB (c:Cx) (sq:Bool) (dst:Option Nat) (op:Op) (L:SL) (I:IL) (B:BL) (F:FV) (X:SL→IL→BL→FV→Prop) (W:Prop):Prop:=match dst with
 | some d=>match op with
  | .alloc t=>match sq,lkA c.T.tys t with
   | true,some td=>fresh d L I B (∀ b:Nat,wr c.n d (.o d 0) L I λ L I=>X L I ((d,.c b t td.z)::B) F)
   | _,_=>False
  | .box t x=>match sq with
   | true=>rd1 (rdS L I none) x λ s=>celK B s λ cs=>fresh d L I B (∀ b:Nat,wr c.n d (.o d 0) L I λ L I=>X L I ((d,.c b t cs)::B) F)
   | false=>False
  | .pick x y z=>pkG L I none x y z λ s=>hasN B s (wr c.n d s L I λ L I=>X L I B F)
  | .call ⟨.value f,⟨args⟩,_⟩=>match splitR (rdS L I none) args,f with
   | some (xs,ys,e,n,cs),.func g=>bif memF c.T.fs g && !sq then argK (rdS L I none) B xs λ vsl=>argK (rdS L I none) B ys λ vsr=>CallR c B F g vsl vsr e n cs λ s=>wr c.n d s L I λ L I=>X L I B F else False
   | _,_=>calG c sq none B F (rdS L I none) f args (λ s=>wr c.n d s L I λ L I=>X L I B F) W
  | .buildSlice t len ⟨ps⟩=>bsl (rdS L I none) B c.T t len ps λ e cs=>match sq with
   | true=>fresh d L I B (∀ b:Nat,wr c.n d (.s d 0 len len) L I λ L I=>X L I ((d,.c b e cs)::B) F)
   | false=>wr c.n d (.r e len cs) L I λ L I=>X L I B F
  | .convert a b x=>bif isBytes c.T a b then rd1 (rdS L I none) x λ s=>strS sq B s λ cs=>∃ l:List UInt8,cs=l.map v8∧wr c.n d (.v (vs l)) L I λ L I=>X L I B F
   else pv c.P c.T c.h0 F B none (rdS L I none) (λ s=>wr c.n d s L I λ L I=>X L I B F) (.convert a b x)
  | .indexAddr t x y=>bif isSl (lkA c.T.tys t) then rd1 (rdS L I none) x λ s=>rd1 (rdS L I none) y λ s'=>ixG c F none (lkA c.T.tys t) s s' λ b o cs =>
    fresh d L I B (wr c.n d (.o d 0) L I λ L I=>X L I ((d,.k none b o cs)::B) F) else False
  | op=>bif isPure op then pv c.P c.T c.h0 F B none (rdS L I none) (λ s=>wr c.n d s L I λ L I=>X L I B F) op else sq=true∧W
 | none=>match op with
  | .store t a x=>match sq,lkA c.T.tys t with
   | true,some td=>rd1 (rdS L I none) a λ s=>match s with
    | .o k f=>match lkA B k with
     | some (.c b T' cs)=>rd1 (rdS L I none) x λ s'=>celK B s' λ new=>bif lenB new td.sz&&allOne new then setK cs f new λ cs'=>setAK B k (.c b T' cs') λ B'=>X L I B' F else False
     | _=>W
    | _=>W
   | _,_=>False
  | .call ⟨.value f,⟨args⟩,_⟩=>calG c sq none B F (rdS L I none) f args (λ _=>X L I B F) W
  | _=>sq=true∧W
def stepU (c:Cx) (sq:Bool) (dst:Option Nat) (op:Op) (L:SL) (I:IL) (B:BL) (F:FV) (X:SL→IL→BL→FV→Prop) (W:Prop):Prop:=match dst with
 | some d=>bif memF c.stop d then sq=true∧W else stepB c sq (some d) op L I B F X W
 | none=>stepB c sq none op L I B F X W
def stepG' (c:Cx) (sq:Bool) (d:Nat) (op:Op) (t:Nat) (b g:Bool) (L:SL) (I:IL) (B:BL) (F:FV) (X:SL→IL→BL→FV→Prop):Prop:=match op with
 | .pick x y z=>pkG L I (some (t,b)) x y z λ s=>hasN B s (wrG c.n d t b g s L I λ L I=>X L I B F)
 | .call ⟨.value f,⟨args⟩,_⟩=>calG c sq (some g) B F (rdS L I (some (t,b))) f args (λ s=>wrG c.n d t b g s L I λ L I=>X L I B F) False
 | .indexAddr t' x y=>bif isSl (lkA c.T.tys t') then rd1 (rdS L I (some (t,b))) x λ s=>rd1 (rdS L I (some (t,b))) y λ s'=>ixG c F (some g) (lkA c.T.tys t') s s' λ bb o cs =>
   fresh d L I B (wrG c.n d t b g (.o d 0) L I λ L I=>X L I ((d,.k (some g) bb o cs)::B) F) else False
 | op=>bif isPure op then pv c.P c.T c.h0 F B (some g) (rdS L I (some (t,b))) (λ s=>wrG c.n d t b g s L I λ L I=>X L I B F) op else False
def noRw:SV→Bool
 | .r ..=>false
 | _=>true
def opnK (t:Nat) (b:Bool):IL→SL→(SL→IL→Prop)→Prop
 | [],L,K=>K L []
 | (d,e)::r,L,K=>match lkA r d with
  | some _=>False
  | none=>bif Nat.beq e.t t&&bq e.c b then (bif noRw e.s then opnK t b r ((d,e.s)::L) K else False) else opnK t b r L λ L I=>K L ((d,e)::I)
def stepG (c:Cx) (sq:Bool) (d:Nat) (op:Op) (t:Nat) (b g:Bool) (L:SL) (I:IL) (B:BL) (F:FV) (X:SL→IL→BL→FV→Prop) (W:SL→IL→Prop):Prop :=
 bif memF c.stop (2000000+d) then g=true∧(bif memF c.stop d then sq=true∧W L I else stepB c sq (some d) op L I B F X (W L I)) else
  bif memF c.stop (4000000+d) then (g=true→opnK t b I L λ L I=>stepB c sq (some d) op L I B F X (W L I))∧(g=false→∃ v:Value,wrG c.n d t b g (.v v) L I λ L I=>X L I B F) else stepG' c sq d op t b g L I B F X
def guardAt (al:List Oper) (L:SL) (I:IL) (j:Nat) (b:Bool) (X:Nat→Bool→Prop):Prop:=match nthV al j with
 | some ⟨some t,_,_,_,_,_⟩=>match gx L I t b with
  | some g=>X t g
  | none=>False
 | _=>False
def runs (c:Cx) (al:List Oper) (sq:Bool) (K:KR):List Oper→SL→IL→BL→FV→Prop
 | [],L,I,B,F=>K L I B F
 | ⟨dst,op,ty,pos,af,none⟩::r,L,I,B,F=>stepU c sq dst op L I B F (λ L I B F=>runs c al sq K r L I B F) (WP c al (⟨dst,op,ty,pos,af,none⟩::r) L I B F K)
 | ⟨some d,op,ty,pos,af,some (j,b)⟩::r,L,I,B,F=>guardAt al L I j b λ t g=>stepG c sq d op t b g L I B F (λ L I B F=>runs c al sq K r L I B F) (λ L I=>WP c al (⟨some d,op,ty,pos,af,none⟩::r) L I B F K)
 | ⟨none,_,_,_,_,some _⟩::_,_,_,_,_=>False
def nmOf:SV→Option Nat
 | .o k _=>some k
 | .s k _ _ _=>some k
 | _=>none
theorem noNm_ne:∀ {L:SL} {d:Nat},noNm L d=true→∀ i s,(i,s)∈L→nmOf s≠some d
 | [],_,_,i,s,h=>by cases h
 | (k,s0)::r,d,h,i,s,hm=>by
  have key:nmOf s0≠some d∧noNm r d=true:=by
   cases s0 with
   | o k' f' =>
    by_cases hk:k'=d
    ·subst hk; simp [noNm] at h
    ·exact ⟨by simpa [nmOf] using hk,by simpa [noNm,beq_ne hk] using h⟩
   | s k' f' n cp =>
    by_cases hk:k'=d
    ·subst hk; simp [noNm] at h
    ·exact ⟨by simpa [nmOf] using hk,by simpa [noNm,beq_ne hk] using h⟩
   | _=>exact ⟨by simp [nmOf],h⟩
  rcases List.mem_cons.1 hm with e | hm
  ·obtain ⟨-,rfl⟩:=Prod.mk.inj e
   exact key.1
  ·exact noNm_ne key.2 i s hm
theorem noNmI_ne:∀ {I:IL} {d:Nat},noNmI I d=true→∀ i e,(i,e)∈I→nmOf e.s≠some d
 | [],_,_,i,s,h=>by cases h
 | (k,⟨t,c,g,s0⟩)::r,d,h,i,e,hm=>by
  have key:nmOf s0≠some d∧noNmI r d=true:=by
   cases s0 with
   | o k' f' =>
    by_cases hk:k'=d
    ·subst hk; simp [noNmI] at h
    ·exact ⟨by simpa [nmOf] using hk,by simpa [noNmI,beq_ne hk] using h⟩
   | s k' f' n cp =>
    by_cases hk:k'=d
    ·subst hk; simp [noNmI] at h
    ·exact ⟨by simpa [nmOf] using hk,by simpa [noNmI,beq_ne hk] using h⟩
   | _=>exact ⟨by simp [nmOf],h⟩
  rcases List.mem_cons.1 hm with e | hm
  ·obtain ⟨-,rfl⟩:=Prod.mk.inj e
   exact key.1
  ·exact noNmI_ne key.2 i e hm
theorem dvO_new {B:BL} {d:Nat} {ob:OB} {s:SV} (h:nmOf s≠some d):dvO ((d,ob)::B) s=dvO B s:=by
 cases s with
 | o k f =>
  have:d≠k:=λ e=>h (by rw [e]; rfl)
  simp only [dvO,lkA_ne this]
 | s k f n cp =>
  have:d≠k:=λ e=>h (by rw [e]; rfl)
  simp only [dvO,lkA_ne this]
 | _=>rfl
theorem fl_new {L:SL} {I:IL} {B:BL} {d:Nat} {ob:OB} (h1:noNm L d=true) (h2:noNmI I d=true):fl L I ((d,ob)::B)=fl L I B:=by
 unfold fl
 congr 1
 ·apply List.map_congr_left
  intro p hp
  have:=noNmI_ne h2 p.1 p.2 hp
  simp only [kI,dv,dvO_new this]
 ·apply List.map_congr_left
  intro p hp
  have:=noNm_ne h1 p.1 p.2 hp
  simp only [entS,dvO_new this]
theorem fresh_sound {d:Nat} {L:SL} {I:IL} {B:BL} {X:Prop} (h:fresh d L I B X):lkA B d=none∧(∀ ob,fl L I ((d,ob)::B)=fl L I B)∧X:=by
 unfold fresh at h
 split at h
 ·exact h.elim
 ·rename_i hl
  cases hn:(noNm L d&&noNmI I d) with
  | false=>rw [hn] at h; exact h.elim
  | true =>
   rw [hn] at h
   simp only [Bool.and_eq_true] at hn
   exact ⟨hl,λ ob=>fl_new hn.1 hn.2,h⟩
theorem delK_sound:∀ {I:IL} {d:Nat} {K:IL→Prop},delK I d K→∃ I',K I'∧∀ i,lkA I' i=if i=d then none else lkA I i
 | [],d,K,h=>⟨[],h,λ i=>by simp [lkA]⟩
 | (k,e)::r,d,K,h=>by
  unfold delK at h
  by_cases hk:k=d
  ·subst hk
   simp only [Nat.beq_refl,cond_true] at h
   obtain ⟨I',h1,h2⟩:=delK_sound h
   refine ⟨I',h1,λ i=>?_⟩
   rw [h2]
   split
   ·rfl
   ·rename_i hi; rw [lkA_ne (Ne.symm hi)]
  ·simp only [beq_ne hk,cond_false] at h
   obtain ⟨I',h1,h2⟩:=delK_sound h
   refine ⟨_,h1,λ i=>?_⟩
   by_cases hi:k=i
   ·subst hi; rw [lkA_eq,lkA_eq,if_neg hk]
   ·rw [lkA_ne hi,lkA_ne hi,h2]
theorem noLab_ne:∀ {I:IL} {d:Nat},noLab I d=true→∀ i e,(i,e)∈I→e.t≠d
 | [],_,_,_,_,h=>by cases h
 | (k,e0)::r,d,h,i,e,hm=>by
  unfold noLab at h
  by_cases hk:e0.t=d
  ·rw [hk] at h; simp at h
  ·simp only [beq_ne hk,cond_false] at h
   rcases List.mem_cons.1 hm with e1 | hm
   ·cases e1; exact hk
   ·exact noLab_ne h i e hm
theorem gx_ne {L L':SL} {I I':IL} {t:Nat} {c:Bool} (h1:lkA I' t=lkA I t) (h2:lkA L' t=lkA L t):gx L' I' t c=gx L I t c:=by
 unfold gx; rw [h1,h2]
def RwOk (d:Nat) (s:Option SV) (L:SL) (I:IL) (L':SL) (I':IL):Prop:=∀ t e m cs,lkA I' t=none→lkA L' t=some (.r e m cs)→(t=d∧s=some (.r e m cs))∨(t≠d∧lkA I t=none∧lkA L t=some (.r e m cs))
theorem wr_sound {n d:Nat} {s:SV} {L:SL} {I:IL} {X:SL→IL→Prop} (hI:Inv L I) (h:wr n d s L I X) :
  ∃ L' I',X L' I'∧Inv L' I'∧Nat.blt d n=true∧(∀ B t,kv L' I' B t=if t=d then dvO B s else kv L I B t)∧RwOk d (some s) L I L' I':=by
 unfold wr at h
 cases hb:(Nat.blt d n&&noLab I d) with
 | false=>rw [hb] at h; exact h.elim
 | true =>
  rw [hb] at h
  simp only [Bool.and_eq_true] at hb
  obtain ⟨I',hX,hI'⟩:=delK_sound h
  refine ⟨_,I',hX,λ i e hi=>?_,hb.1,λ B t=>?_,λ t e m cs h1 h2=>?_⟩
  rotate_left
  rotate_left
  ·by_cases ht:t=d
   ·subst ht; rw [lkA_eq] at h2; exact .inl ⟨rfl,h2⟩
   ·rw [lkA_ne (Ne.symm ht)] at h2
    rw [hI',if_neg ht] at h1
    exact .inr ⟨ht,h1,h2⟩
  ·rw [hI'] at hi
   split at hi
   ·cases hi
   ·have hne:=noLab_ne hb.2 i e (lkA_mem hi)
    rw [← hI i e hi]
    exact gx_ne (by rw [hI',if_neg hne]) (lkA_ne (Ne.symm hne) _ _)
  ·unfold kv
   rw [hI']
   by_cases ht:t=d
   ·subst ht; simp only [if_true]; rw [lkA_eq]
   ·simp only [if_neg ht]; rw [lkA_ne (Ne.symm ht)]
theorem wrG_sound {n d t0:Nat} {c g:Bool} {s:SV} {L:SL} {I:IL} {X:SL→IL→Prop} (hI:Inv L I) (hg:gx L I t0 c=some g) (h:wrG n d t0 c g s L I X) :
  ∃ L' I',X L' I'∧Inv L' I'∧Nat.blt d n=true∧(∀ B t,kv L' I' B t=if t=d then some (bif g then dv B s else undef) else kv L I B t)∧RwOk d none L I L' I':=by
 unfold wrG at h
 cases hb:(Nat.blt d n&&noLab I d && !Nat.beq d t0) with
 | false=>rw [hb] at h; exact h.elim
 | true =>
  rw [hb] at h
  simp only [Bool.and_eq_true,Bool.not_eq_true'] at hb
  have hdt:d≠t0:=λ e=>by subst e; simp at hb
  refine ⟨_,_,h,λ i e hi=>?_,hb.1.1,λ B t=>?_,λ t e m cs h1 h2=>?_⟩
  rotate_left
  rotate_left
  ·by_cases ht:t=d
   ·subst ht; rw [lkA_eq] at h1; cases h1
   ·rw [lkA_ne (Ne.symm ht)] at h1 h2
    exact .inr ⟨ht,h1,h2⟩
  ·by_cases hid:d=i
   ·subst hid
    rw [lkA_eq] at hi
    cases hi
    rw [← hg]
    exact gx_ne (lkA_ne hdt _ _) (lkA_ne hdt _ _)
   ·rw [lkA_ne hid] at hi
    have hne:=noLab_ne hb.1.2 i e (lkA_mem hi)
    rw [← hI i e hi]
    exact gx_ne (lkA_ne (Ne.symm hne) _ _) (lkA_ne (Ne.symm hne) _ _)
  ·unfold kv
   by_cases ht:t=d
   ·subst ht; rw [lkA_eq]; simp [kI]
   ·rw [lkA_ne (Ne.symm ht),lkA_ne (Ne.symm ht),if_neg ht]
theorem Fr.of_kv {a:Act} {n:Nat} {L:SL} {I:IL} {B:BL} (hd:a.defers=[]) (hs:a.tmps.size=n) (h:∀ t v,kv L I B t=some v→a.tmps.getD t undef=v):Fr a n (fl L I B) :=
 ⟨hd,hs,λ t v ht=>h t v (by rwa [vl_fl] at ht)⟩
theorem Fr.kv {a:Act} {n:Nat} {L:SL} {I:IL} {B:BL} (hF:Fr a n (fl L I B)) {t:Nat} {v:Value} (h:kv L I B t=some v):a.tmps.getD t undef=v:=hF.at_ t v (by rwa [vl_fl])
theorem put_at {a:Act} {n d:Nat} {v:Value} (hs:a.tmps.size=n) (hd:Nat.blt d n=true) (t:Nat):(a.put (some d) v).tmps.getD t undef=if t=d then v else a.tmps.getD t undef:=by
 have hlt:d<n:=by simpa [Nat.blt_eq] using hd
 by_cases ht:t=d
 ·subst ht; simp [Act.put,hs,hlt]
 ·simp [Act.put,Array.getElem?_setIfInBounds_ne (Ne.symm ht),ht]
theorem Dn.put {c:Cx} {L L':SL} {I I':IL} {B:BL} {a:Act} {d:Nat} {r:Option Value} {v:Value} (hD:Dn c L I B a) (hd:Nat.blt d c.n=true) (hI:Inv L' I') (hk:∀ t,kv L' I' B t=if t=d then r else kv L I B t) (hr:∀ u,r=some u→u=v) :
  Dn c L' I' B (a.put (some d) v):=by
 refine ⟨Fr.of_kv (by rw [put_df]; exact hD.fr.df) (by rw [put_size]; exact hD.fr.sz) λ t u hu=>?_,hI⟩
 rw [put_at hD.fr.sz hd]
 rw [hk] at hu
 by_cases ht:t=d
 ·rw [if_pos ht] at hu ⊢; exact (hr u hu).symm
 ·rw [if_neg ht] at hu ⊢; exact hD.fr.kv hu
theorem opnK_sound {t:Nat} {b:Bool}:∀ {I:IL} {L:SL} {K:SL→IL→Prop},opnK t b I L K→∃ L' I',K L' I'∧∀ τ,(lkA I' τ=lkA I τ∧lkA L' τ=lkA L τ)∨∃ e,lkA I τ=some e∧e.t=t∧e.c=b∧lkA I' τ=none∧lkA L' τ=some e.s∧noRw e.s=true
 | [],L,K,h=>⟨L,[],h,λ τ => .inl ⟨rfl,rfl⟩⟩
 | (d,e)::r,L,K,h=>by
  unfold opnK at h
  cases hr:lkA r d with
  | some x=>rw [hr] at h; exact h.elim
  | none =>
   rw [hr] at h
   cases hm:(Nat.beq e.t t&&bq e.c b) with
   | true =>
    rw [hm] at h
    cases hn:noRw e.s with
    | false=>rw [hn] at h; exact h.elim
    | true =>
     rw [hn] at h
     simp only [Bool.and_eq_true] at hm
     obtain ⟨L',I',h1,h2⟩:=opnK_sound (I:=r) h
     refine ⟨L',I',h1,λ τ=>?_⟩
     by_cases hd:d=τ
     ·subst hd
      rcases h2 d with ⟨g1,g2⟩ | ⟨e',g1,_⟩
      ·exact .inr ⟨e,lkA_eq _ _ _,Nat.eq_of_beq_eq_true hm.1,bq_eq hm.2,by rw [g1,hr],by rw [g2,lkA_eq],hn⟩
      ·rw [hr] at g1; cases g1
     ·rcases h2 τ with ⟨g1,g2⟩ | ⟨e',g1,g3⟩
      ·exact .inl ⟨by rw [g1,lkA_ne hd],by rw [g2,lkA_ne hd]⟩
      ·exact .inr ⟨e',by rw [lkA_ne hd]; exact g1,g3⟩
   | false =>
    rw [hm] at h
    obtain ⟨L',I',h1,h2⟩:=opnK_sound (I:=r) h
    refine ⟨L',_,h1,λ τ=>?_⟩
    by_cases hd:d=τ
    ·subst hd
     rcases h2 d with ⟨g1,g2⟩ | ⟨e',g1,_⟩
     ·exact .inl ⟨by rw [lkA_eq,lkA_eq],g2⟩
     ·rw [hr] at g1; cases g1
    ·rcases h2 τ with ⟨g1,g2⟩ | ⟨e',g1,g3,g4,g5,g6⟩
     ·exact .inl ⟨by rw [lkA_ne hd,lkA_ne hd,g1],g2⟩
     ·exact .inr ⟨e',by rw [lkA_ne hd]; exact g1,g3,g4,by rw [lkA_ne hd]; exact g5,g6⟩
theorem opn_inv {t:Nat} {b:Bool} {L L':SL} {I I':IL} (hI:Inv L I) (hg:gx L I t b=some true) (h:∀ τ,(lkA I' τ=lkA I τ∧lkA L' τ=lkA L τ)∨∃ e,lkA I τ=some e∧e.t=t∧e.c=b∧lkA I' τ=none∧lkA L' τ=some e.s∧noRw e.s=true) :
  Inv L' I'∧(∀ B τ v,kv L' I' B τ=some v→kv L I B τ=some v)∧∀ τ x y z,lkA I' τ=none→lkA L' τ=some (.r x y z)→lkA I τ=none∧lkA L τ=some (.r x y z):=by
 have hgt:∀ τ e,lkA I τ=some e→e.t=t→e.c=b→e.g=true:=λ τ e h1 h2 h3=>by
  have:=hI τ e h1
  rw [h2,h3,hg] at this
  exact (Option.some.inj this).symm
 refine ⟨λ d e hd=>?_,λ B τ v hv=>?_,λ τ x y z h1 h2=>?_⟩
 ·rcases h d with ⟨g1,_⟩ | ⟨e',_,_,_,g1,_⟩
  ·rw [g1] at hd
   rw [← hI d e hd]
   rcases h e.t with ⟨q1,q2⟩ | ⟨e',q1,q2,q3,q4,q5,_⟩
   ·exact gx_ne q1 q2
   ·unfold gx
    rw [q4,q1,q5]
    have:=hgt _ _ q1 q2 q3
    obtain ⟨et,ec,eg,es⟩:=e'
    simp only at this
    subst this
    cases es with
    | v x=>cases x <;> simp
    | _=>rfl
  ·rw [g1] at hd; cases hd
 ·unfold kv at hv ⊢
  rcases h τ with ⟨g1,g2⟩ | ⟨e,g1,g2,g3,g4,g5,_⟩
  ·rw [g1,g2] at hv; exact hv
  ·rw [g4,g5] at hv
   rw [g1]
   simp only at hv ⊢
   simp only [kI,hgt _ _ g1 g2 g3,cond_true,dv_some hv]
 ·rcases h τ with ⟨g1,g2⟩ | ⟨e,g1,g2,g3,g4,g5,g6⟩
  ·exact ⟨by rw [← g1]; exact h1,by rw [← g2]; exact h2⟩
  ·rw [g5] at h2
   rw [Option.some.inj h2] at g6
   cases g6
theorem oes_mem {B:BL} {k:Nat} {ob:OB} {e:OE} (h:lkA B k=some ob) (he:oeOf ob=some e):e∈oes B :=
 List.mem_filterMap.2 ⟨(k,ob),lkA_mem h,he⟩
theorem Sx.wok {c:Cx} {B:BL} {F:FV} {w:World} (h:Sx c B F w):WOk c.h0 F B w :=
 ⟨⟨_,h.st.base_cv,h.st.facts,h.st.view⟩,λ k b T cs hl=>by
  have:=h.st.own _ (oes_mem hl rfl)
  simpa [CellsC] using this⟩
theorem setAK_sound:∀ {B:BL} {k:Nat} {b T:Nat} {cs cs':List Value} {K:BL→Prop},lkA B k=some (.c b T cs)→setAK B k (.c b T cs') K →
  ∃ B' i,K B'∧(oes B)[i]?=some (some b,CellsC T cs)∧oes B'=(oes B).set i (some b,CellsC T cs')∧(∀ m,lkA B' m=if m=k then some (.c b T cs') else lkA B m)∧∀ p∈B',p∈B∨p.2 = .c b T cs'
 | [],k,b,T,cs,cs',K,h,_=>by simp [lkA] at h
 | (k0,o0)::r,k,b,T,cs,cs',K,h,hK=>by
  unfold setAK at hK
  by_cases hk:k0=k
  ·subst hk
   rw [lkA_eq] at h
   cases h
   simp only [Nat.beq_refl,cond_true] at hK
   refine ⟨_,0,hK,rfl,rfl,λ m=>?_,λ p hp=>?_⟩
   ·by_cases hm:m=k0
    ·subst hm; rw [lkA_eq,if_pos rfl]
    ·rw [lkA_ne (Ne.symm hm),lkA_ne (Ne.symm hm),if_neg hm]
   ·rcases List.mem_cons.1 hp with rfl | hp
    ·exact .inr rfl
    ·exact .inl (List.mem_cons_of_mem _ hp)
  ·rw [lkA_ne hk] at h
   simp only [beq_ne hk,cond_false] at hK
   obtain ⟨B',i,h1,h2,h3,h4,h5⟩:=setAK_sound h hK
   have hmem:∀ p∈(k0,o0)::B',p∈(k0,o0)::r∨p.2 = .c b T cs':=λ p hp=>by
    rcases List.mem_cons.1 hp with rfl | hp
    ·exact .inl (by simp)
    ·rcases h5 p hp with h | h
     ·exact .inl (List.mem_cons_of_mem _ h)
     ·exact .inr h
   have hl:∀ m,lkA ((k0,o0)::B') m=if m=k then some (.c b T cs') else lkA ((k0,o0)::r) m:=λ m=>by
    by_cases hm:k0=m
    ·subst hm; rw [lkA_eq,lkA_eq,if_neg hk]
    ·rw [lkA_ne hm,lkA_ne hm,h4]
   cases ho:oeOf o0 with
   | none =>
    have e:∀ r:BL,oes ((k0,o0)::r)=oes r:=λ r=>by unfold oes; rw [List.filterMap_cons]; simp only [ho]
    exact ⟨_,i,h1,by rw [e]; exact h2,by rw [e,e]; exact h3,hl,hmem⟩
   | some e0 =>
    have e:∀ r:BL,oes ((k0,o0)::r)=e0::oes r:=λ r=>by unfold oes; rw [List.filterMap_cons]; simp only [ho]
    exact ⟨_,i+1,h1,by rw [e]; simpa using h2,by rw [e,e,h3]; rfl,hl,hmem⟩
theorem dvO_setA {B B':BL} {k b T:Nat} {cs cs':List Value} (hl:lkA B k=some (.c b T cs)) (h:∀ m,lkA B' m=if m=k then some (.c b T cs') else lkA B m) (s:SV):dvO B' s=dvO B s:=by
 cases s with
 | o m f =>
  simp only [dvO,h]
  by_cases hm:m=k
  ·subst hm; rw [if_pos rfl,hl]
  ·rw [if_neg hm]
 | s m f n cp =>
  simp only [dvO,h]
  by_cases hm:m=k
  ·subst hm; rw [if_pos rfl,hl]
  ·rw [if_neg hm]
 | _=>rfl
theorem fl_congr {L:SL} {I:IL} {B B':BL} (h:∀ s,dvO B' s=dvO B s):fl L I B'=fl L I B:=by
 unfold fl
 have e1:kI B'=kI B:=by funext e; simp only [kI,dv,h]
 have e2:entS B'=entS B:=by funext s; simp only [entS,h]
 rw [e1,e2]
end Go.Dx
namespace Go.Dx
open Go Go.RowKit
theorem wanted_of {al:List Oper} {tmps:Array Value} {j t:Nat} {b g:Bool} {L:SL} {I:IL} {B:BL} {o o':Oper} (ho:nthV al j=some o') (hd:o'.dst=some t)
  (hv:∀ v,kv L I B t=some v→tmps.getD t undef=v) (hg:gx L I t b=some g) (hog:o.guard=some (j,b)):Region.wanted o (yielded al.toArray tmps)=g:=by
 have hj:al.toArray[j]?=some o':=by rw [nthV_eq] at ho; simpa using ho
 have key:∀ x:Bool,tmps.getD t undef = .bool x→yielded al.toArray tmps j=some x:=by
  intro x hx
  have h2:tmps[t]?=some (.bool x):=by
   cases h:tmps[t]? with
   | none=>simp [h,undef] at hx
   | some y=>simp [h] at hx; rw [hx]
  unfold yielded
  simp only [hj,Option.bind_some,hd,h2]
 have un:tmps.getD t undef=undef→yielded al.toArray tmps j=none:=λ h=>yielded_un (a:={ tmps:=tmps,defers:=[] }) ⟨o',t,hj,hd,h⟩
 unfold gx at hg
 unfold kv at hv
 cases hl:lkA I t with
 | some e =>
  rw [hl] at hg hv
  simp only at hg hv
  have h1:=hv _ rfl
  cases hs:e.s with
  | v x =>
   rw [hs] at hg
   cases x <;> simp at hg
   rename_i x
   unfold kI dv at h1
   rw [hs] at h1
   cases heg:e.g with
   | true =>
    rw [heg] at h1 hg
    have:=key x (by simpa [dvO] using h1)
    simp only [Region.wanted,hog,this]
    subst hg
    cases b <;> cases x <;> rfl
   | false =>
    rw [heg] at h1 hg
    have:=un (by simpa using h1)
    simp only [Region.wanted,hog,this]
    subst hg
    rfl
  | _=>rw [hs] at hg; cases hg
 | none =>
  rw [hl] at hg hv
  simp only at hg hv
  split at hg
  ·rename_i x hx
   rw [hx] at hv
   have:=key x (hv _ rfl)
   have e:bq b x=g:=Option.some.inj hg
   simp only [Region.wanted,hog,this]
   subst e
   cases b <;> cases x <;> rfl
  ·cases hg
section pick
variable {P:Program} {L:SL} {I:IL} {B:BL} {cx:Option (Nat×Bool)} {og:Option Bool}
theorem armS_sound (hI:Inv L I) (hc:cxOk L I cx og) (hy:yes og) {tc:Nat} {p b:Bool} (hb:rdT L I cx tc=some (.v (.bool b))) (hp:bq p b=true) {x:Operand} {s:SV} {v:Value} (h:armS L I cx tc p x=some s) (hv:dvO B s=some v):ev (fl L I B) x=some v:=by
 cases x with
 | tmp t =>
  show vl (lk (fl L I B) t)=some v
  rw [vl_fl]
  simp only [armS] at h
  unfold kv
  cases hl:lkA I t with
  | none=>rw [hl] at h; dsimp only at h ⊢; rw [h]; exact hv
  | some e =>
   rw [hl] at h
   dsimp only at h ⊢
   have he:e.s=s∧e.g=true:=by
    cases hu:((Nat.beq e.t tc&&bq e.c p)||usC I cx e.t e.c) with
    | false=>rw [hu] at h; cases h
    | true =>
     rw [hu] at h
     refine ⟨Option.some.inj h,?_⟩
     simp only [Bool.or_eq_true,Bool.and_eq_true] at hu
     have hgx:=hI t e hl
     rcases hu with hu | hu
     ·obtain ⟨h1,h2⟩:=hu
      have h1:=Nat.eq_of_beq_eq_true h1
      have h2:=bq_eq h2
      rw [h1,h2] at hgx
      -- the choice's own test
      unfold rdT at hb
      unfold gx at hgx
      cases hlc:lkA I tc with
      | none =>
       rw [hlc] at hb hgx
       simp only at hb hgx
       rw [hb] at hgx
       simp only [Option.some.injEq] at hgx
       rw [← hgx]; exact hp
      | some ec =>
       rw [hlc] at hb hgx
       cases cx with
       | none=>simp at hb
       | some q =>
        obtain ⟨t0,c0⟩:=q
        simp only at hb hgx
        cases huc:usb I 8 t0 c0 ec.t ec.c with
        | false=>rw [huc] at hb; cases hb
        | true =>
         rw [huc] at hb
         have hs:ec.s = .v (.bool b):=Option.some.inj hb
         obtain ⟨g,hg,hog⟩:=hc
         have:=usb_sound hI 8 t0 c0 ec.t ec.c g hg huc (hy g hog)
         rw [hI tc ec hlc] at this
         have hec:ec.g=true:=Option.some.inj this
         rw [hs] at hgx
         simp only [Option.some.injEq,hec,Bool.true_and] at hgx
         rw [← hgx]; exact hp
     ·cases cx with
      | none=>cases hu
      | some q =>
       obtain ⟨t0,c0⟩:=q
       obtain ⟨g,hg,hog⟩:=hc
       have:=usb_sound hI 8 t0 c0 e.t e.c g hg hu (hy g hog)
       rw [hgx] at this
       exact Option.some.inj this
   simp only [kI,he.2,cond_true,he.1,dv_some hv]
 | const c=>simp only [armS,Option.some.injEq] at h; subst h; exact hv
 | global c=>cases h
 | func c=>cases h
theorem pkG_sound {h0:View} {F:View→Prop} {x y z:Operand} {K:SV→Prop} (hI:Inv L I) (hc:cxOk L I cx og) (h:pkG L I cx x y z K):Good P B (fl L I B) h0 F (.pick x y z) og K:=by
 unfold pkG at h
 split at h
 ·rename_i tc
  split at h
  ·rename_i b hb
   have hbx:yes og→ev (fl L I B) (.tmp tc)=some (.bool b):=λ hy=>rdS_ev hI hc hy (x := .tmp tc) (s := .v (.bool b)) (by simp only [rdS,hb]) rfl
   unfold pickK at h
   split at h
   ·rename_i vx vy hx hy'
    have ex:yes og→b=true→ev (fl L I B) y=some vx:=λ hy h1=>armS_sound hI hc hy hb (by simpa [bq] using h1) hx rfl
    have ey:yes og→b=false→ev (fl L I B) z=some vy:=λ hy h1=>armS_sound hI hc hy hb (by simpa [bq] using h1) hy' rfl
    have fin:∀ v:Value,(b=true→v=vx)→(b=false→v=vy)→K (.v v)→Good P B (fl L I B) h0 F (.pick (.tmp tc) y z) og K:=by
     intro v h1 h2 hk
     refine ⟨_,_,hk,rfl,λ hz w _ d ty pos af g=>?_⟩
     cases hbb:b with
     | true=>rw [h1 hbb]; exact pu_pick_t (hbx hz) hbb (ex hz hbb)
     | false=>rw [h2 hbb]; exact pu_pick_f (hbx hz) hbb (ey hz hbb)
    split at h
    ·split at h
     ·rename_i q
      refine fin _ (λ hb1=>?_) (λ hb1=>?_) h
      ·have:vx = .bool true:=by
        simp only [armS,Option.some.injEq,SV.v.injEq] at hx; exact hx.symm
       rw [this,hb1]; rfl
      ·rw [hb1]; rfl
     ·exact h.elim
    ·split at h
     ·rename_i p
      refine fin _ (λ hb1=>?_) (λ hb1=>?_) h
      ·rw [hb1]; rfl
      ·have:vy = .bool false:=by
        simp only [armS,Option.some.injEq,SV.v.injEq] at hy'; exact hy'.symm
       rw [this,hb1]; rfl
     ·exact h.elim
    ·split at h
     ·exact fin _ (λ hb1=>by rw [hb1]; rfl) (λ hb1=>by rw [hb1]; rfl) h
     ·rename_i k m k2 n
      cases hkk:ikb k k2 with
      | false=>rw [hkk] at h; exact h.elim
      | true =>
       rw [hkk] at h
       obtain rfl:=ikb_eq hkk
       exact fin _ (λ hb1=>by rw [hb1]; rfl) (λ hb1=>by rw [hb1]; rfl) h
     ·exact fin _ (λ hb1=>by rw [hb1]; rfl) (λ hb1=>by rw [hb1]; rfl) h
     ·exact fin _ (λ hb1=>by rw [hb1]; rfl) (λ hb1=>by rw [hb1]; rfl) h
   ·exact h.elim
  ·exact h.elim
 ·exact h.elim
end pick
theorem hρ_of {L:SL} {I:IL} {B:BL} {cx:Option (Nat×Bool)} {og:Option Bool} (hI:Inv L I) (hc:cxOk L I cx og):yes og→∀ x s v,rdS L I cx x=some s→dvO B s=some v→ev (fl L I B) x=some v:=λ hy _ _ _ h hv=>rdS_ev hI hc hy h hv
theorem yes_none:yes none:=λ g h=>by cases h
theorem calG_sound {c:Cx} {sq:Bool} {og:Option Bool} {L:SL} {I:IL} {B:BL} {F:FV} {cx:Option (Nat×Bool)} {f:Operand} {args:List Operand} {Kv:SV→Prop} {W:Prop} (hT:c.T.Ok c.P) (hI:Inv L I) (hc:cxOk L I cx og)
  (h:calG c sq og B F (rdS L I cx) f args Kv W):(∃ v,Kv (.v v)∧(yes og→∀ w,Sx c B F w→∀ d ats ty pos af g,Ds c.P (fl L I B) ⟨d,.call ⟨.value f,args.toArray,ats⟩,ty,pos,af,g⟩ w λ u w'=>u=v∧Keep [] w w'))∨(sq=true∧W)∨(sq=false∧og=none∧∃ e n cs,Kv (.r e n cs)∧∀ w,Sx c B F w→∀ d ats ty pos af g,Ds c.P (fl L I B) ⟨d,.call ⟨.value f,args.toArray,ats⟩,ty,pos,af,g⟩ w λ u w'=>(∃ b,u = .slice (some ⟨b,0,none⟩) n n∧NewRow w e cs b w')∧Keep [] w w'):=by
 have hρ:=hρ_of (B:=B) hI hc
 unfold calG at h
 split at h
 ·rename_i g
  cases hm:memF c.T.fs g with
  | false=>rw [hm] at h; exact h.elim
  | true =>
   rw [hm] at h
   obtain ⟨vsl,hk,hv⟩:=argK_sound hρ h
   rcases hk with ⟨x,H,k⟩ | ⟨hs,hw⟩ | ⟨e,n,cs,hs,ho,H,k⟩
   rotate_left 2
   ·refine .inr (.inr ⟨hs,ho,e,n,cs,k,λ w hS d ats ty pos af gg=>?_⟩)
    refine ds_call (hT.call hm) (hv (by rw [ho]; exact yes_none)) ((H w hS).mono ?_)
    rintro e w' ⟨u,rfl,hk,hb⟩
    exact ⟨u,rfl,hb,hk⟩
   ·refine .inl ⟨x,k,λ hy w hS d ats ty pos af gg=>?_⟩
    obtain ⟨hh,H⟩:=gc_yes H hy w hS
    refine ds_call (hT.call hm) (hv hy) (H.mono ?_)
    rintro e w' ⟨u,rfl,hk,rfl⟩
    exact ⟨u,rfl,rfl,hk⟩
   ·exact .inr (.inl ⟨hs,hw⟩)
 ·obtain ⟨s,hs',h⟩:=rd1_sound h
  split at h
  ·rename_i g first cap
   cases hm:memF c.T.fs g with
   | false=>rw [hm] at h; exact h.elim
   | true =>
    rw [hm] at h
    obtain ⟨vsl,hk,hv⟩:=argK_sound hρ h
    rcases hk with ⟨x,H,k⟩ | ⟨hs,hw⟩ | ⟨e,n,cs,hs,ho,H,k⟩
    rotate_left 2
    ·refine .inr (.inr ⟨hs,ho,e,n,cs,k,λ w hS d ats ty pos af gg=>?_⟩)
     have hy:yes og:=by rw [ho]; exact yes_none
     refine ds_callF (hT.call hm) (ev_v hρ hy hs') (hv hy) ((H w hS).mono ?_)
     rintro e w' ⟨u,rfl,hk,hb⟩
     exact ⟨u,rfl,hb,hk⟩
    ·refine .inl ⟨x,k,λ hy w hS d ats ty pos af gg=>?_⟩
     obtain ⟨hh,H⟩:=gc_yes H hy w hS
     refine ds_callF (hT.call hm) (ev_v hρ hy hs') (hv hy) (H.mono ?_)
     rintro e w' ⟨u,rfl,hk,rfl⟩
     exact ⟨u,rfl,rfl,hk⟩
    ·exact .inr (.inl ⟨hs,hw⟩)
  ·exact .inr (.inl h)
  ·exact h.elim
theorem ixG_sound {c:Cx} {F:FV} {og:Option Bool} {t:Nat} {L:FL} {x y:Operand} {ρ:Operand→Option SV} {s s':SV} {X:Nat→Nat→List Value→Prop} {B:BL} (hT:c.T.Ok c.P) (hρ:yes og→∀ x s v,ρ x=some s→dvO B s=some v→ev L x=some v)
  (hx:ρ x=some s) (hy:ρ y=some s') (h:ixG c F og (lkA c.T.tys t) s s' X):∃ b o cs,X b o cs∧(yes og→KnC c.h0 F b o cs)∧(yes og→∀ w,WOk c.h0 F B w→∀ d ty pos af g,Pu c.P L ⟨d,.indexAddr t x y,ty,pos,af,g⟩ w (.pointer (some ⟨b,o,none⟩))):=by
 unfold ixG at h
 split at h
 ·rename_i ht
  obtain ⟨j,cs,hg,hX⟩:=h
  refine ⟨_,_,cs,hX,λ hz v w q1 q2 q3=>((gc_yes hg hz).2.2 v q1 q2).2 w q3,λ hz w hw d ty pos af g=>?_⟩
  obtain ⟨h1,h2,h3⟩:=gc_yes hg hz
  obtain ⟨v,q1,q2,_⟩:=hw.vw
  exact pu_iaddr_sla (h3 v q1 q2).1 (td_sl (hT.td ht) rfl) (ev_v hρ hz hx) (ev_v hρ hz hy) h1 h2
 ·exact h.elim
theorem Dn.cons {c:Cx} {L L':SL} {I I':IL} {B B':BL} {a:Act} {d:Nat} {rr:Option Value} {v:Value} (hF:Fr a c.n ((d,.val v)::fl L I B)) (hI:Inv L' I') (hk:∀ t,kv L' I' B' t=if t=d then rr else kv L I B t) (hr:∀ u,rr=some u→u=v) :
  Dn c L' I' B' a:=by
 refine ⟨Fr.of_kv hF.df hF.sz λ t u hu=>?_,hI⟩
 rw [hk] at hu
 by_cases ht:t=d
 ·subst ht
  rw [if_pos rfl] at hu
  rw [hr u hu]
  exact hF.at_ t v (by rw [lk_cons_eq]; rfl)
 ·rw [if_neg ht] at hu
  exact hF.at_ t u (by rw [lk_cons_ne (Ne.symm ht),vl_fl]; exact hu)
theorem kv_fl {L:SL} {I:IL} {B B':BL} (h:fl L I B'=fl L I B) (t:Nat):kv L I B' t=kv L I B t:=by
 rw [← vl_fl,← vl_fl,h]
theorem unEnum_sound:∀ {ps:List (Nat×Operand)} {k:Nat} {xs:List Operand},unEnum k ps=some xs→ps=enumO k xs
 | [],k,xs,h=>by simp [unEnum] at h; subst h; rfl
 | (i,x)::r,k,xs,h=>by
  unfold unEnum at h
  by_cases hi:i=k
  ·subst hi
   simp only [Nat.beq_refl,cond_true] at h
   cases hr:unEnum (i+1) r with
   | none=>rw [hr] at h; cases h
   | some l =>
    rw [hr] at h
    cases h
    rw [unEnum_sound hr]; rfl
  ·simp only [beq_ne hi,cond_false] at h; cases h
theorem bslK_sound {ρ:Operand→Option SV} {B:BL} {sz:Nat} {L:FL} (hρ:∀ x s v,ρ x=some s→dvO B s=some v→ev L x=some v):∀ {xs:List Operand} {K:List Value→Prop},bslK ρ B sz xs K →
  ∃ vsl,K (cellsL vsl)∧evs L xs=some vsl∧∀ v∈vsl,v.cells.size=sz
 | [],K,h=>⟨[],h,rfl,λ v hv=>by cases hv⟩
 | x::r,K,h=>by
  unfold bslK at h
  obtain ⟨s,hs,h⟩:=rd1_sound h
  obtain ⟨cs,v,h,hv,hc⟩:=celK_sound h
  cases hl:lenB cs sz with
  | false=>rw [hl] at h; exact h.elim
  | true =>
   rw [hl] at h
   obtain ⟨vsl,g1,g2,g3⟩:=bslK_sound hρ h
   refine ⟨v::vsl,?_,by simp only [evs,hρ x s v hs hv,g2],λ u hu=>?_⟩
   ·simp only [cellsL,hc]; exact g1
   ·rcases List.mem_cons.1 hu with rfl | hu
    ·rw [hc]; simpa using lenB_eq hl
    ·exact g3 u hu
theorem bsl_sound {P:Program} {T:Tab} (hT:T.Ok P) {ρ:Operand→Option SV} {B:BL} {L:FL} {t len:Nat} {ps:List (Nat×Operand)} {X:Nat→List Value→Prop} (hρ:∀ x s v,ρ x=some s→dvO B s=some v→ev L x=some v) (h:bsl ρ B T t len ps X) :
  ∃ e vsl,X e (cellsL vsl)∧∀ w d ty pos af g,Ds P L ⟨d,.buildSlice t len ⟨ps⟩,ty,pos,af,g⟩ w λ v w'=>v = .slice (some ⟨w.heap.size,0,none⟩) len len∧w'=w.alloc (.cells (cellsL vsl).toArray e):=by
 unfold bsl at h
 split at h
 ·rename_i e sz _ _ _ ht
  split at h
  ·rename_i te xs hte hxs
   cases hb:(lenB te.z sz&&Nat.beq xs.length len&&Nat.ble (len*sz) 16777216) with
   | false=>rw [hb] at h; exact h.elim
   | true =>
    rw [hb] at h
    simp only [Bool.and_eq_true] at hb
    obtain ⟨vsl,hX,hv,hcs⟩:=bslK_sound hρ h
    obtain ⟨hu,inf,hi,hs⟩:=td_sl (hT.td ht) rfl
    obtain ⟨inf',z,hi',hz,hzc⟩:=td_zero (hT.td hte)
    have hii:inf'=inf:=Option.some.inj (hi'.symm.trans hi)
    subst hii
    have hzs:z.cells.size=sz:=by rw [hzc]; simpa using lenB_eq hb.1.1
    refine ⟨e,vsl,hX,λ w d ty pos af g=>?_⟩
    rw [unEnum_sound hxs]
    exact ds_build ⟨hu,inf',z,hi,hz,by omega,hs⟩ (Nat.eq_of_beq_eq_true hb.1.2) hv hcs (Nat.le_of_ble_eq_true hb.2)
  ·exact h.elim
 ·exact h.elim
theorem isBytes_sound {P:Program} {T:Tab} (hT:T.Ok P) {a b:Nat} (h:isBytes T a b=true):∃ e,P.underlying a=some (.slice e)∧P.underlying e=some (.int .u8)∧P.underlying b=some .string:=by
 unfold isBytes at h
 split at h
 ·rename_i ha hb
  split at h
  ·rename_i he
   exact ⟨_,(td_sl (hT.td ha) rfl).1,td_int (hT.td he) rfl,td_str (hT.td hb) rfl⟩
  ·cases h
 ·cases h
theorem src_row {P:Program} {w:World} {b e cp:Nat} {l:List UInt8} (hg:w.heap[b]?=some (.cells (l.map v8).toArray e (0,0))):Src P w (.slice (some ⟨b,0,none⟩) l.length cp) 1 l.length (l.map v8) :=
 Src.own hg (by simp) (allOne_map _ (λ _=>rfl) l)
section seq
variable {c:Cx} {al:List Oper} {K:KR}
theorem seq_ds {d:Nat} {op:Op} {ty:TypeId} {pos:String} {af:Array Edge} {r:List Oper} {L L':SL} {I I':IL} {B B':BL} {F:FV} {v:Value} {rr:Option Value}
  (hI:Inv L' I') (hd:Nat.blt d c.n=true) (hk:∀ t,kv L' I' B' t=if t=d then rr else kv L I B t) (hr:∀ u,rr=some u→u=v)
  (H:∀ w,Sx c B F w→Ds c.P (fl L I B) ⟨some d,op,ty,pos,af,none⟩ w λ u w'=>u=v∧Sx c B' F w') (ih:WP c al r L' I' B' F K):WP c al (⟨some d,op,ty,pos,af,none⟩::r) L I B F K:=by
 refine ⟨λ Q a w hn hp hD hS=>s_ds hD.fr (H w hS) hd ?_⟩
 rintro v' w' a' ⟨rfl,hS'⟩ hF'
 exact ih.run Q a' w' hn hp (Dn.cons hF' hI hk hr) hS'
theorem Sx.step {B:BL} {F:FV} {w w':World} (hS:Sx c B F w) (hk:Keep [] w w'):Sx c B F w':=⟨hS.st.step hk,hS.bk⟩
theorem Good.ds {P:Program} {B:BL} {L:FL} {h0:View} {F:View→Prop} {op:Op} {s:SV} {v:Value} (h:yes none→∀ w,WOk h0 F B w→∀ d ty pos af g,Pu P L ⟨d,op,ty,pos,af,g⟩ w v) {w:World} (hw:WOk h0 F B w) {d:Option Nat} {ty:TypeId} {pos:String} {af:Array Edge} {g:Option (Nat×Bool)} :
  Ds P L ⟨d,op,ty,pos,af,g⟩ w λ u w'=>u=v∧w'=w:=(h yes_none w hw d ty pos af g).ds
theorem seq_good {d:Nat} {op:Op} {ty:TypeId} {pos:String} {af:Array Edge} {r:List Oper} {L:SL} {I:IL} {B:BL} {F:FV} {X:SL→IL→Prop} (hI:Inv L I) 
  (h:Good c.P B (fl L I B) c.h0 F op none λ s=>wr c.n d s L I X) (ih:∀ L I,X L I→Inv L I→WP c al r L I B F K):WP c al (⟨some d,op,ty,pos,af,none⟩::r) L I B F K:=by
 obtain ⟨s,v,hk,hv,hp⟩:=h
 obtain ⟨L',I',hX,hI',hd,hkv,hrw⟩:=wr_sound hI hk
 refine seq_ds hI' hd (hkv B) (λ u hu=>by rw [hv] at hu; exact (Option.some.inj hu).symm) (λ w hS=>?_) (ih L' I' hX hI')
 exact (hp yes_none w hS.wok _ _ _ _ _).ds.mono λ u w' ⟨h1,h2⟩=>⟨h1,h2 ▸ hS⟩
theorem seq_new {d:Nat} {op:Op} {ty:TypeId} {pos:String} {af:Array Edge} {r:List Oper} {L:SL} {I:IL} {B:BL} {F:FV} {T:Nat} {cs:List Value} {X:Nat→SL→IL→Prop} (hI:Inv L I)
  (H:∀ w,Ds c.P (fl L I B) ⟨some d,op,ty,pos,af,none⟩ w λ u w'=>u = .pointer (some ⟨w.heap.size,0,none⟩)∧w'=w.alloc (.cells cs.toArray T))
  (hl:lkA B d=none) (hfl:∀ ob,fl L I ((d,ob)::B)=fl L I B) (h:∀ b,wr c.n d (.o d 0) L I (X b)) (ih:∀ b L I,X b L I→Inv L I→WP c al r L I ((d,.c b T cs)::B) F K):WP c al (⟨some d,op,ty,pos,af,none⟩::r) L I B F K:=by
 refine ⟨λ Q a w hn hp hD hS=>?_⟩
 obtain ⟨L',I',hX,hI',hd,hkv,hrw⟩:=wr_sound hI (h w.heap.size)
 refine s_ds hD.fr (H w) hd ?_
 rintro v' w' a' ⟨rfl,rfl⟩ hF'
 refine (ih _ _ _ hX hI').run Q a' _ hn hp (Dn.cons (rr:=some (.pointer (some ⟨w.heap.size,0,none⟩))) hF' hI' (λ t=>?_) (λ u hu=>(Option.some.inj hu).symm)) ⟨?_,?_⟩
 ·rw [hkv,kv_fl (hfl _)]
  simp only [dvO,lkA_eq]
 ·exact hS.st.new _ rfl
 ·intro k g b o cs' hk
  rcases List.mem_cons.1 hk with hk | hk
  ·cases hk
  ·exact hS.bk _ _ _ _ _ hk
theorem seq_row {d:Nat} {op:Op} {ty:TypeId} {pos:String} {af:Array Edge} {r:List Oper} {L:SL} {I:IL} {B:BL} {F:FV} {T len:Nat} {cs:List Value} {X:Nat→SL→IL→Prop} (hI:Inv L I)
  (H:∀ w,Ds c.P (fl L I B) ⟨some d,op,ty,pos,af,none⟩ w λ u w'=>u = .slice (some ⟨w.heap.size,0,none⟩) len len∧w'=w.alloc (.cells cs.toArray T))
  (hl:lkA B d=none) (hfl:∀ ob,fl L I ((d,ob)::B)=fl L I B) (h:∀ b,wr c.n d (.s d 0 len len) L I (X b)) (ih:∀ b L I,X b L I→Inv L I→WP c al r L I ((d,.c b T cs)::B) F K):WP c al (⟨some d,op,ty,pos,af,none⟩::r) L I B F K:=by
 refine ⟨λ Q a w hn hp hD hS=>?_⟩
 obtain ⟨L',I',hX,hI',hd,hkv,hrw⟩:=wr_sound hI (h w.heap.size)
 refine s_ds hD.fr (H w) hd ?_
 rintro v' w' a' ⟨rfl,rfl⟩ hF'
 refine (ih _ _ _ hX hI').run Q a' _ hn hp (Dn.cons (rr:=some (.slice (some ⟨w.heap.size,0,none⟩) len len)) hF' hI' (λ t=>?_) (λ u hu=>(Option.some.inj hu).symm)) ⟨?_,?_⟩
 ·rw [hkv,kv_fl (hfl _)]
  simp only [dvO,lkA_eq]
 ·exact hS.st.new _ rfl
 ·intro k g b o cs' hk
  rcases List.mem_cons.1 hk with hk | hk
  ·cases hk
  ·exact hS.bk _ _ _ _ _ hk
theorem bok_k {F:FV} {B:BL} {d b o:Nat} {cs:List Value} {og:Option Bool} (h:BOk c.h0 F B) (hk:yes og→KnC c.h0 F b o cs)   : BOk c.h0 F ((d,.k og b o cs)::B):=by
 intro k g b' o' cs' hl
 rcases List.mem_cons.1 hl with hl | hl
 ·cases hl; exact gc_mk hk
 ·exact h _ _ _ _ _ hl
theorem oes_k {B:BL} {d b o:Nat} {cs:List Value} {og:Option Bool}:oes ((d,.k og b o cs)::B)=oes B:=rfl
theorem WP.bok {l:List Oper} {L:SL} {I:IL} {B:BL} {F:FV} (h:BOk c.h0 F B→WP c al l L I B F K):WP c al l L I B F K:=⟨λ Q a w hn hp hD hS=>(h hS.bk).run Q a w hn hp hD hS⟩
variable (hT:c.T.Ok c.P)
include hT
theorem stepB_sound {dst:Option Nat} {op:Op} {ty:TypeId} {pos:String} {af:Array Edge} {r:List Oper} {L:SL} {I:IL} {B:BL} {F:FV} {X:SL→IL→BL→FV→Prop} (hI:Inv L I)
  (ih:∀ L I B F,X L I B F→Inv L I→WP c al r L I B F K)
  (h:stepB c true dst op L I B F X (WP c al (⟨dst,op,ty,pos,af,none⟩::r) L I B F K)):WP c al (⟨dst,op,ty,pos,af,none⟩::r) L I B F K:=by
 refine WP.bok λ hB=>?_
 have hρ:yes none→∀ x s v,rdS L I none x=some s→dvO B s=some v→ev (fl L I B) x=some v:=hρ_of hI rfl
 unfold stepB at h
 split at h
 ·rename_i d
  split at h
  ·rename_i t
   split at h
   ·rename_i td _ htd
    obtain ⟨hl,hfl,h⟩:=fresh_sound h
    obtain ⟨inf,z,hi,hz,hc⟩:=td_zero (hT.td htd)
    refine seq_new (T:=t) (cs:=td.z) hI (λ w ρ hρ=>?_) hl hfl h λ b L I hX hI'=>ih _ _ _ _ hX hI'
    have:(execOp ρ ⟨some d,.alloc t,ty,pos,af,none⟩).run c.P w = .ok (.value (.pointer (some ⟨w.heap.size,0,none⟩))) (w.alloc (.cells td.z.toArray t)):=by
     simp [execOp,Instr.alloc,zeroValue,typeInfo,hi,hz,newVar,newRow,hc]
    unfold Does
    rw [this]
    exact ⟨rfl,rfl⟩
   ·exact h.elim
  ·rename_i t x
   obtain ⟨s,hs,h⟩:=rd1_sound h
   obtain ⟨cs,v,h,hv,hc⟩:=celK_sound h
   obtain ⟨hl,hfl,h⟩:=fresh_sound h
   refine seq_new (T:=t) (cs:=cs) hI (λ w ρ hρ'=>?_) hl hfl h λ b L I hX hI'=>ih _ _ _ _ hX hI'
   have:(execOp ρ ⟨some d,.box t x,ty,pos,af,none⟩).run c.P w = .ok (.value (.pointer (some ⟨w.heap.size,0,none⟩))) (w.alloc (.cells cs.toArray t)):=by
    simp [execOp,hρ' x (by simp [Op.operands]) _ (hρ yes_none _ _ _ hs hv),Instr.box,newVar,newRow,hc]
   unfold Does
   rw [this]
   exact ⟨rfl,rfl⟩
  ·obtain ⟨s,v,hk,hv,hp⟩:=pkG_sound (P:=c.P) (h0:=c.h0) (B:=B) (cx:=none) (og:=none) hI rfl h
   obtain ⟨_,_,hk⟩:=hasN_sound hk
   exact seq_good hI ⟨s,v,hk,hv,hp⟩ λ L I hX hI'=>ih _ _ _ _ hX hI'
  ·rename_i f args ats
   split at h
   ·cases hm:(memF c.T.fs _ && !true) with
    | false=>rw [hm] at h; exact h.elim
    | true=>simp at hm
   rcases calG_sound (cx:=none) hT hI rfl h with ⟨v,hk,hd⟩ | ⟨_,hw⟩ | ⟨hq,_⟩
   ·obtain ⟨L',I',hX,hI',hdn,hkv,hrw⟩:=wr_sound hI hk
    exact seq_ds hI' hdn (hkv B) (λ u hu=>(Option.some.inj hu).symm) (λ w hS=>(hd yes_none w hS _ _ _ _ _ _).mono λ u w' ⟨h1,h2⟩=>⟨h1,hS.step h2⟩) (ih _ _ _ _ hX hI')
   ·exact hw
   ·cases hq
  ·rename_i t len ps
   obtain ⟨e,vsl,h,hds⟩:=bsl_sound hT (hρ yes_none) h
   obtain ⟨hl,hfl,h⟩:=fresh_sound h
   exact seq_row hI (λ w=>hds w _ _ _ _ _) hl hfl h λ b L I hX hI'=>ih _ _ _ _ hX hI'
  ·rename_i a b x
   cases hby:isBytes c.T a b with
   | false=>rw [hby] at h; exact seq_good hI (pv_sound hT hB hρ h) λ L I hX hI'=>ih _ _ _ _ hX hI'
   | true =>
    rw [hby] at h
    obtain ⟨s,hs,h⟩:=rd1_sound h
    obtain ⟨e,ha,he,hb⟩:=isBytes_sound hT hby
    unfold strS at h
    split at h
    ·exact h.elim
    ·rename_i k f n' cp
     split at h
     ·rename_i bb T' cs hlk
      cases hl:(Nat.beq f 0&&lenB cs n') with
      | false=>rw [hl] at h; exact h.elim
      | true =>
       rw [hl] at h
       simp only [Bool.and_eq_true] at hl
       obtain rfl:=Nat.eq_of_beq_eq_true hl.1
       obtain ⟨l,rfl,h⟩:=h
       obtain rfl:n'=l.length:=by have:=lenB_eq hl.2; simpa using this.symm
       obtain ⟨L',I',hX,hI',hdn,hkv,hrw⟩:=wr_sound hI h
       refine seq_ds hI' hdn (hkv B) (λ u hu=>(Option.some.inj hu).symm) (λ w hS=>?_) (ih _ _ _ _ hX hI')
       exact (pu_tostr ha he hb (hρ yes_none _ _ (.slice (some ⟨bb,0,none⟩) l.length cp) hs (by simp [dvO,hlk])) rfl (src_row (hS.wok.own _ _ _ _ hlk))).ds.mono λ u w' ⟨h1,h2⟩=>⟨h1,h2 ▸ hS⟩
     ·exact h.elim
    ·exact h.elim
  ·rename_i t x y
   cases hsl:isSl (lkA c.T.tys t) with
   | false=>rw [hsl] at h; exact h.elim
   | true =>
    rw [hsl] at h
    obtain ⟨s,hs,h⟩:=rd1_sound h
    obtain ⟨s',hs',h⟩:=rd1_sound h
    obtain ⟨b,o,cs,h,hkn,hpu⟩:=ixG_sound hT hρ hs hs' h
    obtain ⟨hl,hfl,h⟩:=fresh_sound h
    obtain ⟨L',I',hX,hI',hdn,hkv,hrw⟩:=wr_sound hI h
    refine seq_ds (rr:=some (.pointer (some ⟨b,o,none⟩))) hI' hdn (λ t=>?_) (λ u hu=>(Option.some.inj hu).symm) (λ w hS=>(hpu yes_none w hS.wok _ _ _ _ _).ds.mono λ u w' ⟨h1,h2⟩=>⟨h1,h2 ▸ ⟨?_,?_⟩⟩) (ih _ _ _ _ hX hI')
    ·rw [hkv,kv_fl (hfl _)]
     simp only [dvO,lkA_eq,Nat.add_zero]
    ·rw [oes_k]; exact hS.st
    ·exact bok_k hS.bk hkn
  ·cases hp:isPure op with
   | false=>rw [hp] at h; exact h.2
   | true =>
    rw [hp] at h
    exact seq_good hI (pv_sound hT hB hρ h) λ L I hX hI'=>ih _ _ _ _ hX hI'
 ·split at h
  ·rename_i t ax x
   split at h
   ·rename_i td _ htd
    obtain ⟨s,hs,h⟩:=rd1_sound h
    split at h
    ·rename_i k f
     split at h
     ·rename_i b T' cs hlk
      obtain ⟨s',hs',h⟩:=rd1_sound h
      obtain ⟨new,v,h,hv,hc⟩:=celK_sound h
      cases hln:(lenB new td.sz&&allOne new) with
      | false=>rw [hln] at h; exact h.elim
      | true =>
       rw [hln] at h
       simp only [Bool.and_eq_true] at hln
       obtain ⟨h,hfit⟩:=setK_sound h
       obtain ⟨B',i,h,hi,hset,hlB,hmB⟩:=setAK_sound hlk h
       have hdv:=dvO_setA hlk hlB
       refine ⟨λ Q a w hn hp hD hS=>s_store hD.fr hS.st hi (hρ yes_none _ _ (.pointer (some ⟨b,f,none⟩)) hs (by simp [dvO,hlk])) (hρ yes_none _ _ _ hs' hv) hc (by rw [lenB_eq hln.1]; exact td_sz (hT.td htd)) hln.2 hfit λ w' a' hS' hF'=>?_⟩
       refine (ih _ _ _ _ h hI).run Q a' w' hn hp ⟨by rw [fl_congr hdv]; exact hF',hI⟩ ⟨by rw [hset]; exact hS',?_⟩
       intro m g b' o cs' hm
       rcases hmB _ hm with hm | hm
       ·exact hS.bk _ _ _ _ _ hm
       ·cases hm
     ·exact h
    ·exact h
   ·exact h.elim
  ·rename_i f args ats
   rcases calG_sound (cx:=none) hT hI rfl h with ⟨v,hk,hd⟩ | ⟨_,hw⟩ | ⟨hq,_⟩
   ·refine ⟨λ Q a w hn hp hD hS=>s_dsN hD.fr ((hd yes_none w hS _ _ _ _ _ _).mono λ u w' ⟨h1,h2⟩=>hS.step h2) λ v' w' a' hS' hF'=>?_⟩
    exact (ih _ _ _ _ hk hI).run Q a' w' hn hp ⟨hF',hI⟩ hS'
   ·exact hw
   ·cases hq
  ·exact h.2
theorem stepU_sound {dst:Option Nat} {op:Op} {ty:TypeId} {pos:String} {af:Array Edge} {r:List Oper} {L:SL} {I:IL} {B:BL} {F:FV} {X:SL→IL→BL→FV→Prop} (hI:Inv L I)
  (ih:∀ L I B F,X L I B F→Inv L I→WP c al r L I B F K)
  (h:stepU c true dst op L I B F X (WP c al (⟨dst,op,ty,pos,af,none⟩::r) L I B F K)):WP c al (⟨dst,op,ty,pos,af,none⟩::r) L I B F K:=by
 unfold stepU at h
 split at h
 ·rename_i d
  cases hst:memF c.stop d with
  | true=>rw [hst] at h; exact h.2
  | false=>rw [hst] at h; exact stepB_sound hT hI ih h
 ·exact stepB_sound hT hI ih h
omit hT in
theorem wpM_guard {md:Md} {P:Program} {Q:Exit→Act→World→Prop} {a:Act} {w:World} {d:Option Nat} {op:Op} {ty:TypeId} {pos:String} {af:Array Edge} {r:List Oper} {gd:Option (Nat×Bool)} (hw:Region.wanted ⟨d,op,ty,pos,af,gd⟩ (yielded al.toArray a.tmps)=true)
  (h:wpM md P al.toArray Q (⟨d,op,ty,pos,af,none⟩::r) a w):wpM md P al.toArray Q (⟨d,op,ty,pos,af,gd⟩::r) a w:=by
 cases md with
 | wp =>
  simp only [wpM,wpList] at h ⊢
  rw [if_pos hw]
  rw [if_pos (by simp [Region.wanted])] at h
  exact h
 | rd q =>
  simp only [wpM,wpListIn] at h ⊢
  rw [if_pos hw]
  rw [if_pos (by simp [Region.wanted])] at h
  exact h
 | df ds =>
  simp only [wpM,wpList] at h ⊢
  rw [if_pos hw]
  rw [if_pos (by simp [Region.wanted])] at h
  exact h
omit hT in
theorem seq_gd {d j:Nat} {b g:Bool} {op:Op} {ty:TypeId} {pos:String} {af:Array Edge} {r:List Oper} {L L':SL} {I I':IL} {B B':BL} {F:FV} {v:Value} {rr:Value}
  (hg:∀ a,Dn c L I B a→Region.wanted ⟨some d,op,ty,pos,af,some (j,b)⟩ (yielded al.toArray a.tmps)=g)
  (hI:Inv L' I') (hd:Nat.blt d c.n=true) (hk:∀ t,kv L' I' B' t=if t=d then some rr else kv L I B t) (hr:rr=if g=true then v else undef)
  (H:g=true→∀ w,Sx c B F w→Ds c.P (fl L I B) ⟨some d,op,ty,pos,af,some (j,b)⟩ w λ u w'=>u=v∧Sx c B' F w') (hBB:∀ w,Sx c B F w→Sx c B' F w) (ih:WP c al r L' I' B' F K):WP c al (⟨some d,op,ty,pos,af,some (j,b)⟩::r) L I B F K:=by
 refine ⟨λ Q a w hn hp hD hS=>wpM_step λ K' hK=>?_⟩
 rw [hg a hD]
 cases hgg:g with
 | false =>
  simp only [Bool.false_eq_true,if_false]
  have e:rr=undef:=by rw [hr,hgg]; rfl
  refine hK _ _ (ih.run Q _ w hn hp (Dn.cons (v:=undef) (hD.fr.put hd undef) hI hk (λ u hu=>?_)) (hBB w hS))
  rw [← e]; exact (Option.some.inj hu).symm
 | true =>
  simp only [if_true]
  have e:rr=v:=by rw [hr,hgg]; rfl
  refine opM_of_does ?_
  have:=H hgg w hS a.eval (λ x _ u hu=>hD.fr.ev hu)
  have fin:∀ u w',u=v∧Sx c B' F w'→K' (a.put (some d) u) w':=by
   rintro u w' ⟨rfl,hS'⟩
   refine hK _ _ (ih.run Q _ w' hn hp (Dn.cons (v:=u) (hD.fr.put hd u) hI hk (λ u' hu=>?_)) hS')
   rw [← e]; exact (Option.some.inj hu).symm
  unfold Does at *
  generalize (execOp a.eval _).run c.P w=r at *
  cases r with
  | ok nx w' =>
   cases nx <;> simp only [DoesR] at this ⊢
   case value u=>exact fin _ _ this
   case enter f args=>exact this.mono λ e w'' ⟨u,he,hv⟩=>⟨u,he,fin _ _ hv⟩
  | halt x w'=>exact this.elim
omit hT in
theorem guardAt_sound {L:SL} {I:IL} {j:Nat} {b:Bool} {X:Nat→Bool→Prop} (h:guardAt al L I j b X):∃ o t g,nthV al j=some o∧o.dst=some t∧gx L I t b=some g∧X t g:=by
 unfold guardAt at h
 split at h
 ·rename_i ho
  split at h
  ·exact ⟨_,_,_,ho,rfl,by assumption,h⟩
  ·exact h.elim
 ·exact h.elim
omit hT in
theorem gd_val {B:BL} {g:Bool} {s:SV} {v:Value} (hv:dvO B s=some v):(bif g then dv B s else undef)=if g=true then v else undef:=by
 rw [dv_some hv]; cases g <;> rfl
theorem stepG'_sound {d j t:Nat} {b g:Bool} {op:Op} {ty:TypeId} {pos:String} {af:Array Edge} {r:List Oper} {L:SL} {I:IL} {B:BL} {F:FV} {X:SL→IL→BL→FV→Prop} (hI:Inv L I) {o:Oper} (ho:nthV al j=some o) (hod:o.dst=some t) (hgx:gx L I t b=some g)
  (ih:∀ L I B F,X L I B F→Inv L I→WP c al r L I B F K)
  (h:stepG' c true d op t b g L I B F X):WP c al (⟨some d,op,ty,pos,af,some (j,b)⟩::r) L I B F K:=by
 refine WP.bok λ hB=>?_
 have hc:cxOk L I (some (t,b)) (some g):=⟨g,hgx,rfl⟩
 have hρ:yes (some g)→∀ x s v,rdS L I (some (t,b)) x=some s→dvO B s=some v→ev (fl L I B) x=some v:=hρ_of hI hc
 have hw:∀ a,Dn c L I B a→Region.wanted ⟨some d,op,ty,pos,af,some (j,b)⟩ (yielded al.toArray a.tmps)=g:=λ a hD=>wanted_of ho hod (λ v hv=>hD.fr.kv hv) hgx rfl
 have hy:g=true→yes (some g):=λ hg g' hg'=>by cases hg'; exact hg
 have good:Good c.P B (fl L I B) c.h0 F op (some g) (λ s=>wrG c.n d t b g s L I λ L I=>X L I B F)→WP c al (⟨some d,op,ty,pos,af,some (j,b)⟩::r) L I B F K:=by
  rintro ⟨s,v,hk,hv,hp⟩
  obtain ⟨L',I',hX,hI',hdn,hkv,hrw⟩:=wrG_sound hI hgx hk
  exact seq_gd hw hI' hdn (hkv B) (gd_val hv) (λ hg w hS=>(hp (hy hg) w hS.wok _ _ _ _ _).ds.mono λ u w' ⟨h1,h2⟩=>⟨h1,h2 ▸ hS⟩) (λ _ h=>h) (ih _ _ _ _ hX hI')
 unfold stepG' at h
 split at h
 ·obtain ⟨s,v,hk,hv,hp⟩:=pkG_sound (P:=c.P) (h0:=c.h0) (B:=B) hI hc h
  obtain ⟨_,_,hk⟩:=hasN_sound hk
  exact good ⟨s,v,hk,hv,hp⟩
 ·rcases calG_sound hT hI hc h with ⟨v,hk,hd⟩ | ⟨_,hw⟩ | ⟨hq,_⟩
  ·obtain ⟨L',I',hX,hI',hdn,hkv,hrw⟩:=wrG_sound hI hgx hk
   exact seq_gd hw hI' hdn (hkv B) (gd_val (s := .v v) rfl) (λ hg w hS=>(hd (hy hg) w hS _ _ _ _ _ _).mono λ u w' ⟨h1,h2⟩=>⟨h1,hS.step h2⟩) (λ _ h=>h) (ih _ _ _ _ hX hI')
  ·exact hw.elim
  ·cases hq
 ·rename_i t' x y
  cases hsl:isSl (lkA c.T.tys t') with
  | false=>rw [hsl] at h; exact h.elim
  | true =>
   rw [hsl] at h
   obtain ⟨s,hs,h⟩:=rd1_sound h
   obtain ⟨s',hs',h⟩:=rd1_sound h
   obtain ⟨bb,o',cs,h,hkn,hpu⟩:=ixG_sound hT hρ hs hs' h
   obtain ⟨hl,hfl,h⟩:=fresh_sound h
   obtain ⟨L',I',hX,hI',hdn,hkv,hrw⟩:=wrG_sound hI hgx h
   have hBB:∀ w,Sx c B F w→Sx c ((d,.k (some g) bb o' cs)::B) F w:=λ w hS=>⟨by rw [oes_k]; exact hS.st,bok_k hS.bk hkn⟩
   refine seq_gd (B':=(d,.k (some g) bb o' cs)::B) hw hI' hdn (λ t=>?_) (gd_val (B:=(d,.k (some g) bb o' cs)::B) (s := .o d 0) (v := .pointer (some ⟨bb,o',none⟩)) (by simp only [dvO,lkA_eq,Nat.add_zero])) (λ hg w hS=>(hpu (hy hg) w hS.wok _ _ _ _ _).ds.mono λ u w' ⟨h1,h2⟩=>⟨h1,h2 ▸ hBB w hS⟩) hBB (ih _ _ _ _ hX hI')
   rw [hkv,kv_fl (hfl _)]
 ·cases hp:isPure op with
  | false=>rw [hp] at h; exact h.elim
  | true =>
   rw [hp] at h
   exact good (pv_sound hT hB hρ h)
theorem stepG_sound {d j t:Nat} {b g:Bool} {op:Op} {ty:TypeId} {pos:String} {af:Array Edge} {r:List Oper} {L:SL} {I:IL} {B:BL} {F:FV} {X:SL→IL→BL→FV→Prop} (hI:Inv L I) {o:Oper} (ho:nthV al j=some o) (hod:o.dst=some t) (hgx:gx L I t b=some g)
  (ih:∀ L I B F,X L I B F→Inv L I→WP c al r L I B F K)
  (h:stepG c true d op t b g L I B F X λ L I=>WP c al (⟨some d,op,ty,pos,af,none⟩::r) L I B F K):WP c al (⟨some d,op,ty,pos,af,some (j,b)⟩::r) L I B F K:=by
 unfold stepG at h
 cases hst:memF c.stop (2000000+d) with
 | false =>
  rw [hst] at h
  simp only [cond_false] at h
  cases hst2:memF c.stop (4000000+d) with
  | false=>rw [hst2] at h; exact stepG'_sound hT hI ho hod hgx ih h
  | true =>
   rw [hst2] at h
   cases hgg:g with
   | true =>
    obtain ⟨L',I',hX,hop⟩:=opnK_sound (h.1 hgg)
    obtain ⟨hI',hkv,_⟩:=opn_inv hI (by rw [hgx,hgg]) hop
    have h1:=stepB_sound hT hI' (ty:=ty) (pos:=pos) (af:=af) ih hX
    refine ⟨λ Q a w hn hp hD hS=>wpM_guard ?_ (h1.run Q a w hn hp ⟨Fr.of_kv hD.fr.df hD.fr.sz λ t v hv=>hD.fr.kv (hkv B t v hv),hI'⟩ hS)⟩
    rw [wanted_of ho hod (λ v hv=>hD.fr.kv hv) hgx rfl]; exact hgg
   | false =>
    obtain ⟨v,hv⟩:=h.2 hgg
    obtain ⟨L',I',hX,hI',hdn,hkv,hrw⟩:=wrG_sound hI hgx hv
    exact seq_gd (λ a hD=>wanted_of ho hod (λ v hv=>hD.fr.kv hv) hgx rfl) hI' hdn (hkv B) (gd_val (s := .v v) rfl) (λ hg=>by rw [hgg] at hg; cases hg) (λ _ h=>h) (ih _ _ _ _ hX hI')
 | true =>
  rw [hst] at h
  obtain ⟨hg,h⟩:=h
  have h1:WP c al (⟨some d,op,ty,pos,af,none⟩::r) L I B F K:=by
   cases hst3:memF c.stop d with
   | false=>rw [hst3] at h; exact stepB_sound hT hI (ty:=ty) (pos:=pos) (af:=af) ih h
   | true=>rw [hst3] at h; exact h.2
  refine ⟨λ Q a w hn hp hD hS=>wpM_guard ?_ (h1.run Q a w hn hp hD hS)⟩
  rw [wanted_of ho hod (λ v hv=>hD.fr.kv hv) hgx rfl]; exact hg
theorem runs_sound:∀ (l:List Oper) (L:SL) (I:IL) (B:BL) (F:FV),runs c al true K l L I B F→Inv L I→WP c al l L I B F K
 | [],L,I,B,F,h,hI=>⟨λ Q a w hn hp hD hS=>c_nil (hn L I B F a w h hD hS)⟩
 | ⟨dst,op,ty,pos,af,none⟩::r,L,I,B,F,h,hI=>stepU_sound hT hI (λ L I B F h hI=>runs_sound r L I B F h hI) h
 | ⟨some d,op,ty,pos,af,some (j,b)⟩::r,L,I,B,F,h,hI=>by
  obtain ⟨o,t,g,ho,hod,hgx,h⟩:=guardAt_sound h
  exact stepG_sound hT hI ho hod hgx (λ L I B F h hI=>runs_sound r L I B F h hI) h
 | ⟨none,_,_,_,_,some _⟩::_,_,_,_,_,h,_=>h.elim
end seq
end Go.Dx
namespace Go.Dx
open Go Go.RowKit
def GV (Γ:Nat→VP) (A:FL):Prop:=∀ t v,vl (lk A t)=some v→∀ u w,Γ t u w→u=v
theorem GV.ev {Γ:Nat→VP} {A:FL} (h:GV Γ A) {a:Act} {w:World} {o:Oper} {ops:Array Oper} (hs:∀ t∈o.looksAt ops,Γ t (a.tmps.getD t undef) w) :
  ∀ x∈o.op.operands,∀ u,ev A x=some u→a.eval x=u:=by
 intro x hx u hu
 cases x with
 | tmp t =>
  have ht:t∈o.looksAt ops:=by
   unfold Oper.looksAt
   exact List.mem_append_left _ (List.mem_filterMap.2 ⟨.tmp t,by simpa using hx,rfl⟩)
  exact h t u hu _ _ (hs t ht)
 | const u=>exact Option.some.inj hu
 | global g=>exact Option.some.inj hu
 | func f=>exact Option.some.inj hu
theorem GV.cons {Γ:Nat→VP} {L L':SL} {I I':IL} {B B':BL} {d:Nat} {rr:Option Value} {v:Value} (h:GV Γ (fl L I B)) (hk:∀ t,kv L' I' B' t=if t=d then rr else kv L I B t) (hr:∀ u,rr=some u→u=v) :
  GV (Γset Γ (some d) λ u _=>u=v) (fl L' I' B'):=by
 intro t u hu x w hx
 rw [vl_fl,hk] at hu
 by_cases ht:t=d
 ·subst ht
  rw [if_pos rfl] at hu
  simp only [Γset,if_true] at hx
  rw [hx,hr u hu]
 ·rw [if_neg ht] at hu
  have e:Γset Γ (some d) (λ u _=>u=v) t=Γ t:=by simp [Γset,Ne.symm ht]
  rw [e] at hx
  exact h t u (by rw [vl_fl]; exact hu) x w hx
def RowP (w:World) (e n:Nat) (cs:List Value):VP:=λ u w'=>∃ b,u = .slice (some ⟨b,0,none⟩) n n∧NewRow w e cs b w'
structure GX (w:World) (Γ:Nat→VP) (L:SL) (I:IL) (B:BL):Prop where
 gv:GV Γ (fl L I B)
 gr:∀ t e n cs,lkA I t=none→lkA L t=some (.r e n cs)→∀ u w',Γ t u w'→RowP w e n cs u w'
theorem GX.cons {w:World} {Γ:Nat→VP} {L L':SL} {I I':IL} {B B':BL} {d:Nat} {rr:Option Value} {v:Value} {so:Option SV} (h:GX w Γ L I B) (hk:∀ t,kv L' I' B' t=if t=d then rr else kv L I B t) (hr:∀ u,rr=some u→u=v) (hrw:RwOk d so L I L' I') (hs:∀ e n cs,so≠some (.r e n cs)) :
  GX w (Γset Γ (some d) λ u _=>u=v) L' I' B':=by
 refine ⟨h.gv.cons hk hr,λ t e n cs h1 h2 u w' hu=>?_⟩
 rcases hrw t e n cs h1 h2 with ⟨_,h3⟩ | ⟨hne,h3,h4⟩
 ·exact absurd h3 (hs _ _ _)
 ·have e1:Γset Γ (some d) (λ u _=>u=v) t=Γ t:=by simp [Γset,Ne.symm hne]
  rw [e1] at hu
  exact h.gr t e n cs h3 h4 u w' hu
theorem GX.row {w:World} {Γ:Nat→VP} {L L':SL} {I I':IL} {B:BL} {d e n:Nat} {cs:List Value} (h:GX w Γ L I B) (hk:∀ B t,kv L' I' B t=if t=d then dvO B (.r e n cs) else kv L I B t) (hrw:RwOk d (some (.r e n cs)) L I L' I') :
  GX w (Γset Γ (some d) (RowP w e n cs)) L' I' B:=by
 refine ⟨λ t v hv u w' hu=>?_,λ t e' n' cs' h1 h2 u w' hu=>?_⟩
 ·rw [vl_fl,hk] at hv
  by_cases ht:t=d
  ·rw [if_pos ht] at hv; cases hv
  ·rw [if_neg ht] at hv
   have e1:Γset Γ (some d) (RowP w e n cs) t=Γ t:=by simp [Γset,Ne.symm ht]
   rw [e1] at hu
   exact h.gv t v (by rw [vl_fl]; exact hv) u w' hu
 ·rcases hrw t e' n' cs' h1 h2 with ⟨rfl,h3⟩ | ⟨hne,h3,h4⟩
  ·simp only [Γset,if_true] at hu
   cases h3
   exact hu
  ·have e1:Γset Γ (some d) (RowP w e n cs) t=Γ t:=by simp [Γset,Ne.symm hne]
   rw [e1] at hu
   exact h.gr t e' n' cs' h3 h4 u w' hu
theorem rowP_step {w w1 w2:World} {e n:Nat} {cs:List Value} {u:Value} (h:RowP w e n cs u w1) (hk:Keep [] w1 w2):RowP w e n cs u w2:=by
 obtain ⟨b,h1,h2⟩:=h
 exact ⟨b,h1,h2.keep hk⟩
section ty
variable {c:Cx} {al:List Oper} {w:World} {O:List OE} {F:FV} {Qf:SP→(Nat→VP)→Prop}
abbrev Cty (c:Cx) (w:World) (O:List OE) (F:FV):World→Prop:=CR (Keep []) w c.w0 c.h0 c.M O F
theorem does_of {o:Oper} {a:Act} {w1:World} {Γ:Nat→VP} {A:FL} {Post:VP} (hG:GV Γ A) (hs:∀ t∈o.looksAt al.toArray,Γ t (a.tmps.getD t undef) w1) (H:Ds c.P A o w1 Post):Does c.P o a.eval w1 Post:=H a.eval (hG.ev hs)
theorem ty_ds {d:Option Nat} {op:Op} {ty:TypeId} {pos:String} {af:Array Edge} {r:List Oper} {Γ:Nat→VP} {A:FL} {v:Value} (hG:GV Γ A)
  (H:∀ w1,Cty c w O F w1→Ds c.P A ⟨d,op,ty,pos,af,none⟩ w1 λ u w'=>u=v∧Keep [] w1 w') (k:TyW c.P al.toArray (Cty c w O F) (Keep []) Qf r (Γset Γ d λ u _=>u=v)) :
  TyW c.P al.toArray (Cty c w O F) (Keep []) Qf (⟨d,op,ty,pos,af,none⟩::r) Γ:=by
 refine tyw_no (λ u _=>u=v) (λ _ _ _ _ _ h=>h) (λ a w1 hC hs=>?_) k
 simp only [Region.wanted,if_true]
 have:=does_of hG hs (H w1 hC)
 unfold Does at *
 generalize (execOp a.eval _).run c.P w1=r at *
 cases r with
 | ok nx w' =>
  cases nx <;> simp only [DoesR] at this ⊢
  case value u=>exact ⟨hC.step this.2,this.2,this.1⟩
  case enter f args=>exact this.mono λ e w'' ⟨u,he,hv⟩=>⟨u,he,hC.step hv.2,hv.2,hv.1⟩
 | halt x w'=>exact this.elim
theorem ty_dp {d:Option Nat} {op:Op} {ty:TypeId} {pos:String} {af:Array Edge} {r:List Oper} {Γ:Nat→VP} (Φ:VP) (hst:∀ v w1 w2,Cty c w O F w1→Keep [] w1 w2→Φ v w1→Φ v w2)
  (H:∀ (a:Act) w1,Cty c w O F w1→(∀ t∈Oper.looksAt al.toArray ⟨d,op,ty,pos,af,none⟩,Γ t (a.tmps.getD t undef) w1)→Does c.P ⟨d,op,ty,pos,af,none⟩ a.eval w1 λ u w'=>Φ u w'∧Keep [] w1 w') (k:TyW c.P al.toArray (Cty c w O F) (Keep []) Qf r (Γset Γ d Φ)) :
  TyW c.P al.toArray (Cty c w O F) (Keep []) Qf (⟨d,op,ty,pos,af,none⟩::r) Γ:=by
 refine tyw_no Φ (λ v w1 w2 hC hR h=>hst v w1 w2 hC hR h) (λ a w1 hC hs=>?_) k
 simp only [Region.wanted,if_true]
 have:=H a w1 hC hs
 unfold Does at *
 generalize (execOp a.eval _).run c.P w1=r at *
 cases r with
 | ok nx w' =>
  cases nx <;> simp only [DoesR] at this ⊢
  case value u=>exact ⟨hC.step this.2,this.2,this.1⟩
  case enter f args=>exact this.mono λ e w'' ⟨u,he,hv⟩=>⟨u,he,hC.step hv.2,hv.2,hv.1⟩
 | halt x w'=>exact this.elim
theorem tyg_ds {d j:Nat} {b g:Bool} {op:Op} {ty:TypeId} {pos:String} {af:Array Edge} {r:List Oper} {Γ:Nat→VP} {A:FL} {v rr:Value} (hG:GV Γ A)
  (hw:∀ (a:Act) w1,(∀ t∈Oper.looksAt al.toArray ⟨some d,op,ty,pos,af,some (j,b)⟩,Γ t (a.tmps.getD t undef) w1)→Region.wanted ⟨some d,op,ty,pos,af,some (j,b)⟩ (yielded al.toArray a.tmps)=g) (hr:rr=if g=true then v else undef)
  (H:g=true→∀ w1,Cty c w O F w1→Ds c.P A ⟨some d,op,ty,pos,af,some (j,b)⟩ w1 λ u w'=>u=v∧Keep [] w1 w') (k:TyW c.P al.toArray (Cty c w O F) (Keep []) Qf r (Γset Γ (some d) λ u _=>u=rr)) :
  TyW c.P al.toArray (Cty c w O F) (Keep []) Qf (⟨some d,op,ty,pos,af,some (j,b)⟩::r) Γ:=by
 refine tyw_no (λ u _=>u=rr) (λ _ _ _ _ _ h=>h) (λ a w1 hC hs=>?_) k
 rw [hw a w1 hs]
 cases hgg:g with
 | false =>
  simp only [Bool.false_eq_true,if_false]
  rw [hr,hgg]; rfl
 | true =>
  simp only [if_true]
  have e:rr=v:=by rw [hr,hgg]; rfl
  have:=does_of hG hs (H hgg w1 hC)
  unfold Does at *
  generalize (execOp a.eval _).run c.P w1=r at *
  cases r with
  | ok nx w' =>
   cases nx <;> simp only [DoesR] at this ⊢
   case value u=>exact ⟨hC.step this.2,this.2,by rw [e]; exact this.1⟩
   case enter f args=>exact this.mono λ e' w'' ⟨u,he,hv⟩=>⟨u,he,hC.step hv.2,hv.2,by rw [e]; exact hv.1⟩
  | halt x w'=>exact this.elim
theorem sx_of {B:BL} {w1:World} (hO:oes B=O) (hB:BOk c.h0 F B) (hC:Cty c w O F w1):Sx c B F w1:=⟨hO ▸ hC.st,hB⟩
structure TB (c:Cx) (O:List OE) (F:FV) (B:BL):Prop where
 oes:oes B=O
 bok:BOk c.h0 F B
theorem Γset_none {Γ:Nat→VP} {Φ:VP}:Γset Γ none Φ=Γ:=by funext t; simp [Γset]
theorem rd_row {L:SL} {I:IL} {x:Operand} {e n:Nat} {cs:List Value} (h:rdS L I none x=some (.r e n cs)):∃ t,x = .tmp t∧(lkA I t=none∧lkA L t=some (.r e n cs)):=by
 cases x with
 | tmp t =>
  refine ⟨t,rfl,?_⟩
  simp only [rdS] at h
  unfold rdT at h
  cases hl:lkA I t with
  | none =>
   rw [hl] at h
   refine ⟨rfl,?_⟩
   split at h
   ·cases h
   ·exact h
  | some e=>rw [hl] at h; cases h
 | const c=>simp [rdS] at h
 | global c=>simp [rdS] at h
 | func c=>simp [rdS] at h
theorem splitR_sound {L:SL} {I:IL}:∀ {args xs ys:List Operand} {e n:Nat} {cs:List Value},splitR (rdS L I none) args=some (xs,ys,e,n,cs)→∃ t,args=xs ++ .tmp t::ys∧(lkA I t=none∧lkA L t=some (.r e n cs))
 | [],xs,ys,e,n,cs,h=>by simp [splitR] at h
 | x::r,xs,ys,e,n,cs,h=>by
  unfold splitR at h
  split at h
  ·rename_i hx
   simp only [Option.some.injEq,Prod.mk.injEq] at h
   obtain ⟨rfl,rfl,rfl,rfl,rfl⟩:=h
   obtain ⟨t,rfl,ht⟩:=rd_row hx
   exact ⟨t,rfl,ht⟩
  ·split at h
   ·rename_i l q hq
    simp only [Option.some.injEq,Prod.mk.injEq] at h
    obtain ⟨rfl,rfl⟩:=h
    obtain ⟨t,h1,h2⟩:=splitR_sound (args:=r) hq
    exact ⟨t,by rw [h1]; rfl,h2⟩
   ·cases h
theorem row_of {L:SL} {I:IL} {B:BL} {Γ:Nat→VP} {t e n:Nat} {cs:List Value} {a:Act} {w1:World} {o:Oper} (hG:GX w Γ L I B) (h:lkA I t=none∧lkA L t=some (.r e n cs)) (hs:∀ t∈o.looksAt al.toArray,Γ t (a.tmps.getD t undef) w1) (hm:Operand.tmp t∈o.op.operands) :
  ∃ b,a.tmps.getD t undef = .slice (some ⟨b,0,none⟩) n n∧NewRow w e cs b w1:=by
 have ht:t∈o.looksAt al.toArray:=by
  unfold Oper.looksAt
  exact List.mem_append_left _ (List.mem_filterMap.2 ⟨.tmp t,by simpa using hm,rfl⟩)
 exact hG.gr t e n cs h.1 h.2 _ _ (hs t ht)
theorem row_kv {L:SL} {I:IL} {B:BL} {t e n:Nat} {cs:List Value} (h:lkA I t=none∧lkA L t=some (.r e n cs)):kv L I B t=none:=by
 unfold kv; rw [h.1,h.2]; rfl
theorem ev_row {L:SL} {I:IL} {B:BL} {t:Nat} {v:Value} (hk:kv L I B t=none) {x:Operand} {u:Value} (h1:Dx.ev (fl L I B) x=some u):Dx.ev ((t,.val v)::fl L I B) x=some u:=by
 cases x with
 | tmp t' =>
  have hne:t≠t':=λ e=>by
   subst e
   have:vl (lk (fl L I B) t)=some u:=h1
   rw [vl_fl,hk] at this; cases this
  show vl (lk _ t')=_
  rw [lk_cons_ne hne]; exact h1
 | const c=>exact h1
 | global c=>exact h1
 | func c=>exact h1
theorem evs_any {L:SL} {I:IL} {B:BL} {t:Nat} {v:Value} (hk:kv L I B t=none):∀ {xs:List Operand} {vsl:List Value},evs (fl L I B) xs=some vsl→evs ((t,.val v)::fl L I B) xs=some vsl
 | [],vsl,h=>h
 | x::r,vsl,h=>by
  unfold evs at h
  cases h1:Dx.ev (fl L I B) x with
  | none=>simp [h1] at h
  | some u =>
   cases h2:evs (fl L I B) r with
   | none=>simp [h1,h2] at h
   | some us =>
    simp only [h1,h2,Option.some.injEq] at h
    subst h
    simp only [evs,ev_row (v:=v) hk h1,evs_any (v:=v) hk h2]
theorem evs_row {L:SL} {I:IL} {B:BL} {t:Nat} {v:Value} (hk:kv L I B t=none) {ys:List Operand} {vsr:List Value} (hy:evs (fl L I B) ys=some vsr):∀ {xs:List Operand} {vsl:List Value},evs (fl L I B) xs=some vsl→evs ((t,.val v)::fl L I B) (xs ++ .tmp t::ys)=some (vsl++v::vsr)
 | [],vsl,h=>by
  simp only [evs,Option.some.injEq] at h
  subst h
  have:Dx.ev ((t,.val v)::fl L I B) (.tmp t)=some v:=by show vl (lk _ t)=_; rw [lk_cons_eq]; rfl
  simp only [List.nil_append,evs,this,evs_any (v:=v) hk hy]
 | x::r,vsl,h=>by
  unfold evs at h
  cases h1:Dx.ev (fl L I B) x with
  | none=>simp [h1] at h
  | some u =>
   cases h2:evs (fl L I B) r with
   | none=>simp [h1,h2] at h
   | some us =>
    simp only [h1,h2,Option.some.injEq] at h
    subst h
    have ih:=evs_row (v:=v) hk hy h2
    simp only [List.cons_append,evs,ev_row (v:=v) hk h1,ih]
theorem gv_cons {A:FL} {Γ:Nat→VP} {t:Nat} {v:Value} {a:Act} {w1:World} {o:Oper} (hG:GV Γ A) (hv:a.tmps.getD t undef=v) (hs:∀ t∈o.looksAt al.toArray,Γ t (a.tmps.getD t undef) w1):∀ x∈o.op.operands,∀ u,Dx.ev ((t,.val v)::A) x=some u→a.eval x=u:=by
 intro x hx u hu
 cases x with
 | tmp t' =>
  by_cases ht:t=t'
  ·subst ht
   have:vl (lk ((t,.val v)::A) t)=some u:=hu
   rw [lk_cons_eq] at this
   have:v=u:=Option.some.inj this
   rw [← this]; exact hv
  ·have:vl (lk ((t,.val v)::A) t')=some u:=hu
   rw [lk_cons_ne ht] at this
   exact hG.ev hs _ hx u this
 | const c=>exact Option.some.inj hu
 | global c=>exact Option.some.inj hu
 | func c=>exact Option.some.inj hu
variable (hT:c.T.Ok c.P)
include hT
theorem tyB_sound {dst:Option Nat} {op:Op} {ty:TypeId} {pos:String} {af:Array Edge} {r:List Oper} {L:SL} {I:IL} {B:BL} {X:SL→IL→BL→FV→Prop} {W:Prop} {Γ:Nat→VP} (hI:Inv L I) (hG:GX w Γ L I B) (hB:TB c O F B)
  (ih:∀ L I B Γ,X L I B F→Inv L I→GX w Γ L I B→TB c O F B→TyW c.P al.toArray (Cty c w O F) (Keep []) Qf r Γ)
  (h:stepB c false dst op L I B F X W):TyW c.P al.toArray (Cty c w O F) (Keep []) Qf (⟨dst,op,ty,pos,af,none⟩::r) Γ:=by
 have hρ:yes none→∀ x s v,rdS L I none x=some s→dvO B s=some v→ev (fl L I B) x=some v:=hρ_of hI rfl
 have hok:∀ {w1},Cty c w O F w1→WOk c.h0 F B w1:=λ hC=>(sx_of hB.oes hB.bok hC).wok
 have good:∀ {d:Nat},dst=some d→Good c.P B (fl L I B) c.h0 F op none (λ s=>wr c.n d s L I λ L I=>X L I B F)→TyW c.P al.toArray (Cty c w O F) (Keep []) Qf (⟨dst,op,ty,pos,af,none⟩::r) Γ:=by
  rintro d rfl ⟨s,v,hk,hv,hp⟩
  obtain ⟨L',I',hX,hI',hdn,hkv,hrw⟩:=wr_sound hI hk
  refine ty_ds hG.gv (λ w1 hC=>(hp yes_none w1 (hok hC) _ _ _ _ _).ds.mono λ u w' ⟨h1,h2⟩=>⟨h1,h2 ▸ Keep.refl _ _⟩) (ih _ _ _ _ hX hI' (hG.cons (hkv B) (λ u hu=>?_) hrw λ e n cs he=>?_) hB)
  ·rw [hv] at hu; exact (Option.some.inj hu).symm
  ·cases he; cases hv
 unfold stepB at h
 split at h
 ·rename_i d
  split at h
  ·exact h.elim
  ·exact h.elim
  ·obtain ⟨s,v,hk,hv,hp⟩:=pkG_sound (P:=c.P) (h0:=c.h0) (B:=B) (cx:=none) (og:=none) hI rfl h
   obtain ⟨_,_,hk⟩:=hasN_sound hk
   exact good rfl ⟨s,v,hk,hv,hp⟩
  ·rename_i f args ats
   split at h
   ·rename_i xs ys e n cs g hsp
    cases hm:(memF c.T.fs g && !false) with
    | false=>rw [hm] at h; exact h.elim
    | true =>
     rw [hm] at h
     simp only [Bool.not_false,Bool.and_true] at hm
     obtain ⟨vsl,h,hv⟩:=argK_sound hρ h
     obtain ⟨vsr,⟨x,H,hk⟩,hvr⟩:=argK_sound hρ h
     obtain ⟨L',I',hX,hI',hdn,hkv,hrw⟩:=wr_sound hI hk
     refine ty_dp (λ u _=>u=x) (λ _ _ _ _ _ h=>h) (λ a w1 hC hs=>?_) (ih _ _ _ _ hX hI' (hG.cons (hkv B) (λ u hu=>(Option.some.inj hu).symm) hrw (by simp)) hB)
     obtain ⟨xr,rfl,hxr⟩:=splitR_sound hsp
     have hrow:=row_of hG hxr hs (by simp [Op.operands,Call.operands])
     obtain ⟨b,hb,hnr⟩:=hrow
     obtain ⟨hh,H⟩:=H w1 b (sx_of hB.oes hB.bok hC) hnr.2
     have hev:evs ((xr,.val (.slice (some ⟨b,0,none⟩) n n))::fl L I B) (xs ++ .tmp xr::ys)=some (vsl ++ .slice (some ⟨b,0,none⟩) n n::vsr):=evs_row (row_kv hxr) (hvr yes_none) (hv yes_none)
     have hds:Ds c.P ((xr,.val (.slice (some ⟨b,0,none⟩) n n))::fl L I B) ⟨some d,.call ⟨.value (.func g),(xs++Operand.tmp xr::ys).toArray,ats⟩,ty,pos,af,none⟩ w1 λ u w'=>u=x∧Keep [] w1 w':=by
      refine ds_call (hT.call hm) hev (H.mono ?_)
      rintro e w' ⟨u,rfl,hkp,rfl⟩
      exact ⟨u,rfl,rfl,hkp⟩
     exact hds a.eval (gv_cons hG.gv hb hs)
   rcases calG_sound (cx:=none) hT hI rfl h with ⟨v,hk,hd⟩ | ⟨hs,_⟩ | ⟨_,_,e,n,cs,hk,hd⟩
   ·obtain ⟨L',I',hX,hI',hdn,hkv,hrw⟩:=wr_sound hI hk
    refine ty_ds hG.gv (λ w1 hC=>hd yes_none w1 (sx_of hB.oes hB.bok hC) _ _ _ _ _ _) (ih _ _ _ _ hX hI' (hG.cons (hkv B) (λ u hu=>(Option.some.inj hu).symm) hrw (by simp)) hB)
   ·cases hs
   ·obtain ⟨L',I',hX,hI',hdn,hkv,hrw⟩:=wr_sound hI hk
    refine ty_dp (RowP w e n cs) (λ _ _ _ _ hk h=>rowP_step h hk) (λ a w1 hC hs=>does_of hG.gv hs ((hd w1 (sx_of hB.oes hB.bok hC) _ _ _ _ _ _).mono ?_)) (ih _ _ _ _ hX hI' (hG.row hkv hrw) hB)
    rintro u w' ⟨⟨b,rfl,hb⟩,hkp⟩
    exact ⟨⟨b,rfl,Nat.le_trans hC.rel.size hb.1,hb.2⟩,hkp⟩
  ·rename_i t len ps
   obtain ⟨e,vsl,h,hds⟩:=bsl_sound hT (hρ yes_none) h
   obtain ⟨L',I',hX,hI',hdn,hkv,hrw⟩:=wr_sound hI h
   refine ty_dp (RowP w e len (cellsL vsl)) (λ _ _ _ _ hk h=>rowP_step h hk) (λ a w1 hC hs=>does_of hG.gv hs ((hds w1 _ _ _ _ _).mono ?_)) (ih _ _ _ _ hX hI' (hG.row hkv hrw) hB)
   rintro u w' ⟨rfl,rfl⟩
   exact ⟨⟨_,rfl,hC.rel.size,heap_alloc_new w1 _⟩,keep_alloc _ _⟩
  ·rename_i a b x
   cases hby:isBytes c.T a b with
   | false=>rw [hby] at h; exact good rfl (pv_sound hT hB.bok hρ h)
   | true =>
    rw [hby] at h
    obtain ⟨s,hs,h⟩:=rd1_sound h
    obtain ⟨e,ha,he,hb⟩:=isBytes_sound hT hby
    unfold strS at h
    split at h
    ·rename_i e' n' cs
     cases hl:(!false&&lenB cs n') with
     | false=>rw [hl] at h; exact h.elim
     | true =>
      rw [hl] at h
      simp only [Bool.not_false,Bool.true_and] at hl
      obtain ⟨l,rfl,h⟩:=h
      obtain rfl:n'=l.length:=by have:=lenB_eq hl; simpa using this.symm
      obtain ⟨L',I',hX,hI',hdn,hkv,hrw⟩:=wr_sound hI h
      obtain ⟨xr,rfl,hxr⟩:=rd_row hs
      refine ty_dp (λ u _=>u=vs l) (λ _ _ _ _ _ h=>h) (λ a' w1 hC hs'=>?_) (ih _ _ _ _ hX hI' (hG.cons (hkv B) (λ u hu=>(Option.some.inj hu).symm) hrw (by simp)) hB)
      obtain ⟨bb,hbb,hnr⟩:=row_of hG hxr hs' (by simp [Op.operands])
      have hp:Pu c.P ((xr,.val (.slice (some ⟨bb,0,none⟩) l.length l.length))::fl L I B) ⟨some d,.convert a b (.tmp xr),ty,pos,af,none⟩ w1 (vs l):=pu_tostr ha he hb (v := .slice (some ⟨bb,0,none⟩) l.length l.length) (by show vl (lk _ xr)=_; rw [lk_cons_eq]; rfl) rfl (src_row hnr.2)
      have:=hp.ds a'.eval (gv_cons hG.gv hbb hs')
      unfold Does at this ⊢
      generalize (execOp a'.eval _).run c.P w1=r at *
      cases r with
      | ok nx w' =>
       cases nx <;> simp only [DoesR] at this ⊢
       case value u=>exact ⟨this.1,by rw [this.2]; exact Keep.refl _ _⟩
       case enter f args=>exact this.mono λ e w'' ⟨u,he,hv⟩=>⟨u,he,hv.1,by rw [hv.2]; exact Keep.refl _ _⟩
      | halt x w'=>exact this.elim
    ·rename_i k f n' cp
     split at h
     ·rename_i bb T' cs hlk
      cases hl:(Nat.beq f 0&&lenB cs n') with
      | false=>rw [hl] at h; exact h.elim
      | true =>
       rw [hl] at h
       simp only [Bool.and_eq_true] at hl
       obtain rfl:=Nat.eq_of_beq_eq_true hl.1
       obtain ⟨l,rfl,h⟩:=h
       obtain rfl:n'=l.length:=by have:=lenB_eq hl.2; simpa using this.symm
       obtain ⟨L',I',hX,hI',hdn,hkv,hrw⟩:=wr_sound hI h
       refine ty_ds hG.gv (λ w1 hC=>?_) (ih _ _ _ _ hX hI' (hG.cons (hkv B) (λ u hu=>(Option.some.inj hu).symm) hrw (by simp)) hB)
       exact (pu_tostr ha he hb (hρ yes_none _ _ (.slice (some ⟨bb,0,none⟩) l.length cp) hs (by simp [dvO,hlk])) rfl (src_row ((hok hC).own _ _ _ _ hlk))).ds.mono λ u w' ⟨h1,h2⟩=>⟨h1,h2 ▸ Keep.refl _ _⟩
     ·exact h.elim
    ·exact h.elim
  ·rename_i t x y
   cases hsl:isSl (lkA c.T.tys t) with
   | false=>rw [hsl] at h; exact h.elim
   | true =>
    rw [hsl] at h
    obtain ⟨s,hs,h⟩:=rd1_sound h
    obtain ⟨s',hs',h⟩:=rd1_sound h
    obtain ⟨b,o,cs,h,hkn,hpu⟩:=ixG_sound hT hρ hs hs' h
    obtain ⟨hl,hfl,h⟩:=fresh_sound h
    obtain ⟨L',I',hX,hI',hdn,hkv,hrw⟩:=wr_sound hI h
    refine ty_ds hG.gv (λ w1 hC=>(hpu yes_none w1 (hok hC) _ _ _ _ _).ds.mono λ u w' ⟨h1,h2⟩=>⟨h1,h2 ▸ Keep.refl _ _⟩) (ih _ _ _ _ hX hI' (hG.cons (rr:=some (.pointer (some ⟨b,o,none⟩))) (λ t=>?_) (λ u hu=>(Option.some.inj hu).symm) hrw (by simp)) ⟨by rw [oes_k]; exact hB.oes,bok_k hB.bok hkn⟩)
    rw [hkv,kv_fl (hfl _)]
    simp only [dvO,lkA_eq,Nat.add_zero]
  ·cases hp:isPure op with
   | false=>rw [hp] at h; cases h.1
   | true =>
    rw [hp] at h
    exact good rfl (pv_sound hT hB.bok hρ h)
 ·split at h
  ·exact h.elim
  ·rename_i f args ats
   rcases calG_sound (cx:=none) hT hI rfl h with ⟨v,hk,hd⟩ | ⟨hs,_⟩ | ⟨_,_,e,n,cs,hk,hd⟩
   ·refine ty_ds hG.gv (λ w1 hC=>hd yes_none w1 (sx_of hB.oes hB.bok hC) _ _ _ _ _ _) ?_
    rw [Γset_none]
    exact ih _ _ _ _ hk hI hG hB
   ·cases hs
   ·refine ty_dp (λ _ _=>True) (λ _ _ _ _ _ h=>h) (λ a w1 hC hs=>does_of hG.gv hs ((hd w1 (sx_of hB.oes hB.bok hC) _ _ _ _ _ _).mono λ u w' h=>⟨trivial,h.2⟩)) ?_
    rw [Γset_none]
    exact ih _ _ _ _ hk hI hG hB
  ·cases h.1
theorem tyU_sound {dst:Option Nat} {op:Op} {ty:TypeId} {pos:String} {af:Array Edge} {r:List Oper} {L:SL} {I:IL} {B:BL} {X:SL→IL→BL→FV→Prop} {W:Prop} {Γ:Nat→VP} (hI:Inv L I) (hG:GX w Γ L I B) (hB:TB c O F B)
  (ih:∀ L I B Γ,X L I B F→Inv L I→GX w Γ L I B→TB c O F B→TyW c.P al.toArray (Cty c w O F) (Keep []) Qf r Γ)
  (h:stepU c false dst op L I B F X W):TyW c.P al.toArray (Cty c w O F) (Keep []) Qf (⟨dst,op,ty,pos,af,none⟩::r) Γ:=by
 unfold stepU at h
 split at h
 ·rename_i d
  cases hst:memF c.stop d with
  | true=>rw [hst] at h; cases h.1
  | false=>rw [hst] at h; exact tyB_sound hT hI hG hB ih h
 ·exact tyB_sound hT hI hG hB ih h
omit hT in
theorem ty_guard {d:Option Nat} {op:Op} {ty:TypeId} {pos:String} {af:Array Edge} {r:List Oper} {Γ:Nat→VP} {gd:Option (Nat×Bool)}
  (hw:∀ (a:Act) w1,(∀ t∈Oper.looksAt al.toArray ⟨d,op,ty,pos,af,gd⟩,Γ t (a.tmps.getD t undef) w1)→Region.wanted ⟨d,op,ty,pos,af,gd⟩ (yielded al.toArray a.tmps)=true)
  (h:TyW c.P al.toArray (Cty c w O F) (Keep []) Qf (⟨d,op,ty,pos,af,none⟩::r) Γ):TyW c.P al.toArray (Cty c w O F) (Keep []) Qf (⟨d,op,ty,pos,af,gd⟩::r) Γ:=by
 obtain ⟨Φ,D,⟨h1,h2⟩,h3⟩:=h
 refine ⟨Φ,D,⟨h1,λ a w1 hC hs=>?_⟩,h3⟩
 have:=h2 a w1 hC (λ t ht=>hs t (by
  unfold Oper.looksAt at ht ⊢
  rcases List.mem_append.1 ht with h | h
  ·exact List.mem_append_left _ h
  ·simp at h))
 rw [if_pos (hw a w1 hs)]
 rw [if_pos (by simp [Region.wanted])] at this
 exact this
omit hT in
theorem looks_guard {d j t:Nat} {b:Bool} {op:Op} {ty:TypeId} {pos:String} {af:Array Edge} {o:Oper} (ho:nthV al j=some o) (hd:o.dst=some t):t∈Oper.looksAt al.toArray ⟨some d,op,ty,pos,af,some (j,b)⟩:=by
 unfold Oper.looksAt
 refine List.mem_append_right _ ?_
 have:al.toArray[j]?=some o:=by rw [nthV_eq] at ho; simpa using ho
 simp only [Option.bind_some,this,hd,Option.toList_some,List.mem_singleton]
theorem tyG'_sound {d j t:Nat} {b g:Bool} {op:Op} {ty:TypeId} {pos:String} {af:Array Edge} {r:List Oper} {L:SL} {I:IL} {B:BL} {X:SL→IL→BL→FV→Prop} {Γ:Nat→VP} (hI:Inv L I) (hG:GX w Γ L I B) (hB:TB c O F B) {o:Oper} (ho:nthV al j=some o) (hod:o.dst=some t) (hgx:gx L I t b=some g)
  (ih:∀ L I B Γ,X L I B F→Inv L I→GX w Γ L I B→TB c O F B→TyW c.P al.toArray (Cty c w O F) (Keep []) Qf r Γ)
  (h:stepG' c false d op t b g L I B F X):TyW c.P al.toArray (Cty c w O F) (Keep []) Qf (⟨some d,op,ty,pos,af,some (j,b)⟩::r) Γ:=by
 have hc:cxOk L I (some (t,b)) (some g):=⟨g,hgx,rfl⟩
 have hρ:yes (some g)→∀ x s v,rdS L I (some (t,b)) x=some s→dvO B s=some v→ev (fl L I B) x=some v:=hρ_of hI hc
 have hok:∀ {w1},Cty c w O F w1→WOk c.h0 F B w1:=λ hC=>(sx_of hB.oes hB.bok hC).wok
 have hw:∀ (a:Act) w1,(∀ t∈Oper.looksAt al.toArray ⟨some d,op,ty,pos,af,some (j,b)⟩,Γ t (a.tmps.getD t undef) w1)→Region.wanted ⟨some d,op,ty,pos,af,some (j,b)⟩ (yielded al.toArray a.tmps)=g :=
  λ a w1 hs=>wanted_of ho hod (λ v hv=>hG.gv t v (by rw [vl_fl]; exact hv) _ _ (hs t (looks_guard ho hod))) hgx rfl
 have hy:g=true→yes (some g):=λ hg g' hg'=>by cases hg'; exact hg
 have good:Good c.P B (fl L I B) c.h0 F op (some g) (λ s=>wrG c.n d t b g s L I λ L I=>X L I B F)→TyW c.P al.toArray (Cty c w O F) (Keep []) Qf (⟨some d,op,ty,pos,af,some (j,b)⟩::r) Γ:=by
  rintro ⟨s,v,hk,hv,hp⟩
  obtain ⟨L',I',hX,hI',hdn,hkv,hrw⟩:=wrG_sound hI hgx hk
  exact tyg_ds hG.gv hw (gd_val hv) (λ hg w1 hC=>(hp (hy hg) w1 (hok hC) _ _ _ _ _).ds.mono λ u w' ⟨h1,h2⟩=>⟨h1,h2 ▸ Keep.refl _ _⟩) (ih _ _ _ _ hX hI' (hG.cons (hkv B) (λ u hu=>(Option.some.inj hu).symm) hrw (by simp)) hB)
 unfold stepG' at h
 split at h
 ·obtain ⟨s,v,hk,hv,hp⟩:=pkG_sound (P:=c.P) (h0:=c.h0) (B:=B) hI hc h
  obtain ⟨_,_,hk⟩:=hasN_sound hk
  exact good ⟨s,v,hk,hv,hp⟩
 ·rcases calG_sound hT hI hc h with ⟨v,hk,hd⟩ | ⟨_,hw⟩ | ⟨_,ho,_⟩
  ·obtain ⟨L',I',hX,hI',hdn,hkv,hrw⟩:=wrG_sound hI hgx hk
   exact tyg_ds hG.gv hw (gd_val (s := .v v) (B:=B) rfl) (λ hg w1 hC=>hd (hy hg) w1 (sx_of hB.oes hB.bok hC) _ _ _ _ _ _) (ih _ _ _ _ hX hI' (hG.cons (hkv B) (λ u hu=>(Option.some.inj hu).symm) hrw (by simp)) hB)
  ·exact hw.elim
  ·cases ho
 ·rename_i t' x y
  cases hsl:isSl (lkA c.T.tys t') with
  | false=>rw [hsl] at h; exact h.elim
  | true =>
   rw [hsl] at h
   obtain ⟨s,hs,h⟩:=rd1_sound h
   obtain ⟨s',hs',h⟩:=rd1_sound h
   obtain ⟨bb,o',cs,h,hkn,hpu⟩:=ixG_sound hT hρ hs hs' h
   obtain ⟨hl,hfl,h⟩:=fresh_sound h
   obtain ⟨L',I',hX,hI',hdn,hkv,hrw⟩:=wrG_sound hI hgx h
   refine tyg_ds hG.gv hw (gd_val (B:=(d,.k (some g) bb o' cs)::B) (s := .o d 0) (v := .pointer (some ⟨bb,o',none⟩)) (by simp only [dvO,lkA_eq,Nat.add_zero])) (λ hg w1 hC=>(hpu (hy hg) w1 (hok hC) _ _ _ _ _).ds.mono λ u w' ⟨h1,h2⟩=>⟨h1,h2 ▸ Keep.refl _ _⟩)
    (ih _ _ _ _ hX hI' (hG.cons (B':=(d,.k (some g) bb o' cs)::B) (λ t=>?_) (λ u hu=>(Option.some.inj hu).symm) hrw (by simp)) ⟨by rw [oes_k]; exact hB.oes,bok_k hB.bok hkn⟩)
   rw [hkv,kv_fl (hfl _)]
 ·cases hp:isPure op with
  | false=>rw [hp] at h; exact h.elim
  | true =>
   rw [hp] at h
   exact good (pv_sound hT hB.bok hρ h)
theorem tyG_sound {d j t:Nat} {b g:Bool} {op:Op} {ty:TypeId} {pos:String} {af:Array Edge} {r:List Oper} {L:SL} {I:IL} {B:BL} {X:SL→IL→BL→FV→Prop} {W:SL→IL→Prop} {Γ:Nat→VP} (hI:Inv L I) (hG:GX w Γ L I B) (hB:TB c O F B) {o:Oper} (ho:nthV al j=some o) (hod:o.dst=some t) (hgx:gx L I t b=some g)
  (ih:∀ L I B Γ,X L I B F→Inv L I→GX w Γ L I B→TB c O F B→TyW c.P al.toArray (Cty c w O F) (Keep []) Qf r Γ)
  (h:stepG c false d op t b g L I B F X W):TyW c.P al.toArray (Cty c w O F) (Keep []) Qf (⟨some d,op,ty,pos,af,some (j,b)⟩::r) Γ:=by
 unfold stepG at h
 cases hst:memF c.stop (2000000+d) with
 | false =>
  rw [hst] at h
  simp only [cond_false] at h
  cases hst2:memF c.stop (4000000+d) with
  | false=>rw [hst2] at h; exact tyG'_sound hT hI hG hB ho hod hgx ih h
  | true =>
   rw [hst2] at h
   have hw:∀ (a:Act) w1,(∀ t∈Oper.looksAt al.toArray ⟨some d,op,ty,pos,af,some (j,b)⟩,Γ t (a.tmps.getD t undef) w1)→Region.wanted ⟨some d,op,ty,pos,af,some (j,b)⟩ (yielded al.toArray a.tmps)=g :=
    λ a w1 hs=>wanted_of ho hod (λ v hv=>hG.gv t v (by rw [vl_fl]; exact hv) _ _ (hs t (looks_guard ho hod))) hgx rfl
   cases hgg:g with
   | true =>
    obtain ⟨L',I',hX,hop⟩:=opnK_sound (h.1 hgg)
    obtain ⟨hI',hkv,hrr⟩:=opn_inv hI (by rw [hgx,hgg]) hop
    refine ty_guard (λ a w1 hs=>(hw a w1 hs).trans hgg) (tyB_sound hT (ty:=ty) (pos:=pos) (af:=af) hI' ⟨λ t v hv=>hG.gv t v ?_,λ t e n cs h1 h2=>hG.gr t e n cs (hrr t e n cs h1 h2).1 (hrr t e n cs h1 h2).2⟩ hB ih hX)
    rw [vl_fl] at hv ⊢; exact hkv B t v hv
   | false =>
    obtain ⟨v,hv⟩:=h.2 hgg
    obtain ⟨L',I',hX,hI',hdn,hkv,hrw⟩:=wrG_sound hI hgx hv
    exact tyg_ds hG.gv hw (gd_val (s := .v v) (B:=B) rfl) (λ hg=>by rw [hgg] at hg; cases hg) (ih _ _ _ _ hX hI' (hG.cons (hkv B) (λ u hu=>(Option.some.inj hu).symm) hrw (by simp)) hB)
 | true =>
  rw [hst] at h
  obtain ⟨hg,h⟩:=h
  cases hst3:memF c.stop d with
  | true=>rw [hst3] at h; cases h.1
  | false =>
  rw [hst3] at h
  refine ty_guard (λ a w1 hs=>?_) (tyB_sound hT (ty:=ty) (pos:=pos) (af:=af) hI hG hB ih h)
  rw [wanted_of ho hod (λ v hv=>hG.gv t v (by rw [vl_fl]; exact hv) _ _ (hs t (looks_guard ho hod))) hgx rfl]; exact hg
theorem ty_sound {K:KR} (hQ:∀ L I B Γ,K L I B F→Inv L I→GX w Γ L I B→TB c O F B→∀ E,Qf E Γ):∀ (l:List Oper) (L:SL) (I:IL) (B:BL) (Γ:Nat→VP),runs c al false K l L I B F→Inv L I→GX w Γ L I B→TB c O F B →
  TyW c.P al.toArray (Cty c w O F) (Keep []) Qf l Γ
 | [],L,I,B,Γ,h,hI,hG,hB=>hQ L I B Γ h hI hG hB _
 | ⟨dst,op,ty,pos,af,none⟩::r,L,I,B,Γ,h,hI,hG,hB=>tyU_sound hT hI hG hB (λ L I B Γ h hI hG hB=>ty_sound hQ r L I B Γ h hI hG hB) h
 | ⟨some d,op,ty,pos,af,some (j,b)⟩::r,L,I,B,Γ,h,hI,hG,hB=>by
  obtain ⟨o,t,g,ho,hod,hgx,h⟩:=guardAt_sound h
  exact tyG_sound hT hI hG hB ho hod hgx (λ L I B Γ h hI hG hB=>ty_sound hQ r L I B Γ h hI hG hB) h
 | ⟨none,_,_,_,_,some _⟩::_,_,_,_,_,h,_,_,_=>h.elim
end ty
end Go.Dx
namespace Go.Dx
open Go Go.RowKit
abbrev KN:=SL→BL→FV→Prop
def NmOk (c:Cx) (k:KN) (q:Act→World→Prop):Prop:=∀ L B F a w,k L B F→Dn c L [] B a→Sx c B F w→q a w
structure XOk (c:Cx) (kx:Nat→KN) (Q:Exit→Act→World→Prop):Prop where
 ex:∀ i,Nat.blt i 1000000=true→NmOk c (kx i) (Q (.exit i))
 go:∀ l,NmOk c (kx (1000000+l)) (Q (.goto l))
theorem no_blt (l:Nat):Nat.blt (1000000+l) 1000000=false:=by
 cases hb:Nat.blt (1000000+l) 1000000 with
 | false=>rfl
 | true =>
  have:=Nat.le_of_ble_eq_true hb
  omega
structure CP (c:Cx) (code:Code) (L:SL) (B:BL) (F:FV) (kn:KN) (kx:Nat→KN) (kr:KN):Prop where
 run:∀ Q a w,NmOk c kn (Q .normal)→XOk c kx Q→NmOk c kr (Q .ret)→PanOk c Q→Dn c L [] B a→Sx c B F w→codeM c.md c.P code Q a w
def pushK:IL→SL→(SL→Prop)→Prop
 | [],L,K=>K L
 | (d,_)::r,L,K=>pushK r ((d,.u)::L) K
def loud:Op→Bool
 | .store .. | .alloc .. | .box .. | .makeMap .. | .makeChan .. | .range .. | .next .. | .mapUpdate .. | .send .. | .recv .. | .select .. | .defer .. | .go .. | .panic ..=>true
 | .call ⟨.builtin .append,_,_⟩ | .call ⟨.builtin .copy,_,_⟩ | .call ⟨.builtin .clear,_,_⟩ | .call ⟨.builtin .recover,_,_⟩=>true
 | _=>false
def spK:List Oper→(List Oper→List Oper→Prop)→Prop
 | [],K=>K [] []
 | o::r,K=>bif loud o.op then K [] (o::r) else spK r λ a b=>K (o::a) b
def fstReg:Code→Option Nat
 | .region id _ _=>some id
 | .seq a b=>match fstReg a with
  | some i=>some i
  | none=>fstReg b
 | .cond _ a b=>match fstReg a with
  | some i=>some i
  | none=>fstReg b
 | .block _ a=>fstReg a
 | .loop a=>fstReg a
 | .scope a=>fstReg a
 | _=>none
def isCut (cut:List Nat) (k:Code):Bool:=match cut with
 | []=>false
 | x::r=>match fstReg k with
  | some i=>memF (x::r) i
  | none=>false
def regK (c:Cx) (l:List Oper) (L:SL) (B:BL) (F:FV) (kn:KN):Prop:=runs c l true (λ L I B F=>pushK I L λ L=>kn L B F) l L [] B F
def noRow:SL→Bool
 | []=>true
 | (_,.r ..)::_=>false
 | (_,_)::r=>noRow r
def clrK:SL→(SL→Prop)→Prop
 | [],K=>K []
 | (t,.r ..)::r,K=>clrK r λ r'=>K ((t,.u)::r')
 | (t,s)::r,K=>clrK r λ r'=>K ((t,s)::r')
def regT (c:Cx) (l:List Oper) (L:SL) (B:BL) (F:FV) (kn:KN):Prop:=bif noRow L then spK l λ a b =>
 typT l.toArray a.length c.n=true∧runs c l false (λ L I B F=>bif noRow L then runs c l true (λ L I B F=>pushK I L λ L=>kn L B F) b L I B F else clrK L λ L=>runs c l true (λ L I B F=>pushK I L λ L=>kn L B F) b L I B F) a L [] B F else False
def vcC (c:Cx):Code→SL→BL→FV→KN→(Nat→KN)→KN→Prop
 | .skip,L,B,F,kn,_,_=>kn L B F
 | .region i ⟨l⟩ false,L,B,F,kn,kx,kr=>bif memF c.stop (1000000+i) then CP c (.region i ⟨l⟩ false) L B F kn kx kr else regK c l L B F kn
 | .region i ⟨l⟩ true,L,B,F,kn,kx,kr=>match c.md with
  | .wp=>bif memF c.stop (1000000+i) then CP c (.region i ⟨l⟩ true) L B F kn kx kr else regT c l L B F kn
  | _=>CP c (.region i ⟨l⟩ true) L B F kn kx kr
 | .seq a b,L,B,F,kn,kx,kr=>bif isCut c.cut b then CP c (.seq a b) L B F kn kx kr else vcC c a L B F (λ L B F=>vcC c b L B F kn kx kr) kx kr
 | .cond x a b,L,B,F,kn,kx,kr=>rd1 (rdS L [] none) x λ s=>match s with
  | .v (.bool t)=>(t=true→vcC c a L B F kn kx kr)∧(t=false→vcC c b L B F kn kx kr)
  | _=>False
 | .block i a,L,B,F,kn,kx,kr=>bif Nat.blt i 1000000 then vcC c a L B F kn (λ j L B F=>bif Nat.beq j i then kn L B F else kx j L B F) kr else False
 | .exit i,L,B,F,_,kx,_=>bif Nat.blt i 1000000 then kx i L B F else False
 | .goto l,L,B,F,_,kx,_=>kx (1000000+l) L B F
 | .scope a,L,B,F,kn,kx,kr=>match c.md with
  | .wp=>bif memF c.stop 3000000 then CP c (.scope a) L B F kn kx kr else vcC c a L B F kn (λ j L B F=>bif Nat.blt j 1000000 then kx j L B F else False) kr
  | _=>CP c (.scope a) L B F kn kx kr
 | .label i,L,B,F,kn,kx,kr=>match c.md with
  | .wp=>kn L B F
  | _=>CP c (.label i) L B F kn kx kr
 | .ret,L,B,F,_,_,kr=>kr L B F
 | k,L,B,F,kn,kx,kr=>CP c k L B F kn kx kr
theorem pushK_sound:∀ {I:IL} {L:SL} {K:SL→Prop},pushK I L K→∃ L',K L'∧∀ B t v,kv L' [] B t=some v→(lkA I t=none∧kv L [] B t=some v)
 | [],L,K,h=>⟨L,h,λ B t v hv=>⟨rfl,hv⟩⟩
 | (d,e)::r,L,K,h=>by
  obtain ⟨L',h1,h2⟩:=pushK_sound (I:=r) h
  refine ⟨L',h1,λ B t v hv=>?_⟩
  obtain ⟨g1,g2⟩:=h2 B t v hv
  by_cases hd:d=t
  ·subst hd
   simp only [kv,lkA,lkA_eq,Nat.beq_refl,cond_true,dvO] at g2
   cases g2
  ·refine ⟨by rw [lkA_ne hd]; exact g1,?_⟩
   unfold kv at g2 ⊢
   rwa [lkA_ne hd] at g2
theorem inv_nil {L:SL}:Inv L []:=λ d e h=>by simp [lkA] at h
theorem push_ok {c:Cx} {kn:KN} {Q:Exit→Act→World→Prop} (h:NmOk c kn (Q .normal)):NormOk c (λ L I B F=>pushK I L λ L=>kn L B F) Q:=by
 intro L I B F a w hk hD hS
 obtain ⟨L',h1,h2⟩:=pushK_sound hk
 refine h L' B F a w h1 ⟨Fr.of_kv hD.fr.df hD.fr.sz λ t v hv=>?_,inv_nil⟩ hS
 obtain ⟨g1,g2⟩:=h2 B t v hv
 refine hD.fr.kv ?_
 unfold kv at g2 ⊢
 rw [g1]
 exact g2
theorem spK_sound:∀ {l:List Oper} {K:List Oper→List Oper→Prop},spK l K→∃ a b,l=a++b∧K a b
 | [],K,h=>⟨[],[],rfl,h⟩
 | o::r,K,h=>by
  unfold spK at h
  cases hl:loud o.op with
  | true=>rw [hl] at h; exact ⟨[],o::r,rfl,h⟩
  | false =>
   rw [hl] at h
   obtain ⟨a,b,h1,h2⟩:=spK_sound h
   exact ⟨o::a,b,by rw [h1]; rfl,h2⟩
theorem noRow_ne:∀ {L:SL},noRow L=true→∀ t e n cs,lkA L t≠some (.r e n cs)
 | [],_,t,e,n,cs=>by simp [lkA]
 | (k,s)::r,h,t,e,n,cs=>by
  have key:noRow r=true∧∀ e n cs,s ≠ .r e n cs:=by
   cases s <;> first | (simp [noRow] at h; done) | exact ⟨h,λ _ _ _ e=>by cases e⟩
  by_cases hk:k=t
  ·subst hk; rw [lkA_eq]; intro e; exact key.2 _ _ _ (Option.some.inj e)
  ·rw [lkA_ne hk]; exact noRow_ne key.1 t e n cs
theorem clrK_sound:∀ {L:SL} {K:SL→Prop},clrK L K→∃ L',K L'∧∀ t,lkA L' t=lkA L t∨(∃ e n cs,lkA L t=some (.r e n cs)∧lkA L' t=some .u)
 | [],K,h=>⟨[],h,λ t => .inl rfl⟩
 | (k,s)::r,K,h=>by
  have fin:∀ s',(s'=s∨∃ e n cs,s = .r e n cs∧s' = .u)→(clrK r λ r'=>K ((k,s')::r'))→∃ L',K L'∧∀ t,lkA L' t=lkA ((k,s)::r) t∨(∃ e n cs,lkA ((k,s)::r) t=some (.r e n cs)∧lkA L' t=some .u):=by
   intro s' hs h
   obtain ⟨L',h1,h2⟩:=clrK_sound h
   refine ⟨_,h1,λ t=>?_⟩
   by_cases hk:k=t
   ·subst hk
    rw [lkA_eq,lkA_eq]
    rcases hs with rfl | ⟨e,n,cs,rfl,rfl⟩
    ·exact .inl rfl
    ·exact .inr ⟨e,n,cs,rfl,rfl⟩
   ·rw [lkA_ne hk,lkA_ne hk]; exact h2 t
  cases s <;> first | exact fin _ (.inl rfl) h | exact fin _ (.inr ⟨_,_,_,rfl,rfl⟩) h
theorem clr_kv {L L':SL} {I:IL} {B:BL} (h:∀ t,lkA L' t=lkA L t∨(∃ e n cs,lkA L t=some (.r e n cs)∧lkA L' t=some .u)) (t:Nat):kv L' I B t=kv L I B t:=by
 unfold kv
 cases lkA I t with
 | some e=>rfl
 | none =>
  rcases h t with h | ⟨e,n,cs,h1,h2⟩
  ·rw [h]
  ·rw [h1,h2]; rfl
theorem clr_inv {L L':SL} {I:IL} (h:∀ t,lkA L' t=lkA L t∨(∃ e n cs,lkA L t=some (.r e n cs)∧lkA L' t=some .u)) (hI:Inv L I):Inv L' I:=by
 intro d e hd
 rw [← hI d e hd]
 unfold gx
 cases lkA I e.t with
 | some e=>rfl
 | none =>
  rcases h e.t with h | ⟨e',n,cs,h1,h2⟩
  ·rw [h]
  ·rw [h1,h2]
section code
variable {c:Cx} (hT:c.T.Ok c.P)
include hT
theorem regK_sound {i:Nat} {l:List Oper} {L:SL} {B:BL} {F:FV} {kn:KN} {kx:Nat→KN} {kr:KN} (h:regK c l L B F kn):CP c (.region i ⟨l⟩ false) L B F kn kx kr :=
 ⟨λ Q a w hn _ _ hp hD hS=>c_reg ((runs_sound hT l L [] B F h inv_nil).run Q a w (push_ok hn) hp hD hS)⟩
theorem regT_sound {i:Nat} {l:List Oper} {L:SL} {B:BL} {F:FV} {kn:KN} {kx:Nat→KN} {kr:KN} (hmd:c.md = .wp) (h:regT c l L B F kn):CP c (.region i ⟨l⟩ true) L B F kn kx kr:=by
 unfold regT at h
 cases hno:noRow L with
 | false=>rw [hno] at h; exact h.elim
 | true =>
 rw [hno] at h
 refine ⟨λ Q a w hn _ _ hp hD hS=>?_⟩
 obtain ⟨l1,l2,rfl,hty,hr⟩:=spK_sound h
 have hsz:=hD.fr.sz
 rw [hmd]
 show (Code.region i (l1++l2).toArray true).wp c.P Q a w
 refine wp_region_typed (C:=Cty c w (oes B) F) (R:=Keep []) l1.length hT.mix (by rw [hsz]; exact hty) (Keep.refl []) (λ w' hk=>⟨hk,hS.st.step hk⟩) ?_
 rw [List.take_left,List.drop_left]
 refine ty_sound hT (K:=λ L I B F=>bif noRow L then runs c (l1++l2) true (λ L I B F=>pushK I L λ L=>kn L B F) l2 L I B F else clrK L λ L=>runs c (l1++l2) true (λ L I B F=>pushK I L λ L=>kn L B F) l2 L I B F) ?_ l1 L [] B _ hr inv_nil ⟨?_,?_⟩ ⟨rfl,hS.bk⟩
 ·intro L' I' B' Γ' hk hI' hG' hB' E a' w' hdf hsz' hC _ hs
  have hD':Dn c L' I' B' a':=⟨Fr.of_kv (by rw [hdf]; exact hD.fr.df) (by rw [hsz']; exact hsz) λ t v hv=>hG'.gv t v (by rw [vl_fl]; exact hv) _ _ (hs t),hI'⟩
  have fin:∀ L'',Dn c L'' I' B' a'→runs c (l1++l2) true (λ L I B F=>pushK I L λ L=>kn L B F) l2 L'' I' B' F→wpList c.P (l1++l2).toArray Q l2 a' w':=by
   intro L'' hD'' hk
   have:=(runs_sound hT l2 L'' I' B' F hk hD''.inv).run Q a' w' (push_ok hn) hp hD'' (sx_of hB'.oes hB'.bok hC)
   rw [hmd] at this
   exact this
  cases hno':noRow L' with
  | true=>rw [hno'] at hk; exact fin L' hD' hk
  | false =>
   rw [hno'] at hk
   obtain ⟨L'',h1,h2⟩:=clrK_sound hk
   exact fin L'' ⟨Fr.of_kv hD'.fr.df hD'.fr.sz λ t v hv=>hD'.fr.kv (by rw [← clr_kv h2]; exact hv),clr_inv h2 hI'⟩ h1
 ·intro t v hv u w' hu
  rw [hu]
  exact hD.fr.at_ t v hv
 ·intro t e n cs _ h2
  exact absurd h2 (noRow_ne hno t e n cs)
theorem vcC_sound:∀ (k:Code) (L:SL) (B:BL) (F:FV) (kn:KN) (kx:Nat→KN) (kr:KN),vcC c k L B F kn kx kr→CP c k L B F kn kx kr
 | .skip,L,B,F,kn,kx,kr,h=>⟨λ Q a w hn _ _ _ hD hS=>c_skip (hn L B F a w h hD hS)⟩
 | .region i ⟨l⟩ false,L,B,F,kn,kx,kr,h=>by
  unfold vcC at h
  cases hm:memF c.stop (1000000+i) with
  | true=>rw [hm] at h; exact h
  | false=>rw [hm] at h; exact regK_sound hT h
 | .region i ⟨l⟩ true,L,B,F,kn,kx,kr,h=>by
  unfold vcC at h
  split at h
  ·rename_i hmd
   cases hm:memF c.stop (1000000+i) with
   | true=>rw [hm] at h; exact h
   | false=>rw [hm] at h; exact regT_sound hT hmd h
  ·exact h
 | .seq a b,L,B,F,kn,kx,kr,h=>by
  unfold vcC at h
  cases hc:isCut c.cut b with
  | true=>rw [hc] at h; exact h
  | false =>
   rw [hc] at h
   exact ⟨λ Q a' w hn hx hr hp hD hS=>c_seq ((vcC_sound a L B F _ kx kr h).run _ a' w (λ L B F a w hk hD hS=>(vcC_sound b L B F kn kx kr hk).run Q a w hn hx hr hp hD hS) ⟨hx.ex,hx.go⟩ hr hp hD hS)⟩
 | .cond x a b,L,B,F,kn,kx,kr,h=>by
  unfold vcC at h
  obtain ⟨s,hs,h⟩:=rd1_sound h
  split at h
  ·refine ⟨λ Q a' w hn hx hr hp hD hS=>c_if hD.fr (rdS_ev inv_nil (cx:=none) (og:=none) rfl yes_none hs rfl) (λ ht=>?_) (λ ht=>?_)⟩
   ·exact (vcC_sound a L B F kn kx kr (h.1 ht)).run Q a' w hn hx hr hp hD hS
   ·exact (vcC_sound b L B F kn kx kr (h.2 ht)).run Q a' w hn hx hr hp hD hS
  ·exact h.elim
 | .block i a,L,B,F,kn,kx,kr,h=>by
  unfold vcC at h
  cases hlt:Nat.blt i 1000000 with
  | false=>rw [hlt] at h; exact h.elim
  | true =>
  rw [hlt] at h
  refine ⟨λ Q a' w hn hx hr hp hD hS=>c_block ((vcC_sound a L B F _ _ kr h).run _ a' w (λ L B F a w hk hD hS=>n_block (hn L B F a w hk hD hS)) ⟨λ j hj L B F a w hk hD hS=>?_,λ l L B F a w hk hD hS=>?_⟩ (λ L B F a w hk hD hS=>r_block (hr L B F a w hk hD hS)) hp hD hS)⟩
  ·cases hb:Nat.beq j i with
   | true =>
    rw [hb] at hk
    obtain rfl:=Nat.eq_of_beq_eq_true hb
    exact x_here (hn L B F a w hk hD hS)
   | false =>
    rw [hb] at hk
    exact x_block hb (hx.ex j hj L B F a w hk hD hS)
  ·rw [beq_ne (show 1000000+l≠i by intro e; rw [← e] at hlt; simp [Nat.blt_eq] at hlt; omega)] at hk
   exact hx.go l L B F a w hk hD hS
 | .exit i,L,B,F,kn,kx,kr,h=>⟨λ Q a w _ hx _ _ hD hS=>by
  unfold vcC at h
  cases hlt:Nat.blt i 1000000 with
  | false=>rw [hlt] at h; exact h.elim
  | true=>rw [hlt] at h; exact c_exit (hx.ex i hlt L B F a w h hD hS)⟩
 | .scope a,L,B,F,kn,kx,kr,h=>by
  unfold vcC at h
  split at h
  ·rename_i hmd
   cases hst:memF c.stop 3000000 with
   | true=>rw [hst] at h; exact h
   | false =>
   rw [hst] at h
   refine ⟨λ Q a' w hn hx hr hp hD hS=>?_⟩
   have:=(vcC_sound a L B F kn _ kr h).run (Exit.noGoto Q) a' w (λ L B F a w hk hD hS=>n_scope (hn L B F a w hk hD hS)) ⟨λ j hj L B F a w hk hD hS=>x_scope (hx.ex j hj L B F a w (by rw [hj] at hk; exact hk) hD hS),λ l L B F a w hk hD hS=>by
    rw [no_blt l] at hk; exact hk.elim⟩ (λ L B F a w hk hD hS=>r_scope (hr L B F a w hk hD hS)) hp hD hS
   rw [hmd] at this ⊢
   exact c_scope this
  ·exact h
 | .label i,L,B,F,kn,kx,kr,h=>by
  unfold vcC at h
  split at h
  ·rename_i hmd
   refine ⟨λ Q a w hn _ _ _ hD hS=>?_⟩
   rw [hmd]
   exact c_label (hn L B F a w h hD hS)
  ·exact h
 | .ret,L,B,F,kn,kx,kr,h=>⟨λ Q a w _ _ hr _ hD hS=>c_ret (hr L B F a w h hD hS)⟩
 | .loop _,L,B,F,kn,kx,kr,h=>h
 | .rangeFunc ..,L,B,F,kn,kx,kr,h=>h
 | .goto l,L,B,F,kn,kx,kr,h=>⟨λ Q a w _ hx _ _ hD hS=>c_goto (hx.go l L B F a w h hD hS)⟩
 | .refuse _,L,B,F,kn,kx,kr,h=>h
end code
def dstK:List Oper→List Nat→(List Nat→Prop)→Prop
 | [],acc,K=>K acc
 | ⟨some d,_,_,_,_,_⟩::r,acc,K=>dstK r (d::acc) K
 | ⟨none,_,_,_,_,_⟩::r,acc,K=>dstK r acc K
def wrsK:Code→List Nat→(List Nat→Prop)→Prop
 | .region _ ⟨l⟩ _,acc,K=>dstK l acc K
 | .seq a b,acc,K=>wrsK a acc λ acc=>wrsK b acc K
 | .cond _ a b,acc,K=>wrsK a acc λ acc=>wrsK b acc K
 | .block _ a,acc,K=>wrsK a acc K
 | .loop a,acc,K=>wrsK a acc K
 | .scope a,acc,K=>wrsK a acc K
 | _,acc,K=>K acc
def keepK (ws:List Nat):List Nat→SL→(SL→Prop)→Prop
 | _,[],K=>K []
 | seen,(t,s)::r,K=>bif memF ws t||memF seen t then keepK ws seen r K else match s with
  | .u=>keepK ws (t::seen) r K
  | s=>keepK ws (t::seen) r λ r'=>K ((t,s)::r')
theorem dstK_sound:∀ {l:List Oper} {acc:List Nat} {K:List Nat→Prop},dstK l acc K→∃ ws,K ws
 | [],acc,K,h=>⟨acc,h⟩
 | ⟨some d,_,_,_,_,_⟩::r,acc,K,h=>dstK_sound (l:=r) h
 | ⟨none,_,_,_,_,_⟩::r,acc,K,h=>dstK_sound (l:=r) h
theorem wrsK_sound:∀ {k:Code} {acc:List Nat} {K:List Nat→Prop},wrsK k acc K→∃ ws,K ws
 | .region _ ⟨l⟩ _,acc,K,h=>dstK_sound (l:=l) h
 | .seq a b,acc,K,h=>let ⟨_,h1⟩:=wrsK_sound (k:=a) h; wrsK_sound (k:=b) h1
 | .cond _ a b,acc,K,h=>let ⟨_,h1⟩:=wrsK_sound (k:=a) h; wrsK_sound (k:=b) h1
 | .block _ a,acc,K,h=>wrsK_sound (k:=a) h
 | .loop a,acc,K,h=>wrsK_sound (k:=a) h
 | .scope a,acc,K,h=>wrsK_sound (k:=a) h
 | .skip,acc,K,h=>⟨acc,h⟩
 | .rangeFunc ..,acc,K,h=>⟨acc,h⟩
 | .exit _,acc,K,h=>⟨acc,h⟩
 | .label _,acc,K,h=>⟨acc,h⟩
 | .goto _,acc,K,h=>⟨acc,h⟩
 | .ret,acc,K,h=>⟨acc,h⟩
 | .refuse _,acc,K,h=>⟨acc,h⟩
theorem memF_cons_ne {k f:Nat} {l:List Nat} (h:memF (k::l) f=false):k≠f∧memF l f=false:=by
 by_cases hk:k=f
 ·subst hk; simp [memF] at h
 ·refine ⟨hk,?_⟩
  simpa [memF,beq_ne hk] using h
theorem keepK_sound {ws:List Nat}:∀ {L:SL} {seen:List Nat} {K:SL→Prop},keepK ws seen L K→∃ Lk,K Lk∧∀ t s,lkA Lk t=some s→memF ws t=false∧memF seen t=false∧lkA L t=some s
 | [],seen,K,h=>⟨[],h,λ t s hs=>by simp [lkA] at hs⟩
 | (t0,s0)::r,seen,K,h=>by
  unfold keepK at h
  cases hb:(memF ws t0||memF seen t0) with
  | true =>
   rw [hb] at h
   obtain ⟨Lk,h1,h2⟩:=keepK_sound (ws:=ws) (L:=r) (seen:=seen) (K:=K) h
   refine ⟨Lk,h1,λ t s hs=>?_⟩
   obtain ⟨g1,g2,g3⟩:=h2 t s hs
   have:t0≠t:=λ e=>by subst e; rw [g1,g2] at hb; cases hb
   exact ⟨g1,g2,by rw [lkA_ne this]; exact g3⟩
  | false =>
   rw [hb] at h
   simp only [Bool.or_eq_false_iff] at hb
   simp only [cond_false] at h
   have fin:∀ K':SL→Prop,(∀ r',K' r'→∃ Lk,K Lk∧∀ t s,lkA Lk t=some s→(t=t0∧s=s0)∨(t0≠t∧lkA r' t=some s))→keepK ws (t0::seen) r K'→∃ Lk,K Lk∧∀ t s,lkA Lk t=some s→memF ws t=false∧memF seen t=false∧lkA ((t0,s0)::r) t=some s:=by
    intro K' hK' hk
    obtain ⟨r',h1,h2⟩:=keepK_sound (ws:=ws) (L:=r) (seen:=t0::seen) (K:=K') hk
    obtain ⟨Lk,g1,g2⟩:=hK' r' h1
    refine ⟨Lk,g1,λ t s hs=>?_⟩
    rcases g2 t s hs with ⟨rfl,rfl⟩ | ⟨hne,hs'⟩
    ·exact ⟨hb.1,hb.2,lkA_eq _ _ _⟩
    ·obtain ⟨q1,q2,q3⟩:=h2 t s hs'
     exact ⟨q1,(memF_cons_ne q2).2,by rw [lkA_ne hne]; exact q3⟩
   have keep:keepK ws (t0::seen) r (λ r'=>K ((t0,s0)::r'))→∃ Lk,K Lk∧∀ t s,lkA Lk t=some s→memF ws t=false∧memF seen t=false∧lkA ((t0,s0)::r) t=some s:=λ hk =>
    fin _ (λ r' hr'=>⟨_,hr',λ t s hs=>by
     by_cases ht:t0=t
     ·subst ht; rw [lkA_eq] at hs; exact .inl ⟨rfl,(Option.some.inj hs).symm⟩
     ·rw [lkA_ne ht] at hs; exact .inr ⟨ht,hs⟩⟩) hk
   cases s0 with
   | u =>
    obtain ⟨Lk,h1,h2⟩:=keepK_sound (ws:=ws) (L:=r) (seen:=t0::seen) (K:=K) h
    refine ⟨Lk,h1,λ t s hs=>?_⟩
    obtain ⟨g1,g2,g3⟩:=h2 t s hs
    obtain ⟨q1,q2⟩:=memF_cons_ne g2
    exact ⟨g1,q2,by rw [lkA_ne q1]; exact g3⟩
   | v x=>exact keep h
   | o k f=>exact keep h
   | s k f n cp=>exact keep h
   | r e n cs=>exact keep h
def noK:BL→Bool
 | []=>true
 | (_,.k ..)::_=>false
 | (_,_)::r=>noK r
theorem noK_ne:∀ {B:BL},noK B=true→∀ k g b o cs,(k,OB.k g b o cs) ∉ B
 | [],_,k,g,b,o,cs=>by simp
 | (k0,ob)::r,h,k,g,b,o,cs=>by
  have key:noK r=true∧∀ g b o cs,ob ≠ .k g b o cs:=by
   cases ob <;> first | (simp [noK] at h; done) | exact ⟨h,λ _ _ _ _ e=>by cases e⟩
  intro hm
  rcases List.mem_cons.1 hm with e | hm
  ·exact key.2 _ _ _ _ (Prod.mk.inj e).2.symm
  ·exact noK_ne key.1 _ _ _ _ _ hm
theorem oes_perm {B B':BL} (h:B.Perm B'):(oes B).Perm (oes B'):=h.filterMap _
theorem ids_perm {O O':List OE} (h:O.Perm O'):(ids O).Perm (ids O'):=h.filterMap _
theorem cv_perm {n0:Nat} {h0:View} {I I':List Nat} {w:World} (h:∀ k,k∈I↔k∈I'):cv n0 h0 I w=cv n0 h0 I' w:=by
 funext k
 unfold cv
 by_cases hk:k∈I
 ·rw [if_pos hk,if_pos ((h k).1 hk)]
 ·rw [if_neg hk,if_neg (λ h'=>hk ((h k).2 h'))]
theorem St.perm {w0 w:World} {h0:View} {M:List Nat} {O O':List OE} {F:View→Prop} (hS:St w0 h0 M w O F) (h:O.Perm O'):St w0 h0 M w O' F:=by
 have hi:=ids_perm h
 refine ⟨hS.keep,hS.vw,λ e he=>hS.own e (h.mem_iff.2 he),λ b hb=>hS.fresh b (hi.mem_iff.2 hb),hi.nodup_iff.1 hS.nd,hS.mono,?_⟩
 rw [← cv_perm (I:=ids O) λ k=>hi.mem_iff]; exact hS.facts
theorem oes_app (A C:BL):oes (A++C)=oes A++oes C:=by simp [oes,List.filterMap_append]
def lksJ (B:BL):BL→Prop
 | []=>True
 | (k,o)::r=>lkA B k=some o∧lksJ B r
def delA:BL→Nat→BL
 | [],_=>[]
 | (k,o)::r,d=>bif Nat.beq k d then r else (k,o)::delA r d
theorem delA_perm:∀ {B:BL} {k:Nat} {o:OB},lkA B k=some o→B.Perm ((k,o)::delA B k)
 | [],k,o,h=>by simp [lkA] at h
 | (k0,o0)::r,k,o,h=>by
  by_cases hk:k0=k
  ·subst hk
   rw [lkA_eq] at h; cases h
   simp only [delA,Nat.beq_refl,cond_true]
   exact List.Perm.refl _
  ·rw [lkA_ne hk] at h
   simp only [delA,beq_ne hk,cond_false]
   exact ((delA_perm h).cons _).trans (List.Perm.swap ..)
theorem delA_lk:∀ {B:BL} {k m:Nat},m≠k→lkA (delA B k) m=lkA B m
 | [],k,m,_=>rfl
 | (k0,o0)::r,k,m,h=>by
  by_cases hk:k0=k
  ·subst hk
   simp only [delA,Nat.beq_refl,cond_true]
   rw [lkA_ne (Ne.symm h)]
  ·simp only [delA,beq_ne hk,cond_false]
   by_cases hm:k0=m
   ·subst hm; rw [lkA_eq,lkA_eq]
   ·rw [lkA_ne hm,lkA_ne hm]; exact delA_lk h
def keysN:BL→Bool
 | []=>true
 | (k,_)::r=>keysN r&&(match lkA r k with | none=>true | some _=>false)
def delL:BL→BL→BL
 | B,[]=>B
 | B,(k,_)::r=>delL (delA B k) r
theorem lksJ_perm:∀ {J B:BL},keysN J=true→lksJ B J→B.Perm (J++delL B J)
 | [],B,_,_=>List.Perm.refl _
 | (k,o)::r,B,hn,h=>by
  simp only [keysN,Bool.and_eq_true] at hn
  have hd:=delA_perm h.1
  have hne:∀ m o',(m,o')∈r→m≠k:=λ m o' hm e=>by
   subst e
   have:∀ {r:BL},(m,o')∈r→lkA r m≠none:=by
    intro r
    induction r with
    | nil=>intro h; cases h
    | cons p r ih =>
     intro h
     obtain ⟨q,x⟩:=p
     by_cases hq:q=m
     ·subst hq; rw [lkA_eq]; simp
     ·rw [lkA_ne hq]
      rcases List.mem_cons.1 h with h | h
      ·cases h; exact absurd rfl hq
      ·exact ih h
   have h2:=this hm
   revert hn
   cases hl:lkA r m with
   | none=>exact absurd hl h2
   | some x=>simp
  have hl:lksJ (delA B k) r:=by
   have h2:=h.2
   clear hd h
   induction r with
   | nil=>trivial
   | cons p r ih =>
    obtain ⟨m,o'⟩:=p
    have hmk:=hne m o' (List.mem_cons_self ..)
    refine ⟨by rw [delA_lk hmk]; exact h2.1,?_⟩
    refine ih ?_ (λ a b hab=>hne a b (List.mem_cons_of_mem _ hab)) h2.2
    simp only [keysN,Bool.and_eq_true] at hn
    refine ⟨hn.1.1,?_⟩
    have h3:=hn.2
    rw [lkA_ne hmk] at h3
    exact h3
  exact hd.trans ((lksJ_perm hn.1 hl).cons _)
structure Goes (L1:SL) (B1:BL) (F1:FV) (L':SL) (B':BL) (F':FV):Prop where
 sl:L1.map (λ p=>(lkA L' p.1,dvO B' p.2))=L1.map (λ p=>(some p.2,dvO B1 p.2))
 bl:B'.drop (B'.length - B1.length)=B1∨(keysN B1=true∧lksJ B' B1)
 fv:∀ h,F' h→F1 h
 bk:(∀ h,F1 h→F' h)∨noK B1=true
theorem gs {L1 L':SL} {B1 B':BL} {F1 F':FV} (sl:L1.map (λ p=>(lkA L' p.1,dvO B' p.2))=L1.map (λ p=>(some p.2,dvO B1 p.2)):=by rfl)
  (bl:B'.drop (B'.length - B1.length)=B1:=by rfl) (fv:∀ h,F' h→F1 h:=by exact λ _ h=>h) (bk:(∀ h,F1 h→F' h)∨noK B1=true:=by first | exact .inl λ _ h=>h | exact .inr rfl):Goes L1 B1 F1 L' B' F':=⟨sl,.inl bl,fv,bk⟩
theorem gsJ {L1 L':SL} {B1 B':BL} {F1 F':FV} (bl:lksJ B' B1) (sl:L1.map (λ p=>(lkA L' p.1,dvO B' p.2))=L1.map (λ p=>(some p.2,dvO B1 p.2)):=by rfl)
  (fv:∀ h,F' h→F1 h:=by exact λ _ h=>h) (kn:keysN B1=true:=by rfl) (bk:(∀ h,F1 h→F' h)∨noK B1=true:=by first | exact .inl λ _ h=>h | exact .inr rfl):Goes L1 B1 F1 L' B' F':=⟨sl,.inr ⟨kn,bl⟩,fv,bk⟩
theorem Goes.dn {c:Cx} {L1 L':SL} {B1 B':BL} {F1 F':FV} {a:Act} (h:Goes L1 B1 F1 L' B' F') (hD:Dn c L' [] B' a):Dn c L1 [] B1 a:=by
 refine ⟨Fr.of_kv hD.fr.df hD.fr.sz λ t v hv=>hD.fr.kv ?_,inv_nil⟩
 unfold kv at hv ⊢
 simp only [lkA] at hv ⊢
 cases hl:lkA L1 t with
 | none=>rw [hl] at hv; cases hv
 | some s =>
  rw [hl] at hv
  have:=map_eq_mem h.sl _ (lkA_mem hl)
  simp only [Prod.mk.injEq] at this
  rw [this.1]
  simp only at hv ⊢
  rw [this.2]; exact hv
theorem St.suffix {c:Cx} {w:World} {F:FV}:∀ {A O:List OE},St c.w0 c.h0 c.M w (A++O) F→St c.w0 c.h0 c.M w O F
 | [],O,h=>h
 | e::A,O,h=>St.suffix (A:=A) (by have:=h.forget 0; simpa using this)
theorem Goes.sx {c:Cx} {L1 L':SL} {B1 B':BL} {F1 F':FV} {w:World} (h:Goes L1 B1 F1 L' B' F') (hm:Mono F1) (hS:Sx c B' F' w):Sx c B1 F1 w:=by
 obtain ⟨R,e⟩:∃ R,B'.Perm (R++B1):=by
  rcases h.bl with hb | ⟨hk,hb⟩
  ·have:=(List.take_append_drop (B'.length - B1.length) B').symm
   rw [hb] at this
   exact ⟨B'.take (B'.length - B1.length),by rw [← this]⟩
  ·exact ⟨delL B' B1,(lksJ_perm hk hb).trans List.perm_append_comm⟩
 refine ⟨?_,λ k g b o cs hk=>?_⟩
 rotate_left
 ·rcases h.bk with hb | hb
  ·have:=hS.bk k g b o cs (e.mem_iff.2 (List.mem_append_right _ hk))
   exact gc_mk λ hy=>λ v w h1 h2 h3=>gc_yes this hy v w h1 (hb _ h2) h3
  ·exact absurd hk (noK_ne hb _ _ _ _ _)
 have h1:=(hS.st.weak hm h.fv).perm (oes_perm e)
 rw [oes_app] at h1
 exact St.suffix h1
theorem Sx.mono {c:Cx} {B:BL} {F:FV} {w:World} (hS:Sx c B F w):Mono F:=hS.st.mono
section loops
variable {c:Cx} (hT:c.T.Ok c.P)
include hT
theorem w_loopB {α:Type} (md:α→SL) (Bx:α→BL) (x0:α) (I:α→Prop) (μ:α→Nat) {k:Code} {L:SL} {B:BL} {F:FV} {kn:KN} {kx:Nat→KN} {kr:KN}
  (h:wrsK k [] λ ws=>keepK ws [] L λ Lk=>(I x0∧Goes (md x0++Lk) (Bx x0) F L B F)∧∀ x,I x→vcC c k (md x++Lk) (Bx x) F (λ L' B' F'=>∃ x',(I x'∧μ x'<μ x)∧Goes (md x'++Lk) (Bx x') F L' B' F') kx kr) :
  CP c (.loop k) L B F kn kx kr:=by
 obtain ⟨ws,h⟩:=wrsK_sound h
 obtain ⟨Lk,⟨⟨h0,hg⟩,hr⟩,_⟩:=keepK_sound h
 refine ⟨λ Q a w hn hx hret hp hD hS=>c_loop (α:=α) (λ x a w=>I x∧Dn c (md x++Lk) [] (Bx x) a∧Sx c (Bx x) F w) μ x0 ⟨h0,hg.dn hD,hg.sx hS.mono hS⟩ λ x a w ⟨hI,hD,hS⟩=>?_⟩
 refine (vcC_sound hT k _ _ _ _ _ _ (hr x hI)).run _ a w ?_ ⟨hx.ex,hx.go⟩ hret hp hD hS
 rintro L' B' F' a' w' ⟨x',⟨hI',hlt⟩,hg'⟩ hD' hS'
 exact ⟨x',⟨hI',hg'.dn hD',hg'.sx hS.mono hS'⟩,hlt⟩
theorem w_loop {α:Type} (md:α→SL) (x0:α) (I:α→Prop) (μ:α→Nat) {k:Code} {L:SL} {B:BL} {F:FV} {kn:KN} {kx:Nat→KN} {kr:KN}
  (h:wrsK k [] λ ws=>keepK ws [] L λ Lk=>(I x0∧Goes (md x0++Lk) B F L B F)∧∀ x,I x→vcC c k (md x++Lk) B F (λ L' B' F'=>∃ x',(I x'∧μ x'<μ x)∧Goes (md x'++Lk) B F L' B' F') kx kr) :
  CP c (.loop k) L B F kn kx kr:=w_loopB hT md (λ _=>B) x0 I μ h
theorem w_loopF {α:Type} (md:α→SL) (Bx:α→BL) (Fx:α→FV) (x0:α) (I:α→Prop) (μ:α→Nat) {k:Code} {L:SL} {B:BL} {F:FV} {kn:KN} {kx:Nat→KN} {kr:KN} (hm:∀ x,Mono (Fx x))
  (h:wrsK k [] λ ws=>keepK ws [] L λ Lk=>(I x0∧Goes (md x0++Lk) (Bx x0) (Fx x0) L B F)∧∀ x,I x→vcC c k (md x++Lk) (Bx x) (Fx x) (λ L' B' F'=>∃ x',(I x'∧μ x'<μ x)∧Goes (md x'++Lk) (Bx x') (Fx x') L' B' F') kx kr) :
  CP c (.loop k) L B F kn kx kr:=by
 obtain ⟨ws,h⟩:=wrsK_sound h
 obtain ⟨Lk,⟨⟨h0,hg⟩,hr⟩,_⟩:=keepK_sound h
 refine ⟨λ Q a w hn hx hret hp hD hS=>c_loop (α:=α) (λ x a w=>I x∧Dn c (md x++Lk) [] (Bx x) a∧Sx c (Bx x) (Fx x) w) μ x0 ⟨h0,hg.dn hD,hg.sx (hm x0) hS⟩ λ x a w ⟨hI,hD,hS⟩=>?_⟩
 refine (vcC_sound hT k _ _ _ _ _ _ (hr x hI)).run _ a w ?_ ⟨hx.ex,hx.go⟩ hret hp hD hS
 rintro L' B' F' a' w' ⟨x',⟨hI',hlt⟩,hg'⟩ hD' hS'
 exact ⟨x',⟨hI',hg'.dn hD',hg'.sx (hm x') hS'⟩,hlt⟩
theorem w_cutB {α:Type} (md:α→SL) (Bx:α→BL) (I:α→Prop) {k k':Code} {L:SL} {B:BL} {F:FV} {kn:KN} {kx:Nat→KN} {kr:KN}
  (h:wrsK k [] λ ws=>keepK ws [] L λ Lk=>vcC c k L B F (λ L' B' F'=>∃ x,I x∧Goes (md x++Lk) (Bx x) F L' B' F') kx kr∧∀ x,I x→vcC c k' (md x++Lk) (Bx x) F kn kx kr) :
  CP c (.seq k k') L B F kn kx kr:=by
 obtain ⟨ws,h⟩:=wrsK_sound h
 obtain ⟨Lk,⟨h1,h2⟩,_⟩:=keepK_sound h
 refine ⟨λ Q a w hn hx hret hp hD hS=>c_seq ((vcC_sound hT k _ _ _ _ _ _ h1).run _ a w ?_ ⟨hx.ex,hx.go⟩ hret hp hD hS)⟩
 rintro L' B' F' a' w' ⟨x,hI,hg⟩ hD' hS'
 exact (vcC_sound hT k' _ _ _ _ _ _ (h2 x hI)).run Q a' w' hn hx hret hp (hg.dn hD') (hg.sx hS.mono hS')
theorem w_cut {α:Type} (md:α→SL) (I:α→Prop) {k k':Code} {L:SL} {B:BL} {F:FV} {kn:KN} {kx:Nat→KN} {kr:KN}
  (h:wrsK k [] λ ws=>keepK ws [] L λ Lk=>vcC c k L B F (λ L' B' F'=>∃ x,I x∧Goes (md x++Lk) B F L' B' F') kx kr∧∀ x,I x→vcC c k' (md x++Lk) B F kn kx kr) :
  CP c (.seq k k') L B F kn kx kr:=w_cutB hT md (λ _=>B) I h
def argS:List Value→Nat→SL
 | [],_=>[]
 | v::r,i=>(i,.v v)::argS r (i+1)
omit hT in
theorem lkA_argS:∀ (vs:List Value) (i t:Nat) (s:SV),lkA (argS vs i) t=some s→∃ v,s = .v v∧vl (lk (argL vs i) t)=some v
 | [],i,t,s,h=>by simp [argS,lkA] at h
 | u::r,i,t,s,h=>by
  unfold argS at h
  unfold argL
  by_cases ht:i=t
  ·subst ht; rw [lkA_eq] at h; cases h
   exact ⟨u,rfl,by rw [lk_cons_eq]; rfl⟩
  ·rw [lkA_ne ht] at h
   rw [lk_cons_ne ht]
   exact lkA_argS r (i+1) t s h
def resK (T:Tab) (L:SL) (B:BL):List ResultVar→(List Value→Prop)→Prop
 | [],K=>K []
 | .tmp t::r,K=>match lkA L t with
  | some s=>match dvO B s with
   | some v=>resK T L B r λ l=>K (v::l)
   | none=>False
  | none=>False
 | .cell t ty::r,K=>match lkA L t,lkA T.tys ty with
  | some (.o k f),some td=>match lkA B k with
   | some (.c _ _ cs)=>ldK td cs f λ s=>match s with
    | .v v=>resK T L B r λ l=>K (v::l)
    | _=>False
   | _=>False
  | _,_=>False
theorem resK_sound {L:SL} {B:BL} {a:Act} {w:World} (hD:Dn c L [] B a) {F:FV} (hw:WOk c.h0 F B w):∀ {rs:List ResultVar} {K:List Value→Prop},resK c.T L B rs K→∃ vs,K vs∧RVs c.P w (fl L [] B) rs vs
 | [],K,h=>⟨[],h,.nil⟩
 | .tmp t::r,K,h=>by
  unfold resK at h
  split at h
  ·rename_i s hs
   split at h
   ·rename_i v hv
    obtain ⟨vs,h1,h2⟩:=resK_sound hD hw h
    refine ⟨_,h1,.tmp ?_ h2⟩
    rw [vl_fl]; simp only [kv,lkA,hs,hv]
   ·exact h.elim
  ·exact h.elim
 | .cell t ty::r,K,h=>by
  unfold resK at h
  split at h
  ·rename_i k f td hk htd
   split at h
   ·rename_i b T cs hl
    have ht:=hT.td htd
    have hld:∀ {K':SV→Prop},ldK td cs f K'→∃ v,K' (.v v)∧(loadVar ty ⟨b,f,none⟩).run c.P w = .ok v w:=by
     intro K' h
     unfold ldK at h
     cases hag:td.ag with
     | true =>
      rw [hag] at h
      have go:∀ l:List Value,l.length=td.sz→(∀ j v,l[j]?=some v→cs[f+j]?=some v)→(loadVar ty ⟨b,f,none⟩).run c.P w = .ok (.agg l.toArray) w:=by
       intro l hl' hj
       refine run_loadA (by rw [hl']; exact td_agg ht hag) λ j v hjv=>?_
       rw [add_mk,cell_row (hw.own _ _ _ _ hl)]; exact hj j v hjv
      simp only [cond_true] at h
      cases hwh:(Nat.beq f 0&&lenB cs td.sz) with
      | true =>
       rw [hwh] at h
       simp only [Bool.and_eq_true] at hwh
       obtain rfl:=Nat.eq_of_beq_eq_true hwh.1
       exact ⟨_,h,go cs (lenB_eq hwh.2) λ j v hjv=>by simpa using hjv⟩
      | false =>
       rw [hwh] at h
       obtain ⟨hk,hle⟩:=subK_sound h
       refine ⟨_,hk,go _ (by simp; omega) λ j v hjv=>?_⟩
       rw [List.getElem?_take] at hjv
       split at hjv
       ·simpa using hjv
       ·cases hjv
     | false =>
      rw [hag] at h
      simp only [cond_false] at h
      split at h
      ·rename_i v hv
       rw [nthV_eq] at hv
       exact ⟨v,h,run_load1 (td_one ht hag) (by rw [cell_row (hw.own _ _ _ _ hl)]; exact hv)⟩
      ·exact h.elim
    obtain ⟨v,hv,hrun⟩:=hld h
    obtain ⟨vs,h1,h2⟩:=resK_sound hD hw hv
    refine ⟨_,h1,.cell (ad:=⟨b,f,none⟩) ?_ hrun h2⟩
    rw [vl_fl]; simp only [kv,lkA,hk,dvO,hl]
   ·exact h.elim
  ·exact h.elim
end loops
theorem entR {P:Program} {T:Tab} (hT:T.Ok P) {f:FuncId} {fn:Func} {code:Code} {args:List Value} {w0:World} {h0:View} {rs:List ResultVar} {n:Nat} {R:Ending→World→Prop} {kp:List PanicEntry→Prop} (stop cut:List Nat)
  (hf:P.funcs[f]?=some fn) (hb:fn.body=some code) (hn:fn.ntmps=n) (hle:Nat.ble args.length n=true) (hr:fn.results=rs.toArray) (hv:VLe h0 (Full w0)) (hp:∀ ch w,kp ch→Keep [] w0 w→R (.panicked ch) w)
  (h:vcC ⟨P,T,.wp,n,w0,h0,[],kp,stop,cut⟩ code (argS args 0) [] (λ _=>True) (λ L B F=>resK T L B rs λ vs=>∀ w,Sx ⟨P,T,.wp,n,w0,h0,[],kp,stop,cut⟩ B F w→R (.returned (tupV vs)) w) (λ _ _ _ _=>False)
   (λ L B F=>resK T L B rs λ vs=>∀ w,Sx ⟨P,T,.wp,n,w0,h0,[],kp,stop,cut⟩ B F w→R (.returned (tupV vs)) w)):Calls P f args.toArray w0 R:=by
 refine f_enter hf hb hn hle λ a hF=>?_
 have fin:∀ L B F a w,(resK T L B rs λ vs=>∀ w,Sx ⟨P,T,.wp,n,w0,h0,[],kp,stop,cut⟩ B F w→R (.returned (tupV vs)) w)→Dn ⟨P,T,.wp,n,w0,h0,[],kp,stop,cut⟩ L [] B a→Sx ⟨P,T,.wp,n,w0,h0,[],kp,stop,cut⟩ B F w→bodyPost P fn R .ret a w:=by
  intro L B F a w hk hD hS
  obtain ⟨vs,h1,h2⟩:=resK_sound (c:=⟨P,T,.wp,n,w0,h0,[],kp,stop,cut⟩) hT hD hS.wok hk
  exact f_ret hD.fr hr h2 (h1 w hS)
 refine (vcC_sound (c:=⟨P,T,.wp,n,w0,h0,[],kp,stop,cut⟩) hT code _ _ _ _ _ _ h).run (bodyPost P fn R) a w0 (λ L B F a w hk hD hS=>?_) ⟨λ _ _ _ _ _ _ _ h=>h.elim,λ _ _ _ _ _ _ h=>h.elim⟩ fin (λ ch a w hk hd hkeep=>⟨hd,hp ch w hk hkeep⟩) ⟨Fr.of_kv hF.df hF.sz λ t v hv=>?_,inv_nil⟩ ⟨St.init w0 h0 hv,λ k g b o cs hk=>by cases hk⟩
 ·exact fin L B F a w hk hD hS
 ·unfold kv at hv
  simp only [lkA] at hv
  cases hl:lkA (argS args 0) t with
  | none=>rw [hl] at hv; cases hv
  | some s =>
   rw [hl] at hv
   obtain ⟨u,rfl,hu⟩:=lkA_argS _ _ _ _ hl
   have:u=v:=Option.some.inj hv
   subst this
   exact hF.at_ t u hu
theorem ent {P:Program} {T:Tab} (hT:T.Ok P) {f:FuncId} {fn:Func} {code:Code} {args:List Value} {w0:World} {h0:View} {rs:List ResultVar} {n:Nat} {v:Value} (stop cut:List Nat)
  (hf:P.funcs[f]?=some fn) (hb:fn.body=some code) (hn:fn.ntmps=n) (hle:Nat.ble args.length n=true) (hr:fn.results=rs.toArray) (hv:VLe h0 (Full w0))
  (h:vcC ⟨P,T,.wp,n,w0,h0,[],λ _=>False,stop,cut⟩ code (argS args 0) [] (λ _=>True) (λ L B _=>resK T L B rs λ vs=>tupV vs=v) (λ _ _ _ _=>False)
   (λ L B _=>resK T L B rs λ vs=>tupV vs=v)):Calls P f args.toArray w0 (Ret w0 h0 λ u _=>u=v):=by
 refine f_enter hf hb hn hle λ a hF=>?_
 have fin:∀ L B F a w,(resK T L B rs λ vs=>tupV vs=v)→Dn ⟨P,T,.wp,n,w0,h0,[],λ _=>False,stop,cut⟩ L [] B a→Sx ⟨P,T,.wp,n,w0,h0,[],λ _=>False,stop,cut⟩ B F w→bodyPost P fn (Ret w0 h0 λ u _=>u=v) .ret a w:=by
  intro L B F a w hk hD hS
  obtain ⟨vs,h1,h2⟩:=resK_sound (c:=⟨P,T,.wp,n,w0,h0,[],λ _=>False,stop,cut⟩) hT hD hS.wok hk
  exact f_ret hD.fr hr h2 (hS.st.retv h1)
 refine (vcC_sound (c:=⟨P,T,.wp,n,w0,h0,[],λ _=>False,stop,cut⟩) hT code _ _ _ _ _ _ h).run (bodyPost P fn _) a w0 fin ⟨λ _ _ _ _ _ _ _ h=>h.elim,λ _ _ _ _ _ _ h=>h.elim⟩ fin (λ ch a w hk hd hkeep=>hk.elim) ⟨Fr.of_kv hF.df hF.sz λ t v hv=>?_,inv_nil⟩ ⟨St.init w0 h0 hv,λ k g b o cs hk=>by cases hk⟩
 unfold kv at hv
 simp only [lkA] at hv
 cases hl:lkA (argS args 0) t with
 | none=>rw [hl] at hv; cases hv
 | some s =>
  rw [hl] at hv
  obtain ⟨u,rfl,hu⟩:=lkA_argS _ _ _ _ hl
  have:u=v:=Option.some.inj hv
  subst this
  exact hF.at_ t u hu
class BP (b:Bool) (p q:outParam Prop):Prop where
 t:b=true→p
 f:b=false→q
instance (priority:=low) bpAny (b:Bool):BP b (b=true) (b=false):=⟨id,id⟩
instance bpDec (p:Prop) [Decidable p]:BP (decide p) p (¬p):=⟨of_decide_eq_true,of_decide_eq_false⟩
instance bpNot (b:Bool) (p q:Prop) [h:BP b p q]:BP (!b) q p:=⟨λ e=>h.f (by simpa using e),λ e=>h.t (by simpa using e)⟩
instance bpAnd (a b:Bool) (p q p' q':Prop) [h:BP a p q] [k:BP b p' q']:BP (a&&b) (p∧p') (q∨q') :=
 ⟨λ e=>by simp only [Bool.and_eq_true] at e; exact ⟨h.t e.1,k.t e.2⟩,λ e=>by
  cases ha:a with
  | false=>exact .inl (h.f ha)
  | true=>rw [ha,Bool.true_and] at e; exact .inr (k.f e)⟩
instance bpOr (a b:Bool) (p q p' q':Prop) [h:BP a p q] [k:BP b p' q']:BP (a||b) (p∨p') (q∧q') :=
 ⟨λ e=>(by
  cases ha:a with
  | true=>exact .inl (h.t ha)
  | false=>rw [ha,Bool.false_or] at e; exact .inr (k.t e)),λ e=>(by simp only [Bool.or_eq_false_iff] at e; exact ⟨h.f e.1,k.f e.2⟩)⟩
instance bpBqT (b:Bool) (p q:Prop) [h:BP b p q]:BP (bq true b) p q:=⟨h.t,h.f⟩
instance bpBqF (b:Bool) (p q:Prop) [h:BP b p q]:BP (bq false b) q p:=⟨λ e=>h.f (by simpa [bq] using e),λ e=>h.t (by simpa [bq] using e)⟩
instance bpTrue:BP true True False:=⟨λ _=>trivial,λ e=>(by cases e)⟩
instance bpFalse:BP false False True:=⟨λ e=>(by cases e),λ _=>trivial⟩
theorem cnd {t:Bool} {p q A C:Prop} [h:BP t p q] (h1:p→A) (h2:q→C):(t=true→A)∧(t=false→C):=⟨λ e=>h1 (h.t e),λ e=>h2 (h.f e)⟩
theorem cndT {t:Bool} {A C:Prop} (ht:t=true) (h:A):(t=true→A)∧(t=false→C):=⟨λ _=>h,λ e=>by rw [ht] at e; cases e⟩
theorem cndF {t:Bool} {A C:Prop} (ht:t=false) (h:C):(t=true→A)∧(t=false→C):=⟨λ e=>(by rw [ht] at e; cases e),λ _=>h⟩
theorem wi {n:Int} {K:Int→Prop} (k:K n) (h : -9223372036854775808≤n∧n≤9223372036854775807:=by omega):∃ r,IntKind.i64.wrap n=r∧K r:=⟨n,wrap_i64 h.1 h.2,k⟩
theorem ew {α:Type} {p K:α→Prop} (r:α) (h:p r) (k:K r):∃ r,p r∧K r:=⟨r,h,k⟩
theorem qu {m n:Int} {K:Int→Prop} (h:n≠0) (k:K (m.tdiv n)) (hb : -9223372036854775808≤m.tdiv n∧m.tdiv n≤9223372036854775807:=by omega):∃ r,(n≠0∧IntKind.i64.wrap (m.tdiv n)=r)∧K r:=⟨_,⟨h,wrap_i64 hb.1 hb.2⟩,k⟩
theorem fin {v v':Value} (h:v=v'):v=v':=h
theorem aq {P:Program} {t:Nat} {α:Type} [DecidableEq α] {f:α→List Value} {K:Bool→Prop} (h:EqT P t f) (a b:α) (k:K (decide (a=b))):∃ r,AggEq P t (f a) (f b) r∧K r:=⟨_,h.ag a b,k⟩
theorem aqg {P:Program} {t:Nat} {α:Type} [DecidableEq α] {f:α→List Value} {K:Bool→Prop} {g:Bool} (h:EqT P t f) (a b:α) (k:K (decide (a=b))):∃ r,(g=true→AggEq P t (f a) (f b) r)∧K r:=⟨_,λ _=>h.ag a b,k⟩
theorem ct {a b:Nat} {K:Prop} (k:K) (h:a+b≤9223372036854775807:=by first | omega | (simp; done) | (simp; omega)):(a+b≤9223372036854775807)∧K:=⟨h,k⟩
theorem ix {i:Int} {m:Nat} {K:Nat→Prop} (j:Nat) (k:K j) (h:i=(j:Int)∧j<m:=by omega):∃ j:Nat,(i=(j:Int)∧j<m)∧K j:=⟨j,h,k⟩
theorem ixl {i:Int} {m:Nat} {K:Nat→Prop} (j:Nat) (k:K j) (h:i=(j:Int)∧j≤m:=by omega):∃ j:Nat,(i=(j:Int)∧j≤m)∧K j:=⟨j,h,k⟩
theorem sl2 {i i2:Int} {m:Nat} {K:Nat→Nat→Prop} (j j2:Nat) (k:K j j2) (h:i=(j:Int)∧i2=(j2:Int)∧j≤j2∧j2≤m:=by omega):∃ j j2:Nat,(i=(j:Int)∧i2=(j2:Int)∧j≤j2∧j2≤m)∧K j j2:=⟨j,j2,h,k⟩
theorem ixg {g:Bool} {p q:Prop} [hb:BP g p q] {i:Int} {m:Nat} {K:Nat→Prop} (j:Nat) (k:K j) (h:p→i=(j:Int)∧j<m:=by intros; omega):∃ j:Nat,(g=true→i=(j:Int)∧j<m)∧K j:=⟨j,λ e=>h (hb.t e),k⟩
theorem cl {c:Cx} {sq:Bool} {B:BL} {F:FV} {f:Nat} {vsl:List Value} {Kv:SV→Prop} {W:Prop} {x:Value}
  (H:∀ w h,VLe h (Full w)→Calls c.P f vsl.toArray w (Ret w h λ u _=>u=x)) (k:Kv (.v x)):CallG c sq none B F f vsl Kv W := .v x (λ w hS=>⟨c.h0,H w c.h0 hS.st.base⟩) k
theorem cb {c:Cx} {sq:Bool} {B:BL} {F:FV} {f:Nat} {vsl:List Value} {Kv:SV→Prop} {W:Prop} {x:Value}
  (H:∀ w,VLe c.h0 (Full w)→Calls c.P f vsl.toArray w (Ret w c.h0 λ u _=>u=x)) (k:Kv (.v x)):CallG c sq none B F f vsl Kv W := .v x (λ w hS=>⟨c.h0,H w hS.st.base⟩) k
theorem clg {c:Cx} {sq g:Bool} {p q:Prop} [hb:BP g p q] {B:BL} {F:FV} {f:Nat} {vsl:List Value} {Kv:SV→Prop} {W:Prop} {x:Value}
  (H:p→∀ w h,VLe h (Full w)→Calls c.P f vsl.toArray w (Ret w h λ u _=>u=x)) (k:Kv (.v x)):CallG c sq (some g) B F f vsl Kv W := .v x (λ hg w hS=>⟨c.h0,H (hb.t hg) w c.h0 hS.st.base⟩) k
theorem cbg {c:Cx} {sq g:Bool} {p q:Prop} [hb:BP g p q] {B:BL} {F:FV} {f:Nat} {vsl:List Value} {Kv:SV→Prop} {W:Prop} {x:Value}
  (H:p→∀ w,VLe c.h0 (Full w)→Calls c.P f vsl.toArray w (Ret w c.h0 λ u _=>u=x)) (k:Kv (.v x)):CallG c sq (some g) B F f vsl Kv W := .v x (λ hg w hS=>⟨c.h0,H (hb.t hg) w hS.st.base⟩) k
theorem Sx.add {c:Cx} {B:BL} {F:FV} {w w':World} {Φ:FV} (hS:Sx c B F w) (hk:Keep [] w w') (hm:Mono Φ) (h:Φ (nv (cv c.w0.heap.size c.h0 (ids (oes B)) w) w w')):Sx c B (λ h=>F h∧Φ h) w' :=
 ⟨hS.st.call hk hm h,λ k g b o cs hb=>gc_mk λ hy=>λ v w h1 h2 h3=>gc_yes (hS.bk k g b o cs hb) hy v w h1 h2.1 h3⟩
theorem SlC.el {h0:View} {F:FV} {α:Type} {T sz n cp:Nat} {f:α→List Value} {l:List α} {ad:Option Addr} (H:∀ v,VLe h0 v→F v→SlC T sz (flatR f) v (.slice ad n cp) l) {j:Nat} (d:α) (hj:j<l.length):ElC h0 F ad (j*sz) (f (l.getD j d)):=by
 intro v h1 h2
 have e:l[j]?=some (l.getD j d):=by simp [List.getD,hj]
 obtain ⟨g,off,rfl,hc⟩:=(H v h1 h2).at e
 exact ⟨rfl,hc⟩
theorem ixs {c:Cx} {F:FV} {α:Type} {T sz n cp:Nat} {f:α→List Value} {l:List α} {ad:Option Addr} {i:Int} {X:Nat→List Value→Prop} (H:SlC T sz (flatR f) c.h0 (.slice ad n cp) l) (j:Nat) (d:α) (k:X j (f (l.getD j d)))
  (h:i=(j:Int)∧j<l.length:=by omega) (hn:n=l.length:=by rfl):∃ (j:Nat) (cs:List Value),(i=(j:Int)∧j<n∧ElC c.h0 F ad (j*sz) cs)∧X j cs :=
 ⟨j,_,⟨h.1,by omega,SlC.el (λ v h1 _=>H.monoF h1) d h.2⟩,k⟩
theorem ixsg {c:Cx} {F:FV} {g:Bool} {p q:Prop} [hb:BP g p q] {α:Type} {T sz n cp:Nat} {f:α→List Value} {l:List α} {ad:Option Addr} {i:Int} {X:Nat→List Value→Prop} (H:SlC T sz (flatR f) c.h0 (.slice ad n cp) l) (j:Nat) (d:α) (k:X j (f (l.getD j d)))
  (h:p→i=(j:Int)∧j<l.length:=by intros; omega) (hn:n=l.length:=by rfl):∃ (j:Nat) (cs:List Value),(g=true→i=(j:Int)∧j<n∧ElC c.h0 F ad (j*sz) cs)∧X j cs :=
 ⟨j,_,λ e=>⟨(h (hb.t e)).1,by have:=(h (hb.t e)).2; omega,SlC.el (λ v h1 _=>H.monoF h1) d (h (hb.t e)).2⟩,k⟩
theorem ixf {c:Cx} {F:FV} {α:Type} {T sz n cp:Nat} {f:α→List Value} {l:List α} {ad:Option Addr} {i:Int} {X:Nat→List Value→Prop} (H:∀ v,F v→SlC T sz (flatR f) v (.slice ad n cp) l) (j:Nat) (d:α) (k:X j (f (l.getD j d)))
  (h:i=(j:Int)∧j<l.length:=by omega) (hn:n=l.length:=by rfl):∃ (j:Nat) (cs:List Value),(i=(j:Int)∧j<n∧ElC c.h0 F ad (j*sz) cs)∧X j cs :=
 ⟨j,_,⟨h.1,by omega,SlC.el (λ v _ h2=>H v h2) d h.2⟩,k⟩
theorem ixfg {c:Cx} {F:FV} {g:Bool} {p q:Prop} [hb:BP g p q] {α:Type} {T sz n cp:Nat} {f:α→List Value} {l:List α} {ad:Option Addr} {i:Int} {X:Nat→List Value→Prop} (H:∀ v,F v→SlC T sz (flatR f) v (.slice ad n cp) l) (j:Nat) (d:α) (k:X j (f (l.getD j d)))
  (h:p→i=(j:Int)∧j<l.length:=by intros; omega) (hn:n=l.length:=by rfl):∃ (j:Nat) (cs:List Value),(g=true→i=(j:Int)∧j<n∧ElC c.h0 F ad (j*sz) cs)∧X j cs :=
 ⟨j,_,λ e=>⟨(h (hb.t e)).1,by have:=(h (hb.t e)).2; omega,SlC.el (λ v _ h2=>H v h2) d (h (hb.t e)).2⟩,k⟩
section calls2
variable {c:Cx} (hT:c.T.Ok c.P)
include hT
theorem w_call {al:List Oper} {K:KR} {d:Nat} {f:Nat} {args:List Operand} {ats:Array TypeId} {ty:TypeId} {pos:String} {af:Array Edge} {r:List Oper} {L:SL} {I:IL} {B:BL} {F:FV} {vsl:List Value} {Ψ:Value→World→World→Prop}
  (hI:noLab I d=true) (hf:memF c.T.fs f=true) (hv:argK (rdS L I none) B args λ l=>l=vsl) (H:∀ w,Sx c B F w→Calls c.P f vsl.toArray w (λ e w'=>∃ v,e = .returned v∧Ψ v w w'))
  (k:∀ v w w',Sx c B F w→Ψ v w w'→∃ (L':SL) (I':IL) (B':BL) (F':FV),runs c al true K r L' I' B' F'∧Inv L' I'∧Sx c B' F' w'∧Nat.blt d c.n=true∧∃ rr,(∀ t,kv L' I' B' t=if t=d then rr else kv L I B t)∧∀ u,rr=some u→u=v) (hInv:Inv L I) :
  WP c al (⟨some d,.call ⟨.value (.func f),⟨args⟩,ats⟩,ty,pos,af,none⟩::r) L I B F K:=by
 obtain ⟨l,rfl,hev⟩:=argK_sound (hρ_of (B:=B) hInv (cx:=none) (og:=none) rfl) hv
 refine ⟨λ Q a w hn hp hD hS=>?_⟩
 have hds:Ds c.P (fl L I B) ⟨some d,.call ⟨.value (.func f),args.toArray,ats⟩,ty,pos,af,none⟩ w λ v w'=>Ψ v w w':=ds_call (hT.call hf) (hev yes_none) (H w hS)
 refine wpM_plain rfl λ K' hK=>opM_of_does ?_
 have:=hds a.eval (λ x _ u hu=>hD.fr.ev hu)
 have fin:∀ v w',Ψ v w w'→K' (a.put (some d) v) w':=by
  intro v w' hΨ
  obtain ⟨L',I',B',F',hr,hI',hS',hd,rr,hkv,hrr⟩:=k v w w' hS hΨ
  exact hK _ _ ((runs_sound hT r L' I' B' F' hr hI').run Q _ w' hn hp (Dn.cons (hD.fr.put hd v) hI' hkv hrr) hS')
 unfold Does at *
 generalize (execOp a.eval _).run c.P w=r at *
 cases r with
 | ok nx w' =>
  cases nx <;> simp only [DoesR] at this ⊢
  case value u=>exact fin _ _ this
  case enter f args=>exact this.mono λ e w'' ⟨u,he,hv⟩=>⟨u,he,fin _ _ hv⟩
 | halt x w'=>exact this.elim
end calls2
theorem cf {c:Cx} {sq:Bool} {B:BL} {F:FV} {f:Nat} {vsl:List Value} {Kv:SV→Prop} {W:Prop} {x:Value}
  (H:∀ w v,VLe c.h0 v→F v→VLe v (Full w)→Calls c.P f vsl.toArray w (Ret w v λ u _=>u=x)) (k:Kv (.v x)):CallG c sq none B F f vsl Kv W := .v x (λ w hS=>⟨_,H w _ hS.st.base_cv hS.st.facts hS.st.view⟩) k
theorem co {c:Cx} {sq:Bool} {B:BL} {F:FV} {f:Nat} {vsl:List Value} {Kv:SV→Prop} {W:Prop} {x:Value}
  (H:∀ w,Sx c B F w→Calls c.P f vsl.toArray w (Ret w (Full w) λ u _=>u=x)) (k:Kv (.v x)):CallG c sq none B F f vsl Kv W := .v x (λ w hS=>⟨_,H w hS⟩) k
theorem Sx.row {c:Cx} {B:BL} {F:FV} {w:World} {k b T sz n cp:Nat} {cs:List Value} {α:Type} {g:α→List Value} {l:List α} {T':Nat} (hS:Sx c B F w) (hk:lkA B k=some (.c b T cs)) (hcs:cs=(l.map g).flatten) (hg:∀ x∈l,(g x).length=sz:=by intros; rfl) (hn:n=l.length:=by rfl) (hc:n≤cp:=by decide) (hm:cp≤maxLen:=by decide) :
  SlC T' sz (flatR g) (Full w) (.slice (some ⟨b,0,none⟩) n cp) l:=by
 have h:SlC T sz (flatR g) (Full w) (.slice (some ⟨b,0,none⟩) n cp) l:=by
  refine SlC.ofRow hg (hS.wok.own _ _ _ _ hk) hn hc hm ?_
  have hlen:∀ l:List α,(∀ x∈l,(g x).length=sz)→(l.map g).flatten.length=l.length*sz:=by
   intro l
   induction l with
   | nil=>simp
   | cons x l ih =>
    intro hg
    rw [List.map_cons,List.flatten_cons,List.length_append,hg x (by simp),ih λ y hy=>hg y (by simp [hy]),List.length_cons,Nat.succ_mul]; omega
  rw [hcs,hn]
  simp only [List.drop_zero]
  exact List.take_of_length_le (by rw [hlen l hg]; exact Nat.le_refl _)
 exact h
end Go.Dx
namespace Go.Dx
open Go Go.RowKit
theorem lkE_ix:∀ {B:BL} {k:Nat} {e0:OE},lkA B k=some (.e e0)→∃ i,(oes B)[i]?=some e0∧∀ {e1:OE} {K:BL→Prop},setAK B k (.e e1) K →
  ∃ B',K B'∧oes B'=(oes B).set i e1∧(∀ m,lkA B' m=if m=k then some (.e e1) else lkA B m)∧∀ p∈B',p∈B∨p.2 = .e e1
 | [],k,e0,h=>by simp [lkA] at h
 | (k0,o0)::r,k,e0,h=>by
  by_cases hk:k0=k
  ·subst hk
   rw [lkA_eq] at h
   cases h
   refine ⟨0,rfl,λ {e1 K} hK=>?_⟩
   unfold setAK at hK
   simp only [Nat.beq_refl,cond_true] at hK
   refine ⟨_,hK,rfl,λ m=>?_,λ p hp=>?_⟩
   ·by_cases hm:m=k0
    ·subst hm; rw [lkA_eq,if_pos rfl]
    ·rw [lkA_ne (Ne.symm hm),lkA_ne (Ne.symm hm),if_neg hm]
   ·rcases List.mem_cons.1 hp with rfl | hp
    ·exact .inr rfl
    ·exact .inl (List.mem_cons_of_mem _ hp)
  ·rw [lkA_ne hk] at h
   obtain ⟨i,h2,hs⟩:=lkE_ix h
   have hmem:∀ {B':BL} {e1:OE},(∀ p∈B',p∈r∨p.2 = .e e1)→∀ p∈(k0,o0)::B',p∈(k0,o0)::r∨p.2 = .e e1:=λ h5 p hp=>by
    rcases List.mem_cons.1 hp with rfl | hp
    ·exact .inl (by simp)
    ·rcases h5 p hp with h | h
     ·exact .inl (List.mem_cons_of_mem _ h)
     ·exact .inr h
   have hl:∀ {B':BL} {e1:OE},(∀ m,lkA B' m=if m=k then some (.e e1) else lkA r m)→∀ m,lkA ((k0,o0)::B') m=if m=k then some (.e e1) else lkA ((k0,o0)::r) m:=λ h4 m=>by
    by_cases hm:k0=m
    ·subst hm; rw [lkA_eq,lkA_eq,if_neg hk]
    ·rw [lkA_ne hm,lkA_ne hm,h4]
   cases ho:oeOf o0 with
   | none =>
    have e:∀ r:BL,oes ((k0,o0)::r)=oes r:=λ r=>by unfold oes; rw [List.filterMap_cons]; simp only [ho]
    refine ⟨i,by rw [e]; exact h2,λ {e1 K} hK=>?_⟩
    unfold setAK at hK
    simp only [beq_ne hk,cond_false] at hK
    obtain ⟨B',h1,h3,h4,h5⟩:=hs hK
    exact ⟨_,h1,by rw [e,e]; exact h3,hl h4,hmem h5⟩
   | some e9 =>
    have e:∀ r:BL,oes ((k0,o0)::r)=e9::oes r:=λ r=>by unfold oes; rw [List.filterMap_cons]; simp only [ho]
    refine ⟨i+1,by rw [e]; simpa using h2,λ {e1 K} hK=>?_⟩
    unfold setAK at hK
    simp only [beq_ne hk,cond_false] at hK
    obtain ⟨B',h1,h3,h4,h5⟩:=hs hK
    exact ⟨_,h1,by rw [e,e,h3]; rfl,hl h4,hmem h5⟩
theorem dvO_setE {B B':BL} {k:Nat} {e0 e1:OE} (hl:lkA B k=some (.e e0)) (h:∀ m,lkA B' m=if m=k then some (.e e1) else lkA B m) (s:SV):dvO B' s=dvO B s:=by
 cases s with
 | o m f =>
  simp only [dvO,h]
  by_cases hm:m=k
  ·subst hm; rw [if_pos rfl,hl]
  ·rw [if_neg hm]
 | s m f n cp =>
  simp only [dvO,h]
  by_cases hm:m=k
  ·subst hm; rw [if_pos rfl,hl]
  ·rw [if_neg hm]
 | _=>rfl
def delE:BL→Nat→(BL→Prop)→Prop
 | [],_,_=>False
 | (k,o)::r,d,K=>bif Nat.beq k d then (match lkA r d with | none=>K r | some _=>False) else delE r d λ r'=>K ((k,o)::r')
theorem delE_sound:∀ {B:BL} {k:Nat} {e0:OE} {K:BL→Prop},lkA B k=some (.e e0)→delE B k K→∃ B' i,K B'∧(oes B)[i]?=some e0∧oes B'=(oes B).eraseIdx i∧(∀ m,lkA B' m=if m=k then none else lkA B m)∧∀ p∈B',p∈B
 | [],k,e0,K,h,_=>by simp [lkA] at h
 | (k0,o0)::r,k,e0,K,h,hK=>by
  unfold delE at hK
  by_cases hk:k0=k
  ·subst hk
   rw [lkA_eq] at h
   cases h
   simp only [Nat.beq_refl,cond_true] at hK
   split at hK
   ·rename_i hn
    refine ⟨_,0,hK,rfl,rfl,λ m=>?_,λ p hp=>List.mem_cons_of_mem _ hp⟩
    by_cases hm:m=k0
    ·subst hm; rw [hn,if_pos rfl]
    ·rw [lkA_ne (Ne.symm hm),if_neg hm]
   ·exact hK.elim
  ·rw [lkA_ne hk] at h
   simp only [beq_ne hk,cond_false] at hK
   obtain ⟨B',i,h1,h2,h3,h4,h5⟩:=delE_sound h hK
   have hl:∀ m,lkA ((k0,o0)::B') m=if m=k then none else lkA ((k0,o0)::r) m:=λ m=>by
    by_cases hm:k0=m
    ·subst hm; rw [lkA_eq,lkA_eq,if_neg hk]
    ·rw [lkA_ne hm,lkA_ne hm,h4]
   have hmem:∀ p∈(k0,o0)::B',p∈(k0,o0)::r:=λ p hp=>by
    rcases List.mem_cons.1 hp with rfl | hp
    ·simp
    ·exact List.mem_cons_of_mem _ (h5 p hp)
   cases ho:oeOf o0 with
   | none =>
    have e:∀ r:BL,oes ((k0,o0)::r)=oes r:=λ r=>by unfold oes; rw [List.filterMap_cons]; simp only [ho]
    exact ⟨_,i,h1,by rw [e]; exact h2,by rw [e,e]; exact h3,hl,hmem⟩
   | some e9 =>
    have e:∀ r:BL,oes ((k0,o0)::r)=e9::oes r:=λ r=>by unfold oes; rw [List.filterMap_cons]; simp only [ho]
    exact ⟨_,i+1,h1,by rw [e]; simpa using h2,by rw [e,e,h3]; rfl,hl,hmem⟩
theorem dvO_delE {B B':BL} {k:Nat} {e0:OE} (hl:lkA B k=some (.e e0)) (h:∀ m,lkA B' m=if m=k then none else lkA B m) (s:SV):dvO B' s=dvO B s:=by
 cases s with
 | o m f =>
  simp only [dvO,h]
  by_cases hm:m=k
  ·subst hm; rw [if_pos rfl,hl]
  ·rw [if_neg hm]
 | s m f n cp =>
  simp only [dvO,h]
  by_cases hm:m=k
  ·subst hm; rw [if_pos rfl,hl]
  ·rw [if_neg hm]
 | _=>rfl
theorem BOk.sub {h0:View} {F G:FV} {B B':BL} (h:BOk h0 F B) (hm:∀ p∈B',p∈B) (hF:∀ v,G v→F v):BOk h0 G B' :=
 λ k g b o cs hb=>gc_mk λ hy=>λ v w h1 h2 h3=>gc_yes (h k g b o cs (hm _ hb)) hy v w h1 (hF _ h2) h3
section sealb
variable {c:Cx} {α:Type} {T sz nn cp k:Nat} {a0:Option Addr} {g:α→List Value} {l:List α} {B:BL} {F:FV}
theorem seal_sx (hM:c.M=[]) (hB:lkA B k=some (.e (bufE T sz (.slice a0 nn cp) (l.map g).flatten))) (hn:nn=l.length) (hg:∀ x∈l,(g x).length=sz) {X:BL→Prop} (h:delE B k X) :
  ∃ B',X B'∧(∀ s,dvO B' s=dvO B s)∧∀ w,Sx c B F w→Sx c B' (λ h=>F h∧SlC T sz (flatR g) h (.slice a0 nn cp) l) w:=by
 obtain ⟨B',i,h1,h2,h3,h4,h5⟩:=delE_sound hB h
 refine ⟨B',h1,dvO_delE hB h4,λ w hS=>⟨?_,hS.bk.sub h5 λ v h=>h.1⟩⟩
 have hst:=hS.st
 rw [hM] at hst
 rw [h3,hM]
 cases a0 with
 | none =>
  refine (hst.forget i).add Mono.slF ?_
  have hC:=hst.own _ (List.mem_of_getElem? h2)
  exact BufC.sl hC (λ b hb=>by cases hb) hg hn
 | some ad =>
  cases hown:(Value.slice (some ad) nn cp).ownBlock with
  | none =>
   refine (hst.forget i).add Mono.slF ?_
   have hC:=hst.own _ (List.mem_of_getElem? h2)
   exact BufC.sl hC (λ b hb=>by rw [hown] at hb; cases hb) hg hn
  | some b =>
   have h2':(oes B)[i]?=some (some b,BufC T sz (.slice (some ad) nn cp) (l.map g).flatten):=by rw [h2]; unfold bufE; rw [hown]
   refine hst.shutOwn h2' Mono.slF λ hh o hF hb hC=>BufC.sl hC (λ b' hb'=>?_) hg hn
   rw [hown] at hb'; cases hb'; exact hb
theorem sealW {al r:List Oper} {L:SL} {K:KR} (k:Nat) (hB:lkA B k=some (.e (bufE T sz (.slice a0 nn cp) (l.map g).flatten))) (hn:nn=l.length) (h:delE B k λ B'=>WP c al r L [] B' (λ h=>F h∧SlC T sz (flatR g) h (.slice a0 nn cp) l) K) 
  (hg:∀ x∈l,(g x).length=sz:=by intros; rfl) (hM:c.M=[]:=by rfl):WP c al r L [] B F K:=by
 obtain ⟨B',h1,h2,h3⟩:=seal_sx hM hB hn hg h
 exact ⟨λ Q a w hn hp hD hS=>h1.run Q a w hn hp ⟨by rw [fl_congr h2]; exact hD.fr,hD.inv⟩ (h3 w hS)⟩
end sealb
section nilb
variable {c:Cx} {T sz k:Nat} {B:BL} {F:FV}
theorem nil_dv (hk:lkA B k=none) (e:OE) (s:SV):dvO ((k,.e e)::B) s=dvO B s:=by
 cases s with
 | o m f =>
  simp only [dvO]
  by_cases hm:k=m
  ·subst hm; rw [lkA_eq,hk]
  ·rw [lkA_ne hm]
 | s m f n cp =>
  simp only [dvO]
  by_cases hm:k=m
  ·subst hm; rw [lkA_eq,hk]
  ·rw [lkA_ne hm]
 | _=>rfl
theorem nil_sx {w:World} (hS:Sx c B F w):Sx c ((k,.e (bufE T sz (.slice none 0 0) []))::B) F w :=
 ⟨hS.st.newNil T sz,λ q g b o cs hb=>by
  rcases List.mem_cons.1 hb with hb | hb
  ·cases hb
  ·exact hS.bk q g b o cs hb⟩
theorem nilC {co:Code} {L:SL} {kn:KN} {kx:Nat→KN} {kr:KN} (k T sz:Nat) (h:CP c co L ((k,.e (bufE T sz (.slice none 0 0) []))::B) F kn kx kr) (hk:lkA B k=none:=by rfl):CP c co L B F kn kx kr :=
 ⟨λ Q a w hn hx hr hp hD hS=>h.run Q a w hn hx hr hp ⟨by rw [fl_congr (nil_dv hk _)]; exact hD.fr,hD.inv⟩ (nil_sx hS)⟩
end nilb
section apb
variable {c:Cx} (hT:c.T.Ok c.P)
include hT
theorem goW {al:List Oper} {K:KR} {d:Nat} {op:Op} {ty:TypeId} {pos:String} {af:Array Edge} {r:List Oper} {L:SL} {B:BL} {F:FV}
  (h:stepB c true (some d) op L [] B F (λ L I B F=>runs c al true K r L I B F) (WP c al (⟨some d,op,ty,pos,af,none⟩::r) L [] B F K)):WP c al (⟨some d,op,ty,pos,af,none⟩::r) L [] B F K :=
 stepB_sound hT inv_nil (λ L I B F h hI=>runs_sound hT r L I B F h hI) h
theorem ap_src {al:List Oper} {K:KR} {d t t2 e sz bytes k m:Nat} {x y:Operand} {ty:TypeId} {pos:String} {af:Array Edge} {r:List Oper} {L:SL} {B:BL} {F:FV} {sx sy:SV} {v yv:Value} {xs news:List Value} (hA:AppT c.P t t2 e sz bytes)
  (hB:lkA B k=some (.e (bufE e sz v xs))) (hx:rdS L [] none x=some sx) (hv:dvO B sx=some v) (hy:rdS L [] none y=some sy) (hyv:dvO B sy=some yv) (hs:∀ w,Sx c B F w→Src c.P w yv sz m news) (hd:Nat.blt d c.n=true)
  (hb:(xs.length+news.length)*(bytes+1)≤140737488355328)
  (h:∀ a0 nn cp,nn*sz=xs.length+news.length→setAK B k (.e (bufE e sz (.slice a0 nn cp) (xs++news))) λ B'=>runs c al true K r ((d,.v (.slice a0 nn cp))::L) [] B' F) :
  WP c al (⟨some d,.call ⟨.builtin .append,⟨[x,y]⟩,⟨[t,t2]⟩⟩,ty,pos,af,none⟩::r) L [] B F K:=by
 obtain ⟨i,hi,hset⟩:=lkE_ix hB
 refine ⟨λ Q a w hn hp hD hS=>s_append hD.fr hS.st hi hA (rdS_ev inv_nil (cx:=none) (og:=none) rfl yes_none hx hv) (rdS_ev inv_nil (cx:=none) (og:=none) rfl yes_none hy hyv) (hs w hS) hb hd λ a0 nn cp w' a' hnn hS' hF'=>?_⟩
 obtain ⟨B',h1,h3,h4,h5⟩:=hset (h a0 nn cp hnn)
 have hdv:=dvO_setE hB h4
 refine (runs_sound hT r _ _ _ _ h1 inv_nil).run Q a' w' hn hp ⟨?_,inv_nil⟩ ⟨by rw [h3]; exact hS',λ q g b o cs hq=>?_⟩
 ·rw [fl_congr hdv]
  exact hF'
 ·rcases h5 _ hq with hq | hq
  ·exact hS.bk _ _ _ _ _ hq
  ·cases hq
theorem ap {al:List Oper} {K:KR} {d t t2 e sz bytes n cp b T q:Nat} {x y:Operand} {ty:TypeId} {pos:String} {af:Array Edge} {r:List Oper} {L:SL} {B:BL} {F:FV} {sx:SV} {v:Value} {xs news:List Value} (k:Nat) (hA:AppT c.P t t2 e sz bytes)
  (hB:lkA B k=some (.e (bufE e sz v xs))) (hx:rdS L [] none x=some sx) (hv:dvO B sx=some v) (hy:rdS L [] none y=some (.s q 0 n cp)) (hq:lkA B q=some (.c b T news)) (hl:lenB news (n*sz)=true) (ho:allOne news=true)
  (hb:(xs.length+news.length)*(bytes+1)≤140737488355328)
  (h:∀ a0 nn cp,nn*sz=xs.length+news.length→setAK B k (.e (bufE e sz (.slice a0 nn cp) (xs++news))) λ B'=>runs c al true K r ((d,.v (.slice a0 nn cp))::L) [] B' F) (hd:Nat.blt d c.n=true:=by rfl) :
  true=true∧WP c al (⟨some d,.call ⟨.builtin .append,⟨[x,y]⟩,⟨[t,t2]⟩⟩,ty,pos,af,none⟩::r) L [] B F K :=
 ⟨rfl,ap_src hT hA hB hx hv hy (yv := .slice (some ⟨b,0,none⟩) n cp) (by simp only [dvO,hq]) (λ w hS=>Src.own (hS.wok.own _ _ _ _ hq) (lenB_eq hl) ho) hd hb h⟩
end apb
theorem kg1 {g g1:Bool} {X:Prop} (k:X) (hk:g=true→g1=true:=by exact id):(g=true→g1=true)∧X:=⟨hk,k⟩
end Go.Dx
namespace Go.Dx
open Go Go.RowKit
section regionx
variable (P:Program) (ops:Array Oper) (C:World→Prop) (R:World→World→Prop) (KP:List PanicEntry→World→Prop)
def Pans (o:Oper) (ρ:Operand→Value) (w:World):Prop:=∃ f args w',(execOp ρ o).run P w = .ok (.enter f args) w'∧Calls P f args w' λ e w''=>∃ ch,e = .panicked ch∧KP ch w''
def OpTyX (o:Oper) (Γ:Nat→VP) (Φ:VP) (D:SP):Prop :=
 ((∀ v w w',C w→R w w'→Φ v w→Φ v w')∧(∀ σ σ' w w',C w→R w w'→(∀ t,stab ops o t→σ t=σ' t)→D σ w→D σ' w')) ∧
 ∀ (a:Act) (w:World),C w→(∀ t∈o.looksAt ops,Γ t (a.tmps.getD t undef) w) →
  if Region.wanted o (yielded ops a.tmps) then (DoesS P o a.eval w λ v w'=>C w'∧R w w'∧Φ v w'∧D (sl (a.put o.dst v)) w')∨Pans P KP o a.eval w else Φ undef w∧D (sl (a.put o.dst undef)) w
def TyWX:(SP→(Nat→VP)→Prop)→List Oper→(Nat→VP)→Prop
 | Qf,[],Γ=>Qf (λ _ _=>True) Γ
 | Qf,o::rest,Γ=>∃ (Φ:VP) (D:SP),OpTyX P ops C R KP o Γ Φ D∧TyWX (λ E Γ=>Qf (λ σ w=>D σ w∧E σ w) Γ) rest (Γset Γ o.dst Φ)
variable {P ops C R KP}
theorem OpTy.x {o:Oper} {Γ:Nat→VP} {Φ:VP} {D:SP} (h:OpTy P ops C R o Γ Φ D):OpTyX P ops C R KP o Γ Φ D:=by
 refine ⟨h.1,λ a w hC hg=>?_⟩
 have:=h.2 a w hC hg
 split
 ·rename_i hw; rw [if_pos hw] at this; exact .inl this
 ·rename_i hw; rw [if_neg hw] at this; exact this
theorem TyW.snoc {o:Oper} {Qf Qf':SP→(Nat→VP)→Prop}:∀ {l:List Oper} {Γ:Nat→VP},TyW P ops C R Qf l Γ→(∀ E Γ,Qf E Γ→OpTyX P ops C R KP o Γ (λ _ _=>False) (λ _ _=>True)∧∀ E,Qf' E (Γset Γ o.dst λ _ _=>False))→TyWX P ops C R KP Qf' (l++[o]) Γ
 | [],Γ,h,k=>⟨_,_,(k _ _ h).1,(k _ _ h).2 _⟩
 | x::r,Γ,⟨Φ,D,h1,h2⟩,k=>⟨Φ,D,h1.x,TyW.snoc h2 λ E Γ hq=>⟨(k _ _ hq).1,λ E=>(k _ _ hq).2 _⟩⟩
theorem tyw_extractX {Γ0:Nat→VP}:∀ (l:List Oper) (k:Nat) (Φs:Nat→VP) (Qf:SP→(Nat→VP)→Prop),
  (∀ j,j<l.length→l[j]?=ops[k+j]?)→TyWX P ops C R KP Qf l (λ t=>pr Γ0 Φs t (lastW ops k t)) →
  ∃ (Ψ:Nat→VP) (Δ:Nat→SP),(∀ i,i<k→Ψ i=Φs i)∧(∀ i o,k≤i→i<k+l.length→ops[i]?=some o→OpTyX P ops C R KP o (λ t=>pr Γ0 Ψ t (lastW ops i t)) (Ψ i) (Δ i)) ∧
   ∃ E:SP,(∀ σ w,(∀ i,k≤i→i<k+l.length→Δ i σ w)→E σ w)∧Qf E (λ t=>pr Γ0 Ψ t (lastW ops (k+l.length) t)):=by
 intro l
 induction l with
 | nil=>exact λ k Φs Qf _ h=>⟨Φs,λ _ _ _=>True,λ _ _=>rfl,λ i o h1 h2=>by simp at h2; omega,λ _ _=>True,λ _ _ _=>trivial,h⟩
 | cons o l ih =>
  intro k Φs Qf hl h
  obtain ⟨Φ,D,hop,hrest⟩:=h
  have h0:ops[k]?=some o:=by simpa using (hl 0 (by simp)).symm
  have hlast:∀ (Ψ:Nat→VP) (j:Nat),(∀ i,i<j→Ψ i=Φs i)→(λ t=>pr Γ0 Ψ t (lastW ops j t))=λ t=>pr Γ0 Φs t (lastW ops j t):=by
   intro Ψ j hj
   funext t
   have hlt:∀ m,m≤j→pr Γ0 Ψ t (lastW ops m t)=pr Γ0 Φs t (lastW ops m t):=by
    intro m
    induction m with
    | zero=>intro _; rfl
    | succ m ihm =>
     intro hm
     unfold lastW
     split
     ·exact hj m (by omega)
     ·exact ihm (by omega)
   exact hlt j (Nat.le_refl _)
  let Φs':Nat→VP:=λ i=>if i=k then Φ else Φs i
  have e1:(λ t=>pr Γ0 Φs' t (lastW ops k t))=λ t=>pr Γ0 Φs t (lastW ops k t):=hlast Φs' k λ i hi=>by simp [Φs',Nat.ne_of_lt hi]
  have e2:=Γset_pr (Γ0:=Γ0) (Φs:=Φs') h0
  have e3:Φs' k=Φ:=by simp [Φs']
  rw [e1,e3] at e2
  rw [e2] at hrest
  obtain ⟨Ψ,Δ',g1,g2,E,g4,g3⟩:=ih (k+1) Φs' _ (λ j hj=>by have:=hl (j+1) (by simp; omega); simpa [Nat.add_assoc,Nat.add_comm 1 j] using this) hrest
  refine ⟨Ψ,λ i=>if i=k then D else Δ' i,λ i hi=>by rw [g1 i (by omega)]; simp [Φs',Nat.ne_of_lt hi],λ i o' h1 h2 hio=>?_,λ σ w=>D σ w∧E σ w,λ σ w hw=>⟨?_,g4 σ w λ i h1 h2=>?_⟩,?_⟩
  ·by_cases hik:i=k
   ·subst hik
    have:o'=o:=Option.some.inj (hio.symm.trans h0)
    subst this
    rw [g1 i (by omega),e3]
    rw [hlast Ψ i λ m hm=>by rw [g1 m (by omega)]; simp [Φs',Nat.ne_of_lt hm]]
    show OpTyX P ops C R KP o' _ Φ (if i=i then D else Δ' i)
    rw [if_pos rfl]
    exact hop
   ·show OpTyX P ops C R KP o' _ (Ψ i) (if i=k then D else Δ' i)
    rw [if_neg hik]; exact g2 i o' (by omega) (by simp only [List.length_cons] at h2; omega) hio
  ·have:=hw k (Nat.le_refl _) (by simp)
   simpa using this
  ·have:=hw i (by omega) (by simp only [List.length_cons]; omega)
   simpa [show i≠k by omega] using this
  ·rw [show k+(o::l).length=k+1+l.length from by simp only [List.length_cons]; omega]
   exact g3
end regionx
section soundx
variable {P:Program} {ops:Array Oper} {C:World→Prop} {R:World→World→Prop} {KP:List PanicEntry→World→Prop} {Δ:Nat→SP} {Q:Exit→Act→World→Prop} {n:Nat} {Γ0 Ψ:Nat→VP} {df:List Deferred} {sz:Nat}
theorem wpAny_of_typedX {g:Nat} (hB:typB ops n=true) (hn:n≤ops.size)
  (hΨ:∀ i o,i<n→ops[i]?=some o→OpTyX P ops C R KP o (λ t=>pr Γ0 Ψ t (lastW ops i t)) (Ψ i) (Δ i)) (hRr:∀ w,R w w)
  (hsz:∀ i t,dstAt ops i=some t→t<sz)
  (hpan:∀ ch a w,a.defers=df→KP ch w→Q (.panic ch) a w)
  (hΓ0:∀ t v w w',C w→R w w'→Γ0 t v w→Γ0 t v w')
  (hfin:∀ listed a w,openN listed n=0→TInv P ops C Δ n Γ0 Ψ df sz listed a w→wpAny P .any ops Q g listed a w) :
  ∀ (f:Nat) (listed:Array Bool) (a:Act) (w:World),openN listed n=f→TInv P ops C Δ n Γ0 Ψ df sz listed a w→wpAny P .any ops Q (f+g) listed a w:=by
 intro f
 induction f with
 | zero=>intro listed a w h0 inv; rw [Nat.zero_add]; exact hfin listed a w h0 inv
 | succ f ih =>
  intro listed a w hf inv
  obtain ⟨k,hk,hkl,hkall⟩:=openN_pos n (by omega:0<openN listed n)
  have hks:k<listed.size:=by rw [inv.head.size]; omega
  rw [show f+1+g=(f+g)+1 by omega]
  refine ⟨λ h0=>?_,λ i hi=>?_⟩
  ·exfalso
   have hko:∃ o,ops[k]?=some o:=⟨_,Array.getElem?_eq_getElem (by omega)⟩
   obtain ⟨o,ho⟩:=hko
   have:k∈Region.ready .any ops listed:=mem_ready.2 ⟨getD_in hks hkl,o,ho,λ e he hb=>hkall _ (typB_edge hB ho e he hb)⟩
   rw [h0] at this
   cases this
  ·obtain ⟨hun,o,ho,hall⟩:=mem_ready.1 hi
   have hun':listed.getD i false=false:=getD_both hun
   have hi_lt:i<n:=by
    by_cases hns:n<ops.size
    ·rcases Nat.lt_or_ge i n with h | h
     ·exact h
     ·have hB':=hB
      simp only [typB,Bool.and_eq_true,Bool.or_eq_true,decide_eq_true_eq] at hB'
      rcases hB'.2 with h' | ⟨hs,hc⟩
      ·omega
      ·exact absurd hi (tail_waits hs hc hns inv.head _ k rfl hk (getD_in hks hkl) i h)
    ·have:=(Array.getElem?_eq_some_iff.1 ho).1; omega
   have hsize:i<listed.size:=by rw [inv.head.size]; omega
   -- those before are listed,those behind are not
   have F1:∀ t,(t∈o.looksAt ops∨o.dst=some t)→∀ i',i'<i→dstAt ops i'=some t→listed.getD i' false=true:=by
    intro t ht i' hi' hd
    obtain ⟨x,hx,hxd⟩:=looksAt_of_dst hd
    have hw:=typB_pair hB hi' hi_lt hx ho (.inl (clash_of hxd ht))
    obtain ⟨oj,hoj,e,he,hb,hon⟩:=Region.waitsFor_spec hw
    have:oj=o:=Option.some.inj (hoj.symm.trans ho)
    subst this
    have:=hall e he hb
    rwa [hon] at this
   have F2:∀ t,(t∈o.looksAt ops∨o.dst=some t)→∀ i',i<i'→i'<n→dstAt ops i'=some t→listed.getD i' false=false:=by
    intro t ht i' hi' hi'n hd
    obtain ⟨y,hy,hyd⟩:=looksAt_of_dst hd
    have hw:=typB_pair hB hi' hi'n ho hy (.inr (clash_of hyd ht))
    obtain ⟨oj,hoj,e,he,hb,hon⟩:=Region.waitsFor_spec hw
    cases hl:listed.getD i' false with
    | false=>rfl
    | true =>
     have:=inv.head.closed i' oj hoj hl e he hb
     rw [hon,hun'] at this
     cases this
   have hget:∀ t∈o.looksAt ops,pr Γ0 Ψ t (lastW ops i t) (a.tmps.getD t undef) w:=by
    intro t ht
    have:=inv.slots t
    rwa [lastS_eq (j:=i) n (by omega) (F1 t (.inl ht)) (λ i' h1 h2 hd=>by
     by_cases hii:i'=i
     ·subst hii; exact hun'
     ·exact F2 t (.inl ht) i' (by omega) h2 hd)] at this
   have hop:=hΨ i o hi_lt ho
   have hres:=hop.2 a w inv.cls hget
   have hstab:∀ t w',R w w'→pr Γ0 Ψ t (lastS ops (λ i=>listed.getD i false) n t) (a.tmps.getD t undef) w →
     pr Γ0 Ψ t (lastS ops (λ i=>listed.getD i false) n t) (a.tmps.getD t undef) w':=by
    intro t w' hk' h
    cases hl:lastS ops (λ i=>listed.getD i false) n t with
    | none=>rw [hl] at h; exact hΓ0 t _ _ _ inv.cls hk' h
    | some m =>
     rw [hl] at h
     obtain ⟨h1,_,h3⟩:=lastS_some n hl
     obtain ⟨om,hom,_⟩:=looksAt_of_dst h3
     exact (hΨ m om h1 hom).1.1 _ _ _ inv.cls hk' h
   have hset:∀ i',(listed.setIfInBounds i true).getD i' false=(decide (i'=i)||listed.getD i' false):=by
    intro i'
    by_cases h:i'=i
    ·subst h; simp [hsize]
    ·simp [h,Array.getElem?_setIfInBounds_ne (Ne.symm h)]
   have hnext:∀ v w',C w'→R w w'→Ψ i v w'→Δ i (sl (a.put o.dst v)) w'→TInv P ops C Δ n Γ0 Ψ df sz (listed.setIfInBounds i true) (a.put o.dst v) w':=by
    intro v w' hC' hk' hv hD
    refine ⟨inv.head.set hi hi_lt,hC',by rw [put_df]; exact inv.hdf,by rw [put_size]; exact inv.hsz,λ m hm hl=>?_,λ t=>?_⟩
    ·rw [hset m] at hl
     by_cases hmi:m=i
     ·subst hmi; exact hD
     ·have hl':listed.getD m false=true:=by simpa [hmi] using hl
      obtain ⟨om,hom⟩:∃ om,ops[m]?=some om:=⟨_,Array.getElem?_eq_getElem (by omega)⟩
      refine (hΨ m om hm hom).1.2 (sl a) _ _ _ inv.cls hk' (λ t ht=>?_) (inv.done m hm hl')
      by_cases hdt:o.dst=some t
      ·obtain ⟨e,he,heb,hei⟩:=ht i o ho hdt
       have:=inv.head.closed m om hom hl' e he heb
       rw [hei,hun'] at this
       cases this
      ·exact (put_getD_ne hdt).symm
    rw [show (λ i'=>(listed.setIfInBounds i true).getD i' false)=λ i'=>decide (i'=i)||listed.getD i' false from funext hset]
    have hdi:dstAt ops i=o.dst:=by simp [dstAt,ho]
    by_cases hd:o.dst=some t
    ·rw [lastS_set_eq (S:=λ i'=>listed.getD i' false) (by rw [hdi]; exact hd) n hi_lt (λ i' h1 h2 hd'=>F2 t (.inr hd) i' h1 h2 hd')]
     rw [hd]
     have:((a.put (some t) v).tmps.getD t undef)=v:=by simp [Act.put,inv.hsz,hsz i t (by rw [hdi]; exact hd)]
     rw [this]
     exact hv
    ·rw [lastS_set_ne (S:=λ i'=>listed.getD i' false) (by rw [hdi]; exact hd) n,put_getD_ne hd]
     exact hstab t w' hk' (inv.slots t)
   have hcnt:openN (listed.setIfInBounds i true) n=f:=by have:=openN_set hun' hsize n hi_lt; omega
   unfold wpOp
   simp only [ho]
   split
   ·rename_i hw
    simp only [hw,if_true] at hres
    rcases hres with (hres | ⟨w',hr,hp⟩) | ⟨f',args',w',hr,hp⟩
    rotate_left 2
    ·refine .inl ?_
     unfold Oper.wp
     rw [hr,Oper.upon_enter]
     refine hp.mono λ e w'' ⟨ch,he,hk⟩=>?_
     subst he
     exact hpan ch _ _ inv.hdf hk
    rotate_left 1
    ·refine .inl ?_
     unfold Oper.wp
     rw [hr]
     exact ih _ _ _ hcnt (hnext undef w' hp.1 hp.2.1 hp.2.2.1 hp.2.2.2)
    refine .inl (wp_of_does ?_)
    unfold Does at hres ⊢
    generalize (execOp a.eval o).run P w=r at hres ⊢
    cases r with
    | ok nx w' =>
     cases nx <;> simp only [DoesR] at hres ⊢
     case value v=>exact ih _ _ _ hcnt (hnext v w' hres.1 hres.2.1 hres.2.2.1 hres.2.2.2)
     case enter fi args=>exact hres.mono λ e w'' ⟨v,he,hv⟩=>⟨v,he,ih _ _ _ hcnt (hnext v w'' hv.1 hv.2.1 hv.2.2.1 hv.2.2.2)⟩
    | halt x w'=>exact hres.elim
   ·rename_i hw
    simp only [hw] at hres
    exact ih _ _ _ hcnt (hnext undef w inv.cls (hRr w) hres.1 hres.2)
end soundx
theorem wp_region_typedX {P:Program} {id:Nat} {l:List Oper} {Q:Exit→Act→World→Prop} {a:Act} {w:World} (n:Nat) (hm:P.follows .mixedOrders=true)
  (hB:typT l.toArray n a.tmps.size=true)
  {C:World→Prop} {R:World→World→Prop} (hRr:∀ w,R w w) (hC0:∀ w',Keep [] w w'→C w') {KP:List PanicEntry→World→Prop} (hpan:∀ ch a' w,a'.defers=a.defers→KP ch w→Q (.panic ch) a' w)
  (h:TyWX P l.toArray C R KP (λ E Γ=>∀ a' w',a'.defers=a.defers→a'.tmps.size=a.tmps.size→C w'→E (sl a') w'→(∀ t,Γ t (a'.tmps.getD t undef) w') →
   wpList P l.toArray Q (l.drop n) a' w') (l.take n) (λ t v _=>v=a.tmps.getD t undef)):(Code.region id l.toArray true).wp P Q a w:=by
 simp only [typT,Bool.and_eq_true,decide_eq_true_eq] at hB
 obtain ⟨⟨⟨hB,hn⟩,hd⟩,hseq⟩:=hB
 have hn':n≤l.length:=by simpa using hn
 have htl:(l.take n).length=n:=by simp; omega
 have h':TyWX P l.toArray C R KP _ (l.take n) (λ t=>pr (λ t v _=>v=a.tmps.getD t undef) (λ _ _ _=>True) t (lastW l.toArray 0 t)):=h
 obtain ⟨Ψ,Δ,_,hΨ,E,hE,hQ⟩:=tyw_extractX (ops:=l.toArray) (l.take n) 0 _ _ (λ j hj=>by
  rw [htl] at hj
  simp [hj]) h'
 simp only [Nat.zero_add,htl] at hΨ hQ hE
 refine wp_region_any hm ?_
 have inv0:HeadInv .any l.toArray n (Array.replicate l.toArray.size false) :=
  ⟨by simp,λ j oj _ hl=>(by rw [getD_replicate_false] at hl; cases hl),λ t _ ht=>getD_in (by simpa using ht) (getD_replicate_false _ _)⟩
 have hS0:∀ m t,lastS l.toArray (λ i=>(Array.replicate l.toArray.size false).getD i false) m t=none:=by
  intro m t
  induction m with
  | zero=>rfl
  | succ m ih=>rw [lastS_succ,getD_replicate_false]; simpa using ih
 have hcnt:openN (Array.replicate l.toArray.size false) n=n:=by
  unfold openN
  rw [List.filter_eq_self.2 (λ i _=>by rw [getD_replicate_false]; rfl)]
  simp
 have:=wpAny_of_typedX (P:=P) (ops:=l.toArray) (C:=C) (R:=R) (Δ:=Δ) (Q:=Q) (n:=n) (Γ0:=λ t v _=>v=a.tmps.getD t undef) (Ψ:=Ψ) (df:=a.defers) (sz:=a.tmps.size) (g:=l.toArray.size - n)
  hB hn (λ i o hi ho=>hΨ i o (Nat.zero_le _) hi ho) hRr
  (λ i t hi=>by
   obtain ⟨o,ho,hod⟩:=looksAt_of_dst hi
   have:=Array.all_eq_true'.1 hd o (Array.mem_of_getElem? ho)
   rw [hod] at this
   simpa using this)
  hpan (λ _ _ _ _ _ _ h=>h)
  (λ listed a' w' h0 inv=>by
   have hl:listed=doneN l.toArray n:=by
    apply Array.ext
    ·rw [inv.head.size]; simp [doneN]
    ·intro i h1 h2
     have e1:listed[i]=listed.getD i false:=by simp [h1]
     have e2:(doneN l.toArray n)[i]=decide (i<n):=by simp [doneN]
     rw [e2]
     by_cases hin:i<n
     ·rw [e1,openN_zero h0 hin]; simp [hin]
     ·have:=inv.head.tail i (by omega) (by rw [← inv.head.size]; exact h1)
      have e3:listed.getD i true=listed[i]:=by simp [h1]
      rw [← e3,this]; simp [hin]
   have hfull:∀ t,lastS l.toArray (λ i=>listed.getD i false) n t=lastW l.toArray n t:=λ t=>lastS_full n λ i hi _=>openN_zero h0 hi
   have hw:=hQ a' w' inv.hdf inv.hsz inv.cls (hE (sl a') w' λ i _ hi=>inv.done i hi (openN_zero h0 hi)) (λ t=>by have:=inv.slots t; rwa [hfull t] at this)
   have hdl:(l.drop n).length=l.toArray.size - n:=by simp
   have:=wpAny_of_seq (md := .any) (Q':=Q) (ops:=l.toArray) (P:=P) (l.drop n) n listed a' w' (λ j=>by simp [List.getElem?_drop]) (by rw [hdl,hl]; exact hseq) hw
   rwa [hdl] at this)
  n (Array.replicate l.toArray.size false) a { w with drawn:=w.drawn+1 } hcnt
  ⟨inv0,hC0 _ (keep_drawn w),rfl,rfl,λ i _ hl=>(by rw [getD_replicate_false] at hl; cases hl),λ t=>by rw [hS0]; rfl⟩
 have e:n+(l.toArray.size - n)=l.toArray.size:=by simp; omega
 rwa [e] at this
def Pan (ch:List PanicEntry) (w0:World):Ending→World→Prop:=λ e w=>e = .panicked ch∧Keep [] w0 w
theorem run_callf {P:Program} {L:FL} {f:FuncId} {args:List Operand} {vsl:List Value} {ats:Array TypeId} {d:Option Nat} {ty:TypeId} {pos:String} {af:Array Edge} {g:Option (Nat×Bool)} (hc:CallOk P f) (ha:evs L args=some vsl) {ρ:Operand→Value}
  (hρ:∀ x∈(Op.call ⟨.value (.func f),args.toArray,ats⟩).operands,∀ u,ev L x=some u→ρ x=u) (w:World) :
  (execOp ρ ⟨d,.call ⟨.value (.func f),args.toArray,ats⟩,ty,pos,af,g⟩).run P w = .ok (.enter f vsl.toArray) w:=by
 have hm:=evs_map args vsl ha λ x hx u hu=>hρ x (by simp [Op.operands,Call.operands,hx]) u hu
 have hf:ρ (.func f) = .func (.func f) #[] #[]:=hρ (.func f) (by simp [Op.operands,Call.operands]) _ rfl
 simp only [execOp,resolve,List.map_toArray,hm,hf,Deferred.ofValue,Sem.run_bind,Sem.run_pure,Result.andThen_ok,invoke,Array.append_empty,Array.empty_append]
 exact run_call hc
section pan
variable {c:Cx} (hT:c.T.Ok c.P)
include hT
theorem w_pan {al r:List Oper} {K:KR} {d:Option Nat} {f:Nat} {args:List Operand} {ats:Array TypeId} {ty:TypeId} {pos:String} {af:Array Edge} {L:SL} {B:BL} {F:FV} {vsl:List Value} {ch:List PanicEntry}
  (hk:c.kp ch) (hmd:c.md = .wp) (hf:memF c.T.fs f=true) (hv:argK (rdS L [] none) B args λ l=>l=vsl) (H:∀ w,Sx c B F w→Calls c.P f vsl.toArray w (Pan ch w)) :
  WP c al (⟨d,.call ⟨.value (.func f),⟨args⟩,ats⟩,ty,pos,af,none⟩::r) L [] B F K:=by
 obtain ⟨l,rfl,hev⟩:=argK_sound (hρ_of (B:=B) inv_nil (cx:=none) (og:=none) rfl) hv
 refine ⟨λ Q a w hn hp hD hS=>?_⟩
 refine wpM_plain rfl λ K' hK=>?_
 rw [hmd]
 show Oper.wp c.P _ a w K' Q
 unfold Oper.wp
 rw [run_callf (hT.call hf) (hev yes_none) (λ x _ u hu=>hD.fr.ev hu) w,Oper.upon_enter]
 refine (H w hS).mono λ e w'' ⟨he,hkp⟩=>?_
 subst he
 exact hp ch a w'' hk hD.fr.df (hS.st.keep.transIn hkp λ b hb=>by cases hb)
theorem cP {al:List Oper} {K:KR} {d f:Nat} {args:List Operand} {ats:Array TypeId} {ty:TypeId} {pos:String} {af:Array Edge} {r:List Oper} {L:SL} {B:BL} {F:FV} {vsl:List Value} {Kv:SV→Prop} {ch:List PanicEntry}
  (H:∀ w,VLe c.h0 (Full w)→Calls c.P f vsl.toArray w (Pan ch w)) (hk:c.kp ch:=by rfl) (hmd:c.md = .wp:=by rfl) (hf:memF c.T.fs f=true:=by rfl) (hv:argK (rdS L [] none) B args λ l=>l=vsl:=by exact rfl) :
  CallG c true none B F f vsl Kv (WP c al (⟨some d,.call ⟨.value (.func f),⟨args⟩,ats⟩,ty,pos,af,none⟩::r) L [] B F K) := .w rfl (w_pan hT hk hmd hf hv λ w hS=>H w hS.st.base)
theorem cPo {al:List Oper} {K:KR} {d f:Nat} {args:List Operand} {ats:Array TypeId} {ty:TypeId} {pos:String} {af:Array Edge} {r:List Oper} {L:SL} {B:BL} {F:FV} {vsl:List Value} {Kv:SV→Prop} {ch:List PanicEntry}
  (H:∀ w,Sx c B F w→Calls c.P f vsl.toArray w (Pan ch w)) (hk:c.kp ch:=by rfl) (hmd:c.md = .wp:=by rfl) (hf:memF c.T.fs f=true:=by rfl) (hv:argK (rdS L [] none) B args λ l=>l=vsl:=by exact rfl) :
  CallG c true none B F f vsl Kv (WP c al (⟨some d,.call ⟨.value (.func f),⟨args⟩,ats⟩,ty,pos,af,none⟩::r) L [] B F K) := .w rfl (w_pan hT hk hmd hf hv H)
theorem regX {i:Nat} {l a b:List Oper} {d f:Nat} {args:List Operand} {ats:Array TypeId} {ty:TypeId} {pos:String} {af:Array Edge} {L:SL} {B:BL} {F:FV} {kn:KN} {kx:Nat→KN} {kr:KN} {ch:List PanicEntry}
  (hl:l=a++⟨some d,.call ⟨.value (.func f),⟨args⟩,ats⟩,ty,pos,af,none⟩::b) (hty:typT l.toArray (a.length+1) c.n=true) (hno:noRow L=true) (hf:memF c.T.fs f=true)
  (h:runs c l false (λ L' I' B' F'=>∃ vsl,argK (rdS L' I' none) B' args (λ x=>x=vsl)∧(∀ w,Sx c B' F' w→Calls c.P f vsl.toArray w (Pan ch w))) a L [] B F) (hk:c.kp ch:=by rfl) (hmd:c.md = .wp:=by rfl) :
  CP c (.region i ⟨l⟩ true) L B F kn kx kr:=by
 refine ⟨λ Q ac w hn _ _ hp hD hS=>?_⟩
 have hsz:=hD.fr.sz
 rw [hmd]
 show (Code.region i l.toArray true).wp c.P Q ac w
 refine wp_region_typedX (C:=Cty c w (oes B) F) (R:=Keep []) (KP:=λ ch' w'=>ch'=ch∧Keep [] w w') (a.length+1) hT.mix (by rw [hsz]; exact hty) (Keep.refl []) (λ w' hk=>⟨hk,hS.st.step hk⟩) ?_ ?_
 ·rintro ch' a' w' hdf ⟨rfl,hkw⟩
  exact hp _ a' w' hk (by rw [hdf]; exact hD.fr.df) (hS.st.keep.transIn hkw λ b hb=>by cases hb)
 have htk:l.take (a.length+1)=a++[⟨some d,.call ⟨.value (.func f),⟨args⟩,ats⟩,ty,pos,af,none⟩]:=by
  rw [hl]; simp only [List.take_append,Nat.add_sub_cancel_left,List.take_succ_cons,List.take_zero]; rw [List.take_of_length_le (Nat.le_succ _)]
 rw [htk]
 refine TyW.snoc (ty_sound hT (Qf:=λ E Γ=>OpTyX c.P l.toArray (Cty c w (oes B) F) (Keep []) (λ ch' w'=>ch'=ch∧Keep [] w w') ⟨some d,.call ⟨.value (.func f),⟨args⟩,ats⟩,ty,pos,af,none⟩ Γ (λ _ _=>False) (λ _ _=>True)) ?_ a L [] B _ h inv_nil ⟨?_,?_⟩ ⟨rfl,hS.bk⟩) λ E Γ hq=>⟨hq,λ E a' w' _ _ _ _ hs=>?_⟩
 ·rintro L' I' B' Γ' ⟨vsl,hv,H⟩ hI' hG' hB' E
  obtain ⟨vs',rfl,hev⟩:=argK_sound (hρ_of (B:=B') hI' (cx:=none) (og:=none) rfl) hv
  refine ⟨⟨λ _ _ _ _ _ h=>h,λ _ _ _ _ _ _ _ _=>trivial⟩,λ a' w1 hC hlook=>?_⟩
  have hlk:∀ x∈(Op.call ⟨.value (.func f),args.toArray,ats⟩).operands,∀ u,ev (fl L' I' B') x=some u→a'.eval x=u:=hG'.gv.ev hlook
  rw [if_pos (by simp [Region.wanted])]
  refine .inr ⟨f,_,w1,run_callf (hT.call hf) (hev yes_none) hlk w1,(H w1 ?_).mono λ e w'' ⟨he,hk2⟩=>⟨ch,he,rfl,hC.1.trans hk2⟩⟩
  exact sx_of hB'.oes hB'.bok hC
 ·intro t v hv u w' hu
  rw [hu]
  exact hD.fr.at_ t v hv
 ·intro t e n cs _ h2
  exact absurd h2 (noRow_ne hno t e n cs)
 ·have:=hs d
  simp [Γset] at this
theorem mI {al r:List Oper} {K:KR} {d t:Nat} {x:Operand} {ty:TypeId} {pos:String} {af:Array Edge} {L:SL} {B:BL} {F:FV} {s:SV} {v:Value} {u:TypeDesc} (ht:c.P.underlying t=some u) (hu:(match u with | .interface _=>false | _=>true)=true)
  (hx:rdS L [] none x=some s) (hv:dvO B s=some v) (k:runs c al true K r ((d,.v (.iface t v))::L) [] B F) (hd:Nat.blt d c.n=true:=by rfl) :
  true=true∧WP c al (⟨some d,.makeInterface t x,ty,pos,af,none⟩::r) L [] B F K:=by
 refine ⟨rfl,seq_ds (L':=(d,.v (.iface t v))::L) (I':=[]) (B':=B) (v := .iface t v) (rr:=some (.iface t v)) inv_nil hd (λ t'=>?_) (λ u hu=>(Option.some.inj hu).symm) (λ w hS=>?_) (runs_sound hT r _ _ _ _ k inv_nil)⟩
 ·unfold kv
  simp only [lkA]
  by_cases h:t'=d
  ·subst h; simp [dvO]
  ·rw [beq_ne (Ne.symm h),if_neg h]; rfl
 ·intro ρ hρ
  have e:ρ x=v:=hρ x (by simp [Op.operands]) _ (rdS_ev inv_nil (cx:=none) (og:=none) rfl yes_none hx hv)
  have hr:(execOp ρ ⟨some d,.makeInterface t x,ty,pos,af,none⟩).run c.P w = .ok (.value (.iface t v)) w:=by
   have h0:(underlying t).run c.P w = .ok u w:=by
    exact run_underlying ht w
   simp only [execOp,Instr.makeInterface,e,Sem.run_bind,h0,Result.andThen_ok]
   cases u <;> first | (simp at hu; done) | simp only [Sem.run_pure,Result.andThen_ok]
  unfold Does
  rw [hr]
  exact ⟨rfl,hS⟩
omit hT in
theorem pn {al r:List Oper} {K:KR} {t:Nat} {x:Operand} {ty:TypeId} {pos:String} {af:Array Edge} {L:SL} {B:BL} {F:FV} {s:SV} {v:Value} (hx:rdS L [] none x=some s) (hv:dvO B s=some (.iface t v)) (hk:c.kp [{ v := .iface t v,recovered:=false }]) (hmd:c.md = .wp:=by rfl) :
  true=true∧WP c al (⟨none,.panic x,ty,pos,af,none⟩::r) L [] B F K:=by
 refine ⟨rfl,⟨λ Q a w hn hp hD hS=>?_⟩⟩
 refine wpM_plain rfl λ K' hK=>?_
 rw [hmd]
 show Oper.wp c.P _ a w K' Q
 have e:a.eval x = .iface t v:=hD.fr.ev (rdS_ev inv_nil (cx:=none) (og:=none) rfl yes_none hx hv)
 unfold Oper.wp
 have hr:(execOp a.eval ⟨none,.panic x,ty,pos,af,none⟩).run c.P w = .halt (.panic (.iface t v)) w:=by
  simp only [execOp,Instr.panic,e]
  rfl
 rw [hr]
 exact hp _ a w hk hD.fr.df hS.st.keep
end pan
section alx
variable {P:Program} {ops:Array Oper} {C:World→Prop} {R:World→World→Prop} {KP:List PanicEntry→World→Prop}
theorem TyWX.mono:∀ {l:List Oper} {Γ:Nat→VP} {Q1 Q2:SP→(Nat→VP)→Prop},TyWX P ops C R KP Q1 l Γ→(∀ E Γ,Q1 E Γ→Q2 E Γ)→TyWX P ops C R KP Q2 l Γ
 | [],Γ,_,_,h,k=>k _ _ h
 | o::r,Γ,_,_,h,k=>by
  obtain ⟨Φ,D,h1,h2⟩:=h
  exact ⟨Φ,D,h1,TyWX.mono h2 λ E Γ h=>k _ _ h⟩
theorem TyW.app {rest:List Oper} {Qf:SP→(Nat→VP)→Prop} {Qz:(Nat→VP)→Prop}:∀ {l:List Oper} {Γ:Nat→VP},TyW P ops C R Qf l Γ→(∀ E Γ,Qf E Γ→TyWX P ops C R KP (λ _ Γ=>Qz Γ) rest Γ)→TyWX P ops C R KP (λ _ Γ=>Qz Γ) (l++rest) Γ
 | [],Γ,h,k=>k _ _ h
 | x::r,Γ,h,k=>by
  obtain ⟨Φ,D,h1,h2⟩:=h
  exact ⟨Φ,D,h1.x,TyW.app h2 λ E Γ hq=>k _ _ hq⟩
theorem TyW.snoc1 {o:Oper} {Φ:VP} {Qf:SP→(Nat→VP)→Prop} {Qz:(Nat→VP)→Prop}:∀ {l:List Oper} {Γ:Nat→VP},TyW P ops C R Qf l Γ→(∀ E Γ,Qf E Γ→OpTy P ops C R o Γ Φ (λ _ _=>True)∧Qz (Γset Γ o.dst Φ))→TyW P ops C R (λ _ Γ=>Qz Γ) (l++[o]) Γ
 | [],Γ,h,k=>⟨_,_,(k _ _ h).1,(k _ _ h).2⟩
 | x::r,Γ,h,k=>by
  obtain ⟨Φ,D,h1,h2⟩:=h
  exact ⟨Φ,D,h1,TyW.snoc1 h2 λ E Γ hq=>k _ _ hq⟩
def NewP (w:World) (T:Nat) (z:List Value):VP:=λ u w'=>∃ b,u = .pointer (some ⟨b,0,none⟩)∧NewRow w T z b w'
theorem al_ty {c:Cx} {O:List OE} {F:FV} {w:World} {t:Nat} {td:TD} {d:Nat} {ty:TypeId} {pos:String} {af:Array Edge} {Γ:Nat→VP} (htd:tdOf c.P t=some td) :
  OpTy c.P ops (Cty c w O F) (Keep []) ⟨some d,.alloc t,ty,pos,af,none⟩ Γ (NewP w t td.z) (λ _ _=>True):=by
 refine ⟨⟨λ v w1 w2 _ hk ⟨b,h1,h2⟩=>⟨b,h1,h2.keep hk⟩,λ _ _ _ _ _ _ _ _=>trivial⟩,λ a w1 hC _=>?_⟩
 rw [if_pos (by simp [Region.wanted])]
 obtain ⟨inf,z,hi,hz,hc⟩:=td_zero htd
 have:(execOp a.eval ⟨some d,.alloc t,ty,pos,af,none⟩).run c.P w1 = .ok (.value (.pointer (some ⟨w1.heap.size,0,none⟩))) (w1.alloc (.cells td.z.toArray t)):=by
  simp [execOp,Instr.alloc,zeroValue,typeInfo,hi,hz,newVar,newRow,hc]
 refine .inl ?_
 unfold Does
 rw [this]
 have hk:=keep_alloc w1 (.cells td.z.toArray t)
 exact ⟨hC.step hk,hk,⟨w1.heap.size,rfl,hC.rel.size,heap_alloc_new w1 _⟩,trivial⟩
variable {c:Cx} (hT:c.T.Ok c.P)
include hT
theorem regAl {i:Nat} {l a b:List Oper} {d t:Nat} {ty:TypeId} {pos:String} {af:Array Edge} {td:TD} {L:SL} {B:BL} {F:FV} {kn:KN} {kx:Nat→KN} {kr:KN}
  (hl:l=a++⟨some d,.alloc t,ty,pos,af,none⟩::b) (hty:typT l.toArray (a.length+1) c.n=true) (hno:noRow L=true) (htd:lkA c.T.tys t=some td)
  (h:runs c l false (λ L' I' B' F'=>fresh d L' I' B' (∀ bl:Nat,wr c.n d (.o d 0) L' I' λ L'' I''=>runs c l true (λ L I B F=>pushK I L λ L=>kn L B F) b L'' I'' ((d,.c bl t td.z)::B') F')) a L [] B F) (hmd:c.md = .wp:=by rfl) :
  CP c (.region i ⟨l⟩ true) L B F kn kx kr:=by
 refine ⟨λ Q ac w hn _ _ hp hD hS=>?_⟩
 have hsz:=hD.fr.sz
 rw [hmd]
 show (Code.region i l.toArray true).wp c.P Q ac w
 refine wp_region_typed (C:=Cty c w (oes B) F) (R:=Keep []) (a.length+1) hT.mix (by rw [hsz]; exact hty) (Keep.refl []) (λ w' hk=>⟨hk,hS.st.step hk⟩) ?_
 have htk:l.take (a.length+1)=a++[⟨some d,.alloc t,ty,pos,af,none⟩]:=by
  rw [hl]; simp only [List.take_append,Nat.add_sub_cancel_left,List.take_succ_cons,List.take_zero]; rw [List.take_of_length_le (Nat.le_succ _)]
 have hdr:l.drop (a.length+1)=b:=by
  rw [hl]; simp [List.drop_append]
 rw [htk,hdr]
 have tyw_mono:∀ {l':List Oper} {Γ:Nat→VP} {Q1 Q2:SP→(Nat→VP)→Prop},TyW c.P l.toArray (Cty c w (oes B) F) (Keep []) Q1 l' Γ→(∀ E Γ,Q1 E Γ→Q2 E Γ)→TyW c.P l.toArray (Cty c w (oes B) F) (Keep []) Q2 l' Γ:=by
  intro l'
  induction l' with
  | nil=>intro Γ Q1 Q2 h k; exact k _ _ h
  | cons o r ih=>intro Γ Q1 Q2 ⟨Φ,D,h1,h2⟩ k; exact ⟨Φ,D,h1,ih h2 λ E Γ h=>k _ _ h⟩
 refine tyw_mono (TyW.snoc1 (Φ:=NewP w t td.z) (Qz:=λ Γ=>∀ a' w',a'.defers=ac.defers→a'.tmps.size=ac.tmps.size→Cty c w (oes B) F w'→(∀ t',Γ t' (a'.tmps.getD t' undef) w')→wpList c.P l.toArray Q b a' w')
  (ty_sound hT (Qf:=λ E Γ=>∀ a' w',a'.defers=ac.defers→a'.tmps.size=ac.tmps.size→Cty c w (oes B) F w'→(∀ t',(Γset Γ (some d) (NewP w t td.z)) t' (a'.tmps.getD t' undef) w')→wpList c.P l.toArray Q b a' w') ?_ a L [] B _ h inv_nil ⟨?_,?_⟩ ⟨rfl,hS.bk⟩) λ E Γ hq=>⟨al_ty (hT.td htd),λ a' w' h1 h2 h3 h4=>hq a' w' h1 h2 h3 λ t'=>?_⟩) λ E Γ hq a' w' h1 h2 h3 _ h4=>hq a' w' h1 h2 h3 h4
 ·intro L' I' B' Γ' hk hI' hG' hB' E a' w' hdf hsz' hC hs
  obtain ⟨hlk,hfl,hk⟩:=fresh_sound hk
  obtain ⟨bl,hv,hnew⟩:NewP w t td.z (a'.tmps.getD d undef) w':=by
   have:=hs d
   simpa [Γset] using this
  obtain ⟨L'',I'',hX,hI'',hd,hkv,_⟩:=wr_sound hI' (hk bl)
  have hF':Fr a' c.n ((d,.val (.pointer (some ⟨bl,0,none⟩)))::fl L' I' B'):=by
   refine ⟨by rw [hdf]; exact hD.fr.df,by rw [hsz']; exact hsz,λ i v hiv=>?_⟩
   by_cases hi:i=d
   ·subst hi
    rw [lk_cons_eq] at hiv
    rw [hv]
    exact Option.some.inj hiv
   ·rw [lk_cons_ne (Ne.symm hi)] at hiv
    have:=hs i
    rw [show Γset Γ' (some d) (NewP w t td.z) i=Γ' i by simp [Γset,Ne.symm hi]] at this
    exact hG'.gv i v hiv _ _ this
  have hD':=Dn.cons (L':=L'') (I':=I'') (B':=(d,.c bl t td.z)::B') (rr:=some (.pointer (some ⟨bl,0,none⟩))) hF' hI'' (λ t'=>by
   rw [hkv,kv_fl (hfl _)]
   simp only [dvO,lkA_eq]) (λ u hu=>(Option.some.inj hu).symm)
  have hS':Sx c ((d,.c bl t td.z)::B') F w':=by
   refine ⟨?_,λ k g b' o cs' hq=>?_⟩
   ·show St c.w0 c.h0 c.M w' ((some bl,CellsC t td.z)::oes B') F
    rw [hB'.oes]
    exact hS.st.addRow hC.rel hnew
   ·rcases List.mem_cons.1 hq with hq | hq
    ·cases hq
    ·exact hB'.bok _ _ _ _ _ hq
  have:=(runs_sound hT b L'' I'' _ F hX hI'').run Q a' w' (push_ok hn) hp hD' hS'
  rw [hmd] at this
  exact this
 ·intro t v hv u w' hu
  rw [hu]
  exact hD.fr.at_ t v hv
 ·intro t e n cs _ h2
  exact absurd h2 (noRow_ne hno t e n cs)
 ·exact h4 t'
theorem regXa {i:Nat} {l a b:List Oper} {d f:Nat} {args:List Operand} {ats:Array TypeId} {ty:TypeId} {pos:String} {af:Array Edge} {d2 t2:Nat} {ty2:TypeId} {pos2:String} {af2:Array Edge} {td:TD} {L:SL} {B:BL} {F:FV} {kn:KN} {kx:Nat→KN} {kr:KN} {ch:List PanicEntry}
  (hl:l=a++⟨some d,.call ⟨.value (.func f),⟨args⟩,ats⟩,ty,pos,af,none⟩::⟨some d2,.alloc t2,ty2,pos2,af2,none⟩::b) (hty:typT l.toArray (a.length+2) c.n=true) (hno:noRow L=true) (hf:memF c.T.fs f=true) (htd:lkA c.T.tys t2=some td) (hne:Nat.beq d2 d=false)
  (h:runs c l false (λ L' I' B' F'=>∃ vsl,argK (rdS L' I' none) B' args (λ x=>x=vsl)∧(∀ w,Sx c B' F' w→Calls c.P f vsl.toArray w (Pan ch w))) a L [] B F) (hk:c.kp ch:=by rfl) (hmd:c.md = .wp:=by rfl) :
  CP c (.region i ⟨l⟩ true) L B F kn kx kr:=by
 refine ⟨λ Q ac w hn _ _ hp hD hS=>?_⟩
 have hsz:=hD.fr.sz
 rw [hmd]
 show (Code.region i l.toArray true).wp c.P Q ac w
 refine wp_region_typedX (C:=Cty c w (oes B) F) (R:=Keep []) (KP:=λ ch' w'=>ch'=ch∧Keep [] w w') (a.length+2) hT.mix (by rw [hsz]; exact hty) (Keep.refl []) (λ w' hk=>⟨hk,hS.st.step hk⟩) ?_ ?_
 ·rintro ch' a' w' hdf ⟨rfl,hkw⟩
  exact hp _ a' w' hk (by rw [hdf]; exact hD.fr.df) (hS.st.keep.transIn hkw λ b hb=>by cases hb)
 have htk:l.take (a.length+2)=a++[⟨some d,.call ⟨.value (.func f),⟨args⟩,ats⟩,ty,pos,af,none⟩,⟨some d2,.alloc t2,ty2,pos2,af2,none⟩]:=by
  rw [hl]; simp only [List.take_append,Nat.add_sub_cancel_left,List.take_succ_cons,List.take_zero]; rw [List.take_of_length_le (Nat.le_add_right _ _)]
 rw [htk]
 refine TyWX.mono (TyW.app (Qz:=λ Γ=>∀ a' w',(∀ t',Γ t' ((a':Act).tmps.getD t' undef) w')→False) (ty_sound hT (Qf:=λ E Γ=>OpTyX c.P l.toArray (Cty c w (oes B) F) (Keep []) (λ ch' w'=>ch'=ch∧Keep [] w w') ⟨some d,.call ⟨.value (.func f),⟨args⟩,ats⟩,ty,pos,af,none⟩ Γ (λ _ _=>False) (λ _ _=>True)) ?_ a L [] B _ h inv_nil ⟨?_,?_⟩ ⟨rfl,hS.bk⟩)
  λ E Γ hq=>⟨_,_,hq,_,_,(al_ty (hT.td htd)).x,λ a' w' hs=>?_⟩) λ E Γ hq a' w' _ _ _ _ hs=>(hq a' w' hs).elim
 ·rintro L' I' B' Γ' ⟨vsl,hv,H⟩ hI' hG' hB' E
  obtain ⟨vs',rfl,hev⟩:=argK_sound (hρ_of (B:=B') hI' (cx:=none) (og:=none) rfl) hv
  refine ⟨⟨λ _ _ _ _ _ h=>h,λ _ _ _ _ _ _ _ _=>trivial⟩,λ a' w1 hC hlook=>?_⟩
  rw [if_pos (by simp [Region.wanted])]
  refine .inr ⟨f,_,w1,run_callf (hT.call hf) (hev yes_none) (hG'.gv.ev hlook) w1,(H w1 ?_).mono λ e w'' ⟨he,hk2⟩=>⟨ch,he,rfl,hC.1.trans hk2⟩⟩
  exact sx_of hB'.oes hB'.bok hC
 ·intro t v hv u w' hu
  rw [hu]
  exact hD.fr.at_ t v hv
 ·intro t e n cs _ h2
  exact absurd h2 (noRow_ne hno t e n cs)
 ·have:=hs d
  have hne':d2≠d:=λ e=>by subst e; simp at hne
  simp [Γset,hne'] at this
end alx
end Go.Dx
namespace Go.Dx
open Go Go.RowKit
def NoDef (P:Program) (o:Oper):Prop:=∀ (a:Act) w nx w',(execOp a.eval o).run P w = .ok nx w'→∀ d,nx ≠ .defer d
theorem nodef_v {P:Program} {s:Sem Value} {w w':World} {nx:Next} (h:(do pure (Next.value (← s)):Sem Next).run P w = .ok nx w') (d:Deferred):nx ≠ .defer d:=by
 rw [Sem.run_bind] at h
 cases hs:s.run P w with
 | ok x w1=>rw [hs,Result.andThen_ok,Sem.run_pure] at h; cases h; simp
 | halt x w1=>rw [hs] at h; cases h
theorem nodef_u {P:Program} {s:Sem Unit} {w w':World} {nx:Next} (h:(do s; pure Next.skip:Sem Next).run P w = .ok nx w') (d:Deferred):nx ≠ .defer d:=by
 rw [Sem.run_bind] at h
 cases hs:s.run P w with
 | ok x w1=>rw [hs,Result.andThen_ok,Sem.run_pure] at h; cases h; simp
 | halt x w1=>rw [hs] at h; cases h
def quietOp:Op→Bool
 | .move _ | .assign _ | .build .. | .load .. | .store .. | .fieldAddr .. | .extract ..=>true
 | _=>false
theorem nodef_quiet {P:Program} {o:Oper} (h:quietOp o.op=true):NoDef P o:=by
 intro a w nx w' hr d
 obtain ⟨dst,op,ty,pos,af,g⟩:=o
 cases op <;> first | (simp [quietOp] at h; done) | skip
 all_goals simp only [execOp] at hr
 all_goals first | exact nodef_v hr d | exact nodef_u hr d | (rw [Sem.run_pure] at hr; cases hr; simp)
theorem nodef_call {P:Program} {f:FuncId} {args:Array Operand} {ats:Array TypeId} {dst:Option Nat} {ty:TypeId} {pos:String} {af:Array Edge} {g:Option (Nat×Bool)} (hc:CallOk P f):NoDef P ⟨dst,.call ⟨.value (.func f),args,ats⟩,ty,pos,af,g⟩:=by
 intro a w nx w' hr d
 have:(execOp a.eval ⟨dst,.call ⟨.value (.func f),args,ats⟩,ty,pos,af,g⟩).run P w = .ok (.enter f (args.map a.eval)) w:=by
  simp only [execOp,resolve,Act.eval,Deferred.ofValue,Sem.run_bind,Sem.run_pure,Result.andThen_ok,invoke,Array.append_empty,Array.empty_append]
  exact run_call hc
 rw [this] at hr
 cases hr
 simp
theorem put_dfs (a:Act) (d:Option Nat) (v:Value) (ds:List Deferred):({ a with defers:=ds }:Act).put d v={ a.put d v with defers:=ds }:=by cases d <;> rfl
theorem wpList_df {P:Program} {ops:Array Oper} {Q:Exit→Act→World→Prop} {ds:List Deferred}:∀ (l:List Oper) (a:Act) (w:World),(∀ o∈l,NoDef P o) →
  wpList P ops (λ e a w=>Q e { a with defers:=ds } w) l a w→wpList P ops Q l { a with defers:=ds } w
 | [],a,w,_,h=>h
 | o::rest,a,w,hn,h=>by
  have ih:=λ a w=>wpList_df (P:=P) (ops:=ops) (Q:=Q) (ds:=ds) rest a w λ o ho=>hn o (by simp [ho])
  unfold wpList at h ⊢
  show if Region.wanted o (yielded ops a.tmps) then _ else _
  split
  ·rename_i hw
   rw [if_pos hw] at h
   rcases h with h | ⟨h1,a1,w1,h2⟩
   ·refine .inl ?_
    unfold Oper.wp at h ⊢
    have he:({ a with defers:=ds }:Act).eval=a.eval:=rfl
    rw [he]
    have hnd:=hn o (by simp) a w
    generalize (execOp a.eval o).run P w=r at h hnd ⊢
    cases r with
    | ok nx w' =>
     cases nx with
     | value v=>simp only [Oper.upon] at h ⊢; rw [put_dfs]; exact ih _ _ h
     | skip=>simp only [Oper.upon] at h ⊢; rw [put_dfs]; exact ih _ _ h
     | defer d=>exact absurd rfl (hnd _ _ rfl d)
     | enter f args =>
      simp only [Oper.upon] at h ⊢
      refine h.mono λ e w'' hh=>?_
      cases e with
      | returned v =>
       show wpList P ops Q rest (({ a with defers:=ds }:Act).put o.dst v) w''
       rw [put_dfs]; exact ih _ _ hh
      | panicked ch=>exact hh
      | outgrown=>obtain ⟨a2,w2,h2⟩:=hh; exact ⟨_,w2,h2⟩
     | row r args =>
      simp only [Oper.upon] at h ⊢
      refine h.mono λ v w'' hh=>?_
      rw [put_dfs]; exact ih _ _ hh
     | _=>simp only [Oper.upon] at h
    | halt x w' =>
     cases x <;> simp only [Oper.upon] at h ⊢
     exact h
   ·exact .inr ⟨h1,_,w1,h2⟩
  ·rename_i hw
   rw [if_neg hw] at h
   rw [put_dfs]
   exact ih _ _ h
end Go.Dx
namespace Go.Dx
open Go Go.RowKit
def RetX {α:Type} (ch:Int→List PanicEntry) (g:α→Value) (w0:World) (h0:View):Except Int α→Ending→World→Prop
 | .ok v=>Ret w0 h0 λ u _=>u=g v
 | .error x=>Pan (ch x) w0
def RetV (M:List Nat) (w:World) (h:View) (Ψ:Value→World→View→Prop):Ending→World→Prop:=λ e w'=>∃ v,e = .returned v∧Keep M w w'∧Ψ v w' (nv h w w')
def argV:List SV→Nat→SL
 | [],_=>[]
 | s::r,i=>(i,s)::argV r (i+1)
theorem argV_kv {B:BL}:∀ (as:List SV) (i t:Nat) (v:Value),kv (argV as i) [] B t=some v→vl (lk (argL (as.map (dv B)) i) t)=some v
 | [],i,t,v,h=>by simp [argV,kv,lkA] at h
 | s::r,i,t,v,h=>by
  unfold kv at h
  simp only [lkA,argV] at h
  show vl (lk ((i,.val (dv B s))::argL (r.map (dv B)) (i+1)) t)=some v
  by_cases ht:i=t
  ·subst ht
   simp only [Nat.beq_refl,cond_true] at h
   rw [lk_cons_eq]
   show some (dv B s)=some v
   rw [dv_some h]
  ·simp only [beq_ne ht,cond_false] at h
   rw [lk_cons_ne ht]
   refine argV_kv r (i+1) t v ?_
   unfold kv
   simp only [lkA]
   exact h
theorem argS_V:∀ (args:List Value) (i:Nat),argS args i=argV (args.map .v) i
 | [],_=>rfl
 | v::r,i=>by rw [argS,List.map_cons,argV,argS_V r]
theorem entG {P:Program} {T:Tab} (hT:T.Ok P) {f:FuncId} {fn:Func} {code:Code} {w0:World} {h0:View} {rs:List ResultVar} {n:Nat} {R:Ending→World→Prop} {kp:List PanicEntry→Prop} {E:BL→FV→List Value→Prop} (stop cut M:List Nat) (as:List SV) (B0:BL)
  (hf:P.funcs[f]?=some fn) (hb:fn.body=some code) (hn:fn.ntmps=n) (hle:Nat.ble as.length n=true) (hr:fn.results=rs.toArray) (hp:∀ ch w,kp ch→Keep M w0 w→R (.panicked ch) w)
  (hS:Sx ⟨P,T,.wp,n,w0,h0,M,kp,stop,cut⟩ B0 (λ _=>True) w0) (hE:∀ B F vs w,E B F vs→Sx ⟨P,T,.wp,n,w0,h0,M,kp,stop,cut⟩ B F w→R (.returned (tupV vs)) w)
  (h:vcC ⟨P,T,.wp,n,w0,h0,M,kp,stop,cut⟩ code (argV as 0) B0 (λ _=>True) (λ L B F=>resK T L B rs (E B F)) (λ _ _ _ _=>False) (λ L B F=>resK T L B rs (E B F))):Calls P f (as.map (dv B0)).toArray w0 R:=by
 refine f_enter hf hb hn (by simpa using hle) λ a hF=>?_
 have fin:∀ L B F a w,resK T L B rs (E B F)→Dn ⟨P,T,.wp,n,w0,h0,M,kp,stop,cut⟩ L [] B a→Sx ⟨P,T,.wp,n,w0,h0,M,kp,stop,cut⟩ B F w→bodyPost P fn R .ret a w:=by
  intro L B F a w hk hD hS
  obtain ⟨vs,h1,h2⟩:=resK_sound (c:=⟨P,T,.wp,n,w0,h0,M,kp,stop,cut⟩) hT hD hS.wok hk
  exact f_ret hD.fr hr h2 (hE _ _ _ _ h1 hS)
 refine (vcC_sound (c:=⟨P,T,.wp,n,w0,h0,M,kp,stop,cut⟩) hT code _ _ _ _ _ _ h).run (bodyPost P fn R) a w0 (λ L B F a w hk hD hS=>?_) ⟨λ _ _ _ _ _ _ _ h=>h.elim,λ _ _ _ _ _ _ h=>h.elim⟩ fin (λ ch a w hk hd hkeep=>⟨hd,hp ch w hk hkeep⟩) ⟨Fr.of_kv hF.df hF.sz λ t v hv=>?_,inv_nil⟩ hS
 ·exact fin L B F a w hk hD hS
 ·exact hF.at_ t v (argV_kv as 0 t v hv)
theorem sx_nil {c:Cx} (hv:VLe c.h0 (Full c.w0)) (hM:c.M=[]):Sx c [] (λ _=>True) c.w0:=⟨by rw [hM]; exact St.init c.w0 c.h0 hv,λ k g b o cs hk=>by cases hk⟩
theorem sx_one {c:Cx} {k b T:Nat} {cs:List Value} (hv:VLe c.h0 (Full c.w0)) (hM:c.M=[b]) (hb:c.w0.heap[b]?=some (.cells cs.toArray T (0,0))) (hn:c.h0 b=none):Sx c [(k,.c b T cs)] (λ _=>True) c.w0:=by
 refine ⟨?_,λ k' g b' o cs' hk=>?_⟩
 ·rw [hM]; exact St.init1 c.w0 c.h0 hv b _ hb rfl hn
 ·rcases List.mem_cons.1 hk with h | h
  ·cases h
  ·cases h
theorem entX {α:Type} {ch:Int→List PanicEntry} {g:α→Value} {r:Except Int α} {P:Program} {T:Tab} (hT:T.Ok P) {f:FuncId} {fn:Func} {code:Code} {args:List Value} {w0:World} {h0:View} {rs:List ResultVar} {n:Nat} (stop cut:List Nat)
  (hf:P.funcs[f]?=some fn) (hb:fn.body=some code) (hn:fn.ntmps=n) (hle:Nat.ble args.length n=true) (hr:fn.results=rs.toArray) (hv:VLe h0 (Full w0))
  (h:vcC ⟨P,T,.wp,n,w0,h0,[],λ c=>∃ x,r = .error x∧c=ch x,stop,cut⟩ code (argS args 0) [] (λ _=>True) (λ L B _=>resK T L B rs λ vs=>∃ v,r = .ok v∧tupV vs=g v) (λ _ _ _ _=>False)
   (λ L B _=>resK T L B rs λ vs=>∃ v,r = .ok v∧tupV vs=g v)):Calls P f args.toArray w0 (RetX ch g w0 h0 r):=by
 have:=entG (E:=λ _ _ vs=>∃ v,r = .ok v∧tupV vs=g v) (R:=RetX ch g w0 h0 r) (h0:=h0) (kp:=λ c=>∃ x,r = .error x∧c=ch x) hT stop cut [] (args.map .v) [] hf hb hn (by simpa using hle) hr
  (λ c w ⟨x,e,hc⟩ hk=>by subst e; exact ⟨by rw [hc],hk⟩) (sx_nil hv rfl) (λ B F vs w ⟨v,e,hq⟩ hS=>by subst e; exact hS.st.retv hq) (by rw [← argS_V]; exact h)
 rw [List.map_map] at this
 have e:(dv [] ∘ SV.v)=id:=by funext x; rfl
 rwa [e,List.map_id] at this
theorem entM {P:Program} {T:Tab} (hT:T.Ok P) {f:FuncId} {fn:Func} {code:Code} {args:List Value} {w0:World} {h0:View} {rs:List ResultVar} {n b Tb:Nat} {cs cs':List Value} {v:Value} (stop cut:List Nat) (as:List SV)
  (hf:P.funcs[f]?=some fn) (hb:fn.body=some code) (hn:fn.ntmps=n) (hle:Nat.ble as.length n=true) (hr:fn.results=rs.toArray) (hv:VLe h0 (Full w0)) (hbl:w0.heap[b]?=some (.cells cs.toArray Tb (0,0))) (hno:h0 b=none) (ha:args=as.map (dv [(900,.c b Tb cs)]))
  (h:vcC ⟨P,T,.wp,n,w0,h0,[b],λ _=>False,stop,cut⟩ code (argV as 0) [(900,.c b Tb cs)] (λ _=>True) (λ L B _=>resK T L B rs λ vs=>tupV vs=v∧lkA B 900=some (.c b Tb cs')) (λ _ _ _ _=>False)
   (λ L B _=>resK T L B rs λ vs=>tupV vs=v∧lkA B 900=some (.c b Tb cs'))):Calls P f args.toArray w0 (RetM [b] w0 λ u w'=>u=v∧w'.heap[b]?=some (.cells cs'.toArray Tb (0,0))):=by
 rw [ha]
 exact entG (E:=λ B _ vs=>tupV vs=v∧lkA B 900=some (.c b Tb cs')) (h0:=h0) (kp:=λ _=>False) hT stop cut [b] as [(900,.c b Tb cs)] hf hb hn hle hr (λ _ _ h _=>h.elim) (sx_one hv rfl hbl hno)
  (λ B F vs w ⟨h1,h2⟩ hS=>hS.st.retM ⟨h1,hS.wok.own _ _ _ _ h2⟩) h
end Go.Dx
namespace Go.Dx
open Go Go.RowKit
theorem nv_leM {w w' w0:World} {h0:View} {M:List Nat} {O:List OE} {F:View→Prop} {b:Nat} (hS:St w0 h0 M w O F) (hb:b∈ids O) (hk:Keep [b] w w'):VLe (nv (cv w0.heap.size h0 (ids O) w) w w') (cv w0.heap.size h0 (ids O) w'):=by
 intro k o h
 unfold nv at h
 split at h
 ·refine cv_le (J:=[b]) _ _ hk (λ c hc=>?_) (λ b hb => .inl hb) hS.keep.size k o h
  rw [List.mem_singleton.1 hc]; exact hb
 ·rename_i hlt
  unfold cv
  rw [if_neg (λ hm=>hlt (hS.fresh k hm).2),if_neg (λ hh=>hlt (Nat.lt_of_lt_of_le hh hS.keep.size))]
  exact h
theorem cv_own {n0:Nat} {h0:View} {I:List Nat} {w:World} {b:Nat} (hb:b∈I):cv n0 h0 I w b=none:=by unfold cv; rw [if_pos hb]
theorem kv_put {L:SL} {B:BL} {d:Nat} {v:Value} (t:Nat):kv ((d,.v v)::L) [] B t=if t=d then some v else kv L [] B t:=by
 unfold kv
 simp only [lkA]
 by_cases ht:t=d
 ·subst ht; simp [dvO]
 ·rw [beq_ne (Ne.symm ht),if_neg ht]; rfl
section calls3
variable {c:Cx} (hT:c.T.Ok c.P)
include hT
theorem cX {α:Type} {ch:Int→List PanicEntry} {g:α→Value} {r:Except Int α} {al:List Oper} {K:KR} {d f:Nat} {args:List Operand} {ats:Array TypeId} {ty:TypeId} {pos:String} {af:Array Edge} {rest:List Oper} {L:SL} {B:BL} {F:FV} {vsl:List Value} {Kv:SV→Prop}
  (H:∀ w,VLe c.h0 (Full w)→Calls c.P f vsl.toArray w (RetX ch g w c.h0 r)) (e:∀ x,r = .error x→c.kp (ch x)) (k:∀ v,r = .ok v→Kv (.v (g v))) (hmd:c.md = .wp:=by rfl) (hf:memF c.T.fs f=true:=by rfl) (hv:argK (rdS L [] none) B args λ l=>l=vsl:=by exact rfl) :
  CallG c true none B F f vsl Kv (WP c al (⟨some d,.call ⟨.value (.func f),⟨args⟩,ats⟩,ty,pos,af,none⟩::rest) L [] B F K):=by
 cases hr:r with
 | ok v=>exact .v _ (λ w hS=>⟨c.h0,by have:=H w hS.st.base; rw [hr] at this; exact this⟩) (k v hr)
 | error x=>exact .w rfl (w_pan hT (e x hr) hmd hf hv λ w hS=>by have:=H w hS.st.base; rw [hr] at this; exact this)
theorem cXo {α:Type} {ch:Int→List PanicEntry} {g:α→Value} {r:Except Int α} {al:List Oper} {K:KR} {d f:Nat} {args:List Operand} {ats:Array TypeId} {ty:TypeId} {pos:String} {af:Array Edge} {rest:List Oper} {L:SL} {B:BL} {F:FV} {vsl:List Value} {Kv:SV→Prop}
  (H:∀ w,Sx c B F w→∃ h,Calls c.P f vsl.toArray w (RetX ch g w h r)) (e:∀ x,r = .error x→c.kp (ch x)) (k:∀ v,r = .ok v→Kv (.v (g v))) (hmd:c.md = .wp:=by rfl) (hf:memF c.T.fs f=true:=by rfl) (hv:argK (rdS L [] none) B args λ l=>l=vsl:=by exact rfl) :
  CallG c true none B F f vsl Kv (WP c al (⟨some d,.call ⟨.value (.func f),⟨args⟩,ats⟩,ty,pos,af,none⟩::rest) L [] B F K):=by
 cases hr:r with
 | ok v=>exact .v _ (λ w hS=>by have:=H w hS; rw [hr] at this; exact this) (k v hr)
 | error x=>exact .w rfl (w_pan hT (e x hr) hmd hf hv λ w hS=>by obtain ⟨h,this⟩:=H w hS; rw [hr] at this; exact this)
theorem cM {b Tb:Nat} {cs cs':List Value} {x:Value} {al:List Oper} {K:KR} {d f:Nat} {args:List Operand} {ats:Array TypeId} {ty:TypeId} {pos:String} {af:Array Edge} {rest:List Oper} {L:SL} {B:BL} {F:FV} {vsl:List Value} {Kv:SV→Prop} (kb:Nat)
  (H:∀ w v,VLe c.h0 v→F v→VLe v (Full w)→v b=none→w.heap[b]?=some (.cells cs.toArray Tb (0,0))→Calls c.P f vsl.toArray w (RetM [b] w λ u w'=>u=x∧w'.heap[b]?=some (.cells cs'.toArray Tb (0,0))))
  (k:setAK B kb (.c b Tb cs') λ B'=>runs c al true K rest ((d,.v x)::L) [] B' F) (hB:lkA B kb=some (.c b Tb cs):=by rfl)
  (hf:memF c.T.fs f=true:=by rfl) (hv:argK (rdS L [] none) B args λ l=>l=vsl:=by exact rfl) (hd:Nat.blt d c.n=true:=by rfl) :
  CallG c true none B F f vsl Kv (WP c al (⟨some d,.call ⟨.value (.func f),⟨args⟩,ats⟩,ty,pos,af,none⟩::rest) L [] B F K):=by
 obtain ⟨B',i,hrun,hi,hset,hlB,hmB⟩:=setAK_sound hB k
 have hdv:=dvO_setA hB hlB
 have hin:b∈ids (oes B):=List.mem_filterMap.2 ⟨_,List.mem_of_getElem? hi,rfl⟩
 refine .w rfl (w_call hT (Ψ:=λ v w w'=>Keep [b] w w'∧v=x∧w'.heap[b]?=some (.cells cs'.toArray Tb (0,0))) rfl hf hv (λ w hS=>(H w _ hS.st.base_cv hS.st.facts hS.st.view (cv_own hin) (hS.wok.own _ _ _ _ hB)).mono ?_) ?_ inv_nil)
 ·rintro e w' ⟨v,rfl,hk,hu⟩; exact ⟨v,rfl,hk,hu⟩
 ·rintro v w w' hS ⟨hk,rfl,hw'⟩
  refine ⟨_,_,B',F,hrun,inv_nil,⟨by rw [hset]; exact hS.st.write hi hk hw',λ m g b' o cs' hm=>?_⟩,hd,some v,λ t=>?_,λ u hu=>(Option.some.inj hu).symm⟩
  ·rcases hmB _ hm with hm | hm
   ·exact hS.bk _ _ _ _ _ hm
   ·cases hm
  ·rw [kv_put]
   by_cases ht:t=d
   ·rw [if_pos ht,if_pos ht]
   ·rw [if_neg ht,if_neg ht,kv_fl (fl_congr hdv)]
theorem cV {α:Type} {b Tb:Nat} {cs:List Value} {cs':α→List Value} {g:α→Value} {Φ:α→FV} {al:List Oper} {K:KR} {d f:Nat} {args:List Operand} {ats:Array TypeId} {ty:TypeId} {pos:String} {af:Array Edge} {rest:List Oper} {L:SL} {B:BL} {F:FV} {vsl:List Value} {Kv:SV→Prop} (kb:Nat)
  (H:∀ w v,VLe c.h0 v→F v→VLe v (Full w)→v b=none→w.heap[b]?=some (.cells cs.toArray Tb (0,0))→Calls c.P f vsl.toArray w (RetV [b] w v λ u w' hh=>∃ x,u=g x∧w'.heap[b]?=some (.cells (cs' x).toArray Tb (0,0))∧Φ x hh))
  (hm:∀ x,Mono (Φ x))
  (k:∀ x,setAK B kb (.c b Tb (cs' x)) λ B'=>runs c al true K rest ((d,.v (g x))::L) [] B' (λ h=>F h∧Φ x h)) (hB:lkA B kb=some (.c b Tb cs):=by rfl)
  (hf:memF c.T.fs f=true:=by rfl) (hv:argK (rdS L [] none) B args λ l=>l=vsl:=by exact rfl) (hd:Nat.blt d c.n=true:=by rfl) :
  CallG c true none B F f vsl Kv (WP c al (⟨some d,.call ⟨.value (.func f),⟨args⟩,ats⟩,ty,pos,af,none⟩::rest) L [] B F K):=by
 have hin:b∈ids (oes B):=List.mem_filterMap.2 ⟨_,oes_mem hB rfl,rfl⟩
 refine .w rfl (w_call hT (Ψ:=λ v w w'=>Keep [b] w w'∧∃ x,v=g x∧w'.heap[b]?=some (.cells (cs' x).toArray Tb (0,0))∧Φ x (nv (cv c.w0.heap.size c.h0 (ids (oes B)) w) w w')) rfl hf hv (λ w hS=>(H w _ hS.st.base_cv hS.st.facts hS.st.view (cv_own hin) (hS.wok.own _ _ _ _ hB)).mono ?_) ?_ inv_nil)
 ·rintro e w' ⟨v,rfl,hk,hu⟩; exact ⟨v,rfl,hk,hu⟩
 ·rintro v w w' hS ⟨hk,x,rfl,hw',hΦ⟩
  obtain ⟨B',i,hrun,hi,hset,hlB,hmB⟩:=setAK_sound hB (k x)
  have hdv:=dvO_setA hB hlB
  have hle:=nv_leM hS.st hin hk
  have hids:ids (oes B')=ids (oes B):=by rw [hset,ids_set hi]
  refine ⟨_,_,B',_,hrun,inv_nil,⟨?_,λ m g' b' o cs'' hm'=>?_⟩,hd,some (g x),λ t=>?_,λ u hu=>(Option.some.inj hu).symm⟩
  ·have h1:St c.w0 c.h0 c.M w' (oes B') F:=by rw [hset]; exact hS.st.write hi hk hw'
   refine h1.add (hm x) ?_
   rw [hids]
   exact hm x _ _ hle hΦ
  ·refine gc_mk λ hy=>λ v w h1 h2 h3=>?_
   rcases hmB _ hm' with hm2 | hm2
   ·exact gc_yes (hS.bk _ _ _ _ _ hm2) hy v w h1 h2.1 h3
   ·cases hm2
  ·rw [kv_put]
   by_cases ht:t=d
   ·rw [if_pos ht,if_pos ht]
   ·rw [if_neg ht,if_neg ht,kv_fl (fl_congr hdv)]
theorem regD {i:Nat} {l:List Oper} {L:SL} {B:BL} {F:FV} {kn:KN} {kx:Nat→KN} {kr:KN} (h:regT c l L B F kn) (hmd:c.md = .wp:=by rfl):CP c (.region i ⟨l⟩ true) L B F kn kx kr:=regT_sound hT hmd h
theorem regA {i:Nat} {l b:List Oper} (k:Nat) {d t:Nat} {ty:TypeId} {pos:String} {af:Array Edge} {td:TD} {L:SL} {B:BL} {F:FV} {kn:KN} {kx:Nat→KN} {kr:KN}
  (h:runs c l false (λ L' I' B' F'=>fresh d L' I' B' (∀ bl:Nat,wr c.n d (.o d 0) L' I' λ L'' I''=>runs c l true (λ L I B F=>pushK I L λ L=>kn L B F) b L'' I'' ((d,.c bl t td.z)::B') F')) (l.take k) L [] B F)
  (hl:l.drop k=⟨some d,.alloc t,ty,pos,af,none⟩::b:=by rfl) (hty:typT l.toArray (k+1) c.n=true:=by kernel_rfl) (hno:noRow L=true:=by rfl) (htd:lkA c.T.tys t=some td:=by rfl) (hmd:c.md = .wp:=by rfl) :
  CP c (.region i ⟨l⟩ true) L B F kn kx kr:=by
 have hk:k<l.length:=by
  rcases Nat.lt_or_ge k l.length with h | h
  ·exact h
  ·rw [List.drop_of_length_le h] at hl; cases hl
 refine regAl hT (a:=l.take k) (b:=b) (by rw [← hl,List.take_append_drop]) ?_ hno htd h hmd
 rw [List.length_take,Nat.min_eq_left (by omega)]; exact hty
theorem regP {i:Nat} {l b:List Oper} (k:Nat) {d f:Nat} {args:List Operand} {ats:Array TypeId} {ty:TypeId} {pos:String} {af:Array Edge} {L:SL} {B:BL} {F:FV} {kn:KN} {kx:Nat→KN} {kr:KN} {ch:List PanicEntry} (hk:c.kp ch)
  (h:runs c l false (λ L' I' B' F'=>∃ vsl,argK (rdS L' I' none) B' args (λ x=>x=vsl)∧(∀ w,Sx c B' F' w→Calls c.P f vsl.toArray w (Pan ch w))) (l.take k) L [] B F)
  (hl:l.drop k=⟨some d,.call ⟨.value (.func f),⟨args⟩,ats⟩,ty,pos,af,none⟩::b:=by rfl) (hty:typT l.toArray (k+1) c.n=true:=by kernel_rfl) (hno:noRow L=true:=by rfl) (hf:memF c.T.fs f=true:=by rfl) (hmd:c.md = .wp:=by rfl) :
  CP c (.region i ⟨l⟩ true) L B F kn kx kr:=by
 have hk':k<l.length:=by
  rcases Nat.lt_or_ge k l.length with h | h
  ·exact h
  ·rw [List.drop_of_length_le h] at hl; cases hl
 refine regX hT (a:=l.take k) (b:=b) (by rw [← hl,List.take_append_drop]) ?_ hno hf h hk hmd
 rw [List.length_take,Nat.min_eq_left (by omega)]; exact hty
theorem regPA {i:Nat} {l b:List Oper} (k:Nat) {d f:Nat} {args:List Operand} {ats:Array TypeId} {ty:TypeId} {pos:String} {af:Array Edge} {d2 t2:Nat} {ty2:TypeId} {pos2:String} {af2:Array Edge} {td:TD} {L:SL} {B:BL} {F:FV} {kn:KN} {kx:Nat→KN} {kr:KN} {ch:List PanicEntry} (hk:c.kp ch)
  (h:runs c l false (λ L' I' B' F'=>∃ vsl,argK (rdS L' I' none) B' args (λ x=>x=vsl)∧(∀ w,Sx c B' F' w→Calls c.P f vsl.toArray w (Pan ch w))) (l.take k) L [] B F)
  (hl:l.drop k=⟨some d,.call ⟨.value (.func f),⟨args⟩,ats⟩,ty,pos,af,none⟩::⟨some d2,.alloc t2,ty2,pos2,af2,none⟩::b:=by rfl) (hty:typT l.toArray (k+2) c.n=true:=by kernel_rfl) (hno:noRow L=true:=by rfl) (hf:memF c.T.fs f=true:=by rfl) (htd:lkA c.T.tys t2=some td:=by rfl) (hne:Nat.beq d2 d=false:=by rfl) (hmd:c.md = .wp:=by rfl) :
  CP c (.region i ⟨l⟩ true) L B F kn kx kr:=by
 have hk':k<l.length:=by
  rcases Nat.lt_or_ge k l.length with h | h
  ·exact h
  ·rw [List.drop_of_length_le h] at hl; cases hl
 refine regXa hT (a:=l.take k) (b:=b) (by rw [← hl,List.take_append_drop]) ?_ hno hf htd hne h hk hmd
 rw [List.length_take,Nat.min_eq_left (by omega)]; exact hty
end calls3
end Go.Dx
namespace Go.Dx
open Go Go.RowKit
theorem delC_sound:∀ {B:BL} {k b T:Nat} {cs:List Value} {K:BL→Prop},lkA B k=some (.c b T cs)→delE B k K→∃ B' i,K B'∧(oes B)[i]?=some (some b,CellsC T cs)∧oes B'=(oes B).eraseIdx i∧(∀ m,lkA B' m=if m=k then none else lkA B m)∧∀ p∈B',p∈B
 | [],k,b,T,cs,K,h,_=>by simp [lkA] at h
 | (k0,o0)::r,k,b,T,cs,K,h,hK=>by
  unfold delE at hK
  by_cases hk:k0=k
  ·subst hk
   rw [lkA_eq] at h
   cases h
   simp only [Nat.beq_refl,cond_true] at hK
   split at hK
   ·rename_i hn
    refine ⟨_,0,hK,rfl,rfl,λ m=>?_,λ p hp=>List.mem_cons_of_mem _ hp⟩
    by_cases hm:m=k0
    ·subst hm; rw [hn,if_pos rfl]
    ·rw [lkA_ne (Ne.symm hm),if_neg hm]
   ·exact hK.elim
  ·rw [lkA_ne hk] at h
   simp only [beq_ne hk,cond_false] at hK
   obtain ⟨B',i,h1,h2,h3,h4,h5⟩:=delC_sound h hK
   have hl:∀ m,lkA ((k0,o0)::B') m=if m=k then none else lkA ((k0,o0)::r) m:=λ m=>by
    by_cases hm:k0=m
    ·subst hm; rw [lkA_eq,lkA_eq,if_neg hk]
    ·rw [lkA_ne hm,lkA_ne hm,h4]
   have hmem:∀ p∈(k0,o0)::B',p∈(k0,o0)::r:=λ p hp=>by
    rcases List.mem_cons.1 hp with rfl | hp
    ·simp
    ·exact List.mem_cons_of_mem _ (h5 p hp)
   cases ho:oeOf o0 with
   | none =>
    have e:∀ r:BL,oes ((k0,o0)::r)=oes r:=λ r=>by unfold oes; rw [List.filterMap_cons]; simp only [ho]
    exact ⟨_,i,h1,by rw [e]; exact h2,by rw [e,e]; exact h3,hl,hmem⟩
   | some e9 =>
    have e:∀ r:BL,oes ((k0,o0)::r)=e9::oes r:=λ r=>by unfold oes; rw [List.filterMap_cons]; simp only [ho]
    exact ⟨_,i+1,h1,by rw [e]; simpa using h2,by rw [e,e,h3]; rfl,hl,hmem⟩
def unS (k b:Nat):SV→SV
 | .o m f=>bif Nat.beq m k then .v (.pointer (some ⟨b,f,none⟩)) else .o m f
 | .s m f n cp=>bif Nat.beq m k then .v (.slice (some ⟨b,f,none⟩) n cp) else .s m f n cp
 | .v x => .v x
 | .r e n cs => .r e n cs
 | .u => .u
def unL (k b:Nat):SL→SL
 | []=>[]
 | (t,.o m f)::r=>(t,unS k b (.o m f))::unL k b r
 | (t,.s m f n cp)::r=>(t,unS k b (.s m f n cp))::unL k b r
 | (t,.v x)::r=>(t,.v x)::unL k b r
 | (t,.r e n cs)::r=>(t,.r e n cs)::unL k b r
 | (t,.u)::r=>(t,.u)::unL k b r
theorem unL_lk {k b:Nat}:∀ (L:SL) (t:Nat),lkA (unL k b L) t=(lkA L t).map (unS k b)
 | [],t=>rfl
 | (d,s)::r,t=>by
  have e:unL k b ((d,s)::r)=(d,unS k b s)::unL k b r:=by cases s <;> rfl
  rw [e]
  by_cases hd:d=t
  ·subst hd; rw [lkA_eq,lkA_eq]; rfl
  ·rw [lkA_ne hd,lkA_ne hd,unL_lk r t]
theorem unS_dv {B B':BL} {k b T:Nat} {cs:List Value} (hl:lkA B k=some (.c b T cs)) (h:∀ m,lkA B' m=if m=k then none else lkA B m) (s:SV):dvO B' (unS k b s)=dvO B s:=by
 cases s with
 | o m f =>
  by_cases hm:m=k
  ·subst hm
   simp only [unS,Nat.beq_refl,cond_true,dvO,hl]
  ·simp only [unS,beq_ne hm,cond_false,dvO,h,if_neg hm]
 | s m f n cp =>
  by_cases hm:m=k
  ·subst hm
   simp only [unS,Nat.beq_refl,cond_true,dvO,hl]
  ·simp only [unS,beq_ne hm,cond_false,dvO,h,if_neg hm]
 | _=>rfl
theorem unL_kv {B B':BL} {k b T:Nat} {cs:List Value} {L:SL} (hl:lkA B k=some (.c b T cs)) (h:∀ m,lkA B' m=if m=k then none else lkA B m) (t:Nat):kv (unL k b L) [] B' t=kv L [] B t:=by
 unfold kv
 simp only [lkA,unL_lk]
 cases lkA L t with
 | none=>rfl
 | some s=>exact unS_dv hl h s
theorem two_ids {B : BL} {k k' b T T' : Nat} {cs cs' : List Value} (hk : lkA B k = some (.c b T cs)) (hk' : lkA B k' = some (.c b T' cs')) (hne : k ≠ k') : ¬ (ids (oes B)).Nodup := by
  induction B with
  | nil => simp [lkA] at hk
  | cons p r ih =>
    obtain ⟨k0, o0⟩ := p
    intro hnd
    have hin : ∀ {k T cs}, lkA r k = some (OB.c b T cs) → b ∈ ids (oes r) := fun {k T cs} h => List.mem_filterMap.2 ⟨(some b, CellsC T cs), oes_mem h rfl, rfl⟩
    by_cases h1 : k0 = k
    · subst h1
      rw [lkA_eq] at hk
      cases hk
      rw [lkA_ne hne] at hk'
      have : (b :: ids (oes r)).Nodup := by simpa [oes, ids, oeOf] using hnd
      exact (List.nodup_cons.1 this).1 (hin hk')
    · rw [lkA_ne h1] at hk
      by_cases h2 : k0 = k'
      · subst h2
        rw [lkA_eq] at hk'
        cases hk'
        have : (b :: ids (oes r)).Nodup := by simpa [oes, ids, oeOf] using hnd
        exact (List.nodup_cons.1 this).1 (hin hk)
      · rw [lkA_ne h2] at hk'
        refine ih hk hk' ?_
        cases ho : oeOf o0 with
        | none => have e : oes ((k0, o0) :: r) = oes r := by unfold oes; rw [List.filterMap_cons]; simp only [ho]
                  rwa [e] at hnd
        | some e0 =>
          have e : oes ((k0, o0) :: r) = e0 :: oes r := by unfold oes; rw [List.filterMap_cons]; simp only [ho]
          rw [e] at hnd
          cases he : e0.1 with
          | none => simpa [ids, he] using hnd
          | some y => have : (y :: ids (oes r)).Nodup := by simpa [ids, he] using hnd
                      exact (List.nodup_cons.1 this).2
theorem ids_eraseM {b:Nat} {C:Option Obj→Prop}:∀ {O:List OE} {i:Nat},O[i]?=some (some b,C)→(ids O).Nodup→b ∉ ids (O.eraseIdx i)∧(ids (O.eraseIdx i)).Nodup:=by
 intro O
 induction O with
 | nil=>intro i h; simp at h
 | cons x O ih =>
  intro i h hnd
  match i with
  | 0 =>
   have hx:x=(some b,C):=by simpa using h
   subst hx
   have:(b::ids O).Nodup:=by simpa [ids] using hnd
   simpa using List.nodup_cons.1 this
  | i+1 =>
   have h':O[i]?=some (some b,C):=by simpa using h
   have hbm:b∈ids O:=List.mem_filterMap.2 ⟨_,List.mem_of_getElem? h',rfl⟩
   cases hx:x.1 with
   | none =>
    have:=ih h' (by simpa [ids,hx] using hnd)
    simpa [ids,hx] using this
   | some y =>
    have hnd':(y::ids O).Nodup:=by simpa [ids,hx] using hnd
    obtain ⟨g1,g2⟩:=ih h' (List.nodup_cons.1 hnd').2
    have hyb:y≠b:=λ e=>(List.nodup_cons.1 hnd').1 (e ▸ hbm)
    have hy2:y ∉ ids (O.eraseIdx i):=λ hm=>(List.nodup_cons.1 hnd').1 (by
     obtain ⟨e,he,he1⟩:=List.mem_filterMap.1 hm
     exact List.mem_filterMap.2 ⟨e,List.mem_of_mem_eraseIdx he,he1⟩)
    have e1:ids ((x::O).eraseIdx (i+1))=y::ids (O.eraseIdx i):=by simp [ids,hx]
    rw [e1]
    exact ⟨by simp [Ne.symm hyb,g1],List.nodup_cons.2 ⟨hy2,g2⟩⟩
theorem St.shutM {w0 w:World} {h0:View} {M:List Nat} {O:List OE} {F Φ:View→Prop} {i b:Nat} {C:Option Obj→Prop} (hS:St w0 h0 M w O F) (hi:O[i]?=some (some b,C)) (hbM:b ∉ M) (hm:Mono Φ) (h:∀ hh o,VLe h0 hh→F hh→hh b=some o→C (some o)→Φ hh) :
  St w0 h0 M w (O.eraseIdx i) λ h=>F h∧Φ h:=by
 have hC:=hS.at hi
 have hbO:b∈ids O:=List.mem_filterMap.2 ⟨_,List.mem_of_getElem? hi,rfl⟩
 have hsub:∀ e,e∈O.eraseIdx i→e∈O:=λ e he=>List.mem_of_mem_eraseIdx he
 obtain ⟨g1,g2⟩:=ids_eraseM hi hS.nd
 have hsubI:∀ c,c∈ids (O.eraseIdx i)→c∈ids O:=λ c hc=>by
  obtain ⟨e,he,he1⟩:=List.mem_filterMap.1 hc
  exact List.mem_filterMap.2 ⟨e,hsub e he,he1⟩
 have hle:=cv_le (I:=ids O) (I':=ids (O.eraseIdx i)) (J:=[]) w0.heap.size h0 (Keep.refl [] w) (by simp) (λ c hc => .inl (hsubI c hc)) hS.keep.size
 have hF:F (cv w0.heap.size h0 (ids (O.eraseIdx i)) w):=hS.mono _ _ hle hS.facts
 refine ⟨hS.keep,hS.vw,λ e he=>hS.own e (hsub e he),λ c hc=>hS.fresh c (hsubI c hc),g2,hS.mono.and hm,hF,?_⟩
 have hfr:=(hS.fresh b hbO)
 have hge:w0.heap.size≤b:=hfr.1.resolve_right hbM
 obtain ⟨o,ho⟩:∃ o,w.heap[b]?=some o:=⟨_,Array.getElem?_eq_getElem hfr.2⟩
 refine h _ o (hS.base_cv.trans hle) hF ?_ (by rw [← ho]; exact hC)
 unfold cv
 rw [if_neg g1,if_neg (by omega)]
 exact ho
section shut
variable {c:Cx} {k b T:Nat} {cs:List Value} {B:BL} {F Φ:FV} {L:SL}
def NoM (c:Cx) (B:BL) (k:Nat):Prop:=c.M=[]∨∃ b0 T0 cs0 k0,c.M=[b0]∧k≠k0∧lkA B k0=some (.c b0 T0 cs0)
theorem shut_sx (hB:lkA B k=some (.c b T cs)) (hM:NoM c B k) (hm:Mono Φ) (hΦ:∀ hh,VLe c.h0 hh→F hh→hh b=some (.cells cs.toArray T (0,0))→Φ hh) {X:BL→Prop} (h:delE B k X) :
  ∃ B',X B'∧(∀ t,kv (unL k b L) [] B' t=kv L [] B t)∧∀ w,Sx c B F w→Sx c B' (λ h=>F h∧Φ h) w:=by
 obtain ⟨B',i,h1,h2,h3,h4,h5⟩:=delC_sound hB h
 refine ⟨B',h1,unL_kv hB h4,λ w hS=>⟨?_,hS.bk.sub h5 λ v h=>h.1⟩⟩
 rw [h3]
 refine hS.st.shutM h2 ?_ hm λ hh o hv hF hb hC=>hΦ hh hv hF (by rw [hb]; exact hC)
 rcases hM with hM | ⟨b0,T0,cs0,k0,hM,hne,hk0⟩
 ·rw [hM]; simp
 ·rw [hM]
  intro hmem
  have e:b=b0:=by simpa using hmem
  subst e
  exact two_ids hB hk0 hne hS.st.nd
theorem shutC {co:Code} {kn:KN} {kx:Nat→KN} {kr:KN} (k:Nat) (hΦ:∀ hh,VLe c.h0 hh→F hh→hh b=some (.cells cs.toArray T (0,0))→Φ hh) (h:delE B k λ B'=>CP c co (unL k b L) B' (λ h=>F h∧Φ h) kn kx kr)
  (hm:Mono Φ) (hB:lkA B k=some (.c b T cs):=by rfl) (hM:NoM c B k:=by exact .inl rfl):CP c co L B F kn kx kr:=by
 obtain ⟨B',h1,h2,h3⟩:=shut_sx (L:=L) hB hM hm hΦ h
 exact ⟨λ Q a w hn hx hr hp hD hS=>h1.run Q a w hn hx hr hp ⟨Fr.of_kv hD.fr.df hD.fr.sz λ t v hv=>hD.fr.kv (by rw [h2] at hv; exact hv),inv_nil⟩ (h3 w hS)⟩
theorem shutW {al r:List Oper} {K:KR} (k:Nat) (hΦ:∀ hh,VLe c.h0 hh→F hh→hh b=some (.cells cs.toArray T (0,0))→Φ hh) (h:delE B k λ B'=>WP c al r (unL k b L) [] B' (λ h=>F h∧Φ h) K)
  (hm:Mono Φ) (hB:lkA B k=some (.c b T cs):=by rfl) (hM:NoM c B k:=by exact .inl rfl):WP c al r L [] B F K:=by
 obtain ⟨B',h1,h2,h3⟩:=shut_sx (L:=L) hB hM hm hΦ h
 exact ⟨λ Q a w hn hp hD hS=>h1.run Q a w hn hp ⟨Fr.of_kv hD.fr.df hD.fr.sz λ t v hv=>hD.fr.kv (by rw [h2] at hv; exact hv),inv_nil⟩ (h3 w hS)⟩
theorem row_sl {α:Type} {g:α→List Value} {l:List α} {sz n cp:Nat} (hcs:cs=(l.map g).flatten) (hg:∀ x∈l,(g x).length=sz:=by intros; rfl) (hn:n=l.length:=by rfl) (hc:n≤cp:=by decide) (hm:cp≤maxLen:=by decide) :
  ∀ hh:View,VLe c.h0 hh→F hh→hh b=some (.cells cs.toArray T (0,0))→SlC T sz (flatR g) hh (.slice (some ⟨b,0,none⟩) n cp) l:=by
 intro hh _ _ hb
 refine SlC.ofRow (arr:=cs.toArray) (fz:=(0,0)) hg hb hn hc hm ?_
 subst hn
 show (cs.drop 0).take (l.length*sz)=(l.map g).flatten
 rw [List.drop_zero,← hcs]
 refine List.take_of_length_le ?_
 rw [hcs]
 clear hcs hc hm hb
 induction l with
 | nil=>simp
 | cons x l ih =>
  rw [List.map_cons,List.flatten_cons,List.length_append,hg x (by simp),List.length_cons,Nat.succ_mul]
  have:=ih λ y hy=>hg y (by simp [hy])
  omega
end shut
section iter
variable {c:Cx} (hT:c.T.Ok c.P)
include hT
theorem rgS {al r:List Oper} {K:KR} {d t:Nat} {x:Operand} {ty:TypeId} {pos:String} {af:Array Edge} {L:SL} {B:BL} {F:FV} {s:List UInt8} (kb:Nat)
  (k:∀ b:Nat,runs c al true K r ((d,.v (.pointer (some ⟨b,0,none⟩)))::L) [] ((kb,.e (some b,IterC s 0))::B) F) (ht:c.P.underlying t=some .string:=by kernel_rfl) (hx:rdS L [] none x=some (.v (vs s)):=by rfl) (hk:lkA B kb=none:=by rfl) (hd:Nat.blt d c.n=true:=by rfl) :
  true=true∧WP c al (⟨some d,.range t x,ty,pos,af,none⟩::r) L [] B F K:=by
 refine ⟨rfl,⟨λ Q a w hn hp hD hS=>s_range hD.fr hS.st ht (rdS_ev inv_nil (cx:=none) (og:=none) rfl yes_none hx rfl) hd λ b w' a' hS' hF'=>?_⟩⟩
 have hdv:=nil_dv (B:=B) hk (some b,IterC s 0)
 refine (runs_sound hT r _ _ _ _ (k b) inv_nil).run Q a' w' hn hp ⟨?_,inv_nil⟩ ⟨hS',λ q g b' o cs hq=>?_⟩
 ·rw [fl_congr hdv]; exact hF'
 ·rcases List.mem_cons.1 hq with hq | hq
  ·cases hq
  ·exact hS.bk _ _ _ _ _ hq
theorem nxS {al r:List Oper} {K:KR} {d b p:Nat} {x:Operand} {ty:TypeId} {pos:String} {af:Array Edge} {L:SL} {B:BL} {F:FV} {s:List UInt8} (kb:Nat)
  (k1:p<s.length→setAK B kb (.e (some b,IterC s (p+(Utf8.decode ⟨s.toArray⟩ p).2))) λ B'=>runs c al true K r ((d,.v (.tuple #[.bool true,.int .i64 p,.int .i32 (Utf8.decode ⟨s.toArray⟩ p).1]))::L) [] B' F)
  (k2:¬ p<s.length→runs c al true K r ((d,.v (.tuple #[.bool false]))::L) [] B F) (hB:lkA B kb=some (.e (some b,IterC s p)):=by rfl) (hx:rdS L [] none x=some (.v (.pointer (some ⟨b,0,none⟩))):=by rfl) (hd:Nat.blt d c.n=true:=by rfl) :
  true=true∧WP c al (⟨some d,.next x true,ty,pos,af,none⟩::r) L [] B F K:=by
 obtain ⟨i,hi,hset⟩:=lkE_ix hB
 refine ⟨rfl,⟨λ Q a w hn hp hD hS=>s_next hD.fr hS.st hi (rdS_ev inv_nil (cx:=none) (og:=none) rfl yes_none hx rfl) hd (λ hlt w' a' hS' hF'=>?_) (λ hlt a' hF'=>?_)⟩⟩
 ·obtain ⟨B',h1,h3,h4,h5⟩:=hset (k1 hlt)
  have hdv:=dvO_setE hB h4
  refine (runs_sound hT r _ _ _ _ h1 inv_nil).run Q a' w' hn hp ⟨?_,inv_nil⟩ ⟨by rw [h3]; exact hS',λ q g b o cs hq=>?_⟩
  ·rw [fl_congr hdv]; exact hF'
  ·rcases h5 _ hq with hq | hq
   ·exact hS.bk _ _ _ _ _ hq
   ·cases hq
 ·exact (runs_sound hT r _ _ _ _ (k2 hlt) inv_nil).run Q a' w hn hp ⟨hF',inv_nil⟩ hS
end iter
theorem entA {α:Type} {g:α→Value} {Φ:α→FV} {P:Program} {T:Tab} (hT:T.Ok P) {f:FuncId} {fn:Func} {code:Code} {args:List Value} {w0:World} {h0:View} {rs:List ResultVar} {n:Nat} (stop cut:List Nat)
  (hf:P.funcs[f]?=some fn) (hb:fn.body=some code) (hn:fn.ntmps=n) (hle:Nat.ble args.length n=true) (hr:fn.results=rs.toArray) (hv:VLe h0 (Full w0)) (hm:∀ x,Mono (Φ x))
  (h:vcC ⟨P,T,.wp,n,w0,h0,[],λ _=>False,stop,cut⟩ code (argS args 0) [] (λ _=>True) (λ L B F=>resK T L B rs λ vs=>∃ x,tupV vs=g x∧∀ v,VLe h0 v→F v→Φ x v) (λ _ _ _ _=>False)
   (λ L B F=>resK T L B rs λ vs=>∃ x,tupV vs=g x∧∀ v,VLe h0 v→F v→Φ x v)):Calls P f args.toArray w0 (Ret w0 h0 λ u hh=>∃ x,u=g x∧Φ x hh):=by
 have:=entG (E:=λ B F vs=>∃ x,tupV vs=g x∧∀ v,VLe h0 v→F v→Φ x v) (R:=Ret w0 h0 λ u hh=>∃ x,u=g x∧Φ x hh) (h0:=h0) (kp:=λ _=>False) hT stop cut [] (args.map .v) [] hf hb hn (by simpa using hle) hr
  (λ c w h _=>h.elim) (sx_nil hv rfl) (λ B F vs w ⟨x,e,hq⟩ hS=>⟨_,rfl,hS.st.keep,x,e,hm _ _ _ (λ k o hk=>by
   unfold cv at hk
   unfold nv
   split at hk
   ·cases hk
   ·exact hk) (hq _ hS.st.base_cv hS.st.facts)⟩) (by rw [← argS_V]; exact h)
 rw [List.map_map] at this
 have e:(dv [] ∘ SV.v)=id:=by funext x; rfl
 rwa [e,List.map_id] at this
section callA
variable {c:Cx} (hT:c.T.Ok c.P)
include hT
theorem cA {α:Type} {g:α→Value} {Φ:α→FV} {al:List Oper} {K:KR} {d f:Nat} {args:List Operand} {ats:Array TypeId} {ty:TypeId} {pos:String} {af:Array Edge} {rest:List Oper} {L:SL} {B:BL} {F:FV} {vsl:List Value} {Kv:SV→Prop}
  (H:∀ w v,VLe c.h0 v→F v→VLe v (Full w)→Calls c.P f vsl.toArray w (Ret w v λ u hh=>∃ x,u=g x∧Φ x hh)) (hm:∀ x,Mono (Φ x))
  (k:∀ x,runs c al true K rest ((d,.v (g x))::L) [] B (λ h=>F h∧Φ x h))
  (hf:memF c.T.fs f=true:=by rfl) (hv:argK (rdS L [] none) B args λ l=>l=vsl:=by exact rfl) (hd:Nat.blt d c.n=true:=by rfl) :
  CallG c true none B F f vsl Kv (WP c al (⟨some d,.call ⟨.value (.func f),⟨args⟩,ats⟩,ty,pos,af,none⟩::rest) L [] B F K):=by
 refine .w rfl (w_call hT (Ψ:=λ v w w'=>Keep [] w w'∧∃ x,v=g x∧Φ x (nv (cv c.w0.heap.size c.h0 (ids (oes B)) w) w w')) rfl hf hv (λ w hS=>(H w _ hS.st.base_cv hS.st.facts hS.st.view).mono ?_) ?_ inv_nil)
 ·rintro e w' ⟨v,rfl,hk,hu⟩; exact ⟨v,rfl,hk,hu⟩
 ·rintro v w w' hS ⟨hk,x,rfl,hΨ⟩
  exact ⟨_,_,B,_,k x,inv_nil,hS.add hk (hm x) hΨ,hd,some (g x),kv_put,λ u hu=>(Option.some.inj hu).symm⟩
theorem shutG {k b T:Nat} {cs:List Value} {B:BL} {F Φ:FV} {L:SL} {al:List Oper} {K:KR} {d:Nat} {op:Op} {ty:TypeId} {pos:String} {af:Array Edge} {r:List Oper} (kk:Nat) (hkk:kk=k) (hΦ:∀ hh,VLe c.h0 hh→F hh→hh b=some (.cells cs.toArray T (0,0))→Φ hh)
  (h:delE B k λ B'=>stepB c true (some d) op (unL k b L) [] B' (λ h=>F h∧Φ h) (λ L I B F=>runs c al true K r L I B F) (WP c al (⟨some d,op,ty,pos,af,none⟩::r) (unL k b L) [] B' (λ h=>F h∧Φ h) K))
  (hm:Mono Φ) (hB:lkA B k=some (.c b T cs):=by rfl) (hM:NoM c B k:=by exact .inl rfl):true=true∧WP c al (⟨some d,op,ty,pos,af,none⟩::r) L [] B F K:=by
 refine ⟨rfl,shutW k hΦ ?_ hm hB hM⟩
 have hmono:∀ {B:BL} {k:Nat} {X Y:BL→Prop},(∀ B,X B→Y B)→delE B k X→delE B k Y:=by
  intro B
  induction B with
  | nil=>intro k X Y _ h; exact h.elim
  | cons p r ih =>
   intro k X Y hxy h
   obtain ⟨q,o⟩:=p
   unfold delE at h ⊢
   by_cases hq:q=k
   ·subst hq
    simp only [Nat.beq_refl,cond_true] at h ⊢
    split at h
    ·exact hxy _ h
    ·exact h.elim
   ·simp only [beq_ne hq,cond_false] at h ⊢
    exact ih (λ B h=>hxy _ h) h
 exact hmono (λ B' h=>stepB_sound hT inv_nil (λ L I B F hx hI=>runs_sound hT _ _ _ _ _ hx hI) h) h
end callA
end Go.Dx
namespace Go.Dx
open Go Go.RowKit
def vcD (c:Cx) (W:SL→BL→FV→Code→Prop):Nat→Code→SL→BL→FV→(Nat→KN)→KN→Prop
 | 0,code,L,B,F,_,_=>W L B F code
 | n+1,.seq a b,L,B,F,kx,kr=>vcC c a L B F (λ L B F=>vcD c W n b L B F kx kr) kx kr
 | _+1,_,_,_,_,_,_=>False
theorem vcD_sound {c:Cx} (hT:c.T.Ok c.P) {W:SL→BL→FV→Code→Prop} {kx:Nat→KN} {kr:KN} {Q:Exit→Act→World→Prop} (hW:∀ L B F code a w,W L B F code→Dn c L [] B a→Sx c B F w→codeM c.md c.P code Q a w)
  (hx:XOk c kx Q) (hr:NmOk c kr (Q .ret)) (hp:PanOk c Q):∀ (n:Nat) (code:Code) (L:SL) (B:BL) (F:FV),vcD c W n code L B F kx kr→∀ a w,Dn c L [] B a→Sx c B F w→codeM c.md c.P code Q a w
 | 0,code,L,B,F,h,a,w,hD,hS=>hW L B F code a w h hD hS
 | n+1,code,L,B,F,h,a,w,hD,hS=>by
  cases code with
  | seq x y =>
   refine c_seq ((vcC_sound hT x L B F _ kx kr h).run (Exit.then (codeM c.md c.P y Q) Q) a w ?_ ?_ ?_ ?_ hD hS)
   ·exact λ L' B' F' a' w' h' hD' hS'=>vcD_sound hT hW hx hr hp n y L' B' F' h' a' w' hD' hS'
   ·exact ⟨hx.ex,hx.go⟩
   ·exact hr
   ·exact hp
  | _=>exact h.elim
theorem entD {P:Program} {T:Tab} (hT:T.Ok P) {f:FuncId} {fn:Func} {code:Code} {args:List Value} {w0:World} {h0:View} {rs:List ResultVar} {n:Nat} {R:Ending→World→Prop} {E:BL→FV→List Value→Prop} (stop cut:List Nat) (m:Nat)
  (hf:P.funcs[f]?=some fn) (hb:fn.body=some code) (hn:fn.ntmps=n) (hle:Nat.ble args.length n=true) (hr:fn.results=rs.toArray) (hv:VLe h0 (Full w0))
  (hE:∀ B F vs w,E B F vs→Sx ⟨P,T,.wp,n,w0,h0,[],λ _=>False,stop,cut⟩ B F w→R (.returned (tupV vs)) w)
  (h:vcD ⟨P,T,.wp,n,w0,h0,[],λ _=>False,stop,cut⟩ (λ L B F code=>∀ a w,Dn ⟨P,T,.wp,n,w0,h0,[],λ _=>False,stop,cut⟩ L [] B a→Sx ⟨P,T,.wp,n,w0,h0,[],λ _=>False,stop,cut⟩ B F w→codeM .wp P code (bodyPostD P fn R) a w) m code (argS args 0) [] (λ _=>True) (λ _ _ _ _=>False)
   (λ L B F=>resK T L B rs (E B F))):Calls P f args.toArray w0 R:=by
 have hle':args.length≤n:=Nat.le_of_ble_eq_true hle
 refine calls_of_wp_defers hf hb ?_
 generalize hac:({ tmps:=args.toArray++Array.replicate (fn.ntmps - args.toArray.size) undef,defers:=[] }:Act)=ac
 have hF:Fr ac n (argL args 0):=by
  subst hac
  refine ⟨rfl,?_,λ i v hi=>?_⟩
  ·simp only [hn,Array.size_append,List.size_toArray,Array.size_replicate]; omega
  ·obtain ⟨j,rfl,hj⟩:=lk_argL args 0 i v hi
   have hlt:j<args.length:=(List.getElem?_eq_some_iff.1 hj).1
   simp only [Nat.zero_add]
   simp [Array.getElem?_append,hlt]
   have:=List.getElem?_eq_some_iff.1 hj
   exact this.2
 refine vcD_sound (c:=⟨P,T,.wp,n,w0,h0,[],λ _=>False,stop,cut⟩) hT (Q:=bodyPostD P fn R) (λ L B F code a w hW hD hS=>hW a w hD hS) ⟨λ _ _ _ _ _ _ _ h=>h.elim,λ _ _ _ _ _ _ h=>h.elim⟩ ?_ (λ ch a w hk _ _=>hk.elim) m code _ _ _ h ac w0 ⟨Fr.of_kv hF.df hF.sz λ t v hv=>?_,inv_nil⟩ ⟨St.init w0 h0 hv,λ k g b o cs hk=>by cases hk⟩
 ·intro L B F a w hk hD hS
  obtain ⟨vs,h1,h2⟩:=resK_sound (c:=⟨P,T,.wp,n,w0,h0,[],λ _=>False,stop,cut⟩) hT hD hS.wok hk
  obtain ⟨_,v,hv1,hv2⟩:=f_ret (R:=R) hD.fr hr h2 (hE _ _ _ _ h1 hS)
  show Leaves P fn a.tmps R a.defers .returning w
  rw [hD.fr.df]
  exact ⟨v,hv1,hv2⟩
 ·have e:argS args 0=argV (args.map .v) 0:=argS_V args 0
  rw [e] at hv
  have:=argV_kv (args.map .v) 0 t v hv
  rw [List.map_map] at this
  have e2:(dv [] ∘ SV.v)=id:=by funext x; rfl
  rw [e2,List.map_id] at this
  exact hF.at_ t v this
theorem w_defer {P:Program} {al:Array Oper} {Q:Exit→Act→World→Prop} {x:Operand} {fn:Fn} {first cap:Array Value} {ats:Array TypeId} {ty:TypeId} {pos:String} {af:Array Edge} {a:Act} {w:World} (he:a.eval x = .func fn first cap)
  (h:Q .normal { a with defers:=⟨.fn fn cap,first⟩::a.defers } w):wpM .wp P al Q [⟨none,.defer ⟨.value x,#[],ats⟩,ty,pos,af,none⟩] a w:=by
 refine wpM_plain rfl λ K' hK=>?_
 show Oper.wp P _ a w K' Q
 unfold Oper.wp
 have:(execOp a.eval ⟨none,.defer ⟨.value x,#[],ats⟩,ty,pos,af,none⟩).run P w = .ok (.defer ⟨.fn fn cap,first⟩) w:=by
  simp only [execOp,resolve,he,Deferred.ofValue,Sem.run_bind,Sem.run_pure,Result.andThen_ok,List.map_toArray,List.map_nil,Array.append_empty]
 rw [this,Oper.upon_defer]
 exact hK _ _ (c_nil h)
theorem wpList_cat {P:Program} {ops:Array Oper} {Q:Exit→Act→World→Prop} {r:List Oper}:∀ (p:List Oper) (a:Act) (w:World),wpList P ops (Exit.then (wpList P ops Q r) Q) p a w→wpList P ops Q (p++r) a w
 | [],a,w,h=>h
 | o::p,a,w,h=>by
  have ih:=λ a w=>wpList_cat (P:=P) (ops:=ops) (Q:=Q) (r:=r) p a w
  rw [List.cons_append]
  unfold wpList at h ⊢
  split
  ·rename_i hw
   rw [if_pos hw] at h
   rcases h with h | ⟨h1,h2⟩
   ·refine .inl ?_
    unfold Oper.wp at h ⊢
    generalize (execOp a.eval o).run P w=x at h ⊢
    cases x with
    | ok nx w' =>
     cases nx with
     | enter f args =>
      simp only [Oper.upon] at h ⊢
      refine h.mono λ e w'' hh=>?_
      cases e with
      | returned v=>exact ih _ _ hh
      | panicked ch=>exact hh
      | outgrown=>exact hh
     | row q args=>simp only [Oper.upon] at h ⊢; exact h.mono λ v w'' hh=>ih _ _ hh
     | value v=>exact ih _ _ h
     | skip=>exact ih _ _ h
     | defer d=>exact ih _ _ h
     | _=>simp only [Oper.upon] at h
    | halt x w' =>
     cases x <;> simp only [Oper.upon] at h ⊢
     exact h
   ·exact .inr ⟨h1,h2⟩
  ·rename_i hw
   rw [if_neg hw] at h
   exact ih _ _ h
theorem wpList_op {P:Program} {ops:Array Oper} {Q:Exit→Act→World→Prop} {o:Oper} {r:List Oper} {a:Act} {w:World} (hg:o.guard=none) (h:o.wp P a w (wpList P ops Q r) Q):wpList P ops Q (o::r) a w:=by
 unfold wpList
 rw [if_pos (by simp only [Region.wanted,hg])]
 exact .inl h
theorem w_mkdefer {P:Program} {al:Array Oper} {Q:Exit→Act→World→Prop} {fn:Fn} {caps:List Operand} {vsl:List Value} {d n:Nat} {ty ty2:TypeId} {pos pos2:String} {af af2:Array Edge} {ats:Array TypeId} {a:Act} {w:World} (he:caps.map a.eval=vsl) (hs:a.tmps.size=n) (hd:Nat.blt d n=true)
  (h:Q .normal (⟨(a.put (some d) (.func fn #[] vsl.toArray)).tmps,⟨.fn fn vsl.toArray,#[]⟩::a.defers⟩:Act) w) :
  wpM .wp P al Q [⟨some d,.makeFunc fn ⟨[]⟩ ⟨caps⟩,ty,pos,af,none⟩,⟨none,.defer ⟨.value (.tmp d),⟨[]⟩,ats⟩,ty2,pos2,af2,none⟩] a w:=by
 refine wpList_op rfl ?_
 unfold Oper.wp
 have:(execOp a.eval ⟨some d,.makeFunc fn ⟨[]⟩ ⟨caps⟩,ty,pos,af,none⟩).run P w = .ok (.value (.func fn #[] vsl.toArray)) w:=by
  simp only [execOp,Instr.makeFunc,Sem.run_bind,Sem.run_pure,Result.andThen_ok,List.map_toArray,List.map_nil,he]
 rw [this]
 show wpList P al Q _ (a.put (some d) (.func fn #[] vsl.toArray)) w
 refine w_defer (fn:=fn) (first:=#[]) (cap:=vsl.toArray) ?_ ?_
 ·have:=put_at (v := .func fn #[] vsl.toArray) hs hd d
  rw [if_pos rfl] at this
  exact this
 ·exact h
theorem Dn.part {c:Cx} {L L0:SL} {B:BL} {a:Act} {d:Nat} {v:Value} (hD:Dn c L [] B a) (hd:Nat.blt d c.n=true) (h:L0.map (λ p=>(kv L [] B p.1,Nat.beq p.1 d))=L0.map (λ p=>(dvO B p.2,false))):Dn c L0 [] B (a.put (some d) v):=by
 refine ⟨Fr.of_kv hD.fr.df (by show (a.tmps.setIfInBounds d v).size=_; rw [Array.size_setIfInBounds]; exact hD.fr.sz) λ t u hu=>?_,inv_nil⟩
 unfold kv at hu
 simp only [lkA] at hu
 cases hl:lkA L0 t with
 | none=>rw [hl] at hu; cases hu
 | some s =>
  rw [hl] at hu
  have:=map_eq_mem h _ (lkA_mem hl)
  simp only [Prod.mk.injEq] at this
  rw [put_at hD.fr.sz hd]
  rw [if_neg (λ e=>by subst e; simp at this)]
  exact hD.fr.kv (this.1.trans hu)
theorem run_invoke {P:Program} {f:FuncId} (hc:CallOk P f) (cap args:Array Value) (w:World):(invoke (.fn (.func f) cap) args).run P w = .ok (.enter f (args++cap)) w:=by
 simp only [invoke]
 exact run_call hc
theorem runs_wp {c:Cx} (hT:c.T.Ok c.P) {l p:List Oper} {K:KR} {L:SL} {B:BL} {F:FV} {Q:Exit→Act→World→Prop} {a:Act} {w:World} (h:runs c l true K p L [] B F) (hn:NormOk c K Q) (hp:PanOk c Q) (hD:Dn c L [] B a) (hS:Sx c B F w) (hmd:c.md = .wp:=by rfl) :
  wpList c.P ⟨l⟩ Q p a w:=by
 have:=(runs_sound hT p L [] B F h inv_nil).run Q a w hn hp hD hS
 rw [hmd] at this
 exact this
theorem wpList_at {P:Program} {ops:Array Oper} {Q:Exit→Act→World→Prop} {l:List Oper} {a:Act} {w:World} (k:Nat) (h:wpList P ops (Exit.then (wpList P ops Q (l.drop k)) Q) (l.take k) a w):wpList P ops Q l a w:=by
 have:=wpList_cat (r:=l.drop k) (l.take k) a w h
 rwa [List.take_append_drop] at this
end Go.Dx
namespace Go.Dx
open Go Go.RowKit
section sto
variable {c:Cx} (hT:c.T.Ok c.P)
include hT
end sto
end Go.Dx
namespace Go.Dx
open Go Go.RowKit
section two
variable {P:Program} {ops:Array Oper} {Qf:SP→(Nat→VP)→Prop} {rest:List Oper} {Γ:Nat→VP} {L:FL} {w w0:World} {h0:View} {M:List Nat} {O:List OE} {F:View→Prop} {ty t t2 T e:TypeId} {pos:String} {af:Array Edge}
section gen
variable {R:World→World→Prop} [hR:Rel R]
end gen
end two
inductive Hold (L:SL):Prop where
 | mk:Hold L
section hand
variable {c:Cx} (hT:c.T.Ok c.P)
include hT
end hand
end Go.Dx
namespace Go.Dx
open Go Go.RowKit
section cv
variable {c:Cx} (hT:c.T.Ok c.P)
include hT
end cv
end Go.Dx
namespace Go.Dx
open Go Go.RowKit
def Closed (ops:Array Oper) (listed:Array Bool):Prop:=∀ j oj,ops[j]?=some oj→listed.getD j false=true→∀ e∈oj.after,Region.binds .any e=true→listed.getD e.on false=true
def depB (ops:Array Oper):Nat→Nat→Nat→Bool
 | 0,_,_=>false
 | f+1,j,i=>match ops[j]? with
  | some o=>o.after.any λ e=>Region.binds .any e&&(Nat.beq e.on i||depB ops f e.on i)
  | none=>false
theorem depB_listed {ops:Array Oper} {listed:Array Bool} (hc:Closed ops listed):∀ (f j i:Nat) (oj:Oper),ops[j]?=some oj→(∀ e∈oj.after,Region.binds .any e=true→listed.getD e.on false=true)→depB ops f j i=true→listed.getD i false=true
 | 0,j,i,oj,_,_,h=>by simp [depB] at h
 | f+1,j,i,oj,ho,he,h=>by
  unfold depB at h
  rw [ho] at h
  obtain ⟨e,hm,hb⟩:=Array.any_eq_true'.1 h
  simp only [Bool.and_eq_true,Bool.or_eq_true] at hb
  have hl:=he e hm hb.1
  rcases hb.2 with h1 | h1
  ·rw [← Nat.eq_of_beq_eq_true h1]; exact hl
  ·cases hoe:ops[e.on]? with
   | none=>cases f <;> simp [depB,hoe] at h1
   | some o2=>exact depB_listed hc f e.on i o2 hoe (hc e.on o2 hoe hl) h1
theorem Closed.set {ops:Array Oper} {listed:Array Bool} {i:Nat} (hc:Closed ops listed) (hi:i∈Region.ready .any ops listed):Closed ops (listed.setIfInBounds i true):=by
 have mono:∀ k,listed.getD k false=true→(listed.setIfInBounds i true).getD k false=true:=λ k h=>by
  by_cases hk:i=k
  ·subst hk
   have:i<listed.size:=by
    rcases Nat.lt_or_ge i listed.size with h' | h'
    ·exact h'
    ·simp [Array.getElem?_eq_none h'] at h
   simp [this]
  ·simpa [Array.getElem?_setIfInBounds_ne hk] using h
 intro j oj hj hl e he hb
 by_cases hk:i=j
 ·subst hk
  obtain ⟨_,o,ho,hall⟩:=mem_ready.1 hi
  rw [hj] at ho; cases ho
  exact mono _ (hall e he hb)
 ·refine mono _ (hc j oj hj ?_ e he hb)
  simpa [Array.getElem?_setIfInBounds_ne hk] using hl
section anyS
variable {P:Program} {ops:Array Oper} {Q:Exit→Act→World→Prop} {S:World→Prop} {nd:Nat→Bool}
def wpAnyS (P:Program) (ops:Array Oper) (Q:Exit→Act→World→Prop) (nd:Nat→Bool) (S:World→Prop):Nat→Array Bool→Act→World→Prop
 | 0,listed,a,w=>Region.ready .any ops listed=[]∧Q .normal a w
 | f+1,listed,a,w=>(Region.ready .any ops listed=[]→Q .normal a w)∧∀ i∈Region.ready .any ops listed,wpOp P ops Q i (λ a' w'=>(nd i=true→S w')∧wpAnyS P ops Q nd S f (listed.setIfInBounds i true) a' w') a w
theorem wpAny_of_S:∀ (f:Nat) (listed:Array Bool) (a:Act) (w:World),wpAnyS P ops Q nd S f listed a w→wpAny P .any ops Q f listed a w
 | 0,_,_,_,h=>h
 | f+1,_,_,_,h=>⟨h.1,λ i hi=>wpOp_mono (λ a' w' h'=>wpAny_of_S f _ a' w' h'.2) (h.2 i hi)⟩
theorem getD_set_ne' {listed:Array Bool} {i j:Nat} (b:Bool) (h:i≠j):(listed.setIfInBounds i true).getD j b=listed.getD j b:=by
 simp [Array.getElem?_setIfInBounds_ne h]
theorem wpAnyS_first {i:Nat} {oi:Oper} {v:Value} (hi:ops[i]?=some oi) (hsel:Region.noSelect ops=true) (hQ:∀ c a w,Q (.panic c) (a.put oi.dst v) w→Q (.panic c) a w)
  (hnd:∀ j,nd j=false→j≠i→∃ f,depB ops f j i=true):∀ (f:Nat) (listed:Array Bool) (a:Act) (w:World),Closed ops listed →
   (∀ j oj,ops[j]?=some oj→j≠i→listed.getD j true=false→(∀ e∈oj.after,Region.binds .any e=true→e.on≠i)→oi.apart ops oj=true) →
   i∈Region.ready .any ops listed→YieldsIf P ops S oi v a→S w→wpAnyS P ops Q nd S f (listed.setIfInBounds i true) (a.put oi.dst v) w→wpAnyS P ops Q nd S (f+1) listed a w:=by
 intro f
 induction f with
 | zero =>
  intro listed a w _ _ hr hy hS H
  refine ⟨λ h=>(by rw [h] at hr; cases hr),λ j hj=>?_⟩
  by_cases hji:j=i
  ·subst hji; exact hy.wpOp hi hS ⟨λ _=>hS,H⟩
  ·exfalso
   obtain ⟨h1,o,ho,hall⟩:=mem_ready.1 hj
   have:j∈Region.ready .any ops (listed.setIfInBounds i true):=mem_ready.2 ⟨by rw [getD_set_ne' true (Ne.symm hji)]; exact h1,o,ho,λ e he hb=>by
    have:=hall e he hb
    by_cases hk:i=e.on
    ·have h2:=(mem_ready.1 hr).1
     rw [hk] at h2
     rw [getD_both h2] at this; cases this
    ·rw [getD_set_ne' false hk]; exact this⟩
   rw [H.1] at this
   cases this
 | succ f ih =>
  intro listed a w hc hfree hr hy hS H
  refine ⟨λ h=>(by rw [h] at hr; cases hr),λ j hj=>?_⟩
  by_cases hji:j=i
  ·subst hji; exact hy.wpOp hi hS ⟨λ _=>hS,H⟩
  ·obtain ⟨hjun,oj,hoj,hall⟩:=mem_ready.1 hj
   have hiun:=(mem_ready.1 hr).1
   have hnot:∀ e∈oj.after,Region.binds .any e=true→e.on≠i:=λ e he hb heq=>by
    have h1:=hall e he hb
    rw [heq,getD_both hiun] at h1; cases h1
   have hjr:j∈Region.ready .any ops (listed.setIfInBounds i true):=mem_ready.2 ⟨by rw [getD_set_ne' true (Ne.symm hji)]; exact hjun,oj,hoj,λ e he hb=>by
    rw [getD_set_ne' false (Ne.symm (hnot e he hb))]; exact hall e he hb⟩
   have h1:=H.2 j hjr
   have h2:=wpOp_putIf hoj (hfree j oj hoj hji hjun hnot) (λ cs b=>Region.noSelect_spec hsel i oi cs b hi) (λ cs b=>Region.noSelect_spec hsel j oj cs b hoj) hQ hy h1
   have hSn:∀ w',(nd j=true→S w')→S w':=λ w' h=>by
    cases hn:nd j with
    | true=>exact h hn
    | false =>
     obtain ⟨f',hf'⟩:=hnd j hn hji
     have:=depB_listed hc f' j i oj hoj hall hf'
     rw [getD_both hiun] at this; cases this
   refine wpOp_mono (λ a' w' h3=>⟨h3.2.1,ih (listed.setIfInBounds j true) a' w' (hc.set hj) (λ k ok hk hki hun hno=>?_) ?_ h3.1 (hSn w' h3.2.1) ?_⟩) h2
   ·refine hfree k ok hk hki ?_ hno
    by_cases hjk:j=k
    ·subst hjk; exact hjun
    ·rw [getD_set_ne' true hjk] at hun; exact hun
   ·obtain ⟨h4,o,ho,hall2⟩:=mem_ready.1 hr
    refine mem_ready.2 ⟨by rw [getD_set_ne' true hji]; exact h4,o,ho,λ e he hb=>?_⟩
    by_cases hk:j=e.on
    ·have:=hall2 e he hb
     rw [← hk,getD_both hjun] at this; cases this
    ·rw [getD_set_ne' false hk]; exact hall2 e he hb
   ·rw [Array.setIfInBounds_comm _ _ hji]
    exact h3.2.2
end anyS
def chkM (ops:Array Oper):List Nat→Array Bool→(Array Bool→Bool)→Bool
 | [],listed,k=>k listed
 | i::r,listed,k=>(Region.ready .any ops listed).contains i&&Region.free .any ops listed i&&chkM ops r (listed.setIfInBounds i true) k
def chkR (ops:Array Oper):List Nat→Array Bool→Bool
 | [],listed=>(Region.ready .any ops listed).isEmpty
 | j::r,listed=>decide (Region.ready .any ops listed=[j])&&chkR ops r (listed.setIfInBounds j true)
def lastOf:List Nat→Nat→Nat
 | [],d=>d
 | [x],_=>x
 | _::r,d=>lastOf r d
def ndB (free:Bool) (rest:List Nat) (j:Nat):Bool := !(free&&Nat.beq j (lastOf rest 0))
def chkQ (l:List Oper) (mv rest:List Nat) (free:Bool):Bool :=
 Region.noSelect l.toArray&&(!free||mv.all λ i=>depB l.toArray l.length (lastOf rest 0) i)&&Nat.beq (mv.length+rest.length) l.length&&chkM l.toArray mv (Array.replicate l.length false) (chkR l.toArray rest)
def exB (ex:List Nat):BL→BL
 | []=>[]
 | (k,.c b T cs)::r=>(k,bif memF ex k then .k none b 0 [] else .c b T cs)::exB ex r
 | (k,.k g b o cs)::r=>(k,.k g b o cs)::exB ex r
 | (k,.e e)::r=>(k,.e e)::exB ex r
theorem exB_lk {ex:List Nat}:∀ (B:BL) (k:Nat),lkA (exB ex B) k=(lkA B k).map λ o=>match o with
  | .c b T cs=>bif memF ex k then .k none b 0 [] else .c b T cs
  | o=>o
 | [],k=>rfl
 | (k0,o0)::r,k=>by
  have ih:=exB_lk (ex:=ex) r k
  by_cases hk:k0=k
  ·subst hk
   cases o0 <;> simp only [exB,lkA_eq] <;> rfl
  ·cases o0 <;> simp only [exB,lkA_ne hk] <;> exact ih
theorem exB_dv {ex:List Nat} {B:BL} {s:SV} {v:Value} (h:dvO (exB ex B) s=some v):dvO B s=some v:=by
 cases s with
 | o k f =>
  simp only [dvO,exB_lk] at h ⊢
  cases hl:lkA B k with
  | none=>rw [hl] at h; cases h
  | some o =>
   rw [hl] at h
   cases o with
   | c b T cs =>
    simp only [Option.map_some] at h
    cases hm:memF ex k with
    | true=>rw [hm] at h; simpa using h
    | false=>rw [hm] at h; simpa using h
   | k g b o cs=>exact h
   | e e=>exact h
 | s k f n cp =>
  simp only [dvO,exB_lk] at h ⊢
  cases hl:lkA B k with
  | none=>rw [hl] at h; cases h
  | some o =>
   rw [hl] at h
   cases o with
   | c b T cs =>
    simp only [Option.map_some] at h
    cases hm:memF ex k with
    | true=>rw [hm] at h; simp at h
    | false=>rw [hm] at h; simpa using h
   | k g b o cs=>exact h
   | e e=>exact h
 | v x=>exact h
 | r e n cs=>exact h
 | u=>exact h
theorem exB_bok {h0:View} {F:FV} {ex:List Nat}:∀ {B:BL},BOk h0 F B→BOk h0 F (exB ex B)
 | [],h=>λ k g b o cs hm=>by cases hm
 | (k0,o0)::r,h=>by
  have hr:BOk h0 F r:=λ k g b o cs hm=>h k g b o cs (List.mem_cons_of_mem _ hm)
  have ih:=exB_bok (ex:=ex) hr
  intro k g b o cs hm
  cases o0 with
  | c b0 T0 cs0 =>
   rcases List.mem_cons.1 hm with e | hm
   ·cases hx:memF ex k0 with
    | true =>
     rw [hx] at e
     cases e
     exact λ v w _ _ _ j x hj=>by cases hj
    | false=>rw [hx] at e; cases e
   ·exact ih _ _ _ _ _ hm
  | k g0 b0 o0 cs0 =>
   rcases List.mem_cons.1 hm with e | hm
   ·cases e; exact h _ _ _ _ _ (List.mem_cons_self ..)
   ·exact ih _ _ _ _ _ hm
  | e e0 =>
   rcases List.mem_cons.1 hm with e | hm
   ·cases e
   ·exact ih _ _ _ _ _ hm
theorem exB_wok {h0:View} {F:FV} {ex:List Nat} {B:BL} {w:World} (h:WOk h0 F B w):WOk h0 F (exB ex B) w:=by
 refine ⟨h.vw,λ k b T cs hl=>?_⟩
 rw [exB_lk] at hl
 cases hl2:lkA B k with
 | none=>rw [hl2] at hl; cases hl
 | some o =>
  rw [hl2] at hl
  cases o with
  | c b0 T0 cs0 =>
   cases hm:memF ex k with
   | true=>simp [hm] at hl
   | false =>
    simp [hm] at hl
    obtain ⟨rfl,rfl,rfl⟩:=hl
    exact h.own k _ _ _ hl2
  | k g b o cs=>simp at hl
  | e e=>simp at hl
def mvK (c:Cx) (al:List Oper) (F:FV) (ex:List Nat):List Nat→SL→BL→(SL→BL→Prop)→Prop
 | [],L,B,K=>K L B
 | i::r,L,B,K=>match nthV al i with
  | some ⟨some d,op,_,_,_,none⟩=>match op with
   | .indexAddr t x y=>rd1 (rdS L [] none) x λ s=>rd1 (rdS L [] none) y λ s'=>ixG c F none (lkA c.T.tys t) s s' λ b o cs =>
     fresh d L [] B (bif Nat.blt d c.n then mvK c al F ex r ((d,.o d 0)::L) ((d,.k none b o cs)::B) K else False)
   | op=>bif isPure op&&Nat.blt d c.n then pv c.P c.T c.h0 F (exB ex B) none (rdS L [] none) (λ s=>hasN (exB ex B) s (mvK c al F ex r ((d,s)::L) B K)) op else False
  | _=>False
def keepsB (BS:BL) (F:FV) (B':BL) (F':FV):Prop:=(∀ h,F' h→F h)∧BS.map (λ p=>match p.2 with
 | .c b T cs=>lkA B' p.1
 | o=>some o)=BS.map λ p=>some p.2
def tlK (c:Cx) (al:List Oper) (nd:Nat→Bool) (BS:BL) (F0:FV):List Nat→SL→IL→BL→FV→KR→Prop
 | [],L,I,B,F,K=>K L I B F
 | j::r,L,I,B,F,K=>match nthV al j with
  | some o=>runs c al true (λ L I B F=>bif nd j then keepsB BS F0 B F∧tlK c al nd BS F0 r L I B F K else tlK c al nd BS F0 r L I B F K) [o] L I B F
  | none=>False
theorem kq {BS:BL} {F0 F:FV} {B:BL} {X:Prop} (h:X) (h1:∀ h,F h→F0 h:=by first | exact λ _ h=>h | exact λ _ h=>h.1 | exact λ _ h=>h.1.1 | exact λ _ h=>h.1.1.1) (h2:BS.map (λ p=>match p.2 with
 | .c b T cs=>lkA B p.1
 | o=>some o)=BS.map (λ p=>some p.2):=by rfl):keepsB BS F0 B F∧X:=⟨⟨h1,h2⟩,h⟩
theorem keepsB_wok {c:Cx} {BS:BL} {F0 F:FV} {B:BL} {w:World} (h:keepsB BS F0 B F) (hS:Sx c B F w) (hu:∀ k b T cs,lkA BS k=some (.c b T cs)→(k,OB.c b T cs)∈BS):WOk c.h0 F0 BS w:=by
 obtain ⟨v,h1,h2,h3⟩:=hS.wok.vw
 refine ⟨⟨v,h1,h.1 v h2,h3⟩,λ k b T cs hl=>?_⟩
 have:=map_eq_mem h.2 _ (hu k b T cs hl)
 exact hS.wok.own k b T cs this
section reg
variable {c:Cx} (hT:c.T.Ok c.P)
include hT
def panQ (c:Cx) (Q:Exit→Act→World→Prop):Exit→Act→World→Prop
 | .panic ch,a,w=>c.kp ch∧a.defers=[]∧Keep c.M c.w0 w
 | e,a,w=>Q e a w
omit hT in
theorem oper_wpQ {o:Oper} {a:Act} {w:World} {K:Act→World→Prop} {Q Q':Exit→Act→World→Prop} (hp:∀ ch a w,Q (.panic ch) a w→Q' (.panic ch) a w) (ho:LetsOut Q→LetsOut Q') (h:o.wp c.P a w K Q):o.wp c.P a w K Q':=by
 unfold Oper.wp at *
 generalize (execOp a.eval o).run c.P w=r at *
 cases r with
 | ok nx w' =>
  cases nx <;> simp only [Oper.upon] at h ⊢
  case value v=>exact h
  case skip=>exact h
  case defer d=>exact h
  case enter f args =>
   refine h.mono λ e w'' he=>?_
   cases e with
   | returned v=>exact he
   | panicked chain=>exact hp _ _ _ he
   | outgrown=>exact ho he
  case row q args=>exact h
 | halt x w' =>
  cases x <;> simp only [Oper.upon] at h ⊢
  exact hp _ _ _ h
theorem tl_sound {l:List Oper} {nd:Nat→Bool} {BS:BL} {F0:FV} {K:KR} {Q:Exit→Act→World→Prop} (hmd:c.md = .wp) (hn:NormOk c K Q) (hu:∀ k b T cs,lkA BS k=some (.c b T cs)→(k,OB.c b T cs)∈BS) :
  ∀ (rest:List Nat) (L:SL) (I:IL) (B:BL) (F:FV) (listed:Array Bool) (a:Act) (w:World),chkR l.toArray rest listed=true→tlK c l nd BS F0 rest L I B F K→Dn c L I B a→Sx c B F w→wpAnyS c.P l.toArray (panQ c Q) nd (WOk c.h0 F0 BS) rest.length listed a w
 | [],L,I,B,F,listed,a,w,hk,h,hD,hS=>⟨by simpa [chkR] using hk,hn L I B F a w h hD hS⟩
 | j::r,L,I,B,F,listed,a,w,hk,h,hD,hS=>by
  simp only [chkR,Bool.and_eq_true,decide_eq_true_eq] at hk
  unfold tlK at h
  split at h
  ·rename_i o ho
   have hrd:=hk.1
   have hoj:l.toArray[j]?=some o:=by rw [nthV_eq] at ho; simpa using ho
   refine ⟨λ h0=>(by rw [hrd] at h0; cases h0),λ i hi=>?_⟩
   rw [hrd] at hi
   obtain rfl:=List.mem_singleton.1 hi
   have ih:=λ L I B F a w=>tl_sound (nd:=nd) (F0:=F0) hmd hn hu r L I B F (listed.setIfInBounds i true) a w hk.2
   have hrun:=(runs_sound hT [o] L I B F h hD.inv).run (λ e a' w'=>match e with
    | .normal=>(nd i=true→WOk c.h0 F0 BS w')∧wpAnyS c.P l.toArray (panQ c Q) nd (WOk c.h0 F0 BS) r.length (listed.setIfInBounds i true) a' w'
    | e=>panQ c Q e a' w') a w (λ L' I' B' F' a' w' hk' hD' hS'=>by
     cases hnd:nd i with
     | true=>rw [hnd] at hk'; exact ⟨λ _=>keepsB_wok hk'.1 hS' hu,ih _ _ _ _ _ _ hk'.2 hD' hS'⟩
     | false=>rw [hnd] at hk'; exact ⟨λ e=>(by cases e),ih _ _ _ _ _ _ hk' hD' hS'⟩) (λ ch a w h1 h2 h3=>⟨h1,h2,h3⟩) hD hS
   rw [hmd] at hrun
   simp only [wpM,wpList] at hrun
   unfold wpOp
   rw [hoj]
   simp only
   split
   ·rename_i hw
    rw [if_pos hw] at hrun
    rcases hrun with hrun | ⟨h1,h2⟩
    ·exact .inl (oper_wpQ (λ _ _ _ h=>h) (λ ⟨a,w,h⟩=>⟨a,w,h⟩) hrun)
    ·exact .inr ⟨h1,let ⟨a,w,h⟩:=h2; ⟨a,w,h⟩⟩
   ·rename_i hw
    rw [if_neg hw] at hrun
    exact hrun
  ·exact h.elim
theorem mv_sound {l:List Oper} {nd:Nat→Bool} {ex:List Nat} {F:FV} {K:SL→BL→Prop} {Q:Exit→Act→World→Prop} {S:World→Prop} {k:Array Bool→Bool} {m:Nat} (hsel:Region.noSelect l.toArray=true) :
  ∀ (mv:List Nat) (L:SL) (B:BL) (listed:Array Bool) (a:Act) (w:World),chkM l.toArray mv listed k=true→(∀ i∈mv,∀ j,nd j=false→j≠i→∃ f,depB l.toArray f j i=true)→Closed l.toArray listed→(∀ w,S w→WOk c.h0 F (exB ex B) w)→S w →
   mvK c l F ex mv L B K→Dn c L [] B a→Sx c B F w →
   (∀ L' B' a' listed',K L' B'→k listed'=true→Dn c L' [] B' a'→Sx c B' F w→wpAnyS c.P l.toArray (panQ c Q) nd S m listed' a' w)→wpAnyS c.P l.toArray (panQ c Q) nd S (m+mv.length) listed a w
 | [],L,B,listed,a,w,hk,_,_,_,_,h,hD,hS,H=>H L B a listed h hk hD hS
 | i::r,L,B,listed,a,w,hk,hnd,hc,hSw,hw,h,hD,hS,H=>by
  simp only [chkM,Bool.and_eq_true] at hk
  obtain ⟨⟨hr,hfree⟩,hk⟩:=hk
  have hr:i∈Region.ready .any l.toArray listed:=by simpa using hr
  unfold mvK at h
  split at h
  ·rename_i d op ty pos af ho
   have hoi:l.toArray[i]?=some ⟨some d,op,ty,pos,af,none⟩:=by rw [nthV_eq] at ho; simpa using ho
   have go:∀ (v:Value) (L':SL) (B':BL),(∀ w,S w→Pu c.P (fl L [] B) ⟨some d,op,ty,pos,af,none⟩ w v)→Dn c L' [] B' (a.put (some d) v)→Sx c B' F w→(∀ w,S w→WOk c.h0 F (exB ex B') w)→mvK c l F ex r L' B' K →
     wpAnyS c.P l.toArray (panQ c Q) nd S (m+(r.length+1)) listed a w:=by
    intro v L' B' hpu hD' hS' hSw' h'
    refine wpAnyS_first (v:=v) hoi hsel (λ ch a w h=>⟨h.1,by rw [← put_df a (some d) v]; exact h.2.1,h.2.2⟩) (hnd i (List.mem_cons_self ..)) (m+r.length) listed a w hc (Region.free_spec hoi hfree) hr ?_ hw ?_
    ·exact .inl ⟨by simp [Region.wanted],λ w hw=>hpu w hw a.eval λ x _ u hu=>hD.fr.ev hu⟩
    ·exact mv_sound hsel r L' B' _ _ w hk (λ i hi=>hnd i (List.mem_cons_of_mem _ hi)) (hc.set hr) hSw' hw h' hD' hS' H
   split at h
   ·rename_i t x y
    obtain ⟨s,hs,h⟩:=rd1_sound h
    obtain ⟨s',hs',h⟩:=rd1_sound h
    have hρ:yes none→∀ x s v,rdS L [] none x=some s→dvO (exB ex B) s=some v→ev (fl L [] B) x=some v:=λ _ x s v h1 h2=>rdS_ev inv_nil (cx:=none) (og:=none) rfl yes_none h1 (exB_dv h2)
    obtain ⟨b,o,cs,h,hkn,hpu⟩:=ixG_sound (B:=exB ex B) hT hρ hs hs' h
    obtain ⟨hl,hfl,h⟩:=fresh_sound h
    cases hd:Nat.blt d c.n with
    | false=>rw [hd] at h; exact h.elim
    | true =>
     rw [hd] at h
     have hB':Sx c ((d,.k none b o cs)::B) F w:=⟨by rw [oes_k]; exact hS.st,bok_k hS.bk hkn⟩
     refine go (.pointer (some ⟨b,o,none⟩)) _ _ (λ w hw=>hpu yes_none w (hSw w hw) _ _ _ _ _) ?_ hB' (λ w hw=>⟨(hSw w hw).vw,λ k b T cs hk=>?_⟩) h
     ·refine Dn.cons (rr:=some (.pointer (some ⟨b,o,none⟩))) (hD.fr.put hd _) inv_nil (λ t=>?_) (λ u hu=>(Option.some.inj hu).symm)
      unfold kv
      simp only [lkA]
      by_cases ht:t=d
      ·subst ht; simp [dvO,lkA_eq]
      ·rw [beq_ne (Ne.symm ht),if_neg ht]
       simp only [cond_false]
       have:=kv_fl (L:=L) (I:=[]) (hfl (.k none b o cs)) t
       unfold kv at this
       simpa only [lkA] using this
     ·refine (hSw w hw).own k b T cs ?_
      simp only [exB] at hk
      by_cases hkd:d=k
      ·subst hkd; rw [lkA_eq] at hk; cases hk
      ·rwa [lkA_ne hkd] at hk
   ·cases hd:(isPure op&&Nat.blt d c.n) with
    | false=>rw [hd] at h; exact h.elim
    | true =>
     rw [hd] at h
     simp only [Bool.and_eq_true] at hd
     have hρ:yes none→∀ x s v,rdS L [] none x=some s→dvO (exB ex B) s=some v→ev (fl L [] B) x=some v:=λ _ x s v h1 h2=>rdS_ev inv_nil (cx:=none) (og:=none) rfl yes_none h1 (exB_dv h2)
     obtain ⟨s,v,hs,hv,hpu⟩:=pv_sound (L:=fl L [] B) hT (exB_bok (ex:=ex) hS.bk) hρ h
     obtain ⟨_,_,h⟩:=hasN_sound hs
     refine go v _ _ (λ w hw=>hpu yes_none w (hSw w hw) _ _ _ _ _) ?_ hS hSw h
     have hv':=exB_dv hv
     exact Dn.cons (rr:=some v) (hD.fr.put hd.2 _) inv_nil (λ t=>by
      unfold kv
      simp only [lkA]
      by_cases ht:t=d
      ·subst ht; simp [hv']
      ·rw [beq_ne (Ne.symm ht),if_neg ht]; rfl) (λ u hu=>(Option.some.inj hu).symm)
  ·exact h.elim
omit hT in
theorem exB_mem {ex:List Nat} {B:BL} {k b T:Nat} {cs:List Value} (h:lkA (exB ex B) k=some (.c b T cs)):(k,OB.c b T cs)∈exB ex B:=lkA_mem h
theorem regQ {i:Nat} {l:List Oper} (mv rest:List Nat) (ex:List Nat) (free:Bool) {L:SL} {B:BL} {F:FV} {kn:KN} {kx:Nat→KN} {kr:KN}
  (h:mvK c l F ex mv L B λ L' B'=>tlK c l (ndB free rest) (exB ex B) F rest L' [] B' F λ L I B F=>pushK I L λ L=>kn L B F)
  (hq:chkQ l mv rest free=true:=by kernel_rfl) (hmd:c.md = .wp:=by rfl):CP c (.region i ⟨l⟩ true) L B F kn kx kr:=by
 simp only [chkQ,Bool.and_eq_true,Bool.or_eq_true,Bool.not_eq_true'] at hq
 obtain ⟨⟨⟨hsel,hfr⟩,hlen⟩,hchk⟩:=hq
 have hlen:=Nat.eq_of_beq_eq_true hlen
 refine ⟨λ Q a w hn _ _ hp hD hS=>?_⟩
 rw [hmd]
 refine wp_mono (wp_region_any (Q:=panQ c Q) hT.mix (wpAny_of_S (nd:=ndB free rest) (S:=WOk c.h0 F (exB ex B)) _ _ _ _ ?_)) λ e a w he=>?_
 ·have hS1:Sx c B F { w with drawn:=w.drawn+1 }:=hS.step (keep_drawn w)
  have e:l.toArray.size=rest.length+mv.length:=by rw [List.size_toArray]; omega
  rw [e]
  refine mv_sound hT (F:=F) (ex:=ex) (k:=chkR l.toArray rest) hsel mv L B _ a _ (by rw [← e,List.size_toArray]; exact hchk) (λ i hi j hj hji=>?_) (λ j oj hj hl=>?_) (λ w hw=>hw) (exB_wok hS1.wok) h hD hS1 (λ L' B' a' listed' hk hc hD' hS'=>tl_sound hT hmd (push_ok hn) (λ k b T cs h=>exB_mem h) rest L' [] B' F listed' a' _ hc hk hD' hS')
  ·unfold ndB at hj
   simp only [Bool.not_eq_false',Bool.and_eq_true] at hj
   rcases hfr with hfr | hfr
   ·rw [hfr] at hj; cases hj.1
   ·have:=List.all_eq_true.1 hfr i hi
    rw [Nat.eq_of_beq_eq_true hj.2]
    exact ⟨_,this⟩
  ·rw [getD_replicate_false] at hl; cases hl
 ·cases e with
  | panic ch=>exact hp ch a w he.1 he.2.1 he.2.2
  | _=>exact he
end reg
end Go.Dx
namespace Go.Dx
open Go Go.RowKit
theorem WP.ofInv {c:Cx} {al l:List Oper} {L:SL} {I:IL} {B:BL} {F:FV} {K:KR} (h:Inv L I→WP c al l L I B F K):WP c al l L I B F K:=⟨λ Q a w hn hp hD hS=>(h hD.inv).run Q a w hn hp hD hS⟩
section callI
variable {c:Cx} (hT:c.T.Ok c.P)
include hT
theorem cMI {b Tb:Nat} {cs cs':List Value} {x:Value} {al:List Oper} {K:KR} {d f:Nat} {args:List Operand} {ats:Array TypeId} {ty:TypeId} {pos:String} {af:Array Edge} {rest:List Oper} {L:SL} {I:IL} {B:BL} {F:FV} {vsl:List Value} {Kv:SV→Prop} (kb:Nat)
  (H:∀ w v,VLe c.h0 v→F v→VLe v (Full w)→v b=none→w.heap[b]?=some (.cells cs.toArray Tb (0,0))→Calls c.P f vsl.toArray w (RetM [b] w λ u w'=>u=x∧w'.heap[b]?=some (.cells cs'.toArray Tb (0,0))))
  (k:setAK B kb (.c b Tb cs') λ B'=>wr c.n d (.v x) L I λ L I=>runs c al true K rest L I B' F) (hB:lkA B kb=some (.c b Tb cs):=by rfl)
  (hf:memF c.T.fs f=true:=by rfl) (hv:argK (rdS L I none) B args λ l=>l=vsl:=by exact rfl) :
  CallG c true none B F f vsl Kv (WP c al (⟨some d,.call ⟨.value (.func f),⟨args⟩,ats⟩,ty,pos,af,none⟩::rest) L I B F K):=by
 obtain ⟨B',i,hrun,hi,hset,hlB,hmB⟩:=setAK_sound hB k
 have hdv:=dvO_setA hB hlB
 have hin:b∈ids (oes B):=List.mem_filterMap.2 ⟨_,List.mem_of_getElem? hi,rfl⟩
 refine .w rfl (WP.ofInv λ hInv=>?_)
 obtain ⟨L',I',hX,hI',hdn,hkv,hrw⟩:=wr_sound hInv hrun
 obtain ⟨l,rfl,hev⟩:=argK_sound (hρ_of (B:=B) hInv (cx:=none) (og:=none) rfl) hv
 refine ⟨λ Q a w hn hp hD hS=>?_⟩
 have hds:Ds c.P (fl L I B) ⟨some d,.call ⟨.value (.func f),args.toArray,ats⟩,ty,pos,af,none⟩ w λ v w'=>Keep [b] w w'∧v=x∧w'.heap[b]?=some (.cells cs'.toArray Tb (0,0)):=ds_call (hT.call hf) (hev yes_none) ((H w _ hS.st.base_cv hS.st.facts hS.st.view (cv_own hin) (hS.wok.own _ _ _ _ hB)).mono (by rintro e w' ⟨v,rfl,hk,hu⟩; exact ⟨v,rfl,hk,hu⟩))
 refine s_ds hD.fr hds hdn λ v w' a' hp' hF'=>?_
 obtain ⟨hk,rfl,hw'⟩:=hp'
 refine (runs_sound hT rest _ _ _ _ hX hI').run Q a' w' hn hp (Dn.cons (rr:=some v) hF' hI' (λ t=>?_) (λ u hu=>(Option.some.inj hu).symm)) ⟨by rw [hset]; exact hS.st.write hi hk hw',λ m g b' o cs' hm=>?_⟩
 ·rw [hkv B' t,kv_fl (fl_congr hdv)]; rfl
 ·rcases hmB _ hm with hm | hm
  ·exact hS.bk _ _ _ _ _ hm
  ·cases hm
omit hT in
theorem CP.kx {k:Code} {L:SL} {B:BL} {F:FV} {kn:KN} {kx kx':Nat→KN} {kr:KN} (h:CP c k L B F kn kx kr) (hx:∀ i L B F,kx i L B F→kx' i L B F):CP c k L B F kn kx' kr :=
 ⟨λ Q a w hn hxo hr hp hD hS=>h.run Q a w hn ⟨λ i hi L B F a w hk hD hS=>hxo.ex i hi L B F a w (hx i L B F hk) hD hS,λ l L B F a w hk hD hS=>hxo.go l L B F a w (hx _ L B F hk) hD hS⟩ hr hp hD hS⟩
end callI
theorem entW {α:Type} {g:α→Value} {cs':α→List Value} {Φ:α→FV} {P:Program} {T:Tab} (hT:T.Ok P) {f:FuncId} {fn:Func} {code:Code} {args:List Value} {w0:World} {h0:View} {rs:List ResultVar} {n b Tb:Nat} {cs:List Value} (stop cut:List Nat) (as:List SV)
  (hf:P.funcs[f]?=some fn) (hb:fn.body=some code) (hn:fn.ntmps=n) (hle:Nat.ble as.length n=true) (hr:fn.results=rs.toArray) (hv:VLe h0 (Full w0)) (hbl:w0.heap[b]?=some (.cells cs.toArray Tb (0,0))) (hno:h0 b=none) (ha:args=as.map (dv [(900,.c b Tb cs)]))
  (hm:∀ x,Mono (Φ x))
  (h:vcC ⟨P,T,.wp,n,w0,h0,[b],λ _=>False,stop,cut⟩ code (argV as 0) [(900,.c b Tb cs)] (λ _=>True) (λ L B F=>resK T L B rs λ vs=>∃ x,tupV vs=g x∧lkA B 900=some (.c b Tb (cs' x))∧∀ v,VLe h0 v→F v→Φ x v) (λ _ _ _ _=>False)
   (λ L B F=>resK T L B rs λ vs=>∃ x,tupV vs=g x∧lkA B 900=some (.c b Tb (cs' x))∧∀ v,VLe h0 v→F v→Φ x v)):Calls P f args.toArray w0 (RetV [b] w0 h0 λ u w' hh=>∃ x,u=g x∧w'.heap[b]?=some (.cells (cs' x).toArray Tb (0,0))∧Φ x hh):=by
 rw [ha]
 refine entG (E:=λ B F vs=>∃ x,tupV vs=g x∧lkA B 900=some (.c b Tb (cs' x))∧∀ v,VLe h0 v→F v→Φ x v) (h0:=h0) (kp:=λ _=>False) hT stop cut [b] as [(900,.c b Tb cs)] hf hb hn hle hr (λ _ _ h _=>h.elim) (sx_one hv rfl hbl hno)
  (λ B F vs w ⟨x,h0',h1,h2⟩ hS=>⟨_,rfl,hS.st.keep,x,h0',hS.wok.own _ _ _ _ h1,?_⟩) h
 have hle:VLe (cv w0.heap.size h0 (ids (oes B)) w) (nv h0 w0 w):=λ k o hk=>by
  unfold cv at hk
  unfold nv
  split at hk
  ·cases hk
  ·split at hk
   ·rename_i hlt
    rw [if_pos hlt]; exact hk
   ·rename_i hlt
    rw [if_neg hlt]; exact hk
 exact hm _ _ _ hle (h2 _ hS.st.base_cv hS.st.facts)
end Go.Dx
namespace Go.Dx
open Go Go.RowKit
structure OwnJ (w:World) (O:List OE):Prop where
 own:∀ e∈O,e.2 (e.1.bind λ b=>w.heap[b]?)
 nd:(ids O).Nodup
 lt:∀ b∈ids O,b<w.heap.size
def RetJ {σ:Type} (J:σ→BL) (s:σ) (w:World) (Ψ:Value→σ→Prop):Ending→World→Prop:=λ e w'=>∃ u s',e = .returned u∧Ψ u s'∧Keep (ids (oes (J s))) w w'∧OwnJ w' (oes (J s'))∧∀ b∈ids (oes (J s')),b∈ids (oes (J s))∨w.heap.size≤b
theorem St.go {w0 w w':World} {h0:View} {M:List Nat} {A A' R:List OE} {F:View→Prop} (hS:St w0 h0 M w (A++R) F) (hk:Keep (ids A) w w') (ho:OwnJ w' A') (hf:∀ b∈ids A',b∈ids A∨w.heap.size≤b):St w0 h0 M w' (A'++R) F:=by
 have hidsAR:ids (A++R)=ids A++ids R:=ids_app A R
 have hnd:=hS.nd
 rw [hidsAR] at hnd
 obtain ⟨hndA,hndR,hdis⟩:=List.nodup_append.1 hnd
 have hfr:∀ b,b∈ids A→w0.heap.size≤b∨b∈M:=λ b hb=>(hS.fresh b (by rw [hidsAR]; exact List.mem_append_left _ hb)).1
 have hltR:∀ b,b∈ids R→(w0.heap.size≤b∨b∈M)∧b<w.heap.size:=λ b hb=>hS.fresh b (by rw [hidsAR]; exact List.mem_append_right _ hb)
 have hdis2:∀ b,b∈ids A'→b ∉ ids R:=λ b hb hR=>by
  rcases hf b hb with h | h
  ·exact hdis b h b hR rfl
  ·have:=(hltR b hR).2; omega
 refine ⟨hS.keep.transIn hk hfr,hS.vw,λ e he=>?_,λ b hb=>?_,?_,hS.mono,?_⟩
 ·rcases List.mem_append.1 he with he | he
  ·exact ho.own e he
  ·have:=hS.own e (List.mem_append_right _ he)
   cases he1:e.1 with
   | none=>rw [he1] at this; exact this
   | some b =>
    rw [he1] at this
    have hb:b∈ids R:=List.mem_filterMap.2 ⟨e,he,he1⟩
    simp only [Option.bind_some] at this ⊢
    rw [hk.block b (hltR b hb).2 λ hA=>hdis b hA b hb rfl]
    exact this
 ·rw [ids_app] at hb
  rcases List.mem_append.1 hb with hb | hb
  ·refine ⟨?_,ho.lt b hb⟩
   rcases hf b hb with h | h
   ·exact hfr b h
   ·exact .inl (Nat.le_trans hS.keep.size h)
  ·exact ⟨(hltR b hb).1,Nat.lt_of_lt_of_le (hltR b hb).2 hk.size⟩
 ·rw [ids_app]
  exact List.nodup_append.2 ⟨ho.nd,hndR,λ a ha b hb e=>hdis2 a ha (e ▸ hb)⟩
 ·refine hS.mono _ _ (cv_le (J:=ids A) _ _ hk (λ c hc=>by rw [hidsAR]; exact List.mem_append_left _ hc) (λ b hb=>?_) hS.keep.size) hS.facts
  rw [ids_app] at hb
  rw [hidsAR]
  rcases List.mem_append.1 hb with hb | hb
  ·rcases hf b hb with h | h
   ·exact .inl (List.mem_append_left _ h)
   ·exact .inr h
  ·exact .inl (List.mem_append_right _ hb)
def adOf:OB→Option (Nat×Nat)
 | .c b _ _=>some (b,0)
 | .k _ b o _=>some (b,o+1)
 | .e _=>none
theorem lkA_appB (A C:BL) (t:Nat):lkA (A++C) t=match lkA A t with
 | some s=>some s
 | none=>lkA C t:=by
 induction A with
 | nil=>rfl
 | cons p r ih =>
  obtain ⟨q,s⟩:=p
  by_cases hq:q=t
  ·subst hq; rw [List.cons_append,lkA_eq,lkA_eq]
  ·rw [List.cons_append,lkA_ne hq,lkA_ne hq,ih]
theorem delL_lk:∀ {J B:BL} {m:Nat},lkA J m=none→lkA (delL B J) m=lkA B m
 | [],B,m,_=>rfl
 | (k,o)::r,B,m,h=>by
  have hk:k≠m:=λ e=>by subst e; rw [lkA_eq] at h; cases h
  rw [lkA_ne hk] at h
  show lkA (delL (delA B k) r) m=_
  rw [delL_lk h,delA_lk (Ne.symm hk)]
theorem ad_lk:∀ {J J':BL},J.map (λ p=>(p.1,adOf p.2))=J'.map (λ p=>(p.1,adOf p.2))→∀ m,(lkA J m).map adOf=(lkA J' m).map adOf
 | [],[],_,m=>rfl
 | [],_::_,h,m=>by cases h
 | _::_,[],h,m=>by cases h
 | (k,o)::r,(k',o')::r',h,m=>by
  simp only [List.map_cons,List.cons.injEq,Prod.mk.injEq] at h
  obtain ⟨⟨rfl,h2⟩,h3⟩:=h
  by_cases hk:k=m
  ·subst hk; rw [lkA_eq,lkA_eq]; simp [h2]
  ·rw [lkA_ne hk,lkA_ne hk]; exact ad_lk h3 m
theorem lksJ_lk:∀ {J B:BL} {m:Nat} {o:OB},lksJ B J→lkA J m=some o→lkA B m=some o
 | [],B,m,o,_,h=>by simp [lkA] at h
 | (k,o0)::r,B,m,o,hl,h=>by
  by_cases hk:k=m
  ·subst hk; rw [lkA_eq] at h; cases h; exact hl.1
  ·rw [lkA_ne hk] at h; exact lksJ_lk hl.2 h
theorem dvO_go {J J' B:BL} (hl:lksJ B J) (ha:J.map (λ p=>(p.1,adOf p.2))=J'.map (λ p=>(p.1,adOf p.2))) (s:SV):dvO (J'++delL B J) s=dvO B s:=by
 have key:∀ m,(lkA (J'++delL B J) m).map adOf=(lkA B m).map adOf:=λ m=>by
  rw [lkA_appB]
  have:=ad_lk ha m
  cases hj':lkA J' m with
  | some o' =>
   rw [hj'] at this
   cases hj:lkA J m with
   | none=>rw [hj] at this; cases this
   | some o =>
    rw [hj] at this
    simp only
    rw [lksJ_lk hl hj,← this]
  | none =>
   rw [hj'] at this
   have hj:lkA J m=none:=by
    cases hj:lkA J m with
    | none=>rfl
    | some o=>rw [hj] at this; cases this
   simp only
   rw [delL_lk hj]
 cases s with
 | o k f =>
  simp only [dvO]
  have:=key k
  revert this
  cases lkA (J'++delL B J) k with
  | none=>cases lkA B k with
   | none=>intro _; rfl
   | some o=>intro h; cases h
  | some o'=>cases lkA B k with
   | none=>intro h; cases h
   | some o =>
    intro h
    have h:adOf o'=adOf o:=Option.some.inj h
    cases o' <;> cases o <;> simp [adOf] at h <;> simp_all
 | s k f n cp =>
  simp only [dvO]
  have:=key k
  revert this
  cases lkA (J'++delL B J) k with
  | none=>cases lkA B k with
   | none=>intro _; rfl
   | some o=>intro h; cases h
  | some o'=>cases lkA B k with
   | none=>intro h; cases h
   | some o =>
    intro h
    have h:adOf o'=adOf o:=Option.some.inj h
    cases o' <;> cases o <;> simp [adOf] at h <;> simp_all
 | v x=>rfl
 | r e n cs=>rfl
 | u=>rfl
section callJ
variable {c:Cx} (hT:c.T.Ok c.P)
include hT
theorem cJ {σ:Type} (J:σ→BL) (s:σ) {g:σ→Value} {Ψ:σ→Prop} {al:List Oper} {K:KR} {d f:Nat} {args:List Operand} {ats:Array TypeId} {ty:TypeId} {pos:String} {af:Array Edge} {rest:List Oper} {L:SL} {I:IL} {B:BL} {F:FV} {vsl:List Value} {Kv:SV→Prop}
  (H:∀ w v,VLe c.h0 v→F v→VLe v (Full w)→(∀ b∈ids (oes (J s)),v b=none)→OwnJ w (oes (J s))→Calls c.P f vsl.toArray w (RetJ J s w λ u s'=>u=g s'∧Ψ s'))
  (k:∀ s',Ψ s'→wr c.n d (.v (g s')) L I λ L I=>runs c al true K rest L I (J s'++delL B (J s)) F)
  (hl:lksJ B (J s):=by exact ⟨rfl,rfl,trivial⟩) (hkn:keysN (J s)=true:=by rfl) (ha:∀ s s',(J s).map (λ p=>(p.1,adOf p.2))=(J s').map (λ p=>(p.1,adOf p.2)):=by exact λ _ _=>rfl) (hnk:noK (J s)=true:=by rfl) (hnk':∀ s,noK (J s)=true:=by exact λ _=>rfl)
  (hf:memF c.T.fs f=true:=by rfl) (hv:argK (rdS L I none) B args λ l=>l=vsl:=by exact rfl) :
  CallG c true none B F f vsl Kv (WP c al (⟨some d,.call ⟨.value (.func f),⟨args⟩,ats⟩,ty,pos,af,none⟩::rest) L I B F K):=by
 have hperm:=lksJ_perm hkn hl
 have hoes:(oes B).Perm (oes (J s)++oes (delL B (J s))):=by rw [← oes_app]; exact oes_perm hperm
 refine .w rfl (WP.ofInv λ hInv=>?_)
 obtain ⟨l,rfl,hev⟩:=argK_sound (hρ_of (B:=B) hInv (cx:=none) (og:=none) rfl) hv
 refine ⟨λ Q a w hn hp hD hS=>?_⟩
 have hS1:St c.w0 c.h0 c.M w (oes (J s)++oes (delL B (J s))) F:=hS.st.perm hoes
 have hin:∀ b∈ids (oes (J s)),b∈ids (oes B):=λ b hb=>(ids_perm hoes).mem_iff.2 (by rw [ids_app]; exact List.mem_append_left _ hb)
 have hown:OwnJ w (oes (J s)):=⟨λ e he=>hS1.own e (List.mem_append_left _ he),by have:=hS1.nd; rw [ids_app] at this; exact (List.nodup_append.1 this).1,λ b hb=>(hS.st.fresh b (hin b hb)).2⟩
 have hds:Ds c.P (fl L I B) ⟨some d,.call ⟨.value (.func f),args.toArray,ats⟩,ty,pos,af,none⟩ w λ v w'=>∃ s',(v=g s'∧Ψ s')∧Keep (ids (oes (J s))) w w'∧OwnJ w' (oes (J s'))∧∀ b∈ids (oes (J s')),b∈ids (oes (J s))∨w.heap.size≤b :=
  ds_call (hT.call hf) (hev yes_none) ((H w _ hS.st.base_cv hS.st.facts hS.st.view (λ b hb=>cv_own (hin b hb)) hown).mono (by rintro e w' ⟨u,s',rfl,h1,h2,h3,h4⟩; exact ⟨u,rfl,s',h1,h2,h3,h4⟩))
 obtain ⟨x0,hx0⟩:∃ n,n=Nat.blt d c.n:=⟨_,rfl⟩
 refine wpM_plain rfl λ K' hK=>opM_of_does ?_
 have hh:=hds a.eval (λ x _ u hu=>hD.fr.ev hu)
 have fin:∀ v w',(∃ s',(v=g s'∧Ψ s')∧Keep (ids (oes (J s))) w w'∧OwnJ w' (oes (J s'))∧∀ b∈ids (oes (J s')),b∈ids (oes (J s))∨w.heap.size≤b)→K' (a.put (some d) v) w':=by
  rintro v w' ⟨s',⟨rfl,hΨ⟩,hk,ho,hfr⟩
  obtain ⟨L',I',hX,hI',hdn,hkv,hrw⟩:=wr_sound hInv (k s' hΨ)
  refine hK _ _ ((runs_sound hT rest _ _ _ _ hX hI').run Q _ w' hn hp (Dn.cons (rr:=some (g s')) (hD.fr.put hdn _) hI' (λ t=>?_) (λ u hu=>(Option.some.inj hu).symm)) ⟨?_,λ m g' b o cs hm=>?_⟩)
  ·rw [hkv,kv_fl (fl_congr λ sv=>dvO_go hl (ha s s') sv)]; rfl
  ·rw [oes_app]; exact hS1.go hk ho hfr
  ·rcases List.mem_append.1 hm with hm | hm
   ·exact absurd hm (noK_ne (hnk' s') _ _ _ _ _)
   ·exact hS.bk m g' b o cs (hperm.mem_iff.2 (List.mem_append_right _ hm))
 unfold Does at *
 generalize (execOp a.eval _).run c.P w=r at *
 cases r with
 | ok nx w' =>
  cases nx <;> simp only [DoesR] at hh ⊢
  case value u=>exact fin _ _ hh
  case enter f args=>exact hh.mono λ e w'' ⟨u,he,hv⟩=>⟨u,he,fin _ _ hv⟩
 | halt x w'=>exact hh.elim
end callJ
end Go.Dx
namespace Go.Dx
open Go Go.RowKit
theorem ownJ_sub {c:Cx} {B:BL} {F:FV} {w:World} {J:BL} (hS:Sx c B F w) (hk:keysN J=true) (hl:lksJ B J):OwnJ w (oes J)∧∀ b∈ids (oes J),c.w0.heap.size≤b∨b∈c.M:=by
 have hp:=oes_perm (lksJ_perm hk hl)
 rw [oes_app] at hp
 have h1:=hS.st.perm hp
 refine ⟨⟨λ e he=>h1.own e (List.mem_append_left _ he),?_,λ b hb=>(h1.fresh b (by rw [ids_app]; exact List.mem_append_left _ hb)).2⟩,λ b hb=>(h1.fresh b (by rw [ids_app]; exact List.mem_append_left _ hb)).1⟩
 have:=h1.nd
 rw [ids_app] at this
 exact (List.nodup_append.1 this).1
theorem entJ {σ:Type} (J:σ→BL) (s:σ) {g:σ→Value} {Ψ:σ→Prop} {P:Program} {T:Tab} (hT:T.Ok P) {f:FuncId} {fn:Func} {code:Code} {args:List Value} {w0:World} {h0:View} {rs:List ResultVar} {n:Nat} (stop cut:List Nat) (as:List SV)
  (hf:P.funcs[f]?=some fn) (hb:fn.body=some code) (hn:fn.ntmps=n) (hle:Nat.ble as.length n=true) (hr:fn.results=rs.toArray) (hv:VLe h0 (Full w0)) (hno:∀ b∈ids (oes (J s)),h0 b=none) (ho:OwnJ w0 (oes (J s))) (ha:args=as.map (dv (J s)))
  (h:vcC ⟨P,T,.wp,n,w0,h0,ids (oes (J s)),λ _=>False,stop,cut⟩ code (argV as 0) (J s) (λ _=>True) (λ L B F=>resK T L B rs λ vs=>∃ s',tupV vs=g s'∧Ψ s'∧keysN (J s')=true∧lksJ B (J s')) (λ _ _ _ _=>False)
   (λ L B F=>resK T L B rs λ vs=>∃ s',tupV vs=g s'∧Ψ s'∧keysN (J s')=true∧lksJ B (J s'))) (hnk:noK (J s)=true:=by rfl):Calls P f args.toArray w0 (RetJ J s w0 λ u s'=>u=g s'∧Ψ s'):=by
 rw [ha]
 refine entG (E:=λ B F vs=>∃ s',tupV vs=g s'∧Ψ s'∧keysN (J s')=true∧lksJ B (J s')) (h0:=h0) (kp:=λ _=>False) hT stop cut (ids (oes (J s))) as (J s) hf hb hn hle hr (λ _ _ h _=>h.elim) ⟨?_,λ k g b o cs hm=>absurd hm (noK_ne hnk _ _ _ _ _)⟩
  (λ B F vs w ⟨s',h1,h2,h3,h4⟩ hS=>?_) h
 ·refine ⟨Keep.refl _ _,λ k o hk=>⟨hv k o hk,λ hm=>?_⟩,ho.own,λ b hb=>⟨.inr hb,ho.lt b hb⟩,ho.nd,Mono.tru,trivial⟩
  have hk:h0 k=some o:=hk
  rw [hno k hm] at hk; cases hk
 ·obtain ⟨g1,g2⟩:=ownJ_sub hS h3 h4
  exact ⟨_,s',rfl,⟨h1,h2⟩,hS.st.keep,g1,λ b hb=>(g2 b hb).symm⟩
section go
variable {c:Cx} (hT:c.T.Ok c.P)
include hT
theorem goPu {al:List Oper} {K:KR} {d:Nat} {op:Op} {ty:TypeId} {pos:String} {af:Array Edge} {r:List Oper} {L:SL} {B:BL} {F:FV} (v:Value)
  (hp:∀ w,Sx c B F w→Pu c.P (fl L [] B) ⟨some d,op,ty,pos,af,none⟩ w v) (h:runs c al true K r ((d,.v v)::L) [] B F) (hd:Nat.blt d c.n=true:=by rfl):true=true∧WP c al (⟨some d,op,ty,pos,af,none⟩::r) L [] B F K :=
 ⟨rfl,⟨λ Q a w hn hp' hD hS=>s_pu hD.fr (hp w hS) hd λ a' hF'=>(runs_sound hT r _ _ _ _ h inv_nil).run Q a' w hn hp' ⟨hF',inv_nil⟩ hS⟩⟩
theorem goPo {al:List Oper} {K:KR} {d:Nat} {op:Op} {ty:TypeId} {pos:String} {af:Array Edge} {r:List Oper} {L:SL} {B:BL} {F:FV} (s:SV) {v:Value} (hs:dvO B s=some v)
  (hp:∀ w,Sx c B F w→Pu c.P (fl L [] B) ⟨some d,op,ty,pos,af,none⟩ w v) (h:runs c al true K r ((d,s)::L) [] B F) (hd:Nat.blt d c.n=true:=by rfl):true=true∧WP c al (⟨some d,op,ty,pos,af,none⟩::r) L [] B F K:=by
 refine ⟨rfl,⟨λ Q a w hn hp' hD hS=>s_pu hD.fr (hp w hS) hd λ a' hF'=>(runs_sound hT r _ _ _ _ h inv_nil).run Q a' w hn hp' ⟨?_,inv_nil⟩ hS⟩⟩
 have e:fl ((d,s)::L) [] B=(d,.val v)::fl L [] B:=by
  show (d,entS B s)::fl L [] B=_
  unfold entS; rw [hs]
 rw [e]; exact hF'
omit hT in
theorem ev_sl {L:SL} {B:BL} {x:Operand} {s:SV} {v:Value} (h:rdS L [] none x=some s) (hv:dvO B s=some v):ev (fl L [] B) x=some v:=rdS_ev inv_nil (cx:=none) (og:=none) rfl yes_none h hv
end go
section pus
variable {P:Program} {L:FL} {w:World} {d:Option Nat} {ty t t2:TypeId} {pos:String} {af:Array Edge} {g:Option (Nat×Bool)} {x y:Operand}
end pus
section str
variable {c:Cx} (hT:c.T.Ok c.P)
include hT
end str
end Go.Dx
namespace Go.Dx
open Go Go.RowKit
def LoopC (r:Loop):Option Obj→Prop:=λ o=>o=some (.loop r)
def DefC:Option Obj→Prop:=λ o=>o=some (.deferred (some []))
def YC {σ:Type} (P:Program) (J:σ→BL) (s:σ) (l:Nat) (args:List Value) (w:World) (Ψ:Value→σ→Prop):Prop :=
 ∃ fn tmps assign body,(Instr.yield l args.toArray).run P w = .ok (.round l fn tmps assign body) w∧RoundIn Fence.wide 0 P l fn tmps assign body w (RetJ J s w Ψ)
theorem wide_some (l:Nat):wideR (some l)=Fence.wide.inRound l:=rfl
section yj
variable {c:Cx} (hT:c.T.Ok c.P)
include hT
theorem yJ {σ:Type} (J:σ→BL) (s:σ) {g:σ→Value} {Ψ:σ→Prop} {al:List Oper} {K:KR} {d l:Nat} {x:Operand} {args:List Operand} {ats:Array TypeId} {ty:TypeId} {pos:String} {af:Array Edge} {rest:List Oper} {L:SL} {B:BL} {F:FV} {vsl:List Value}
  (H:∀ w v,VLe c.h0 v→F v→VLe v (Full w)→(∀ b∈ids (oes (J s)),v b=none)→OwnJ w (oes (J s))→YC c.P J s l vsl w λ u s'=>u=g s'∧Ψ s')
  (k:∀ s',Ψ s'→wr c.n d (.v (g s')) L [] λ L I=>runs c al true K rest L I (J s'++delL B (J s)) F)
  (hmd:c.md = .rd none:=by rfl) (hx:rdS L [] none x=some (.v (.func (.yield l) #[] #[])):=by rfl)
  (hl:lksJ B (J s):=by exact ⟨rfl,rfl,trivial⟩) (hkn:keysN (J s)=true:=by rfl) (ha:∀ s s',(J s).map (λ p=>(p.1,adOf p.2))=(J s').map (λ p=>(p.1,adOf p.2)):=by exact λ _ _=>rfl) (hnk:noK (J s)=true:=by rfl) (hnk':∀ s,noK (J s)=true:=by exact λ _=>rfl)
  (hv:argK (rdS L [] none) B args λ l=>l=vsl:=by exact rfl) :
  true=true∧WP c al (⟨some d,.call ⟨.value x,⟨args⟩,ats⟩,ty,pos,af,none⟩::rest) L [] B F K:=by
 have hperm:=lksJ_perm hkn hl
 have hoes:(oes B).Perm (oes (J s)++oes (delL B (J s))):=by rw [← oes_app]; exact oes_perm hperm
 refine ⟨rfl,⟨λ Q a w hn hp hD hS=>?_⟩⟩
 have hInv:Inv L []:=inv_nil
 obtain ⟨vl,rfl,hev⟩:=argK_sound (hρ_of (B:=B) hInv (cx:=none) (og:=none) rfl) hv
 have hS1:St c.w0 c.h0 c.M w (oes (J s)++oes (delL B (J s))) F:=hS.st.perm hoes
 have hin:∀ b∈ids (oes (J s)),b∈ids (oes B):=λ b hb=>(ids_perm hoes).mem_iff.2 (by rw [ids_app]; exact List.mem_append_left _ hb)
 have hown:OwnJ w (oes (J s)):=⟨λ e he=>hS1.own e (List.mem_append_left _ he),by have:=hS1.nd; rw [ids_app] at this; exact (List.nodup_append.1 this).1,λ b hb=>(hS.st.fresh b (hin b hb)).2⟩
 obtain ⟨fn,tmps,assign,body,hy,hR⟩:=H w _ hS.st.base_cv hS.st.facts hS.st.view (λ b hb=>cv_own (hin b hb)) hown
 refine wpM_plain rfl λ K' hK=>?_
 have fin:∀ v w',(∃ s',(v=g s'∧Ψ s')∧Keep (ids (oes (J s))) w w'∧OwnJ w' (oes (J s'))∧∀ b∈ids (oes (J s')),b∈ids (oes (J s))∨w.heap.size≤b)→K' (a.put (some d) v) w':=by
  rintro v w' ⟨s',⟨rfl,hΨ⟩,hk,ho,hfr⟩
  obtain ⟨L',I',hX,hI',hdn,hkv,hrw⟩:=wr_sound hInv (k s' hΨ)
  refine hK _ _ ((runs_sound hT rest _ _ _ _ hX hI').run Q _ w' hn hp (Dn.cons (rr:=some (g s')) (hD.fr.put hdn _) hI' (λ t=>?_) (λ u hu=>(Option.some.inj hu).symm)) ⟨?_,λ m g' b o cs hm=>?_⟩)
  ·rw [hkv,kv_fl (fl_congr λ sv=>dvO_go hl (ha s s') sv)]; rfl
  ·rw [oes_app]; exact hS1.go hk ho hfr
  ·rcases List.mem_append.1 hm with hm | hm
   ·exact absurd hm (noK_ne (hnk' s') _ _ _ _ _)
   ·exact hS.bk m g' b o cs (hperm.mem_iff.2 (List.mem_append_right _ hm))
 rw [hmd]
 show Oper.wpIn (wideR none) 0 c.P _ a w K' Q
 have e1:a.eval x = .func (.yield l) #[] #[]:=hD.fr.ev (ev_sl hx rfl)
 have e2:args.map a.eval=vl:=evs_map _ vl (hev yes_none) λ y _ u hu=>hD.fr.ev hu
 have hrun:(execOp a.eval ⟨some d,.call ⟨.value x,⟨args⟩,ats⟩,ty,pos,af,none⟩).run c.P w = .ok (.round l fn tmps assign body) w:=by
  simp only [execOp,resolve,List.map_toArray,e1,e2,Deferred.ofValue,Sem.run_bind,Sem.run_pure,Result.andThen_ok,invoke,Array.empty_append]
  exact hy
 refine ⟨λ _ _=>trivial,?_⟩
 rw [Oper.semAt_eq _ _ _ (λ c hc=>by cases hc),hrun,Oper.uponIn_round]
 refine ⟨(λ h=>by cases h),hR.mono ?_⟩
 rintro e w' ⟨u,s',rfl,⟨h1,h2⟩,h3,h4,h5⟩
 exact fin u w' ⟨s',⟨h1,h2⟩,h3,h4,h5⟩
end yj
theorem entGR {P:Program} {T:Tab} (hT:T.Ok P) {f:FuncId} {fn:Func} {code:Code} {w0:World} {h0:View} {rs:List ResultVar} {n:Nat} {R:Ending→World→Prop} {kp:List PanicEntry→Prop} {E:BL→FV→List Value→Prop} (stop cut M:List Nat) (as:List SV) (B0:BL)
  (hf:P.funcs[f]?=some fn) (hb:fn.body=some code) (hn:fn.ntmps=n) (hle:Nat.ble as.length n=true) (hr:fn.results=rs.toArray) (hp:∀ ch w,kp ch→Keep M w0 w→R (.panicked ch) w)
  (hS:Sx ⟨P,T,.rd none,n,w0,h0,M,kp,stop,cut⟩ B0 (λ _=>True) w0) (hE:∀ B F vs w,E B F vs→Sx ⟨P,T,.rd none,n,w0,h0,M,kp,stop,cut⟩ B F w→R (.returned (tupV vs)) w)
  (h:vcC ⟨P,T,.rd none,n,w0,h0,M,kp,stop,cut⟩ code (argV as 0) B0 (λ _=>True) (λ L B F=>resK T L B rs (E B F)) (λ _ _ _ _=>False) (λ L B F=>resK T L B rs (E B F))):Calls P f (as.map (dv B0)).toArray w0 R:=by
 refine f_enterR hf hb hn (by simpa using hle) λ a hF=>?_
 have fin:∀ L B F a w,resK T L B rs (E B F)→Dn ⟨P,T,.rd none,n,w0,h0,M,kp,stop,cut⟩ L [] B a→Sx ⟨P,T,.rd none,n,w0,h0,M,kp,stop,cut⟩ B F w→bodyPost P fn R .ret a w:=by
  intro L B F a w hk hD hS
  obtain ⟨vs,h1,h2⟩:=resK_sound (c:=⟨P,T,.rd none,n,w0,h0,M,kp,stop,cut⟩) hT hD hS.wok hk
  exact f_ret hD.fr hr h2 (hE _ _ _ _ h1 hS)
 refine (vcC_sound (c:=⟨P,T,.rd none,n,w0,h0,M,kp,stop,cut⟩) hT code _ _ _ _ _ _ h).run (bodyPost P fn R) a w0 (λ L B F a w hk hD hS=>?_) ⟨λ _ _ _ _ _ _ _ h=>h.elim,λ _ _ _ _ _ _ h=>h.elim⟩ fin (λ ch a w hk hd hkeep=>⟨hd,hp ch w hk hkeep⟩) ⟨Fr.of_kv hF.df hF.sz λ t v hv=>?_,inv_nil⟩ hS
 ·exact fin L B F a w hk hD hS
 ·exact hF.at_ t v (argV_kv as 0 t v hv)
theorem sx_J {c:Cx} {B:BL} {w:World} (hw:c.w0=w) (hM:c.M=ids (oes B)) (hv:VLe c.h0 (Full w)) (hno:∀ b∈ids (oes B),c.h0 b=none) (ho:OwnJ w (oes B)) (hnk:noK B=true):Sx c B (λ _=>True) w:=by
 refine ⟨?_,λ k g b o cs hm=>absurd hm (noK_ne hnk _ _ _ _ _)⟩
 rw [hM,hw]
 refine ⟨Keep.refl _ _,λ k o hk=>⟨hv k o hk,λ hm=>?_⟩,ho.own,λ b hb=>⟨.inr hb,ho.lt b hb⟩,ho.nd,Mono.tru,trivial⟩
 rw [hno k hm] at hk; cases hk
theorem entJR {σ:Type} (J:σ→BL) (s:σ) {g:σ→Value} {Ψ:σ→Prop} {P:Program} {T:Tab} (hT:T.Ok P) {f:FuncId} {fn:Func} {code:Code} {args:List Value} {w0:World} {h0:View} {rs:List ResultVar} {n:Nat} (stop cut:List Nat) (as:List SV)
  (hf:P.funcs[f]?=some fn) (hb:fn.body=some code) (hn:fn.ntmps=n) (hle:Nat.ble as.length n=true) (hr:fn.results=rs.toArray) (hv:VLe h0 (Full w0)) (hno:∀ b∈ids (oes (J s)),h0 b=none) (ho:OwnJ w0 (oes (J s))) (ha:args=as.map (dv (J s)))
  (h:vcC ⟨P,T,.rd none,n,w0,h0,ids (oes (J s)),λ _=>False,stop,cut⟩ code (argV as 0) (J s) (λ _=>True) (λ L B F=>resK T L B rs λ vs=>∃ s',tupV vs=g s'∧Ψ s'∧keysN (J s')=true∧lksJ B (J s')) (λ _ _ _ _=>False)
   (λ L B F=>resK T L B rs λ vs=>∃ s',tupV vs=g s'∧Ψ s'∧keysN (J s')=true∧lksJ B (J s'))) (hnk:noK (J s)=true:=by rfl):Calls P f args.toArray w0 (RetJ J s w0 λ u s'=>u=g s'∧Ψ s'):=by
 rw [ha]
 refine entGR (E:=λ B F vs=>∃ s',tupV vs=g s'∧Ψ s'∧keysN (J s')=true∧lksJ B (J s')) (h0:=h0) (kp:=λ _=>False) hT stop cut (ids (oes (J s))) as (J s) hf hb hn hle hr (λ _ _ h _=>h.elim) (sx_J rfl rfl hv hno ho hnk)
  (λ B F vs w ⟨s',h1,h2,h3,h4⟩ hS=>?_) h
 obtain ⟨g1,g2⟩:=ownJ_sub hS h3 h4
 exact ⟨_,s',rfl,⟨h1,h2⟩,hS.st.keep,g1,λ b hb=>(g2 b hb).symm⟩
theorem setAK_own {B:BL} {k b:Nat} {C C':Option Obj→Prop} {K:BL→Prop} {c:Cx} {F:FV} {w w':World} (hB:lkA B k=some (.e (some b,C))) (h:setAK B k (.e (some b,C')) K) (hS:Sx c B F w) (hk:Keep [b] w w') (hC:C' w'.heap[b]?) :
  ∃ B',K B'∧Sx c B' F w'∧∀ s,dvO B' s=dvO B s:=by
 obtain ⟨i,hi,hset⟩:=lkE_ix hB
 obtain ⟨B',hrun,h3,h4,h5⟩:=hset h
 have hdv:=dvO_setE hB h4
 refine ⟨B',hrun,⟨?_,λ q g b o cs hq=>?_⟩,hdv⟩
 ·rw [h3]; exact hS.st.write hi hk hC
 ·rcases h5 _ hq with hq | hq
  ·exact hS.bk _ _ _ _ _ hq
  ·cases hq
theorem keep_put {w:World} {l:Nat} {o:Obj}:Keep [l] w (w.putObj l o):=⟨rfl,rfl,rfl,Nat.le_refl _,by simp,λ k _ hn=>World.putObj_heap_other (by simpa using hn)⟩
theorem roundJ {σ:Type} {P:Program} {T:Tab} (hT:T.Ok P) (JR:σ→BL) (kl:Nat) {rec:Loop} (hrec:rec.state = .ready) (hpe:rec.pending=none) (s:σ) {Ψ:σ→Prop} (stop cut:List Nat) (L0:SL) {l n:Nat} {v:View} {w:World} {tmps:Array Value}
  (hv:VLe v (Full w)) (hno:∀ b∈ids (oes (JR s++[(kl,.e (some l,LoopC rec))])),v b=none) (ho:OwnJ w (oes (JR s++[(kl,.e (some l,LoopC rec))]))) (hsz:tmps.size=n)
  (hL:∀ t x,kv L0 [] (JR s++[(kl,.e (some l,LoopC rec))]) t=some x→tmps.getD t undef=x)
  (h:vcC ⟨P,T,.rd (some l),n,w,v,ids (oes (JR s++[(kl,.e (some l,LoopC rec))])),λ _=>False,stop,cut⟩ rec.assign L0 (JR s++[(kl,.e (some l,LoopC rec))]) (λ _=>True)
   (λ L B F=>lkA B kl=some (.e (some l,LoopC rec))∧setAK B kl (.e (some l,LoopC { rec with state := .busy })) λ B =>
    vcC ⟨P,T,.rd (some l),n,w,v,ids (oes (JR s++[(kl,.e (some l,LoopC rec))])),λ _=>False,stop,cut⟩ rec.body L B F
     (λ _ B _=>∃ s',Ψ s'∧keysN (JR s'++[(kl,.e (some l,LoopC { rec with state := .busy }))])=true∧lksJ B (JR s'++[(kl,.e (some l,LoopC { rec with state := .busy }))])) (λ _ _ _ _=>False) (λ _ _ _=>False))
   (λ _ _ _ _=>False) (λ _ _ _=>False)) (hnk:noK (JR s++[(kl,.e (some l,LoopC rec))])=true:=by rfl) :
  RoundIn Fence.wide 0 P l rec.fn tmps rec.assign rec.body w (RetJ (λ s=>JR s++[(kl,.e (some l,LoopC rec))]) s w λ u s'=>u = .bool true∧Ψ s'):=by
 refine roundIn_of_wpIn trivial ?_
 rw [← wide_some]
 have hS0:Sx ⟨P,T,.rd (some l),n,w,v,ids (oes (JR s++[(kl,.e (some l,LoopC rec))])),λ _=>False,stop,cut⟩ (JR s++[(kl,.e (some l,LoopC rec))]) (λ _=>True) w:=sx_J rfl rfl hv hno ho hnk
 refine (vcC_sound (c:=⟨P,T,.rd (some l),n,w,v,ids (oes (JR s++[(kl,.e (some l,LoopC rec))])),λ _=>False,stop,cut⟩) hT rec.assign _ _ _ _ _ _ h).run _ ⟨tmps,[]⟩ w (λ L B F a w1 hk hD hS=>?_) ⟨λ _ _ _ _ _ _ _ h=>h.elim,λ _ _ _ _ _ _ h=>h.elim⟩ (λ _ _ _ _ _ h _ _=>h.elim) (λ _ _ _ h _ _=>h.elim)
  ⟨Fr.of_kv rfl hsz λ t x hx=>hL t x hx,inv_nil⟩ hS0
 obtain ⟨hB,hset⟩:=hk
 have hl1:w1.heap[l]?=some (.loop rec):=by
  obtain ⟨i,hi,_⟩:=lkE_ix hB
  exact hS.st.at hi
 have hlt1:l<w1.heap.size:=(Array.getElem?_eq_some_iff.1 hl1).1
 refine ⟨_,run_beginRound hl1 hrec,?_⟩
 obtain ⟨B',hvc,hS',hdv⟩:=setAK_own hB hset hS keep_put (C':=LoopC { rec with state := .busy }) (World.putObj_heap_same hlt1)
 refine (vcC_sound (c:=⟨P,T,.rd (some l),n,w,v,ids (oes (JR s++[(kl,.e (some l,LoopC rec))])),λ _=>False,stop,cut⟩) hT rec.body _ _ _ _ _ _ hvc).run (roundPost P l _) a _ (λ L B F a w2 hk hD hS=>?_) ⟨λ _ _ _ _ _ _ _ h=>h.elim,λ _ _ _ _ _ _ h=>h.elim⟩ (λ _ _ _ _ _ h _ _=>h.elim) (λ _ _ _ h _ _=>h.elim)
  ⟨by rw [fl_congr hdv]; exact hD.fr,inv_nil⟩ hS'
 obtain ⟨s',hΨ,hkn,hlk⟩:=hk
 obtain ⟨g1,g2⟩:=ownJ_sub hS hkn hlk
 have eo:∀ C,oes (JR s'++[(kl,OB.e (some l,C))])=oes (JR s')++[(some l,C)]:=λ C=>by rw [oes_app]; rfl
 have ei:∀ C:Option Obj→Prop,ids (oes (JR s')++[(some l,C)])=ids (oes (JR s'))++[l]:=λ C=>by rw [ids_app]; rfl
 rw [eo] at g1 g2
 rw [ei] at g2
 have hl2:w2.heap[l]?=some (.loop { rec with state := .busy }):=g1.own (some l,_) (List.mem_append_right _ (List.mem_singleton.2 rfl))
 have hlt2:l<w2.heap.size:=(Array.getElem?_eq_some_iff.1 hl2).1
 have hnd:=g1.nd
 rw [ei] at hnd
 have hnl:∀ b∈ids (oes (JR s')),b≠l:=λ b hb e=>(List.nodup_append.1 hnd).2.2 b hb l (List.mem_singleton.2 rfl) e
 have hrr:({ ({ rec with state := .busy }:Loop) with state := .ready,pending:=none }:Loop)=rec:=by cases rec; cases hrec; cases hpe; rfl
 have hend:=run_endRound (P:=P) none hl2
 refine ⟨_,_,hend,_,s',rfl,⟨rfl,hΨ⟩,?_,?_,?_⟩
 ·refine hS.st.keep.trans (keep_put.mono λ b hb _=>?_)
  have:b=l:=by simpa using hb
  subst this
  show b∈ids (oes (JR s++[(kl,.e (some b,LoopC rec))]))
  rw [oes_app,ids_app]; exact List.mem_append_right _ (List.mem_singleton.2 rfl)
 ·show OwnJ _ (oes (JR s'++[(kl,.e (some l,LoopC rec))]))
  rw [eo]
  refine ⟨λ e he=>?_,by rw [ei]; exact hnd,λ b hb=>?_⟩
  ·rcases List.mem_append.1 he with he | he
   ·have:=g1.own e (List.mem_append_left _ he)
    cases h1:e.1 with
    | none=>rw [h1] at this; exact this
    | some b =>
     rw [h1] at this
     have hb:b∈ids (oes (JR s')):=List.mem_filterMap.2 ⟨e,he,h1⟩
     simp only [Option.bind_some] at this ⊢
     rw [World.putObj_heap_other (hnl b hb)]; exact this
   ·rw [List.mem_singleton.1 he]
    show LoopC rec _
    have h1:=World.putObj_heap_same (o := .loop { ({ rec with state := .busy }:Loop) with state:=if (none:Option Code).isNone then .ready else .done,pending:=none }) hlt2
    exact h1.trans (congrArg (λ r=>some (Obj.loop r)) hrr)
  ·rw [World.putObj_size]
   rw [ei] at hb
   have:=g1.lt b
   rw [ei] at this
   exact this hb
 ·intro b hb
  have hb:b∈ids (oes (JR s'++[(kl,OB.e (some l,LoopC rec))])):=hb
  rw [eo,ei] at hb
  exact (g2 b hb).symm
theorem rangeJ {c:Cx} (hT:c.T.Ok c.P) {σ:Type} (JR:σ→BL) (s:σ) (kl kd:Nat) {Ψ:σ→Prop} {g:Operand} {ps:Array Tmp} {assign body:Code} {gf:Nat} {lb:List Value} {L:SL} {B:BL} {F:FV} {Q:Exit→Act→World→Prop} {a:Act} {w:World}
  (hD:Dn c L [] B a) (hS:Sx c B F w) (hg:a.eval g = .func (.func gf) #[] lb.toArray) (hgf:CallOk c.P gf)
  (hl:lksJ B (JR s)) (hkn:keysN (JR s)=true) (ha:∀ s s',(JR s).map (λ p=>(p.1,adOf p.2))=(JR s').map (λ p=>(p.1,adOf p.2))) (hnk':∀ s,noK (JR s)=true)
  (hkd:∀ s',lkA (JR s'++delL B (JR s)) kd=none)
  (H:∀ (rec:Loop) (l:Nat),rec.state = .ready→rec.pending=none→rec.tmps=a.tmps→rec.params=ps→rec.assign=assign→rec.body=body→∀ w1 v,VLe c.h0 v→F v→VLe v (Full w1) →
   (∀ b∈ids (oes (JR s++[(kl,.e (some l,LoopC rec))])),v b=none)→OwnJ w1 (oes (JR s++[(kl,.e (some l,LoopC rec))]))→Calls c.P gf (Value.func (.yield l) #[] #[]::lb).toArray w1 (RetJ (λ s=>JR s++[(kl,.e (some l,LoopC rec))]) s w1 λ _ s'=>Ψ s'))
  (k:∀ s' D w',Ψ s'→Dn c L [] ((kd,.e (some D,DefC))::(JR s'++delL B (JR s))) a→Sx c ((kd,.e (some D,DefC))::(JR s'++delL B (JR s))) F w'→Q .normal { a with defers:=⟨.collected D,#[]⟩::a.defers } w') :
  codeM .wp c.P (.rangeFunc g ps assign body) Q a w:=by
 refine (wpIn_wide (n:=1)).1 (wpIn_rangeFunc ?_)
 intro fn _
 have hperm:=lksJ_perm hkn hl
 have hoes:(oes B).Perm (oes (JR s)++oes (delL B (JR s))):=by rw [← oes_app]; exact oes_perm hperm
 have hS0:St c.w0 c.h0 c.M w (oes (JR s)++oes (delL B (JR s))) F:=hS.st.perm hoes
 obtain ⟨rec,hrec⟩:∃ rec:Loop,rec={ state := .ready,pending:=none,fn,tmps:=a.tmps,params:=ps,assign,body,defers:=w.heap.size }:=⟨_,rfl⟩
 obtain ⟨W1,hW1⟩:∃ W1,(w.alloc (.deferred (some []))).alloc (.loop rec)=W1:=⟨_,rfl⟩
 obtain ⟨D,hDe⟩:∃ D,D=w.heap.size:=⟨_,rfl⟩
 obtain ⟨l,hle⟩:∃ l,l=w.heap.size+1:=⟨_,rfl⟩
 have hS1:=(hS0.new (.deferred (some [])) (C:=DefC) rfl).new (.loop rec) (C:=LoopC rec) rfl
 rw [hW1,World.size_alloc,← hDe,show D+1=l by omega] at hS1
 have pm:((some l,LoopC rec)::(some D,DefC)::(oes (JR s)++oes (delL B (JR s)))).Perm ((oes (JR s)++[(some l,LoopC rec)])++((some D,DefC)::oes (delL B (JR s)))):=by
  rw [List.append_assoc,List.singleton_append]
  refine (List.Perm.trans ?_ List.perm_middle.symm)
  exact List.Perm.cons _ List.perm_middle.symm
 have hS2:=hS1.perm pm
 have eo:∀ s',oes (JR s'++[(kl,OB.e (some l,LoopC rec))])=oes (JR s')++[(some l,LoopC rec)]:=λ s'=>by rw [oes_app]; rfl
 have hin:∀ b∈ids (oes (JR s)++[(some l,LoopC rec)]),b∈ids ((oes (JR s)++[(some l,LoopC rec)])++((some D,DefC)::oes (delL B (JR s)))):=λ b hb=>by rw [ids_app]; exact List.mem_append_left _ hb
 have hown:OwnJ W1 (oes (JR s)++[(some l,LoopC rec)]):=⟨λ e he=>hS2.own e (List.mem_append_left _ he),by have:=hS2.nd; rw [ids_app] at this; exact (List.nodup_append.1 this).1,λ b hb=>(hS2.fresh b (hin b hb)).2⟩
 have hcall:=H rec l (by rw [hrec]) (by rw [hrec]) (by rw [hrec]) (by rw [hrec]) (by rw [hrec]) (by rw [hrec]) W1 _ hS2.base_cv hS2.facts hS2.view (λ b hb=>cv_own (hin b (by rw [eo] at hb; exact hb))) (by rw [eo]; exact hown)
 refine ⟨l,[⟨.collected D,#[]⟩],W1,{ target := .fn (.func gf) lb.toArray,args:=#[.func (.yield l) #[] #[]] },W1,gf,#[.func (.yield l) #[] #[]]++lb.toArray,W1,?_,?_,λ _ _=>trivial,?_,λ _=>Nat.le_refl _,?_⟩
 ·have:=run_enterLoop_outer (P:=c.P) (w:=w) fn a.tmps ps assign body
  rw [← hrec,hW1,← hDe,show D+1=l by omega] at this
  exact this
 ·simp only [resolve,hg]
  simp [go_sem]
 ·simp only [invoke]
  exact run_call hgf
 ·refine callsIn_wide.2 ?_
  have e0:(#[.func (.yield l) #[] #[]]++lb.toArray:Array Value)=(Value.func (.yield l) #[] #[]::lb).toArray:=by simp
  rw [e0]
  refine hcall.mono ?_
  rintro e W2 ⟨u,s',rfl,hΨ,hk2,ho2,hf2⟩
  have hk2:Keep (ids (oes (JR s++[(kl,OB.e (some l,LoopC rec))]))) W1 W2:=hk2
  have ho2:OwnJ W2 (oes (JR s'++[(kl,OB.e (some l,LoopC rec))])):=ho2
  have hf2:∀ b∈ids (oes (JR s'++[(kl,OB.e (some l,LoopC rec))])),b∈ids (oes (JR s++[(kl,OB.e (some l,LoopC rec))]))∨W1.heap.size≤b:=hf2
  rw [eo] at hk2 hf2 ho2
  rw [eo] at hf2
  have hS3:=hS2.go hk2 ho2 hf2
  have pm2:((oes (JR s')++[(some l,LoopC rec)])++((some D,DefC)::oes (delL B (JR s)))).Perm ((some l,LoopC rec)::(some D,DefC)::(oes (JR s')++oes (delL B (JR s)))):=by
   rw [List.append_assoc,List.singleton_append]
   refine List.Perm.trans List.perm_middle ?_
   exact List.Perm.cons _ List.perm_middle
  have hS4:=hS3.perm pm2
  have hl2:W2.heap[l]?=some (.loop rec):=hS4.at (i:=0) rfl
  have hlt2:l<W2.heap.size:=(Array.getElem?_eq_some_iff.1 hl2).1
  have hend:=run_endLoop (P:=c.P) hl2 (by rw [hrec]; simp)
  have hS5:=hS4.write (i:=0) (C':=λ _=>True) rfl (keep_put (o := .loop { rec with state := .exhausted })) trivial
  have hS6:=St.suffix (A:=[(some l,λ _=>True)]) hS5
  refine ⟨none,_,hend.trans (congrArg (λ p=>Result.ok p (W2.putObj l (.loop { rec with state := .exhausted }))) (show rec.pending=none by rw [hrec])),?_⟩
  have hdv:∀ sv,dvO ((kd,.e (some D,DefC))::(JR s'++delL B (JR s))) sv=dvO B sv:=λ sv=>(nil_dv (hkd s') (some D,DefC) sv).trans (dvO_go hl (ha s s') sv)
  refine k s' D _ hΨ ⟨by rw [fl_congr hdv]; exact hD.fr,inv_nil⟩ ⟨?_,λ m g' b o cs hm=>?_⟩
  ·show St _ _ _ _ ((some D,DefC)::oes (JR s'++delL B (JR s))) _
   rw [oes_app]; exact hS6
  ·rcases List.mem_cons.1 hm with hm | hm
   ·cases hm
   rcases List.mem_append.1 hm with hm | hm
   ·exact absurd hm (noK_ne (hnk' s') _ _ _ _ _)
   ·exact hS.bk m g' b o cs (hperm.mem_iff.2 (List.mem_append_right _ hm))
theorem retM {c:Cx} (hT:c.T.Ok c.P) {L:SL} {B:BL} {F:FV} {a:Act} {w:World} {fn:Func} {rs:List ResultVar} {R:Ending→World→Prop} {E:BL→FV→List Value→Prop} (kd:Nat) {D:Nat} (hr:fn.results=rs.toArray) (hB:lkA B kd=some (.e (some D,DefC)))
  (h:setAK B kd (.e (some D,λ _=>True)) λ B=>resK c.T L B rs (E B F)) (hD:Dn c L [] B a) (hS:Sx c B F w) (hE:∀ B F vs w,E B F vs→Sx c B F w→R (.returned (tupV vs)) w) :
  LeavesInM Fence.wide 1 c.P fn a.tmps R [⟨.collected D,#[]⟩] .returning w:=by
 have hd:w.heap[D]?=some (.deferred (some [])):=by
  obtain ⟨i,hi,_⟩:=lkE_ix hB
  exact hS.st.at hi
 obtain ⟨B',hk,hS',hdv⟩:=setAK_own hB h hS (keep_put (o := .deferred none)) (C':=λ _=>True) trivial
 refine ⟨by simp,.inl ⟨D,_,rfl,run_takeDeferred hd,?_⟩⟩
 have hD':Dn c L [] B' a:=⟨by rw [fl_congr hdv]; exact hD.fr,inv_nil⟩
 obtain ⟨vs,h1,h2⟩:=resK_sound (c:=c) hT hD' hS'.wok hk
 obtain ⟨_,v,hv1,hv2⟩:=f_ret (R:=R) hD'.fr hr h2 (hE _ _ _ _ h1 hS')
 exact ⟨v,hv1,hv2⟩
theorem entDM {P:Program} {T:Tab} (hT:T.Ok P) {f:FuncId} {fn:Func} {code:Code} {args:List Value} {w0:World} {h0:View} {rs:List ResultVar} {n:Nat} {R:Ending→World→Prop} {E:BL→FV→List Value→Prop} (stop cut:List Nat) (m:Nat)
  (hf:P.funcs[f]?=some fn) (hb:fn.body=some code) (hn:fn.ntmps=n) (hle:Nat.ble args.length n=true) (hr:fn.results=rs.toArray) (hv:VLe h0 (Full w0))
  (hE:∀ B F vs w,E B F vs→Sx ⟨P,T,.wp,n,w0,h0,[],λ _=>False,stop,cut⟩ B F w→R (.returned (tupV vs)) w)
  (h:vcD ⟨P,T,.wp,n,w0,h0,[],λ _=>False,stop,cut⟩ (λ L B F code=>∀ a w,Dn ⟨P,T,.wp,n,w0,h0,[],λ _=>False,stop,cut⟩ L [] B a→Sx ⟨P,T,.wp,n,w0,h0,[],λ _=>False,stop,cut⟩ B F w→codeM .wp P code (bodyPostM Fence.wide 1 P fn R) a w) m code (argS args 0) [] (λ _=>True) (λ _ _ _ _=>False)
   (λ L B F=>resK T L B rs (E B F))):Calls P f args.toArray w0 R:=by
 have hle':args.length≤n:=Nat.le_of_ble_eq_true hle
 refine callsIn_wide.1 (callsIn_of_wp_marks (F:=Fence.wide) (n:=1) hf hb trivial (wpIn_wide.2 ?_))
 generalize hac:({ tmps:=args.toArray++Array.replicate (fn.ntmps - args.toArray.size) undef,defers:=[] }:Act)=ac
 have hF:Fr ac n (argL args 0):=by
  subst hac
  refine ⟨rfl,?_,λ i v hi=>?_⟩
  ·simp only [hn,Array.size_append,List.size_toArray,Array.size_replicate]; omega
  ·obtain ⟨j,rfl,hj⟩:=lk_argL args 0 i v hi
   have hlt:j<args.length:=(List.getElem?_eq_some_iff.1 hj).1
   simp only [Nat.zero_add]
   simp [Array.getElem?_append,hlt]
   have:=List.getElem?_eq_some_iff.1 hj
   exact this.2
 refine vcD_sound (c:=⟨P,T,.wp,n,w0,h0,[],λ _=>False,stop,cut⟩) hT (Q:=bodyPostM Fence.wide 1 P fn R) (λ L B F code a w hW hD hS=>hW a w hD hS) ⟨λ _ _ _ _ _ _ _ h=>h.elim,λ _ _ _ _ _ _ h=>h.elim⟩ ?_ (λ ch a w hk _ _=>hk.elim) m code _ _ _ h ac w0 ⟨Fr.of_kv hF.df hF.sz λ t v hv=>?_,inv_nil⟩ ⟨St.init w0 h0 hv,λ k g b o cs hk=>by cases hk⟩
 ·intro L B F a w hk hD hS
  obtain ⟨vs,h1,h2⟩:=resK_sound (c:=⟨P,T,.wp,n,w0,h0,[],λ _=>False,stop,cut⟩) hT hD hS.wok hk
  obtain ⟨_,v,hv1,hv2⟩:=f_ret (R:=R) hD.fr hr h2 (hE _ _ _ _ h1 hS)
  show LeavesInM Fence.wide 1 P fn a.tmps R a.defers .returning w
  rw [hD.fr.df]
  exact ⟨v,hv1,hv2⟩
 ·have e:argS args 0=argV (args.map .v) 0:=argS_V args 0
  rw [e] at hv
  have:=argV_kv (args.map .v) 0 t v hv
  rw [List.map_map] at this
  have e2:(dv [] ∘ SV.v)=id:=by funext x; rfl
  rw [e2,List.map_id] at this
  exact hF.at_ t v this
theorem regM {c:Cx} (hT:c.T.Ok c.P) (hmd:c.md = .wp) {i:Nat} {ops:List Oper} {L:SL} {B:BL} {F:FV} {Q:Exit→Act→World→Prop} {a:Act} {w:World} {ds:List Deferred} {K:KN} (hD:Dn c L [] B a) (hS:Sx c B F w) (hn:∀ o∈ops,NoDef c.P o)
  (h:regK c ops L B F K) (k:∀ L B F a w,K L B F→Dn c L [] B a→Sx c B F w→Q .normal { a with defers:=ds } w) (hp:PanOk c λ e a w=>Q e { a with defers:=ds } w):codeM .wp c.P (.region i ops.toArray false) Q { a with defers:=ds } w:=by
 refine c_reg ?_
 show wpList c.P _ Q _ _ w
 refine wpList_df _ a w hn ?_
 have:=(runs_sound hT ops L [] B F h inv_nil).run (λ e a w=>Q e { a with defers:=ds } w) a w (push_ok (kn:=K) (Q:=λ e a w=>Q e { a with defers:=ds } w) k) hp hD hS
 rw [hmd] at this
 exact this
theorem own_sl {c:Cx} {B:BL} {F:FV} {w:World} {α:Type} {T sz nn cp k:Nat} {a0:Option Addr} {g:α→List Value} {l:List α} (hB:lkA B k=some (.e (bufE T sz (.slice a0 nn cp) (l.map g).flatten))) (hn:nn=l.length) (hg:∀ x∈l,(g x).length=sz) (hS:Sx c B F w):SlC T sz (flatR g) (Full w) (.slice a0 nn cp) l:=by
 obtain ⟨i,hi,_⟩:=lkE_ix hB
 refine BufC.sl (hS.st.own _ (List.mem_of_getElem? hi)) (λ b hb=>?_) hg hn
 show w.heap[b]?=_
 unfold bufE
 rw [hb]; rfl
theorem hand {c:Cx} (hT:c.T.Ok c.P) {k:Code} {L:SL} {B:BL} {F:FV} {Q:Exit→Act→World→Prop} {a:Act} {w:World} (hD:Dn c L [] B a) (hS:Sx c B F w)
  (h:vcC c k L B F (λ L B F=>∀ a w,Dn c L [] B a→Sx c B F w→Q .normal a w) (λ _ _ _ _=>False) (λ _ _ _=>False)) (hp:PanOk c Q):codeM c.md c.P k Q a w :=
 (vcC_sound hT k L B F _ _ _ h).run Q a w (λ _ _ _ a w hk hD hS=>hk a w hD hS) ⟨λ _ _ _ _ _ _ _ h=>h.elim,λ _ _ _ _ _ _ h=>h.elim⟩ (λ _ _ _ _ _ h _ _=>h.elim) hp hD hS
theorem nil_dn {c:Cx} {L:SL} {B:BL} {a:Act} (k:Nat) (e:OE) (hD:Dn c L [] B a) (hk:lkA B k=none:=by rfl):Dn c L [] ((k,.e e)::B) a:=⟨by rw [fl_congr (nil_dv hk e)]; exact hD.fr,inv_nil⟩
theorem set_tmp {ts:Array Value} {n p:Nat} {v:Value} (hsz:ts.size=n) (hp:p<n):(ts.setIfInBounds p v).getD p undef=v∧∀ t,t≠p→(ts.setIfInBounds p v).getD t undef=ts.getD t undef:=by
 subst hsz
 refine ⟨by simp [Array.getD,hp],λ t ht=>?_⟩
 rw [Array.getD_eq_getD_getElem?,Array.getD_eq_getD_getElem?,Array.getElem?_setIfInBounds_ne (Ne.symm ht)]
theorem run_yield1 {P:Program} {w:World} {l p:Nat} {r:Loop} {v:Value} (h:w.heap[l]?=some (.loop r)) (hp:r.params=#[p]):(Instr.yield l [v].toArray).run P w = .ok (.round l r.fn (r.tmps.setIfInBounds p v) r.assign r.body) w:=by
 have:=run_yield (P:=P) (args:=[v].toArray) h (by rw [hp]; rfl)
 rw [hp] at this
 simpa using this
theorem kv_none {L:SL} {B:BL} {t:Nat} (h:lkA L t=none):kv L [] B t=none:=by
 unfold kv
 rw [h]; rfl
section own
variable {c:Cx} (hT:c.T.Ok c.P)
include hT
theorem ixB {al:List Oper} {K:KR} {d t e T:Nat} {x y:Operand} {ty:TypeId} {pos:String} {af:Array Edge} {r:List Oper} {L:SL} {B:BL} {F:FV} {a:Option Addr} {n cp m:Nat} {xs:List Value} {it:IntKind} {i:Int} (k:Nat)
  (hB:lkA B k=some (.e (bufE T 1 (.slice a n cp) xs))) (ht:SlT c.P t e 1) (hx:rdS L [] none x=some (.v (.slice a n cp))) (hy:rdS L [] none y=some (.v (.int it i))) (hi:i=(m:Int)) (hm:m<n)
  (h:∀ b o,a=some ⟨b,o,none⟩→runs c al true K r ((d,.v (.pointer (some ⟨b,o+m,none⟩)))::L) [] B F) (hd:Nat.blt d c.n=true:=by rfl):true=true∧WP c al (⟨some d,.indexAddr t x y,ty,pos,af,none⟩::r) L [] B F K:=by
 refine ⟨rfl,⟨λ Q ac w hn hp hD hS=>?_⟩⟩
 obtain ⟨q,hq,_⟩:=lkE_ix hB
 have hC:=hS.st.own _ (List.mem_of_getElem? hq)
 rcases hC with ⟨h1,_⟩ | ⟨g,off,n',cap,cur,fz,h1,_⟩
 ·cases h1; omega
 ·cases h1
  have hpu:=pu_iaddr_sla (P:=c.P) (w:=w) (d:=some d) (ty:=ty) (pos:=pos) (af:=af) (g:=none) (L:=fl L [] B) (j:=m) rfl ht (ev_sl hx rfl) (ev_sl (v := .int it i) hy rfl) hi hm
  rw [Nat.mul_one] at hpu
  exact s_pu hD.fr hpu hd λ a' hF'=>(runs_sound hT r _ _ _ _ (h g off rfl) inv_nil).run Q a' w hn hp ⟨hF',inv_nil⟩ hS
theorem ldB {al:List Oper} {K:KR} {d t T:Nat} {x:Operand} {ty:TypeId} {pos:String} {af:Array Edge} {r:List Oper} {L:SL} {B:BL} {F:FV} {b o n cp m:Nat} {xs:List Value} {v:Value} (k:Nat)
  (hB:lkA B k=some (.e (bufE T 1 (.slice (some ⟨b,o,none⟩) n cp) xs))) (ht:OneT c.P t) (hx:rdS L [] none x=some (.v (.pointer (some ⟨b,o+m,none⟩)))) (hm:xs[m]?=some v)
  (h:runs c al true K r ((d,.v v)::L) [] B F) (hd:Nat.blt d c.n=true:=by rfl):true=true∧WP c al (⟨some d,.load t x,ty,pos,af,none⟩::r) L [] B F K:=by
 refine goPu hT v (λ w hS=>?_) h hd
 obtain ⟨q,hq,_⟩:=lkE_ix hB
 have hC:=hS.st.own _ (List.mem_of_getElem? hq)
 refine pu_load1 ht (ev_sl hx rfl) ?_
 have hC':BufC T 1 (.slice (some ⟨b,o,none⟩) n cp) xs w.heap[b]?:=hC
 rw [buf_cell hC' (List.getElem?_eq_some_iff.1 hm).1]; exact hm
end own
end Go.Dx
