/- Laws of walks, and what functions of the program compute: the first part. Each with the conditions that it names. -/
import Derived.WalkKit
import Derived.StillTail
import Derived.TacticsIn
import Derived.Laws.IdiomStrings
import Derived.ProofKit
import Derived.SizedLaws
import Derived.Deep.Strs
import Derived.JoinedOf
import Derived.LaidMore
import Derived.OpenShut
import Derived.Stop.Joined
import Derived.Scope
import Derived.ScopeJumps
import Derived.Laws.RangeAny
import Derived.Laws.StructEq
import Derived.Deep.Slices
import Derived.ChangeKeysEq
import Derived.Lib.Bytealg
set_option linter.unusedSimpArgs false
set_option linter.unusedVariables false
namespace Go.Dx
open Go Go.RowKit
structure Keep (M:List Nat) (w w':World):Prop where
 os:w'.os=w.os
 tape:w'.tape=w.tape
 output:w'.output=w.output
 drawn:w.drawn≤w'.drawn
 size:w.heap.size≤w'.heap.size
 block:∀ k,k<w.heap.size→k ∉ M→w'.heap[k]?=w.heap[k]?
abbrev VP:=Value→World→Prop
abbrev SP:=(Nat→Value)→World→Prop
def sl (a:Act):Nat→Value:=λ t=>a.tmps.getD t undef
def DoesR (P:Program) (Post:VP):Result Next→Prop
 | .ok (.value v) w'=>Post v w'
 | .ok (.enter f args) w'=>Calls P f args w' λ e w''=>∃ v,e = .returned v∧Post v w''
 | _=>False
def Does (P:Program) (o:Oper) (ρ:Operand→Value) (w:World) (Post:VP):Prop:=DoesR P Post ((execOp ρ o).run P w)
def DoesS (P:Program) (o:Oper) (ρ:Operand→Value) (w:World) (Post:VP):Prop:=Does P o ρ w Post∨∃ w',(execOp ρ o).run P w = .ok .skip w'∧Post undef w'
theorem wp_of_does {P:Program} {o:Oper} {a:Act} {w:World} {K:Act→World→Prop} {Q:Exit→Act→World→Prop}
  (h:Does P o a.eval w λ v w'=>K (a.put o.dst v) w'):o.wp P a w K Q:=by
 unfold Does at h
 unfold Oper.wp
 generalize (execOp a.eval o).run P w=r at *
 cases r with
 | ok n w' =>
  cases n <;> simp only [DoesR] at h <;> simp only [Oper.upon]
  case value u=>exact h
  case enter f args=>exact h.mono λ e w'' ⟨v,he,hv⟩=>by subst he; exact hv
 | halt x w'=>exact h.elim
section region
variable (P:Program) (ops:Array Oper) (C:World→Prop) (R:World→World→Prop)
def stab (o:Oper) (t:Nat):Prop:=∀ j o',ops[j]?=some o'→o'.dst=some t→∃ e∈o.after,Region.binds .any e=true∧e.on=j
def OpTy (o:Oper) (Γ:Nat→VP) (Φ:VP) (D:SP):Prop :=
 ((∀ v w w',C w→R w w'→Φ v w→Φ v w')∧(∀ σ σ' w w',C w→R w w'→(∀ t,stab ops o t→σ t=σ' t)→D σ w→D σ' w')) ∧
 ∀ (a:Act) (w:World),C w→(∀ t∈o.looksAt ops,Γ t (a.tmps.getD t undef) w) →
  if Region.wanted o (yielded ops a.tmps) then DoesS P o a.eval w λ v w'=>C w'∧R w w'∧Φ v w'∧D (sl (a.put o.dst v)) w' else Φ undef w∧D (sl (a.put o.dst undef)) w
def Γset (Γ:Nat→VP) (d:Option Nat) (Φ:VP):Nat→VP:=λ t=>if d=some t then Φ else Γ t
def TyW:(SP→(Nat→VP)→Prop)→List Oper→(Nat→VP)→Prop
 | Qf,[],Γ=>Qf (λ _ _=>True) Γ
 | Qf,o::rest,Γ=>∃ (Φ:VP) (D:SP),OpTy P ops C R o Γ Φ D∧TyW (λ E Γ=>Qf (λ σ w=>D σ w∧E σ w) Γ) rest (Γset Γ o.dst Φ)
def dstAt (i:Nat):Option Nat:=(ops[i]?).bind (·.dst)
def lastW:Nat→Nat→Option Nat
 | 0,_=>none
 | j+1,t=>if dstAt ops j=some t then some j else lastW j t
def lastS (S:Nat→Bool):Nat→Nat→Option Nat
 | 0,_=>none
 | j+1,t=>if S j=true∧dstAt ops j=some t then some j else lastS S j t
variable {P ops C R}
theorem lastW_succ (j t:Nat):lastW ops (j+1) t=if dstAt ops j=some t then some j else lastW ops j t:=rfl
theorem lastS_full {S:Nat→Bool} {t:Nat}:∀ (m:Nat),(∀ i,i<m→dstAt ops i=some t→S i=true)→lastS ops S m t=lastW ops m t
 | 0,_=>rfl
 | m+1,h=>by
  have ih:=lastS_full m λ i hi hd=>h i (by omega) hd
  unfold lastS lastW
  by_cases hd:dstAt ops m=some t
  ·simp [hd,h m (by omega) hd]
  ·simp [hd,ih]
theorem lastS_eq {S : Nat → Bool} {t j : Nat} : ∀ (m : Nat), j ≤ m → (∀ i, i < j → dstAt ops i = some t → S i = true) →
    (∀ i, j ≤ i → i < m → dstAt ops i = some t → S i = false) → lastS ops S m t = lastW ops j t
  | 0, hj, h1, _ => by have : j = 0 := by omega
                       subst this; rfl
  | m + 1, hj, h1, h2 => by
    by_cases hjm : j = m + 1
    · subst hjm; exact lastS_full _ h1
    · have ih := lastS_eq m (by omega) h1 fun i hi hi' hd => h2 i hi (by omega) hd
      unfold lastS
      by_cases hd : dstAt ops m = some t
      · have := h2 m (by omega) (by omega) hd
        simp [this, ih]
      · simp [hd, ih]
theorem lastS_succ (S:Nat→Bool) (j t:Nat):lastS ops S (j+1) t=if S j=true∧dstAt ops j=some t then some j else lastS ops S j t:=rfl
theorem lastS_set_ne {S:Nat→Bool} {t j:Nat} (hd:dstAt ops j≠some t):∀ m,lastS ops (λ i=>decide (i=j)||S i) m t=lastS ops S m t
 | 0=>rfl
 | m+1=>by
  have ih:=lastS_set_ne (S:=S) hd m
  rw [lastS_succ,lastS_succ,ih]
  by_cases hm:m=j
  ·subst hm; simp [hd]
  ·simp [hm]
theorem lastS_set_eq {S:Nat→Bool} {t j:Nat} (hd:dstAt ops j=some t):∀ m,j<m→(∀ i,j<i→i<m→dstAt ops i=some t→S i=false) →
  lastS ops (λ i=>decide (i=j)||S i) m t=some j
 | 0,h,_=>by omega
 | m+1,h,h2=>by
  rw [lastS_succ]
  by_cases hm:m=j
  ·subst hm; simp [hd]
  ·have ih:=lastS_set_eq hd m (by omega) λ i hi hi' hd'=>h2 i hi (by omega) hd'
   by_cases hdm:dstAt ops m=some t
   ·have:=h2 m (by omega) (by omega) hdm
    simp only [this,hm,decide_false,Bool.false_or,Bool.false_eq_true,false_and,if_false]
    exact ih
   ·simp only [hdm,and_false,if_false]
    exact ih
def pr (Γ0:Nat→VP) (Φs:Nat→VP) (t:Nat):Option Nat→VP
 | none=>Γ0 t
 | some i=>Φs i
theorem Γset_pr {Γ0:Nat→VP} {Φs:Nat→VP} {j:Nat} {o:Oper} (ho:ops[j]?=some o) :
  Γset (λ t=>pr Γ0 Φs t (lastW ops j t)) o.dst (Φs j)=λ t=>pr Γ0 Φs t (lastW ops (j+1) t):=by
 funext t
 unfold Γset
 rw [lastW_succ]
 have:dstAt ops j=o.dst:=by simp [dstAt,ho]
 rw [this]
 by_cases h:o.dst=some t
 ·simp [h,pr]
 ·simp [h]
theorem tyw_extract {Γ0:Nat→VP}:∀ (l:List Oper) (k:Nat) (Φs:Nat→VP) (Qf:SP→(Nat→VP)→Prop),
  (∀ j,j<l.length→l[j]?=ops[k+j]?)→TyW P ops C R Qf l (λ t=>pr Γ0 Φs t (lastW ops k t)) →
  ∃ (Ψ:Nat→VP) (Δ:Nat→SP),(∀ i,i<k→Ψ i=Φs i)∧(∀ i o,k≤i→i<k+l.length→ops[i]?=some o→OpTy P ops C R o (λ t=>pr Γ0 Ψ t (lastW ops i t)) (Ψ i) (Δ i)) ∧
   ∃ E:SP,(∀ σ w,(∀ i,k≤i→i<k+l.length→Δ i σ w)→E σ w)∧Qf E (λ t=>pr Γ0 Ψ t (lastW ops (k+l.length) t)):=by
 intro l
 induction l with
 | nil=>exact λ k Φs Qf _ h=>⟨Φs,λ _ _ _=>True,λ _ _=>rfl,λ i o h1 h2=>by simp at h2; omega,λ _ _=>True,λ _ _ _=>trivial,h⟩
 | cons o l ih =>
  intro k Φs Qf hl h
  obtain ⟨Φ,D,hop,hrest⟩:=h
  have h0:ops[k]?=some o:=by simpa using (hl 0 (by simp)).symm
  have hlast:∀ (Ψ:Nat→VP) (j:Nat),(∀ i,i<j→Ψ i=Φs i)→(λ t=>pr Γ0 Ψ t (lastW ops j t))=λ t=>pr Γ0 Φs t (lastW ops j t):=by
   intro Ψ j hj
   funext t
   have hlt:∀ m,m≤j→pr Γ0 Ψ t (lastW ops m t)=pr Γ0 Φs t (lastW ops m t):=by
    intro m
    induction m with
    | zero=>intro _; rfl
    | succ m ihm =>
     intro hm
     unfold lastW
     split
     ·exact hj m (by omega)
     ·exact ihm (by omega)
   exact hlt j (Nat.le_refl _)
  let Φs':Nat→VP:=λ i=>if i=k then Φ else Φs i
  have e1:(λ t=>pr Γ0 Φs' t (lastW ops k t))=λ t=>pr Γ0 Φs t (lastW ops k t):=hlast Φs' k λ i hi=>by simp [Φs',Nat.ne_of_lt hi]
  have e2:=Γset_pr (Γ0:=Γ0) (Φs:=Φs') h0
  have e3:Φs' k=Φ:=by simp [Φs']
  rw [e1,e3] at e2
  rw [e2] at hrest
  obtain ⟨Ψ,Δ',g1,g2,E,g4,g3⟩:=ih (k+1) Φs' _ (λ j hj=>by have:=hl (j+1) (by simp; omega); simpa [Nat.add_assoc,Nat.add_comm 1 j] using this) hrest
  refine ⟨Ψ,λ i=>if i=k then D else Δ' i,λ i hi=>by rw [g1 i (by omega)]; simp [Φs',Nat.ne_of_lt hi],λ i o' h1 h2 hio=>?_,λ σ w=>D σ w∧E σ w,λ σ w hw=>⟨?_,g4 σ w λ i h1 h2=>?_⟩,?_⟩
  ·by_cases hik:i=k
   ·subst hik
    have:o'=o:=Option.some.inj (hio.symm.trans h0)
    subst this
    rw [g1 i (by omega),e3]
    rw [hlast Ψ i λ m hm=>by rw [g1 m (by omega)]; simp [Φs',Nat.ne_of_lt hm]]
    show OpTy P ops C R o' _ Φ (if i=i then D else Δ' i)
    rw [if_pos rfl]
    exact hop
   ·show OpTy P ops C R o' _ (Ψ i) (if i=k then D else Δ' i)
    rw [if_neg hik]; exact g2 i o' (by omega) (by simp only [List.length_cons] at h2; omega) hio
  ·have:=hw k (Nat.le_refl _) (by simp)
   simpa using this
  ·have:=hw i (by omega) (by simp only [List.length_cons]; omega)
   simpa [show i≠k by omega] using this
  ·rw [show k+(o::l).length=k+1+l.length from by simp only [List.length_cons]; omega]
   exact g3
end region
def clash (ops:Array Oper) (x y:Oper):Bool :=
 match x.dst with
 | some d=>(y.looksAt ops).contains d||y.dst == some d
 | none=>false
def typB (ops:Array Oper) (n:Nat):Bool :=
 (List.range ops.size).all (λ j=>match ops[j]? with
  | some o=>o.after.all (λ e => !Region.binds .any e||decide (e.on<j))
  | none=>true) &&
 (List.range n).all (λ j=>(List.range j).all λ i=>match ops[i]?,ops[j]? with
  | some x,some y => !(clash ops x y||clash ops y x)||Region.waitsFor .any ops j i
  | _,_=>true) &&
 (decide (ops.size≤n)||(Region.sinkB .any ops n&&Region.chainB .any ops n))
theorem typB_edge {ops:Array Oper} {n:Nat} (h:typB ops n=true) {j:Nat} {o:Oper} (ho:ops[j]?=some o) :
  ∀ e∈o.after,Region.binds .any e=true→e.on<j:=by
 simp only [typB,Bool.and_eq_true] at h
 have h1:=List.all_eq_true.1 h.1.1 j (List.mem_range.2 (Array.getElem?_eq_some_iff.1 ho).1)
 simp only [ho] at h1
 intro e he hb
 have:=Array.all_eq_true'.1 h1 e he
 simpa [hb] using this
theorem typB_pair {ops:Array Oper} {n:Nat} (h:typB ops n=true) {i j:Nat} (hij:i<j) (hj:j<n) {x y:Oper} (hx:ops[i]?=some x) (hy:ops[j]?=some y)
  (hc:clash ops x y=true∨clash ops y x=true):Region.waitsFor .any ops j i=true:=by
 simp only [typB,Bool.and_eq_true] at h
 have h1:=List.all_eq_true.1 (List.all_eq_true.1 h.1.2 j (List.mem_range.2 hj)) i (List.mem_range.2 hij)
 simp only [hx,hy] at h1
 rcases hc with hc | hc <;> simpa [hc] using h1
theorem clash_of {ops:Array Oper} {x y:Oper} {t:Nat} (hd:x.dst=some t) (h:t∈y.looksAt ops∨y.dst=some t):clash ops x y=true:=by
 unfold clash
 rw [hd]
 rcases h with h | h
 ·simp [h]
 ·simp [h]
theorem put_getD_ne {a:Act} {d:Option Nat} {v:Value} {t:Nat} (h:d≠some t):(a.put d v).tmps.getD t undef=a.tmps.getD t undef:=by
 cases d with
 | none=>rfl
 | some e =>
  have:e≠t:=λ he=>h (by rw [he])
  simp [Act.put,Array.getElem?_setIfInBounds_ne this]
theorem put_size (a:Act) (d:Option Nat) (v:Value):(a.put d v).tmps.size=a.tmps.size:=by cases d <;> simp [Act.put]
theorem put_df (a:Act) (d:Option Nat) (v:Value):(a.put d v).defers=a.defers:=by cases d <;> simp [Act.put]
theorem looksAt_of_dst {ops:Array Oper} {t k:Nat} (h:dstAt ops k=some t):∃ o,ops[k]?=some o∧o.dst=some t:=by
 unfold dstAt at h
 cases ho:ops[k]? with
 | none=>simp [ho] at h
 | some o=>exact ⟨o,rfl,by simpa [ho] using h⟩
theorem lastS_some {ops:Array Oper} {S:Nat→Bool} {t k:Nat}:∀ m,lastS ops S m t=some k→k<m∧S k=true∧dstAt ops k=some t
 | 0,h=>by simp [lastS] at h
 | m+1,h=>by
  rw [lastS_succ] at h
  split at h
  ·rename_i hc
   have:m=k:=by simpa using h
   subst this
   exact ⟨by omega,hc.1,hc.2⟩
  ·have:=lastS_some m h
   exact ⟨by omega,this.2.1,this.2.2⟩
section sound
variable {P:Program} {ops:Array Oper} {C:World→Prop} {R:World→World→Prop} {Δ:Nat→SP} {Q:Exit→Act→World→Prop} {n:Nat} {Γ0 Ψ:Nat→VP} {df:List Deferred} {sz:Nat}
structure TInv (P:Program) (ops:Array Oper) (C:World→Prop) (Δ:Nat→SP) (n:Nat) (Γ0 Ψ:Nat→VP) (df:List Deferred) (sz:Nat) (listed:Array Bool) (a:Act) (w:World):Prop where
 head:HeadInv .any ops n listed
 cls:C w
 hdf:a.defers=df
 hsz:a.tmps.size=sz
 done:∀ i,i<n→listed.getD i false=true→Δ i (sl a) w
 slots:∀ t,pr Γ0 Ψ t (lastS ops (λ i=>listed.getD i false) n t) (a.tmps.getD t undef) w
def openN (listed:Array Bool) (n:Nat):Nat:=((List.range n).filter λ i => !listed.getD i false).length
theorem openN_set {listed:Array Bool} {i:Nat} (h:listed.getD i false=false) (hi:i<listed.size):∀ n,i<n→openN (listed.setIfInBounds i true) n+1=openN listed n:=by
 have hne:∀ k,k≠i→(listed.setIfInBounds i true).getD k false=listed.getD k false:=λ k hk=>by
  simp [Array.getElem?_setIfInBounds_ne (Ne.symm hk)]
 have hle:∀ n,n≤i→openN (listed.setIfInBounds i true) n=openN listed n:=by
  intro n hn
  unfold openN
  congr 1
  apply List.filter_congr
  intro k hk
  rw [hne k (by have:=List.mem_range.1 hk; omega)]
 intro n hn
 induction n with
 | zero=>omega
 | succ n ih =>
  unfold openN at *
  rw [List.range_succ,List.filter_append,List.filter_append,List.length_append,List.length_append]
  by_cases hin:n=i
  ·subst hin
   have h1:=hle n (Nat.le_refl _)
   unfold openN at h1
   rw [h1]
   have e1:(listed.setIfInBounds n true).getD n false=true:=by simp [hi]
   simp only [List.filter_cons,List.filter_nil,e1,h]
   simp
  ·have:=ih (by omega)
   have e1:=hne n hin
   simp only [List.filter_cons,List.filter_nil,e1]
   omega
theorem openN_pos {listed:Array Bool}:∀ n,0<openN listed n→∃ k,k<n∧listed.getD k false=false∧∀ j,j<k→listed.getD j false=true
 | 0,h=>by simp [openN] at h
 | n+1,h=>by
  by_cases hp:0<openN listed n
  ·obtain ⟨k,h1,h2,h3⟩:=openN_pos n hp
   exact ⟨k,by omega,h2,h3⟩
  ·have h0:openN listed n=0:=by omega
   unfold openN at h h0
   rw [List.range_succ,List.filter_append,List.length_append,h0] at h
   refine ⟨n,by omega,?_,λ j hj=>?_⟩
   ·simp only [List.filter_cons,List.filter_nil] at h
    cases hl:listed.getD n false with
    | false=>rfl
    | true=>simp [hl] at h
   ·have:=List.eq_nil_of_length_eq_zero h0
    rw [List.filter_eq_nil_iff] at this
    have:=this j (List.mem_range.2 hj)
    simpa using this
theorem wpAny_of_typed {g:Nat} (hB:typB ops n=true) (hn:n≤ops.size)
  (hΨ:∀ i o,i<n→ops[i]?=some o→OpTy P ops C R o (λ t=>pr Γ0 Ψ t (lastW ops i t)) (Ψ i) (Δ i)) (hRr:∀ w,R w w)
  (hsz:∀ i t,dstAt ops i=some t→t<sz)
  (hΓ0:∀ t v w w',C w→R w w'→Γ0 t v w→Γ0 t v w')
  (hfin:∀ listed a w,openN listed n=0→TInv P ops C Δ n Γ0 Ψ df sz listed a w→wpAny P .any ops Q g listed a w) :
  ∀ (f:Nat) (listed:Array Bool) (a:Act) (w:World),openN listed n=f→TInv P ops C Δ n Γ0 Ψ df sz listed a w→wpAny P .any ops Q (f+g) listed a w:=by
 intro f
 induction f with
 | zero=>intro listed a w h0 inv; rw [Nat.zero_add]; exact hfin listed a w h0 inv
 | succ f ih =>
  intro listed a w hf inv
  obtain ⟨k,hk,hkl,hkall⟩:=openN_pos n (by omega:0<openN listed n)
  have hks:k<listed.size:=by rw [inv.head.size]; omega
  rw [show f+1+g=(f+g)+1 by omega]
  refine ⟨λ h0=>?_,λ i hi=>?_⟩
  ·exfalso
   have hko:∃ o,ops[k]?=some o:=⟨_,Array.getElem?_eq_getElem (by omega)⟩
   obtain ⟨o,ho⟩:=hko
   have:k∈Region.ready .any ops listed:=mem_ready.2 ⟨getD_in hks hkl,o,ho,λ e he hb=>hkall _ (typB_edge hB ho e he hb)⟩
   rw [h0] at this
   cases this
  ·obtain ⟨hun,o,ho,hall⟩:=mem_ready.1 hi
   have hun':listed.getD i false=false:=getD_both hun
   have hi_lt:i<n:=by
    by_cases hns:n<ops.size
    ·rcases Nat.lt_or_ge i n with h | h
     ·exact h
     ·have hB':=hB
      simp only [typB,Bool.and_eq_true,Bool.or_eq_true,decide_eq_true_eq] at hB'
      rcases hB'.2 with h' | ⟨hs,hc⟩
      ·omega
      ·exact absurd hi (tail_waits hs hc hns inv.head _ k rfl hk (getD_in hks hkl) i h)
    ·have:=(Array.getElem?_eq_some_iff.1 ho).1; omega
   have hsize:i<listed.size:=by rw [inv.head.size]; omega
   -- those before are listed,those behind are not
   have F1:∀ t,(t∈o.looksAt ops∨o.dst=some t)→∀ i',i'<i→dstAt ops i'=some t→listed.getD i' false=true:=by
    intro t ht i' hi' hd
    obtain ⟨x,hx,hxd⟩:=looksAt_of_dst hd
    have hw:=typB_pair hB hi' hi_lt hx ho (.inl (clash_of hxd ht))
    obtain ⟨oj,hoj,e,he,hb,hon⟩:=Region.waitsFor_spec hw
    have:oj=o:=Option.some.inj (hoj.symm.trans ho)
    subst this
    have:=hall e he hb
    rwa [hon] at this
   have F2:∀ t,(t∈o.looksAt ops∨o.dst=some t)→∀ i',i<i'→i'<n→dstAt ops i'=some t→listed.getD i' false=false:=by
    intro t ht i' hi' hi'n hd
    obtain ⟨y,hy,hyd⟩:=looksAt_of_dst hd
    have hw:=typB_pair hB hi' hi'n ho hy (.inr (clash_of hyd ht))
    obtain ⟨oj,hoj,e,he,hb,hon⟩:=Region.waitsFor_spec hw
    cases hl:listed.getD i' false with
    | false=>rfl
    | true =>
     have:=inv.head.closed i' oj hoj hl e he hb
     rw [hon,hun'] at this
     cases this
   have hget:∀ t∈o.looksAt ops,pr Γ0 Ψ t (lastW ops i t) (a.tmps.getD t undef) w:=by
    intro t ht
    have:=inv.slots t
    rwa [lastS_eq (j:=i) n (by omega) (F1 t (.inl ht)) (λ i' h1 h2 hd=>by
     by_cases hii:i'=i
     ·subst hii; exact hun'
     ·exact F2 t (.inl ht) i' (by omega) h2 hd)] at this
   have hop:=hΨ i o hi_lt ho
   have hres:=hop.2 a w inv.cls hget
   have hstab:∀ t w',R w w'→pr Γ0 Ψ t (lastS ops (λ i=>listed.getD i false) n t) (a.tmps.getD t undef) w →
     pr Γ0 Ψ t (lastS ops (λ i=>listed.getD i false) n t) (a.tmps.getD t undef) w':=by
    intro t w' hk' h
    cases hl:lastS ops (λ i=>listed.getD i false) n t with
    | none=>rw [hl] at h; exact hΓ0 t _ _ _ inv.cls hk' h
    | some m =>
     rw [hl] at h
     obtain ⟨h1,_,h3⟩:=lastS_some n hl
     obtain ⟨om,hom,_⟩:=looksAt_of_dst h3
     exact (hΨ m om h1 hom).1.1 _ _ _ inv.cls hk' h
   have hset:∀ i',(listed.setIfInBounds i true).getD i' false=(decide (i'=i)||listed.getD i' false):=by
    intro i'
    by_cases h:i'=i
    ·subst h; simp [hsize]
    ·simp [h,Array.getElem?_setIfInBounds_ne (Ne.symm h)]
   have hnext:∀ v w',C w'→R w w'→Ψ i v w'→Δ i (sl (a.put o.dst v)) w'→TInv P ops C Δ n Γ0 Ψ df sz (listed.setIfInBounds i true) (a.put o.dst v) w':=by
    intro v w' hC' hk' hv hD
    refine ⟨inv.head.set hi hi_lt,hC',by rw [put_df]; exact inv.hdf,by rw [put_size]; exact inv.hsz,λ m hm hl=>?_,λ t=>?_⟩
    ·rw [hset m] at hl
     by_cases hmi:m=i
     ·subst hmi; exact hD
     ·have hl':listed.getD m false=true:=by simpa [hmi] using hl
      obtain ⟨om,hom⟩:∃ om,ops[m]?=some om:=⟨_,Array.getElem?_eq_getElem (by omega)⟩
      refine (hΨ m om hm hom).1.2 (sl a) _ _ _ inv.cls hk' (λ t ht=>?_) (inv.done m hm hl')
      by_cases hdt:o.dst=some t
      ·obtain ⟨e,he,heb,hei⟩:=ht i o ho hdt
       have:=inv.head.closed m om hom hl' e he heb
       rw [hei,hun'] at this
       cases this
      ·exact (put_getD_ne hdt).symm
    rw [show (λ i'=>(listed.setIfInBounds i true).getD i' false)=λ i'=>decide (i'=i)||listed.getD i' false from funext hset]
    have hdi:dstAt ops i=o.dst:=by simp [dstAt,ho]
    by_cases hd:o.dst=some t
    ·rw [lastS_set_eq (S:=λ i'=>listed.getD i' false) (by rw [hdi]; exact hd) n hi_lt (λ i' h1 h2 hd'=>F2 t (.inr hd) i' h1 h2 hd')]
     rw [hd]
     have:((a.put (some t) v).tmps.getD t undef)=v:=by simp [Act.put,inv.hsz,hsz i t (by rw [hdi]; exact hd)]
     rw [this]
     exact hv
    ·rw [lastS_set_ne (S:=λ i'=>listed.getD i' false) (by rw [hdi]; exact hd) n,put_getD_ne hd]
     exact hstab t w' hk' (inv.slots t)
   have hcnt:openN (listed.setIfInBounds i true) n=f:=by have:=openN_set hun' hsize n hi_lt; omega
   unfold wpOp
   simp only [ho]
   split
   ·rename_i hw
    simp only [hw,if_true] at hres
    rcases hres with hres | ⟨w',hr,hp⟩
    rotate_left
    ·refine .inl ?_
     unfold Oper.wp
     rw [hr]
     exact ih _ _ _ hcnt (hnext undef w' hp.1 hp.2.1 hp.2.2.1 hp.2.2.2)
    refine .inl (wp_of_does ?_)
    unfold Does at hres ⊢
    generalize (execOp a.eval o).run P w=r at hres ⊢
    cases r with
    | ok nx w' =>
     cases nx <;> simp only [DoesR] at hres ⊢
     case value v=>exact ih _ _ _ hcnt (hnext v w' hres.1 hres.2.1 hres.2.2.1 hres.2.2.2)
     case enter fi args=>exact hres.mono λ e w'' ⟨v,he,hv⟩=>⟨v,he,ih _ _ _ hcnt (hnext v w'' hv.1 hv.2.1 hv.2.2.1 hv.2.2.2)⟩
    | halt x w'=>exact hres.elim
   ·rename_i hw
    simp only [hw] at hres
    exact ih _ _ _ hcnt (hnext undef w inv.cls (hRr w) hres.1 hres.2)
end sound
def doneN (ops:Array Oper) (n:Nat):Array Bool:=(Array.range ops.size).map λ i=>decide (i<n)
def typT (ops:Array Oper) (n sz:Nat):Bool :=
 typB ops n&&decide (n≤ops.size)&&ops.all (λ o=>match o.dst with | some d=>decide (d<sz) | none=>true) &&
 Region.seqB .any ops (ops.size - n) n (doneN ops n)
theorem openN_zero {listed:Array Bool} {n i:Nat} (h:openN listed n=0) (hi:i<n):listed.getD i false=true:=by
 have:=List.eq_nil_of_length_eq_zero h
 rw [List.filter_eq_nil_iff] at this
 have:=this i (List.mem_range.2 hi)
 simpa using this
theorem keep_drawn (w:World):Keep [] w { w with drawn:=w.drawn+1 }:=⟨rfl,rfl,rfl,Nat.le_succ _,Nat.le_refl _,λ _ _ _=>rfl⟩
theorem Keep.refl (M:List Nat) (w:World):Keep M w w:=⟨rfl,rfl,rfl,Nat.le_refl _,Nat.le_refl _,λ _ _ _=>rfl⟩
theorem Keep.trans {M:List Nat} {a b c:World} (h:Keep M a b) (k:Keep M b c):Keep M a c :=
 ⟨k.os.trans h.os,k.tape.trans h.tape,k.output.trans h.output,Nat.le_trans h.drawn k.drawn,Nat.le_trans h.size k.size,
  λ i hi hm=>(k.block i (Nat.lt_of_lt_of_le hi h.size) hm).trans (h.block i hi hm)⟩
theorem wp_region_typed {P:Program} {id:Nat} {l:List Oper} {Q:Exit→Act→World→Prop} {a:Act} {w:World} (n:Nat) (hm:P.follows .mixedOrders=true)
  (hB:typT l.toArray n a.tmps.size=true)
  {C:World→Prop} {R:World→World→Prop} (hRr:∀ w,R w w) (hC0:∀ w',Keep [] w w'→C w')
  (h:TyW P l.toArray C R (λ E Γ=>∀ a' w',a'.defers=a.defers→a'.tmps.size=a.tmps.size→C w'→E (sl a') w'→(∀ t,Γ t (a'.tmps.getD t undef) w') →
   wpList P l.toArray Q (l.drop n) a' w') (l.take n) (λ t v _=>v=a.tmps.getD t undef)):(Code.region id l.toArray true).wp P Q a w:=by
 simp only [typT,Bool.and_eq_true,decide_eq_true_eq] at hB
 obtain ⟨⟨⟨hB,hn⟩,hd⟩,hseq⟩:=hB
 have hn':n≤l.length:=by simpa using hn
 have htl:(l.take n).length=n:=by simp; omega
 have h':TyW P l.toArray C R _ (l.take n) (λ t=>pr (λ t v _=>v=a.tmps.getD t undef) (λ _ _ _=>True) t (lastW l.toArray 0 t)):=h
 obtain ⟨Ψ,Δ,_,hΨ,E,hE,hQ⟩:=tyw_extract (ops:=l.toArray) (l.take n) 0 _ _ (λ j hj=>by
  rw [htl] at hj
  simp [hj]) h'
 simp only [Nat.zero_add,htl] at hΨ hQ hE
 refine wp_region_any hm ?_
 have inv0:HeadInv .any l.toArray n (Array.replicate l.toArray.size false) :=
  ⟨by simp,λ j oj _ hl=>(by rw [getD_replicate_false] at hl; cases hl),λ t _ ht=>getD_in (by simpa using ht) (getD_replicate_false _ _)⟩
 have hS0:∀ m t,lastS l.toArray (λ i=>(Array.replicate l.toArray.size false).getD i false) m t=none:=by
  intro m t
  induction m with
  | zero=>rfl
  | succ m ih=>rw [lastS_succ,getD_replicate_false]; simpa using ih
 have hcnt:openN (Array.replicate l.toArray.size false) n=n:=by
  unfold openN
  rw [List.filter_eq_self.2 (λ i _=>by rw [getD_replicate_false]; rfl)]
  simp
 have:=wpAny_of_typed (P:=P) (ops:=l.toArray) (C:=C) (R:=R) (Δ:=Δ) (Q:=Q) (n:=n) (Γ0:=λ t v _=>v=a.tmps.getD t undef) (Ψ:=Ψ) (df:=a.defers) (sz:=a.tmps.size) (g:=l.toArray.size - n)
  hB hn (λ i o hi ho=>hΨ i o (Nat.zero_le _) hi ho) hRr
  (λ i t hi=>by
   obtain ⟨o,ho,hod⟩:=looksAt_of_dst hi
   have:=Array.all_eq_true'.1 hd o (Array.mem_of_getElem? ho)
   rw [hod] at this
   simpa using this)
  (λ _ _ _ _ _ _ h=>h)
  (λ listed a' w' h0 inv=>by
   have hl:listed=doneN l.toArray n:=by
    apply Array.ext
    ·rw [inv.head.size]; simp [doneN]
    ·intro i h1 h2
     have e1:listed[i]=listed.getD i false:=by simp [h1]
     have e2:(doneN l.toArray n)[i]=decide (i<n):=by simp [doneN]
     rw [e2]
     by_cases hin:i<n
     ·rw [e1,openN_zero h0 hin]; simp [hin]
     ·have:=inv.head.tail i (by omega) (by rw [← inv.head.size]; exact h1)
      have e3:listed.getD i true=listed[i]:=by simp [h1]
      rw [← e3,this]; simp [hin]
   have hfull:∀ t,lastS l.toArray (λ i=>listed.getD i false) n t=lastW l.toArray n t:=λ t=>lastS_full n λ i hi _=>openN_zero h0 hi
   have hw:=hQ a' w' inv.hdf inv.hsz inv.cls (hE (sl a') w' λ i _ hi=>inv.done i hi (openN_zero h0 hi)) (λ t=>by have:=inv.slots t; rwa [hfull t] at this)
   have hdl:(l.drop n).length=l.toArray.size - n:=by simp
   have:=wpAny_of_seq (md := .any) (Q':=Q) (ops:=l.toArray) (P:=P) (l.drop n) n listed a' w' (λ j=>by simp [List.getElem?_drop]) (by rw [hdl,hl]; exact hseq) hw
   rwa [hdl] at this)
  n (Array.replicate l.toArray.size false) a { w with drawn:=w.drawn+1 } hcnt
  ⟨inv0,hC0 _ (keep_drawn w),rfl,rfl,λ i _ hl=>(by rw [getD_replicate_false] at hl; cases hl),λ t=>by rw [hS0]; rfl⟩
 have e:n+(l.toArray.size - n)=l.toArray.size:=by simp; omega
 rwa [e] at this
end Go.Dx
namespace Go.Dx
open Go Go.RowKit
inductive Ent where
 | val (v:Value)
 | prd (Φ:VP)
abbrev FL:=List (Nat×Ent)
def lk:FL→Nat→Option Ent
 | [],_=>none
 | (k,v)::r,i=>bif Nat.beq k i then some v else lk r i
def vl:Option Ent→Option Value
 | some (.val v)=>some v
 | _=>none
def ev (L:FL):Operand→Option Value
 | .tmp t=>vl (lk L t)
 | .const v=>some v
 | .global g=>some (.pointer (some ⟨g,0,none⟩))
 | .func f=>some (.func (.func f) #[] #[])
def evs (L:FL):List Operand→Option (List Value)
 | []=>some []
 | x::r=>match ev L x,evs L r with
  | some v,some vs=>some (v::vs)
  | _,_=>none
structure Fr (a:Act) (n:Nat) (L:FL):Prop where
 df:a.defers=[]
 sz:a.tmps.size=n
 at_:∀ i v,vl (lk L i)=some v→a.tmps.getD i undef=v
theorem lk_cons_eq (d:Nat) (e:Ent) (L:FL):lk ((d,e)::L) d=some e:=by simp [lk]
theorem lk_cons_ne {d i:Nat} (h:d≠i) (e:Ent) (L:FL):lk ((d,e)::L) i=lk L i:=by
 have:Nat.beq d i=false:=by
  cases hb:Nat.beq d i with
  | false=>rfl
  | true=>exact absurd (Nat.eq_of_beq_eq_true hb) h
 simp [lk,this]
theorem Fr.ev {a:Act} {n:Nat} {L:FL} (h:Fr a n L) {x:Operand} {v:Value} (hx:ev L x=some v):a.eval x=v:=by
 cases x with
 | tmp t=>exact h.at_ t v hx
 | const u=>exact Option.some.inj hx
 | global g=>exact Option.some.inj hx
 | func f=>exact Option.some.inj hx
theorem Fr.put {a:Act} {n:Nat} {L:FL} (h:Fr a n L) {d:Nat} (hd:Nat.blt d n=true) (v:Value):Fr (a.put (some d) v) n ((d,.val v)::L):=by
 have hlt:d<n:=by simpa [Nat.blt_eq] using hd
 refine ⟨h.df,by simp [Act.put,h.sz],λ i u hi=>?_⟩
 by_cases hk:d=i
 ·subst hk
  rw [lk_cons_eq] at hi
  have:v=u:=by simpa [vl] using hi
  subst this
  simp [Act.put,h.sz,hlt]
 ·rw [lk_cons_ne hk] at hi
  have:=h.at_ i u hi
  simpa [Act.put,Array.getElem?_setIfInBounds_ne hk] using this
theorem Fr.putN {a:Act} {n:Nat} {L:FL} (h:Fr a n L) (v:Value):Fr (a.put none v) n L:=h
inductive Picks (L:FL):FL→Prop where
 | nil:Picks L []
 | cons {k:Nat} {v:Value} {L':FL} (h:vl (lk L k)=some v) (r:Picks L L'):Picks L ((k,.val v)::L')
theorem Picks.sub {L L':FL} (h:Picks L L'):∀ i v,vl (lk L' i)=some v→vl (lk L i)=some v:=by
 induction h with
 | nil=>intro i v h; simp [lk,vl] at h
 | cons h r ih =>
  intro i u hi
  rename_i k v L''
  by_cases hk:k=i
  ·subst hk
   rw [lk_cons_eq] at hi
   have:v=u:=by simpa [vl] using hi
   rw [h,this]
  ·rw [lk_cons_ne hk] at hi
   exact ih i u hi
theorem Fr.pick {a:Act} {n:Nat} {L L':FL} (h:Fr a n L) (hp:Picks L L'):Fr a n L':=⟨h.df,h.sz,λ i v hi=>h.at_ i v (hp.sub i v hi)⟩
def Pu (P:Program) (L:FL) (o:Oper) (w:World) (v:Value):Prop :=
 ∀ ρ:Operand→Value,(∀ x∈o.op.operands,∀ u,ev L x=some u→ρ x=u)→(execOp ρ o).run P w = .ok (.value v) w
def Ds (P:Program) (L:FL) (o:Oper) (w:World) (Post:VP):Prop :=
 ∀ ρ:Operand→Value,(∀ x∈o.op.operands,∀ u,ev L x=some u→ρ x=u)→Does P o ρ w Post
theorem Pu.ds {P:Program} {L:FL} {o:Oper} {w:World} {v:Value} (h:Pu P L o w v):Ds P L o w λ u w'=>u=v∧w'=w:=by
 intro ρ hρ
 unfold Does
 rw [h ρ hρ]
 exact ⟨rfl,rfl⟩
theorem Ds.mono {P:Program} {L:FL} {o:Oper} {w:World} {Post Post':VP} (h:Ds P L o w Post) (hp:∀ v w',Post v w'→Post' v w'):Ds P L o w Post':=by
 intro ρ hρ
 have:=h ρ hρ
 unfold Does at *
 generalize (execOp ρ o).run P w=r at *
 cases r with
 | ok nx w' =>
  cases nx <;> simp only [DoesR] at this ⊢
  case value v=>exact hp _ _ this
  case enter f args=>exact this.mono λ e w'' ⟨v,he,hv⟩=>⟨v,he,hp _ _ hv⟩
 | halt x w'=>exact this.elim
inductive Md where
 | wp
 | rd (r:Option Nat)
 | df (ds:List Deferred)
def lft (ds:List Deferred) (Q:Exit→Act→World→Prop):Exit→Act→World→Prop:=λ e a w=>∃ a0:Act,a={ a0 with defers:=ds }∧Q e a0 w
def wideR (r:Option Nat):Fence:={ Fence.wide with round:=r }
def wpM:Md→Program→Array Oper→(Exit→Act→World→Prop)→List Oper→Act→World→Prop
 | .wp=>wpList
 | .rd r=>wpListIn (wideR r) 0
 | .df ds=>λ P ops Q l a w=>wpList P ops (lft ds Q) l { a with defers:=ds } w
def opM (md:Md) (P:Program) (o:Oper) (a:Act) (w:World) (K:Act→World→Prop) (Q:Exit→Act→World→Prop):Prop:=match md with
 | .wp=>o.wp P a w K Q
 | .rd r=>o.wpIn (wideR r) 0 P a w K Q
 | .df ds=>∀ K':Act→World→Prop,(∀ a0 w',K a0 w'→K' { a0 with defers:=ds } w')→o.wp P { a with defers:=ds } w K' (lft ds Q)
def codeM (md:Md) (P:Program) (c:Code) (Q:Exit→Act→World→Prop) (a:Act) (w:World):Prop:=match md with
 | .wp=>c.wp P Q a w
 | .rd r=>c.wpIn (wideR r) 0 P Q a w
 | .df ds=>c.wp P (lft ds Q) { a with defers:=ds } w
theorem put_dfl (a:Act) (d:Option Nat) (v:Value) (ds:List Deferred):({ a with defers:=ds }:Act).put d v={ a.put d v with defers:=ds }:=by cases d <;> rfl
section md
variable {md:Md} {P:Program} {ops rest:List Oper} {opsA:Array Oper} {Q:Exit→Act→World→Prop} {K:Act→World→Prop} {a:Act} {w:World} {o:Oper}
theorem wpM_step (h:∀ K:Act→World→Prop,(∀ a w,wpM md P opsA Q rest a w→K a w)→if Region.wanted o (yielded opsA a.tmps) then opM md P o a w K Q else K (a.put o.dst undef) w):wpM md P opsA Q (o::rest) a w:=by
 cases md with
 | wp=>exact wpList_step h
 | rd r =>
  refine wpListIn_step λ K hK=>?_
  have:=h K hK
  split
  ·rename_i hw; rw [if_pos hw] at this; exact this
  ·rename_i hw; rw [if_neg hw] at this; exact ⟨λ _ _=>trivial,this⟩
 | df ds =>
  refine wpList_step λ K hK=>?_
  have:=h (λ a0 w'=>K { a0 with defers:=ds } w') (λ a0 w' hh=>hK _ _ hh)
  show if Region.wanted o (yielded opsA a.tmps) then _ else _
  split
  ·rename_i hw; rw [if_pos hw] at this; exact this K λ _ _ hh=>hh
  ·rename_i hw; rw [if_neg hw] at this; rw [put_dfl]; exact this
theorem wpM_plain (hg:o.guard=none) (h:∀ K:Act→World→Prop,(∀ a w,wpM md P opsA Q rest a w→K a w)→opM md P o a w K Q):wpM md P opsA Q (o::rest) a w :=
 wpM_step λ K hK=>by simp only [Region.wanted,hg,if_true]; exact h K hK
theorem run_defer {ρ:Operand→Value} {c:Call} (h:o.op = .defer c):∀ nx w',(execOp ρ o).run P w = .ok nx w'→∃ d,nx = .defer d:=by
 intro nx w' hr
 unfold execOp at hr
 rw [h] at hr
 simp only [Sem.run_bind] at hr
 cases hx:(resolve ρ c o.type).run P w with
 | ok d w1=>rw [hx] at hr; simp only [Result.andThen_ok,Sem.run_pure] at hr; cases hr; exact ⟨_,rfl⟩
 | halt x w1=>rw [hx] at hr; cases hr
theorem opM_of_does (h:Does P o a.eval w λ v w'=>K (a.put o.dst v) w'):opM md P o a w K Q:=by
 cases md with
 | wp=>exact wp_of_does h
 | rd r =>
  unfold Does at h
  have hnd:∀ c,o.op ≠ .defer c:=by
   intro c hc
   generalize hr:(execOp a.eval o).run P w=r at h
   cases r with
   | ok nx w' =>
    obtain ⟨d,rfl⟩:=run_defer hc nx w' hr
    exact h
   | halt x w'=>exact h
  refine ⟨λ _ _=>trivial,?_⟩
  rw [Oper.semAt_eq _ _ _ hnd]
  generalize (execOp a.eval o).run P w=r at *
  cases r with
  | ok nx w' =>
   cases nx <;> simp only [DoesR] at h <;> simp only [Oper.uponIn]
   case value u=>exact h
   case enter f args =>
    refine ⟨λ hd=>(by cases hd),?_⟩
    show CallsIn Fence.wide _ P f args w' _
    exact callsIn_wide.2 (h.mono λ e w'' ⟨v,he,hv⟩=>by subst he; exact hv)
  | halt x w'=>exact h.elim
 | df ds =>
  intro K' hK'
  refine wp_of_does ?_
  show Does P o a.eval w _
  unfold Does at *
  generalize (execOp a.eval o).run P w=r at *
  cases r with
  | ok nx w' =>
   cases nx <;> simp only [DoesR] at h ⊢
   case value u=>rw [put_dfl]; exact hK' _ _ h
   case enter f args=>exact h.mono λ e w'' ⟨v,he,hv⟩=>⟨v,he,by rw [put_dfl]; exact hK' _ _ hv⟩
  | halt x w'=>exact h.elim
theorem opM_of_skip {w':World} (hr:(execOp a.eval o).run P w = .ok .skip w') (h:K (a.put o.dst undef) w'):opM md P o a w K Q:=by
 cases md with
 | wp=>show o.wp P a w K Q; unfold Oper.wp; rw [hr]; exact h
 | rd r =>
  have hnd:∀ c,o.op ≠ .defer c:=by
   intro c hc
   obtain ⟨d,hd⟩:=run_defer hc _ _ hr
   cases hd
  refine ⟨λ _ _=>trivial,?_⟩
  rw [Oper.semAt_eq _ _ _ hnd,hr]
  exact h
 | df ds =>
  intro K' hK'
  show o.wp P _ w K' _
  unfold Oper.wp
  have e:(execOp ({ a with defers:=ds }:Act).eval o).run P w = .ok .skip w':=hr
  rw [e]
  show K' (({ a with defers:=ds }:Act).put o.dst undef) w'
  rw [put_dfl]; exact hK' _ _ h
end md
section step
variable {md:Md} {P:Program} {ops rest:List Oper} {opsA:Array Oper} {Q:Exit→Act→World→Prop} {a:Act} {w:World} {n:Nat} {L:FL} {op:Op} {ty:TypeId} {pos:String} {af:Array Edge}
theorem s_ds {d:Nat} {Post:VP} (hF:Fr a n L) (h:Ds P L ⟨some d,op,ty,pos,af,none⟩ w Post) (hd:Nat.blt d n=true)
  (k:∀ v w' a,Post v w'→Fr a n ((d,.val v)::L)→wpM md P opsA Q rest a w'):wpM md P opsA Q (⟨some d,op,ty,pos,af,none⟩::rest) a w:=by
 refine wpM_plain rfl λ K hK=>opM_of_does ?_
 have:=h a.eval (λ x _ u hu=>hF.ev hu)
 unfold Does at *
 generalize (execOp a.eval _).run P w=r at *
 cases r with
 | ok nx w' =>
  cases nx <;> simp only [DoesR] at this ⊢
  case value v=>exact hK _ _ (k v w' _ this (hF.put hd v))
  case enter f args=>exact this.mono λ e w'' ⟨v,he,hv⟩=>⟨v,he,hK _ _ (k v w'' _ hv (hF.put hd v))⟩
 | halt x w'=>exact this.elim
theorem s_dsN {Post:VP} (hF:Fr a n L) (h:Ds P L ⟨none,op,ty,pos,af,none⟩ w Post)
  (k:∀ v w' a,Post v w'→Fr a n L→wpM md P opsA Q rest a w'):wpM md P opsA Q (⟨none,op,ty,pos,af,none⟩::rest) a w:=by
 refine wpM_plain rfl λ K hK=>opM_of_does ?_
 have:=h a.eval (λ x _ u hu=>hF.ev hu)
 unfold Does at *
 generalize (execOp a.eval _).run P w=r at *
 cases r with
 | ok nx w' =>
  cases nx <;> simp only [DoesR] at this ⊢
  case value v=>exact hK _ _ (k v w' _ this (hF.putN v))
  case enter f args=>exact this.mono λ e w'' ⟨v,he,hv⟩=>⟨v,he,hK _ _ (k v w'' _ hv (hF.putN v))⟩
 | halt x w'=>exact this.elim
theorem s_pu {d:Nat} {v:Value} (hF:Fr a n L) (h:Pu P L ⟨some d,op,ty,pos,af,none⟩ w v) (hd:Nat.blt d n=true)
  (k:∀ a,Fr a n ((d,.val v)::L)→wpM md P opsA Q rest a w):wpM md P opsA Q (⟨some d,op,ty,pos,af,none⟩::rest) a w :=
 s_ds hF h.ds hd λ _ _ a ⟨hv,hw⟩ hF'=>by subst hv; subst hw; exact k a hF'
end step
def GF (Γ:Nat→VP) (L:FL):Prop:=∀ t,match lk L t with
 | some (.val v)=>∀ u w,Γ t u w→u=v
 | some (.prd Φ)=>∀ u w,Γ t u w→Φ u w
 | none=>True
theorem GF.set {Γ:Nat→VP} {L:FL} (h:GF Γ L) (d:Nat) (v:Value) {Φ:VP} (hΦ:∀ u w,Φ u w→u=v):GF (Γset Γ (some d) Φ) ((d,.val v)::L):=by
 intro t
 by_cases hk:d=t
 ·subst hk
  rw [lk_cons_eq]
  intro u w hu
  simp only [Γset,if_true] at hu
  exact hΦ u w hu
 ·rw [lk_cons_ne hk]
  have:=h t
  have e:Γset Γ (some d) Φ t=Γ t:=by simp [Γset,hk]
  rw [e]; exact this
theorem GF.ev {Γ:Nat→VP} {L:FL} (h:GF Γ L) {a:Act} {w:World} {o:Oper} {ops:Array Oper} (hs:∀ t∈o.looksAt ops,Γ t (a.tmps.getD t undef) w) :
  ∀ x∈o.op.operands,∀ u,ev L x=some u→a.eval x=u:=by
 intro x hx u hu
 cases x with
 | tmp t =>
  have ht:t∈o.looksAt ops:=by
   unfold Oper.looksAt
   refine List.mem_append_left _ (List.mem_filterMap.2 ⟨.tmp t,by simpa using hx,rfl⟩)
  have h1:=h t
  have h2:=hs t ht
  cases hl:lk L t with
  | none=>simp [Dx.ev,hl,vl] at hu
  | some e =>
   cases e with
   | val v =>
    rw [hl] at h1
    have h3:v=u:=by simpa [Dx.ev,hl,vl] using hu
    rw [← h3]; exact h1 _ _ h2
   | prd Φ=>simp [Dx.ev,hl,vl] at hu
 | const u=>exact Option.some.inj hu
 | global g=>exact Option.some.inj hu
 | func f=>exact Option.some.inj hu
class Rel (R:World→World→Prop):Prop where
 refl:∀ w,R w w
 step:∀ a b c,R a b→Keep [] b c→R a c
theorem Rel.keep {R:World→World→Prop} [hR:Rel R] {w w':World} (h:Keep [] w w'):R w w':=hR.step w w w' (hR.refl w) h
class RelN (w:World) (R:World→World→Prop):Prop where
 new:∀ a b k,R a b→w.heap.size≤k→k<a.heap.size→b.heap[k]?=a.heap[k]?
 size:∀ a b,R a b→a.heap.size≤b.heap.size
instance (w:World):RelN w (Keep []):=⟨λ _ _ k h _ hk=>h.block k hk (by simp),λ _ _ h=>h.size⟩
def SR (w:World) (g:Nat) (new:Obj) (a b:World):Prop:=Keep [g] a b∧(∀ k,w.heap.size≤k→k<a.heap.size→b.heap[k]?=a.heap[k]?)∧(a.heap[g]?=some new→b.heap[g]?=some new)
instance (w:World) (g:Nat) (new:Obj):Rel (SR w g new):=⟨λ a=>⟨Keep.refl _ _,λ _ _ _=>rfl,λ h=>h⟩,λ a b c ⟨h1,h2,h3⟩ k=>by
 have k':Keep [g] b c:=⟨k.os,k.tape,k.output,k.drawn,k.size,λ i hi _=>k.block i hi (by simp)⟩
 refine ⟨h1.trans k',λ i hi hl=>?_,λ h=>?_⟩
 ·rw [k.block i (Nat.lt_of_lt_of_le hl h1.size) (by simp)]; exact h2 i hi hl
 ·have hb:=h3 h
  have hlt:g<b.heap.size:=(Array.getElem?_eq_some_iff.1 hb).1
  rw [k.block g hlt (by simp)]; exact hb⟩
instance (w:World) (g:Nat) (new:Obj):RelN w (SR w g new):=⟨λ _ _ k h=>h.2.1 k,λ _ _ h=>h.1.size⟩
instance :Rel (Keep []):=⟨Keep.refl [],λ _ _ _ h k=>h.trans k⟩
section typed
variable {P:Program} {ops:Array Oper} {C:World→Prop} {R:World→World→Prop} [hR:Rel R] {Qf:SP→(Nat→VP)→Prop} {rest:List Oper} {Γ:Nat→VP} {L:FL} {op:Op} {ty:TypeId} {pos:String} {af:Array Edge}
omit hR in
theorem tyw_no {o:Oper} (Φ:VP) (hst:∀ v w w',C w→R w w'→Φ v w→Φ v w')
  (h:∀ (a:Act) (w:World),C w→(∀ t∈o.looksAt ops,Γ t (a.tmps.getD t undef) w)→if Region.wanted o (yielded ops a.tmps) then Does P o a.eval w λ v w'=>C w'∧R w w'∧Φ v w' else Φ undef w)
  (k:TyW P ops C R Qf rest (Γset Γ o.dst Φ)):TyW P ops C R Qf (o::rest) Γ:=by
 refine ⟨Φ,λ _ _=>True,⟨⟨hst,λ _ _ _ _ _ _ _ h=>h⟩,λ a w hC hs=>?_⟩,?_⟩
 ·have:=h a w hC hs
  split
  ·rename_i hw
   rw [if_pos hw] at this
   refine .inl ?_
   unfold Does at *
   generalize (execOp a.eval _).run P w=r at *
   cases r with
   | ok nx w' =>
    cases nx <;> simp only [DoesR] at this ⊢
    case value u=>exact ⟨this.1,this.2.1,this.2.2,trivial⟩
    case enter f args=>exact this.mono λ e w'' ⟨u,he,hv⟩=>⟨u,he,hv.1,hv.2.1,hv.2.2,trivial⟩
   | halt x w'=>exact this.elim
  ·rename_i hw
   rw [if_neg hw] at this
   exact ⟨this,trivial⟩
 ·have e:(λ (E:SP) (Γ:Nat→VP)=>Qf (λ σ w=>True∧E σ w) Γ)=Qf:=by
   funext E Γ
   simp only [true_and]
  rw [e]; exact k
theorem t_pu {d:Nat} {v:Value} (hG:GF Γ L) (h:∀ w,C w→Pu P L ⟨some d,op,ty,pos,af,none⟩ w v)
  (k:∀ Γ,GF Γ ((d,.val v)::L)→TyW P ops C R Qf rest Γ):TyW P ops C R Qf (⟨some d,op,ty,pos,af,none⟩::rest) Γ:=by
 refine tyw_no (λ u _=>u=v) (λ _ _ _ _ _ h=>h) (λ a w hC hs=>?_) (k _ (hG.set d v λ _ _ h=>h))
 simp only [Region.wanted,if_true]
 unfold Does
 rw [h w hC a.eval (hG.ev hs)]
 exact ⟨hC,hR.refl _,rfl⟩
end typed
def TEnd (P:Program) (l:List Oper) (n:Nat) (Q:Exit→Act→World→Prop) (C:World→Prop) (sz:Nat) (E:SP) (Γ:Nat→VP):Prop :=
 ∃ L',GF Γ L'∧∀ a' w',C w'→E (sl a') w'→Fr a' sz L'→(∀ t Φ,lk L' t=some (.prd Φ)→Φ (a'.tmps.getD t undef) w')→wpM .wp P l.toArray Q (l.drop n) a' w'
theorem t_end {P:Program} {ops:Array Oper} {C C':World→Prop} {R:World→World→Prop} {l:List Oper} {n:Nat} {Q:Exit→Act→World→Prop} {sz:Nat} {Γ:Nat→VP} {L:FL} {D:SP→SP} (hG:GF Γ L)
  (k:∀ a' w',C' w'→D (λ _ _=>True) (sl a') w'→Fr a' sz L→(∀ t Φ,lk L t=some (.prd Φ)→Φ (a'.tmps.getD t undef) w')→wpM .wp P l.toArray Q (l.drop n) a' w'):TyW P ops C R (λ E Γ=>TEnd P l n Q C' sz (D E) Γ) [] Γ:=⟨L,hG,k⟩
theorem region_typed {P:Program} {id:Nat} {l:List Oper} {Q:Exit→Act→World→Prop} {a:Act} {w:World} {sz:Nat} {L:FL} {C:World→Prop} {R:World→World→Prop} [hR:Rel R] (n:Nat) (hF:Fr a sz L) (hv:∀ t Φ,lk L t≠some (.prd Φ))
  (hm:P.follows .mixedOrders=true) (hC0:∀ w',Keep [] w w'→C w') (hB:typT l.toArray n sz=true)
  (h:∀ Γ,GF Γ L→TyW P l.toArray C R (TEnd P l n Q C sz) (l.take n) Γ):codeM .wp P (Code.region id l.toArray true) Q a w:=by
 have hsz:=hF.sz
 subst hsz
 show (Code.region id l.toArray true).wp P Q a w
 refine wp_region_typed n hm hB hR.refl hC0 ?_
 have hΓ:GF (λ t v (_:World)=>v=a.tmps.getD t undef) L:=by
  intro t
  cases hl:lk L t with
  | none=>trivial
  | some e =>
   cases e with
   | val v=>intro u w hu; rw [hu]; exact hF.at_ t v (by rw [hl]; rfl)
   | prd Φ=>exact absurd hl (hv t Φ)
 have key:∀ (l':List Oper) (Γ:Nat→VP) (Qf Qf':SP→(Nat→VP)→Prop),(∀ E Γ,Qf E Γ→Qf' E Γ)→TyW P l.toArray C R Qf l' Γ→TyW P l.toArray C R Qf' l' Γ:=by
  intro l'
  induction l' with
  | nil=>intro Γ Qf Qf' hq h; exact hq _ _ h
  | cons o l' ih=>intro Γ Qf Qf' hq ⟨Φ,D,h1,h2⟩; exact ⟨Φ,D,h1,ih _ _ _ (λ E Γ h=>hq _ _ h) h2⟩
 refine key _ _ _ _ ?_ (h _ hΓ)
 rintro E Γ ⟨L',hG,hQ⟩ a' w' hdf hsz' hk hE hs
 refine hQ a' w' hk hE ⟨by rw [hdf]; exact hF.df,hsz',λ i v hi=>?_⟩ λ t Φ ht=>?_
 ·have:=hG i
  cases hl:lk L' i with
  | none=>simp [hl,vl] at hi
  | some e =>
   cases e with
   | val u =>
    rw [hl] at this
    have h3:u=v:=by simpa [hl,vl] using hi
    rw [← h3]; exact this _ _ (hs i)
   | prd Φ=>simp [hl,vl] at hi
 ·have:=hG t
  rw [ht] at this
  exact this _ _ (hs t)
end Go.Dx
namespace Go.Dx
open Go Go.RowKit
def allV:FL→Bool
 | []=>true
 | (_,.val _)::r=>allV r
 | (_,.prd _)::_=>false
theorem allV_ne:∀ {L:FL},allV L=true→∀ t Φ,lk L t≠some (.prd Φ)
 | [],_,t,Φ=>by simp [lk]
 | (k,.val v)::r,h,t,Φ=>by
  by_cases hk:k=t
  ·subst hk; rw [lk_cons_eq]; simp
  ·rw [lk_cons_ne hk]; exact allV_ne (L:=r) h t Φ
 | (_,.prd _)::_,h,_,_=>by simp [allV] at h
section control
variable {md:Md} {P:Program} {Q:Exit→Act→World→Prop} {a:Act} {w:World} {n:Nat} {L:FL}
theorem c_seq {x y:Code} (h:codeM md P x (Exit.then (codeM md P y Q) Q) a w):codeM md P (Code.seq x y) Q a w:=by
 cases md with
 | wp=>exact wp_seq h
 | rd r=>exact wpIn_seq h
 | df ds =>
  refine wp_seq (wp_mono h λ e a w he=>?_)
  obtain ⟨a0,rfl,he⟩:=he
  cases e <;> first | exact he | exact ⟨a0,rfl,he⟩
theorem c_reg {id:Nat} {l:List Oper} (h:wpM md P l.toArray Q l a w):codeM md P (Code.region id l.toArray false) Q a w:=by
 cases md with
 | wp=>exact wp_region_lit h
 | rd r=>exact wpIn_region_lit h
 | df ds=>exact wp_region_lit h
theorem c_nil {ops:Array Oper} (h:Q .normal a w):wpM md P ops Q [] a w:=by cases md <;> first | exact h | exact ⟨a,rfl,h⟩
theorem c_block {id:Nat} {c:Code} (h:codeM md P c (Exit.inBlock id Q) a w):codeM md P (Code.block id c) Q a w:=by
 cases md with
 | wp=>exact wp_block h
 | rd r=>exact wpIn_block h
 | df ds =>
  refine wp_block (wp_mono h λ e a w he=>?_)
  obtain ⟨a0,rfl,he⟩:=he
  cases e <;> simp only [Exit.inBlock] at he ⊢ <;> first | exact ⟨a0,rfl,he⟩ | (split <;> rename_i hi <;> simp only [hi,if_true,if_false] at he <;> exact ⟨a0,rfl,he⟩)
theorem c_skip (h:Q .normal a w):codeM md P Code.skip Q a w:=by
 cases md with
 | wp=>exact wp_skip h
 | rd r=>exact wpIn_skip h
 | df ds=>exact wp_skip ⟨a,rfl,h⟩
theorem c_ret (h:Q .ret a w):codeM md P Code.ret Q a w:=by
 cases md with
 | wp=>exact wp_ret h
 | rd r=>exact wpIn_ret h
 | df ds=>exact wp_ret ⟨a,rfl,h⟩
theorem c_exit {id:Nat} (h:Q (.exit id) a w):codeM md P (Code.exit id) Q a w:=by
 cases md with
 | wp=>exact wp_exit h
 | rd r=>exact wpIn_exit h
 | df ds=>exact wp_exit ⟨a,rfl,h⟩
theorem n_then {K:Act→World→Prop} (h:K a w):Exit.then K Q .normal a w:=h
theorem n_block {i:Nat} (h:Q .normal a w):Exit.inBlock i Q .normal a w:=h
theorem r_block {i:Nat} (h:Q .ret a w):Exit.inBlock i Q .ret a w:=h
theorem x_then {i:Nat} {K:Act→World→Prop} (h:Q (.exit i) a w):Exit.then K Q (.exit i) a w:=h
theorem x_here {i:Nat} (h:Q .normal a w):Exit.inBlock i Q (.exit i) a w:=by simp [Exit.inBlock]; exact h
theorem x_block {i j:Nat} (hij:Nat.beq i j=false) (h:Q (.exit i) a w):Exit.inBlock j Q (.exit i) a w:=by
 have:i≠j:=λ e=>by subst e; simp at hij
 simp [Exit.inBlock,this]; exact h
theorem c_if {c:Operand} {x y:Code} {b:Bool} (hF:Fr a n L) (hc:ev L c=some (.bool b)) (ht:b=true→codeM md P x Q a w) (hf:b=false→codeM md P y Q a w) :
  codeM md P (Code.cond c x y) Q a w:=by
 cases md with
 | wp=>exact wp_cond_split (hF.ev hc) ht hf
 | rd r=>exact wpIn_cond_split (hF.ev hc) ht hf
 | df ds=>exact wp_cond_split (a:={ a with defers:=ds }) (hF.ev hc) ht hf
theorem wpIn_loopG {F:Fence} {n:Nat} {α:Type} {c:Code} (J:α→Act→World→Prop) (μ:α→Nat) (x0:α) (h0:J x0 a w)
  (round:∀ x a w,J x a w→c.wpIn F n P (Exit.then (λ a' w'=>∃ x',J x' a' w'∧μ x'<μ x) Q) a w):(Code.loop c).wpIn F n P Q a w:=by
 intro b k cs hro hb hr
 have key:∀ (m:Nat) (x:α) (a:Act) (w:World),μ x=m→J x a w →
   ∃ e a' w',Q e a' w'∧ArrivesIn (Machine.fenced P F) P (lone (b.atR a (.code c :: .inLoop c::k)) cs w) b k cs e a' w':=by
  intro m
  induction m using Nat.strongRecOn with
  | _ m ih =>
   intro x a w hm hJ
   obtain ⟨e,a₁,w₁,hq,harr⟩:=round x a w hJ b (.inLoop c::k) cs hro hb hr
   cases e with
   | normal =>
    obtain ⟨x',hJ',hlt⟩:=hq
    obtain ⟨e₂,a₂,w₂,hq₂,harr₂⟩:=ih (μ x') (hm ▸ hlt) x' a₁ w₁ rfl hJ'
    exact ⟨e₂,a₂,w₂,hq₂,.of_steps (StepsIn.trans harr (.one (fenced_calm hb hr rfl) stepR_inLoop)) harr₂⟩
   | exit id=>exact ⟨_,a₁,w₁,hq,.pass (x := .inLoop c) rfl (λ _ _ => .inl (by simp)) harr⟩
   | goto l=>exact ⟨_,a₁,w₁,hq,.pass (x := .inLoop c) rfl (λ _ _ => .inl (by simp)) harr⟩
   | ret=>exact ⟨_,a₁,w₁,hq,.pass (x := .inLoop c) rfl (λ _ _ => .inl (by simp)) harr⟩
   | panic ch=>exact ⟨_,a₁,w₁,hq,.pass (x := .inLoop c) rfl (λ _ _ => .inl (by simp)) harr⟩
   | outgrown=>exact ⟨_,a₁,w₁,hq,.pass (x := .inLoop c) rfl (λ _ _ => .inl (by simp)) harr⟩
 obtain ⟨e,a',w',hq,harr⟩:=key _ x0 a w rfl h0
 exact ⟨e,a',w',hq,.of_steps (.one (fenced_calm hb hr rfl) stepR_loop) harr⟩
theorem wp_loopG {α:Type} {c:Code} (J:α→Act→World→Prop) (μ:α→Nat) (x0:α) (h0:J x0 a w)
  (round:∀ x a w,J x a w→c.wp P (Exit.then (λ a' w'=>∃ x',J x' a' w'∧μ x'<μ x) Q) a w):(Code.loop c).wp P Q a w:=by
 have key:∀ (m:Nat) (x:α) (a:Act) (w:World),μ x=m→J x a w→∀ (b:Frame) (k:List Item) (cs:List Frame),
   ∃ e a' w',Q e a' w'∧Arrives P (lone (b.at a (.code c :: .inLoop c::k)) cs w) b k cs e a' w':=by
  intro m
  induction m using Nat.strongRecOn with
  | _ m ih =>
   intro x a w hm hJ b k cs
   obtain ⟨e,a₁,w₁,hq,harr⟩:=round x a w hJ b (.inLoop c::k) cs
   cases e with
   | normal =>
    obtain ⟨x',hJ',hlt⟩:=hq
    obtain ⟨e₂,a₂,w₂,hq₂,harr₂⟩:=ih (μ x') (hm ▸ hlt) x' a₁ w₁ rfl hJ' b k cs
    exact ⟨e₂,a₂,w₂,hq₂,.of_steps (Steps.trans harr (.one step_inLoop)) harr₂⟩
   | exit id=>exact ⟨_,a₁,w₁,hq,.pass (x := .inLoop c) rfl (λ _ _ => .inl (by simp)) harr⟩
   | goto l=>exact ⟨_,a₁,w₁,hq,.pass (x := .inLoop c) rfl (λ _ _ => .inl (by simp)) harr⟩
   | ret=>exact ⟨_,a₁,w₁,hq,.pass (x := .inLoop c) rfl (λ _ _ => .inl (by simp)) harr⟩
   | panic ch=>exact ⟨_,a₁,w₁,hq,.pass (x := .inLoop c) rfl (λ _ _ => .inl (by simp)) harr⟩
   | outgrown=>exact ⟨_,a₁,w₁,hq,.pass (x := .inLoop c) rfl (λ _ _ => .inl (by simp)) harr⟩
 intro b k cs
 obtain ⟨e,a',w',hq,harr⟩:=key _ x0 a w rfl h0 b k cs
 exact ⟨e,a',w',hq,.of_steps (.one step_loop) harr⟩
theorem c_loop {α:Type} {c:Code} (J:α→Act→World→Prop) (μ:α→Nat) (x0:α) (h0:J x0 a w)
  (round:∀ x a w,J x a w→codeM md P c (Exit.then (λ a' w'=>∃ x',J x' a' w'∧μ x'<μ x) Q) a w):codeM md P (Code.loop c) Q a w:=by
 cases md with
 | wp=>exact wp_loopG J μ x0 h0 round
 | rd r=>exact wpIn_loopG J μ x0 h0 round
 | df ds =>
  refine wp_loopG (λ x a w=>∃ a0:Act,a={ a0 with defers:=ds }∧J x a0 w) μ x0 ⟨a,rfl,h0⟩ λ x a w hJ=>?_
  obtain ⟨a0,rfl,hJ⟩:=hJ
  refine wp_mono (round x a0 w hJ) λ e a w he=>?_
  obtain ⟨a1,rfl,he⟩:=he
  cases e with
  | normal=>obtain ⟨x',h1,h2⟩:=he; exact ⟨x',⟨a1,rfl,h1⟩,h2⟩
  | _=>exact ⟨a1,rfl,he⟩
def argL:List Value→Nat→FL
 | [],_=>[]
 | v::r,i=>(i,.val v)::argL r (i+1)
theorem lk_argL:∀ (vs:List Value) (i t:Nat) (v:Value),vl (lk (argL vs i) t)=some v→∃ j,t=i+j∧vs[j]?=some v
 | [],i,t,v,h=>by simp [argL,lk,vl] at h
 | u::r,i,t,v,h=>by
  unfold argL at h
  by_cases ht:i=t
  ·subst ht
   rw [lk_cons_eq] at h
   exact ⟨0,rfl,by simpa [vl] using h⟩
  ·rw [lk_cons_ne ht] at h
   obtain ⟨j,hj,hv⟩:=lk_argL r (i+1) t v h
   exact ⟨j+1,by omega,by simpa using hv⟩
theorem f_enter {f:FuncId} {fn:Func} {c:Code} {args:List Value} {R:Ending→World→Prop} {n:Nat} (hf:P.funcs[f]?=some fn) (hb:fn.body=some c) (hn:fn.ntmps=n)
  (hle:Nat.ble args.length n=true) (h:∀ a,Fr a n (argL args 0)→codeM .wp P c (bodyPost P fn R) a w):Calls P f args.toArray w R:=by
 have hle':args.length≤n:=Nat.le_of_ble_eq_true hle
 refine calls_of_wp hf hb (h _ ⟨rfl,?_,λ i v hi=>?_⟩)
 ·simp only [hn,Array.size_append,List.size_toArray,Array.size_replicate]; omega
 ·obtain ⟨j,rfl,hj⟩:=lk_argL args 0 i v hi
  have hlt:j<args.length:=(List.getElem?_eq_some_iff.1 hj).1
  simp only [Nat.zero_add]
  simp [Array.getElem?_append,hlt]
  have:=(List.getElem?_eq_some_iff.1 hj).2
  exact this
theorem f_enterR {f:FuncId} {fn:Func} {c:Code} {args:List Value} {R:Ending→World→Prop} {n:Nat} (hf:P.funcs[f]?=some fn) (hb:fn.body=some c) (hn:fn.ntmps=n)
  (hle:Nat.ble args.length n=true) (h:∀ a,Fr a n (argL args 0)→codeM (.rd none) P c (bodyPost P fn R) a w):Calls P f args.toArray w R :=
 f_enter hf hb hn hle λ a hF=>wpIn_wide.1 (h a hF)
inductive RVs (P:Program) (w:World) (L:FL):List ResultVar→List Value→Prop where
 | nil:RVs P w L [] []
 | tmp {t:Nat} {v:Value} {rs:List ResultVar} {vs:List Value} (h:vl (lk L t)=some v) (r:RVs P w L rs vs):RVs P w L (.tmp t::rs) (v::vs)
 | cell {c:Nat} {T:TypeId} {ad:Addr} {v:Value} {rs:List ResultVar} {vs:List Value} (h:vl (lk L c)=some (.pointer (some ad))) (hl:(loadVar T ad).run P w = .ok v w)
   (r:RVs P w L rs vs):RVs P w L (.cell c T::rs) (v::vs)
def tupV:List Value→Value
 | [v]=>v
 | vs => .tuple vs.toArray
theorem rvs_run {rs:List ResultVar} {vs:List Value} {fn:Func} (hF:Fr a n L) (hr:fn.results=rs.toArray) (h:RVs P w L rs vs):(results fn a.tmps).run P w = .ok (tupV vs) w:=by
 have key:∀ (rs:List ResultVar) (vs:List Value),RVs P w L rs vs→(rs.mapM (m:=Sem) fun
   | .tmp t=>pure (a.tmps.getD t undef)
   | .cell c t=>do loadVar t (← asAddr (a.tmps.getD c undef))).run P w = .ok vs w:=by
  intro rs vs h
  induction h with
  | nil=>simp
  | tmp h r ih =>
   have:=hF.at_ _ _ h
   simp only [List.mapM_cons,Sem.run_bind,Sem.run_pure,Result.andThen_ok,ih,this]
  | cell h hl r ih =>
   have:=hF.at_ _ _ h
   have e:∀ ad,asAddr (.pointer (some ad))=pure ad:=λ _=>rfl
   simp only [List.mapM_cons,Sem.run_bind,Sem.run_pure,Result.andThen_ok,this,e,hl]
   rw [ih]
   simp only [Result.andThen_ok]
 unfold results
 rw [hr]
 simp only [List.mapM_toArray,Sem.run_bind]
 have:=key rs vs h
 have e2:(List.toArray <$> (rs.mapM (m:=Sem) fun
   | .tmp t=>pure (a.tmps.getD t undef)
   | .cell c t=>do loadVar t (← asAddr (a.tmps.getD c undef)))).run P w = .ok vs.toArray w:=by
  show ((rs.mapM (m:=Sem) _) >>= λ x=>pure (List.toArray x)).run P w=_
  rw [Sem.run_bind,this]
  simp
 refine (congrArg (λ r=>Result.andThen r _) (e2:_=Result.ok vs.toArray w)).trans ?_
 simp only [Result.andThen_ok,Sem.run_pure]
 congr 1
 match vs with
 | []=>rfl
 | [v]=>rfl
 | v::u::r=>simp [tupV]
theorem f_ret {rs:List ResultVar} {vs:List Value} {fn:Func} {R:Ending→World→Prop} (hF:Fr a n L) (hr:fn.results=rs.toArray) (h:RVs P w L rs vs) (hR:R (.returned (tupV vs)) w) :
  bodyPost P fn R .ret a w:=⟨hF.df,_,rvs_run hF hr h,hR⟩
end control
end Go.Dx
namespace Go.Dx
open Go Go.RowKit
abbrev vs (l:List UInt8):Value := .string ⟨l.toArray⟩
section pure
variable {P:Program} {L:FL} {w:World} {d:Option Nat} {ty t t':TypeId} {pos:String} {af:Array Edge} {g:Option (Nat×Bool)} {x y z:Operand}
theorem pu_move {v:Value} (h:ev L x=some v):Pu P L ⟨d,.move x,ty,pos,af,g⟩ w v:=by
 intro ρ hρ; simp [execOp,hρ x (by simp [Op.operands]) _ h]
theorem pu_assign {v:Value} (h:ev L x=some v):Pu P L ⟨d,.assign x,ty,pos,af,g⟩ w v:=by
 intro ρ hρ; simp [execOp,hρ x (by simp [Op.operands]) _ h]
theorem pu_nil {ad:Addr} (h:ev L x=some (.pointer (some ad))):Pu P L ⟨d,.nilCheck x,ty,pos,af,g⟩ w (.pointer (some ad)):=by
 intro ρ hρ; simp [execOp,hρ x (by simp [Op.operands]) _ h]
theorem pu_pick_t {b:Bool} {v:Value} (hc:ev L x=some (.bool b)) (hb:b=true) (h:ev L y=some v):Pu P L ⟨d,.pick x y z,ty,pos,af,g⟩ w v:=by
 intro ρ hρ; subst hb; simp [execOp,hρ x (by simp [Op.operands]) _ hc,hρ y (by simp [Op.operands]) _ h,asBool]
theorem pu_pick_f {b:Bool} {v:Value} (hc:ev L x=some (.bool b)) (hb:b=false) (h:ev L z=some v):Pu P L ⟨d,.pick x y z,ty,pos,af,g⟩ w v:=by
 intro ρ hρ; subst hb; simp [execOp,hρ x (by simp [Op.operands]) _ hc,hρ z (by simp [Op.operands]) _ h,asBool]
section int
variable {k:IntKind} {m n r:Int}
theorem pu_add (hx:ev L x=some (.int k m)) (hy:ev L y=some (.int k n)) (hr:k.wrap (m+n)=r):Pu P L ⟨d,.binOp .add t x y t',ty,pos,af,g⟩ w (.int k r):=by
 intro ρ hρ; simp [execOp,hρ x (by simp [Op.operands]) _ hx,hρ y (by simp [Op.operands]) _ hy,binOp,eqGuard,Op.intArith,hr]
theorem pu_sub (hx:ev L x=some (.int k m)) (hy:ev L y=some (.int k n)) (hr:k.wrap (m - n)=r):Pu P L ⟨d,.binOp .sub t x y t',ty,pos,af,g⟩ w (.int k r):=by
 intro ρ hρ; simp [execOp,hρ x (by simp [Op.operands]) _ hx,hρ y (by simp [Op.operands]) _ hy,binOp,eqGuard,Op.intArith,hr]
theorem pu_mul (hx:ev L x=some (.int k m)) (hy:ev L y=some (.int k n)) (hr:k.wrap (m*n)=r):Pu P L ⟨d,.binOp .mul t x y t',ty,pos,af,g⟩ w (.int k r):=by
 intro ρ hρ; simp [execOp,hρ x (by simp [Op.operands]) _ hx,hρ y (by simp [Op.operands]) _ hy,binOp,eqGuard,Op.intArith,hr]
theorem pu_quo (hx:ev L x=some (.int k m)) (hy:ev L y=some (.int k n)) (h0:n≠0) (hr:k.wrap (m.tdiv n)=r):Pu P L ⟨d,.binOp .quo t x y t',ty,pos,af,g⟩ w (.int k r):=by
 intro ρ hρ; simp [execOp,hρ x (by simp [Op.operands]) _ hx,hρ y (by simp [Op.operands]) _ hy,binOp,eqGuard,Op.intDiv,hr,h0]
theorem pu_rem (hx:ev L x=some (.int k m)) (hy:ev L y=some (.int k n)) (h0:n≠0) (hr:m.tmod n=r):Pu P L ⟨d,.binOp .rem t x y t',ty,pos,af,g⟩ w (.int k r):=by
 intro ρ hρ; simp [execOp,hρ x (by simp [Op.operands]) _ hx,hρ y (by simp [Op.operands]) _ hy,binOp,eqGuard,Op.intDiv,hr,h0]
theorem pu_ieq (hx:ev L x=some (.int k m)) (hy:ev L y=some (.int k n)):Pu P L ⟨d,.binOp .eql t x y t',ty,pos,af,g⟩ w (.bool (decide (m=n))):=by
 intro ρ hρ; simp [execOp,hρ x (by simp [Op.operands]) _ hx,hρ y (by simp [Op.operands]) _ hy,binOp,eqGuard,Op.intCmp]; rfl
theorem pu_ine (hx:ev L x=some (.int k m)) (hy:ev L y=some (.int k n)):Pu P L ⟨d,.binOp .neq t x y t',ty,pos,af,g⟩ w (.bool (!decide (m=n))):=by
 intro ρ hρ; simp [execOp,hρ x (by simp [Op.operands]) _ hx,hρ y (by simp [Op.operands]) _ hy,binOp,eqGuard,Op.intCmp]; rfl
theorem pu_ilt (hx:ev L x=some (.int k m)) (hy:ev L y=some (.int k n)):Pu P L ⟨d,.binOp .lss t x y t',ty,pos,af,g⟩ w (.bool (decide (m<n))):=by
 intro ρ hρ; simp [execOp,hρ x (by simp [Op.operands]) _ hx,hρ y (by simp [Op.operands]) _ hy,binOp,eqGuard,Op.intCmp]
theorem pu_ile (hx:ev L x=some (.int k m)) (hy:ev L y=some (.int k n)):Pu P L ⟨d,.binOp .leq t x y t',ty,pos,af,g⟩ w (.bool (decide (m≤n))):=by
 intro ρ hρ; simp [execOp,hρ x (by simp [Op.operands]) _ hx,hρ y (by simp [Op.operands]) _ hy,binOp,eqGuard,Op.intCmp]
theorem pu_igt (hx:ev L x=some (.int k m)) (hy:ev L y=some (.int k n)):Pu P L ⟨d,.binOp .gtr t x y t',ty,pos,af,g⟩ w (.bool (decide (n<m))):=by
 intro ρ hρ; simp [execOp,hρ x (by simp [Op.operands]) _ hx,hρ y (by simp [Op.operands]) _ hy,binOp,eqGuard,Op.intCmp]
theorem pu_ige (hx:ev L x=some (.int k m)) (hy:ev L y=some (.int k n)):Pu P L ⟨d,.binOp .geq t x y t',ty,pos,af,g⟩ w (.bool (decide (n≤m))):=by
 intro ρ hρ; simp [execOp,hρ x (by simp [Op.operands]) _ hx,hρ y (by simp [Op.operands]) _ hy,binOp,eqGuard,Op.intCmp]
theorem pu_neg (hx:ev L x=some (.int k m)) (hr:k.wrap (0 - m)=r):Pu P L ⟨d,.unOp .neg t x,ty,pos,af,g⟩ w (.int k r):=by
 intro ρ hρ; simp [execOp,hρ x (by simp [Op.operands]) _ hx,Op.unary,Op.intArith]; simpa using hr
theorem pu_conv {k':IntKind} (ht':P.underlying t'=some (.int k')) (ht:∃ u,P.underlying t=some u) (hx:ev L x=some (.int k m)) (hr:k'.wrap m=r) :
  Pu P L ⟨d,.convert t t' x,ty,pos,af,g⟩ w (.int k' r):=by
 intro ρ hρ
 obtain ⟨u,hu⟩:=ht
 simp [execOp,hρ x (by simp [Op.operands]) _ hx,convert,run_underlying hu,run_underlying ht',Conv.intToInt,hr]
theorem pu_shl {k2:IntKind} (hx:ev L x=some (.int k m)) (hy:ev L y=some (.int k2 n)) (h0:0≤n) (hr:k.wrap (m*2 ^ (min n.toNat k.bits))=r):Pu P L ⟨d,.binOp .shl t x y t',ty,pos,af,g⟩ w (.int k r):=by
 intro ρ hρ; simp [execOp,hρ x (by simp [Op.operands]) _ hx,hρ y (by simp [Op.operands]) _ hy,binOp,eqGuard,Op.shift,hr,show ¬ n<0 by omega]
theorem pu_shr {k2:IntKind} (hx:ev L x=some (.int k m)) (hy:ev L y=some (.int k2 n)) (h0:0≤n) (hr:m.fdiv (2 ^ (min n.toNat k.bits))=r):Pu P L ⟨d,.binOp .shr t x y t',ty,pos,af,g⟩ w (.int k r):=by
 intro ρ hρ; simp [execOp,hρ x (by simp [Op.operands]) _ hx,hρ y (by simp [Op.operands]) _ hy,binOp,eqGuard,Op.shift,hr,show ¬ n<0 by omega]
theorem pu_and (hx:ev L x=some (.int k m)) (hy:ev L y=some (.int k n)) (hr:k.wrap ((BitVec.ofInt k.bits m &&& BitVec.ofInt k.bits n).toNat:Int)=r):Pu P L ⟨d,.binOp .and t x y t',ty,pos,af,g⟩ w (.int k r):=by
 intro ρ hρ; simp only [execOp,hρ x (by simp [Op.operands]) _ hx,hρ y (by simp [Op.operands]) _ hy,binOp,eqGuard,Op.intBits]; rw [hr]; simp
theorem pu_or (hx:ev L x=some (.int k m)) (hy:ev L y=some (.int k n)) (hr:k.wrap ((BitVec.ofInt k.bits m ||| BitVec.ofInt k.bits n).toNat:Int)=r):Pu P L ⟨d,.binOp .or t x y t',ty,pos,af,g⟩ w (.int k r):=by
 intro ρ hρ; simp only [execOp,hρ x (by simp [Op.operands]) _ hx,hρ y (by simp [Op.operands]) _ hy,binOp,eqGuard,Op.intBits]; rw [hr]; simp
theorem pu_xor (hx:ev L x=some (.int k m)) (hy:ev L y=some (.int k n)) (hr:k.wrap ((BitVec.ofInt k.bits m ^^^ BitVec.ofInt k.bits n).toNat:Int)=r):Pu P L ⟨d,.binOp .xor t x y t',ty,pos,af,g⟩ w (.int k r):=by
 intro ρ hρ; simp only [execOp,hρ x (by simp [Op.operands]) _ hx,hρ y (by simp [Op.operands]) _ hy,binOp,eqGuard,Op.intBits]; rw [hr]; simp
theorem pu_andnot (hx:ev L x=some (.int k m)) (hy:ev L y=some (.int k n)) (hr:k.wrap ((BitVec.ofInt k.bits m &&& ~~~ BitVec.ofInt k.bits n).toNat:Int)=r):Pu P L ⟨d,.binOp .andNot t x y t',ty,pos,af,g⟩ w (.int k r):=by
 intro ρ hρ; simp only [execOp,hρ x (by simp [Op.operands]) _ hx,hρ y (by simp [Op.operands]) _ hy,binOp,eqGuard,Op.intBits]; rw [hr]; simp
end int
theorem pu_not {b:Bool} (hx:ev L x=some (.bool b)):Pu P L ⟨d,.unOp .not t x,ty,pos,af,g⟩ w (.bool (!b)):=by
 intro ρ hρ; simp [execOp,hρ x (by simp [Op.operands]) _ hx,Op.unary]
theorem run_equal_bool {b c:Bool} (ht:P.underlying t=some .bool):(Op.equal t (.bool b) (.bool c)).run P w = .ok (b == c) w:=by
 unfold Op.equal Op.maxDepth Op.equalIn
 simp only [Sem.run_bind,run_underlying ht,Result.andThen_ok,Sem.run_pure]
theorem run_beq {b c:Bool} (ht:P.underlying t=some .bool):(binOp .eql t (.bool b) (.bool c)).run P w = .ok (.bool (b == c)) w:=by
 simp only [binOp,Sem.run_bind,run_equal_bool ht,Result.andThen_ok,Sem.run_pure]
theorem run_bne {b c:Bool} (ht:P.underlying t=some .bool):(binOp .neq t (.bool b) (.bool c)).run P w = .ok (.bool (!(b == c))) w:=by
 simp only [binOp,Sem.run_bind,run_equal_bool ht,Result.andThen_ok,Sem.run_pure]
theorem pu_beq {b c:Bool} (ht:P.underlying t=some .bool) (hx:ev L x=some (.bool b)) (hy:ev L y=some (.bool c)):Pu P L ⟨d,.binOp .eql t x y t',ty,pos,af,g⟩ w (.bool (b == c)):=by
 intro ρ hρ; simp only [execOp,hρ x (by simp [Op.operands]) _ hx,hρ y (by simp [Op.operands]) _ hy]
 simp [eqGuard,run_beq ht]
theorem pu_bne {b c:Bool} (ht:P.underlying t=some .bool) (hx:ev L x=some (.bool b)) (hy:ev L y=some (.bool c)):Pu P L ⟨d,.binOp .neq t x y t',ty,pos,af,g⟩ w (.bool (!(b == c))):=by
 intro ρ hρ; simp only [execOp,hρ x (by simp [Op.operands]) _ hx,hρ y (by simp [Op.operands]) _ hy]
 simp [eqGuard,run_bne ht]
section str
variable {l l':List UInt8}
theorem size_mk (l:List UInt8):(ByteArray.mk l.toArray).size=l.length:=by simp [← ByteArray.size_data]
theorem run_len_s {ats:Array TypeId} (ht:P.underlying t=some .string) (ha:ats[0]?=some t):(Builtin.len_ ats ty #[vs l]).run P w = .ok (.int .i64 l.length) w:=by
 unfold Builtin.len_
 simp only [ha,List.getElem?_toArray,List.getElem?_cons_zero,Sem.run_bind,run_underlying ht,Result.andThen_ok,Sem.run_pure,goInt,size_mk]
theorem pu_len_s {ats:Array TypeId} (ht:P.underlying t=some .string) (ha:ats[0]?=some t) (hx:ev L x=some (vs l)):Pu P L ⟨d,.call ⟨.builtin .len,#[x],ats⟩,ty,pos,af,g⟩ w (.int .i64 l.length):=by
 intro ρ hρ; simp [execOp,resolve,invoke,builtin,hρ x (by simp [Op.operands,Call.operands]) _ hx,run_len_s ht ha]
theorem pu_len_sl {ats:Array TypeId} {e:TypeId} {a:Option Addr} {n c:Nat} (ht:P.underlying t=some (.slice e)) (ha:ats[0]?=some t) (hx:ev L x=some (.slice a n c)) :
  Pu P L ⟨d,.call ⟨.builtin .len,#[x],ats⟩,ty,pos,af,g⟩ w (.int .i64 n):=by
 intro ρ hρ; simp [execOp,resolve,invoke,builtin,hρ x (by simp [Op.operands,Call.operands]) _ hx,Builtin.len_,ha,run_underlying ht,goInt]
theorem toList_mk (l:List UInt8):(ByteArray.mk l.toArray).toList=l:=by simp
theorem mk_append (l l':List UInt8):(ByteArray.mk l.toArray)++(ByteArray.mk l'.toArray)=⟨(l++l').toArray⟩:=by
 apply ByteArray.ext; simp
theorem pu_cat (hx:ev L x=some (vs l)) (hy:ev L y=some (vs l')) (hs:l.length+l'.length≤9223372036854775807):Pu P L ⟨d,.binOp .add t x y t',ty,pos,af,g⟩ w (vs (l++l')):=by
 intro ρ hρ
 have e:¬ (((ByteArray.mk l.toArray).size+(ByteArray.mk l'.toArray).size:Nat):Int) > IntKind.i64.max:=by
  rw [size_mk,size_mk]; have:IntKind.i64.max=9223372036854775807:=by decide
  omega
 simp only [execOp,hρ x (by simp [Op.operands]) _ hx,hρ y (by simp [Op.operands]) _ hy,binOp,eqGuard,Op.stringOp]
 rw [if_neg e,mk_append]
 simp
theorem beq_dec (l l':List UInt8):(l == l')=decide (l=l'):=by rw [Bool.eq_iff_iff]; simp
theorem pu_seq (hx:ev L x=some (vs l)) (hy:ev L y=some (vs l')):Pu P L ⟨d,.binOp .eql t x y t',ty,pos,af,g⟩ w (.bool (decide (l=l'))):=by
 intro ρ hρ; simp [execOp,hρ x (by simp [Op.operands]) _ hx,hρ y (by simp [Op.operands]) _ hy,binOp,eqGuard,Op.stringOp]; exact beq_dec l l'
theorem pu_sne (hx:ev L x=some (vs l)) (hy:ev L y=some (vs l')):Pu P L ⟨d,.binOp .neq t x y t',ty,pos,af,g⟩ w (.bool (!decide (l=l'))):=by
 intro ρ hρ; simp [execOp,hρ x (by simp [Op.operands]) _ hx,hρ y (by simp [Op.operands]) _ hy,binOp,eqGuard,Op.stringOp]; exact beq_dec l l'
theorem mk_get (l:List UInt8) (i:Nat) (h:i<l.length):(ByteArray.mk l.toArray)[i]?=some (l.getD i 0):=by
 have h2:i<(ByteArray.mk l.toArray).size:=by rw [size_mk]; exact h
 rw [getElem?_pos _ i h2]
 congr 1
 simp [h]
 rfl
theorem run_idx {k:IntKind} {i:Int} (ht:P.underlying t=some .string) (h0:0≤i) (h1:i<l.length):(Instr.index t (vs l) (.int k i)).run P w = .ok (.int .u8 ((l.getD i.toNat 0).toNat:Int)) w:=by
 have hlt:i.toNat<l.length:=by omega
 unfold Instr.index
 simp only [asIntOf,Sem.run_bind,Sem.run_pure,Result.andThen_ok,run_underlying ht,h0,if_true,mk_get l _ hlt]
theorem pu_idx {k:IntKind} {i:Int} (ht:P.underlying t=some .string) (hx:ev L x=some (vs l)) (hy:ev L y=some (.int k i)) (h0:0≤i) (h1:i<l.length) :
  Pu P L ⟨d,.index t x y,ty,pos,af,g⟩ w (.int .u8 ((l.getD i.toNat 0).toNat:Int)):=by
 intro ρ hρ
 simp [execOp,hρ x (by simp [Op.operands]) _ hx,hρ y (by simp [Op.operands]) _ hy,run_idx ht h0 h1]
theorem mk_extract (l:List UInt8) (a b:Nat):(ByteArray.mk l.toArray).extract a b=⟨((l.drop a).take (b - a)).toArray⟩:=by
 apply ByteArray.ext
 simp
theorem run_bound {k:IntKind} {i:Int} {y:Nat} {c:BoundsCode} (h0:0≤i) (h1:i≤y):(Instr.sliceBound (.int k i) y c).run P w = .ok i.toNat w:=by
 unfold Instr.sliceBound
 simp only [asIntOf,Sem.run_bind,Sem.run_pure,Result.andThen_ok,h0,h1,and_self,if_true]
theorem pu_from {k:IntKind} {i:Int} (ht:P.underlying t=some .string) (hx:ev L x=some (vs l)) (hy:ev L y=some (.int k i)) (h0:0≤i) (h1:i≤l.length) :
  Pu P L ⟨d,.slice t x (some y) none none,ty,pos,af,g⟩ w (vs (l.drop i.toNat)):=by
 intro ρ hρ
 have e:(l.drop i.toNat).take (l.length - i.toNat)=l.drop i.toNat:=List.take_of_length_le (by simp)
 simp only [execOp,hρ x (by simp [Op.operands]) _ hx,Option.map_some,Option.map_none,hρ y (by simp [Op.operands]) _ hy]
 unfold Instr.sliceAt Instr.slice Instr.sliceBounds
 simp [run_underlying ht,run_bound h0 h1,mk_extract,size_mk,e]
theorem pu_to {k:IntKind} {i:Int} (ht:P.underlying t=some .string) (hx:ev L x=some (vs l)) (hy:ev L y=some (.int k i)) (h0:0≤i) (h1:i≤l.length) :
  Pu P L ⟨d,.slice t x none (some y) none,ty,pos,af,g⟩ w (vs (l.take i.toNat)):=by
 intro ρ hρ
 simp only [execOp,hρ x (by simp [Op.operands]) _ hx,Option.map_some,Option.map_none,hρ y (by simp [Op.operands]) _ hy]
 unfold Instr.sliceAt Instr.slice Instr.sliceBounds
 simp [run_underlying ht,run_bound h0 h1,mk_extract,size_mk]
theorem pu_fromto {k k':IntKind} {i j:Int} (ht:P.underlying t=some .string) (hx:ev L x=some (vs l)) (hy:ev L y=some (.int k i)) (hz:ev L z=some (.int k' j)) (h0:0≤i) (hij:i≤j) (h1:j≤l.length) :
  Pu P L ⟨d,.slice t x (some y) (some z) none,ty,pos,af,g⟩ w (vs ((l.drop i.toNat).take (j.toNat - i.toNat))):=by
 intro ρ hρ
 simp only [execOp,hρ x (by simp [Op.operands]) _ hx,Option.map_some,Option.map_none,hρ y (by simp [Op.operands]) _ hy,hρ z (by simp [Op.operands]) _ hz]
 unfold Instr.sliceAt Instr.slice Instr.sliceBounds
 simp [run_underlying ht,run_bound (show 0≤j by omega) h1,run_bound h0 (show i≤((j.toNat:Nat):Int) by omega),mk_extract,size_mk]
end str
theorem pu_extract {vsl:List Value} {i:Nat} {v:Value} (hx:ev L x=some (.tuple vsl.toArray)) (hi:vsl[i]?=some v):Pu P L ⟨d,.extract x i,ty,pos,af,g⟩ w v:=by
 intro ρ hρ
 simp [execOp,hρ x (by simp [Op.operands]) _ hx,Instr.extract,hi]
theorem add_mk (b o n:Nat):(⟨b,o,none⟩:Addr).add n=⟨b,o+n,none⟩:=by unfold Addr.add; split <;> simp_all
def SzIs (P:Program) (t:TypeId) (n:Nat):Prop:=∃ inf,P.info? t=some inf∧inf.size=n
def FldAt (P:Program) (t:TypeId) (i off:Nat):Prop:=∃ fields f n,P.underlying t=some (.struct fields)∧fields[i]?=some f∧SzIs P f.type n∧n≠0∧f.offset=off
def SlT (P:Program) (t e:TypeId) (sz:Nat):Prop:=P.underlying t=some (.slice e)∧SzIs P e sz
def ArT (P:Program) (t:TypeId) (n:Nat) (e:TypeId) (sz:Nat):Prop:=P.underlying t=some (.array n e)∧SzIs P e sz
def aggB:TypeDesc→Bool
 | .struct _ | .array _ _=>true
 | _=>false
def OneT (P:Program) (t:TypeId):Prop:=∃ u,P.underlying t=some u∧aggB u=false
def AggT (P:Program) (t:TypeId) (n:Nat):Prop:=(∃ u,P.underlying t=some u∧aggB u=true)∧SzIs P t n
def ZeroT (P:Program) (t:TypeId) (cs:List Value):Prop:=∃ inf z,P.info? t=some inf∧inf.zero=some z∧z.cells=cs.toArray∧inf.size=cs.length
theorem pu_faddr {b o i off:Nat} (hf:FldAt P t i off) (hx:ev L x=some (.pointer (some ⟨b,o,none⟩))):Pu P L ⟨d,.fieldAddr t x i,ty,pos,af,g⟩ w (.pointer (some ⟨b,o+off,none⟩)):=by
 intro ρ hρ
 obtain ⟨fields,f,n,ht,hf,⟨inf,hi,hs⟩,h0,rfl⟩:=hf
 have hz:inf.size≠0:=by rw [hs]; exact h0
 simp [execOp,hρ x (by simp [Op.operands]) _ hx,Instr.fieldAt,run_underlying ht,hf,Instr.sureAddr,fieldPlace,sizeOf,typeInfo,hi,hz,add_mk]
theorem pu_iaddr_sl {k:IntKind} {b o sz:Nat} {e:TypeId} {n c:Nat} {i:Int} (ht:SlT P t e sz)
  (hx:ev L x=some (.slice (some ⟨b,o,none⟩) n c)) (hy:ev L y=some (.int k i)) (h0:0≤i) (h1:i<n):Pu P L ⟨d,.indexAddr t x y,ty,pos,af,g⟩ w (.pointer (some ⟨b,o+i.toNat*sz,none⟩)):=by
 intro ρ hρ
 obtain ⟨ht,inf,hi,rfl⟩:=ht
 simp [execOp,hρ x (by simp [Op.operands]) _ hx,hρ y (by simp [Op.operands]) _ hy,Instr.indexAt,asIntOf,run_underlying ht,sizeOf,typeInfo,hi,h0,h1,add_mk]
theorem pu_iaddr_ar {k:IntKind} {b o sz:Nat} {e:TypeId} {n:Nat} {i:Int} (ht:ArT P t n e sz)
  (hx:ev L x=some (.pointer (some ⟨b,o,none⟩))) (hy:ev L y=some (.int k i)) (h0:0≤i) (h1:i<n):Pu P L ⟨d,.indexAddr t x y,ty,pos,af,g⟩ w (.pointer (some ⟨b,o+i.toNat*sz,none⟩)):=by
 intro ρ hρ
 obtain ⟨ht,inf,hi,rfl⟩:=ht
 simp [execOp,hρ x (by simp [Op.operands]) _ hx,hρ y (by simp [Op.operands]) _ hy,Instr.indexAt,asIntOf,run_underlying ht,sizeOf,typeInfo,hi,h0,h1,Instr.sureAddr,add_mk]
theorem run_isAgg {u:TypeDesc} (h:P.underlying t=some u):(isAgg t).run P w = .ok (aggB u) w:=by
 unfold isAgg
 rw [Sem.run_bind,run_underlying h w]
 cases u <;> simp [aggB]
theorem run_load1 {ad:Addr} {v:Value} (ht:OneT P t) (hr:w.cell? ad=some v):(loadVar t ad).run P w = .ok v w:=by
 obtain ⟨u,hu,ha⟩:=ht
 unfold loadVar
 rw [Sem.run_bind,run_isAgg hu,ha]
 simp [load,Sem.run,hr]
theorem run_loadA {ad:Addr} {cs:List Value} (ht:AggT P t cs.length) (hr:∀ j v,cs[j]?=some v→w.cell? (ad.add j)=some v):(loadVar t ad).run P w = .ok (.agg cs.toArray) w:=by
 obtain ⟨⟨u,hu,ha⟩,inf,hi,hs⟩:=ht
 have hl:=run_loadCells_list (P:=P) w ad cs hr
 unfold loadVar
 rw [Sem.run_bind,run_isAgg hu,ha]
 simp [sizeOf,typeInfo,hi,hs,hl]
theorem pu_load1 {ad:Addr} {v:Value} (ht:OneT P t) (hx:ev L x=some (.pointer (some ad))) (hr:w.cell? ad=some v):Pu P L ⟨d,.load t x,ty,pos,af,g⟩ w v:=by
 intro ρ hρ
 simp [execOp,hρ x (by simp [Op.operands]) _ hx,Instr.loadAt,Instr.sureAddr,run_load1 ht hr]
theorem pu_loadA {ad:Addr} {cs:List Value} (ht:AggT P t cs.length) (hx:ev L x=some (.pointer (some ad))) (hr:∀ j v,cs[j]?=some v→w.cell? (ad.add j)=some v):Pu P L ⟨d,.load t x,ty,pos,af,g⟩ w (.agg cs.toArray):=by
 intro ρ hρ
 simp [execOp,hρ x (by simp [Op.operands]) _ hx,Instr.loadAt,Instr.sureAddr,run_loadA ht hr]
def CallOk (P:Program) (f:FuncId):Prop:=∃ fn,P.funcs[f]?=some fn∧(fn.name == "runtime.NumGoroutine")=false∧fn.body.isNone=false
theorem evs_map {ρ:Operand→Value}:∀ (l:List Operand) (vsl:List Value),evs L l=some vsl→(∀ x∈l,∀ u,ev L x=some u→ρ x=u)→l.map ρ=vsl:=by
 intro l
 induction l with
 | nil=>intro vsl h _; simpa [evs] using h
 | cons x r ih =>
  intro vsl h hr
  unfold evs at h
  cases h1:ev L x with
  | none=>simp [h1] at h
  | some v =>
   cases h2:evs L r with
   | none=>simp [h1,h2] at h
   | some us =>
    simp [h1,h2] at h
    rw [List.map_cons,hr x (by simp) _ h1,ih us h2 λ y hy=>hr y (by simp [hy]),h]
theorem run_call {f:FuncId} {args:Array Value} (h:CallOk P f):(callFunc f args).run P w = .ok (.enter f args) w:=by
 obtain ⟨fn,hf,hn,hb⟩:=h
 unfold callFunc
 simp only [Sem.run_bind,run_program,Result.andThen_ok,hf,hn,Bool.false_eq_true,if_false,hb,Sem.run_pure]
theorem ds_call {f:FuncId} {args:List Operand} {vsl:List Value} {ats:Array TypeId} {Post:VP} (hc:CallOk P f) (ha:evs L args=some vsl)
  (H:Calls P f vsl.toArray w λ e w'=>∃ v,e = .returned v∧Post v w'):Ds P L ⟨d,.call ⟨.value (.func f),args.toArray,ats⟩,ty,pos,af,g⟩ w Post:=by
 intro ρ hρ
 have hm:=evs_map args vsl ha λ x hx u hu=>hρ x (by simp [Op.operands,Call.operands,hx]) u hu
 have hf:ρ (.func f) = .func (.func f) #[] #[]:=hρ (.func f) (by simp [Op.operands,Call.operands]) _ rfl
 unfold Does
 have:(execOp ρ ⟨d,.call ⟨.value (.func f),args.toArray,ats⟩,ty,pos,af,g⟩).run P w = .ok (.enter f vsl.toArray) w:=by
  simp only [execOp,resolve,List.map_toArray,hm,hf,Deferred.ofValue,Sem.run_bind,Sem.run_pure,Result.andThen_ok,invoke,Array.append_empty,Array.empty_append]
  exact run_call hc
 rw [this]
 exact H
end pure
end Go.Dx
namespace Go.Dx
open Go Go.RowKit
abbrev View:=Nat→Option Obj
def VLe (h h':View):Prop:=∀ k o,h k=some o→h' k=some o
def Full (w:World):View:=λ k=>w.heap[k]?
def Mono (F:View→Prop):Prop:=∀ h h',VLe h h'→F h→F h'
theorem VLe.refl (h:View):VLe h h:=λ _ _ h=>h
theorem VLe.trans {a b c:View} (h:VLe a b) (k:VLe b c):VLe a c:=λ i o hi=>k i o (h i o hi)
theorem Mono.tru:Mono λ _=>True:=λ _ _ _ _=>trivial
theorem Mono.and {F G:View→Prop} (hF:Mono F) (hG:Mono G):Mono λ h=>F h∧G h:=λ h h' hl ⟨a,b⟩=>⟨hF h h' hl a,hG h h' hl b⟩
abbrev OE:=Option Nat×(Option Obj→Prop)
def CellsC (T:TypeId) (cs:List Value):Option Obj→Prop:=λ o=>o=some (.cells cs.toArray T (0,0))
def ids (O:List OE):List Nat:=O.filterMap (·.1)
def cv (n0:Nat) (h0:View) (I:List Nat) (w:World):View:=λ k=>if k∈I then none else if k<n0 then h0 k else w.heap[k]?
def nv (h:View) (w w':World):View:=λ k=>if k<w.heap.size then h k else w'.heap[k]?
structure St (w0:World) (h0:View) (M:List Nat) (w:World) (O:List OE) (F:View→Prop):Prop where
 keep:Keep M w0 w
 vw:∀ k o,h0 k=some o→w0.heap[k]?=some o∧k ∉ M
 own:∀ e∈O,e.2 (e.1.bind λ b=>w.heap[b]?)
 fresh:∀ b∈ids O,(w0.heap.size≤b∨b∈M)∧b<w.heap.size
 nd:(ids O).Nodup
 mono:Mono F
 facts:F (cv w0.heap.size h0 (ids O) w)
theorem Keep.mono {M M':List Nat} {w w':World} (h:Keep M w w') (hM:∀ b∈M,b<w.heap.size→b∈M'):Keep M' w w' :=
 ⟨h.os,h.tape,h.output,h.drawn,h.size,λ k hk hn=>h.block k hk λ hm=>hn (hM k hm hk)⟩
theorem Keep.transIn {M I:List Nat} {w0 w w':World} (h:Keep M w0 w) (k:Keep I w w') (hI:∀ b∈I,w0.heap.size≤b∨b∈M):Keep M w0 w' :=
 ⟨k.os.trans h.os,k.tape.trans h.tape,k.output.trans h.output,Nat.le_trans h.drawn k.drawn,Nat.le_trans h.size k.size,λ i hi hn=>by
  rw [k.block i (Nat.lt_of_lt_of_le hi h.size) λ hm=>by
   rcases hI i hm with h' | h'
   ·omega
   ·exact hn h']
  exact h.block i hi hn⟩
section st
variable {w0 w w':World} {h0:View} {M:List Nat} {O:List OE} {F Φ:View→Prop}
theorem St.init (w:World) (h:View) (hv:VLe h (Full w)):St w h [] w [] λ _=>True :=
 ⟨Keep.refl _ _,λ k o hk=>⟨hv k o hk,by simp⟩,by simp,by simp [ids],by simp [ids],Mono.tru,trivial⟩
theorem St.view (hS:St w0 h0 M w O F):VLe (cv w0.heap.size h0 (ids O) w) (Full w):=by
 intro k o hk
 unfold cv at hk
 split at hk
 ·cases hk
 ·split at hk
  ·rename_i hlt
   have:=hS.vw k o hk
   show w.heap[k]?=some o
   rw [hS.keep.block k hlt this.2]
   exact this.1
  ·exact hk
theorem cv_le {I I' J:List Nat} (n0:Nat) (h0:View) (hk:Keep J w w') (hJ:∀ b∈J,b∈I) (hI:∀ b∈I',b∈I∨w.heap.size≤b) (hn:n0≤w.heap.size):VLe (cv n0 h0 I w) (cv n0 h0 I' w'):=by
 intro k o h
 unfold cv at h ⊢
 split at h
 ·cases h
 ·rename_i hkI
  have hlt:∀ (hh:¬ k<n0),k<w.heap.size:=λ hh=>by
   rw [if_neg hh] at h; exact (Array.getElem?_eq_some_iff.1 h).1
  rw [if_neg (λ hm=>by
   rcases hI k hm with h' | h'
   ·exact hkI h'
   ·by_cases hh:k<n0
    ·omega
    ·have:=hlt hh; omega)]
  split
  ·rename_i hh; rwa [if_pos hh] at h
  ·rename_i hh
   rw [if_neg hh] at h
   rw [hk.block k (hlt hh) λ hm=>hkI (hJ k hm)]
   exact h
theorem St.step (hS:St w0 h0 M w O F) (hk:Keep [] w w'):St w0 h0 M w' O F:=by
 refine ⟨hS.keep.transIn hk (by simp),hS.vw,λ e he=>?_,λ b hb=>⟨(hS.fresh b hb).1,Nat.lt_of_lt_of_le (hS.fresh b hb).2 hk.size⟩,hS.nd,hS.mono,
  hS.mono _ _ (cv_le _ _ hk (by simp) (λ b hb => .inl hb) hS.keep.size) hS.facts⟩
 have:=hS.own e he
 cases he1:e.1 with
 | none=>rw [he1] at this; exact this
 | some b =>
  rw [he1] at this
  have hb:b∈ids O:=List.mem_filterMap.2 ⟨e,he,he1⟩
  simp only [Option.bind_some] at this ⊢
  rw [hk.block b (hS.fresh b hb).2 (by simp)]
  exact this
theorem St.add (hS:St w0 h0 M w O F) (hm:Mono Φ) (h:Φ (cv w0.heap.size h0 (ids O) w)):St w0 h0 M w O λ h=>F h∧Φ h :=
 ⟨hS.keep,hS.vw,hS.own,hS.fresh,hS.nd,hS.mono.and hm,hS.facts,h⟩
theorem St.weak {G:View→Prop} (hS:St w0 h0 M w O F) (hm:Mono G) (h:∀ v,F v→G v):St w0 h0 M w O G :=
 ⟨hS.keep,hS.vw,hS.own,hS.fresh,hS.nd,hm,h _ hS.facts⟩
theorem nv_le (hS:St w0 h0 M w O F) (hk:Keep [] w w'):VLe (nv (cv w0.heap.size h0 (ids O) w) w w') (cv w0.heap.size h0 (ids O) w'):=by
 intro k o h
 unfold nv at h
 split at h
 ·exact cv_le _ _ hk (by simp) (λ b hb => .inl hb) hS.keep.size k o h
 ·rename_i hlt
  unfold cv
  rw [if_neg (λ hm=>hlt (hS.fresh k hm).2),if_neg (λ hh=>hlt (Nat.lt_of_lt_of_le hh hS.keep.size))]
  exact h
theorem St.call (hS:St w0 h0 M w O F) (hk:Keep [] w w') (hm:Mono Φ) (h:Φ (nv (cv w0.heap.size h0 (ids O) w) w w')):St w0 h0 M w' O λ h=>F h∧Φ h :=
 (hS.step hk).add hm (hm _ _ (nv_le hS hk) h)
def Ret (w:World) (h:View) (Φ:Value→View→Prop):Ending→World→Prop:=λ e w'=>∃ v,e = .returned v∧Keep [] w w'∧Φ v (nv h w w')
theorem Ret.mono {h:View} {Φ Ψ:Value→View→Prop} (hq:∀ v h,Φ v h→Ψ v h):∀ e w',Ret w h Φ e w'→Ret w h Ψ e w':=λ _ _ ⟨v,he,hk,hv⟩=>⟨v,he,hk,hq _ _ hv⟩
theorem St.ret {Ψ:Value→View→Prop} {v:Value} (hS:St w0 h0 [] w O F) (hm:Mono (Ψ v)) (h:∀ hh,F hh→Ψ v hh):Ret w0 h0 Ψ (.returned v) w :=
 ⟨v,rfl,hS.keep,hm _ _ (λ k o hk=>by
  unfold cv at hk
  unfold nv
  split at hk
  ·cases hk
  ·exact hk) (h _ hS.facts)⟩
theorem keep_alloc (w:World) (o:Obj):Keep [] w (w.alloc o):=⟨rfl,rfl,rfl,Nat.le_refl _,by simp,λ k hk _=>Below.heap_alloc _ _ _ hk⟩
theorem St.new (hS:St w0 h0 M w O F) (o:Obj) {C:Option Obj→Prop} (hC:C (some o)):St w0 h0 M (w.alloc o) ((some w.heap.size,C)::O) F:=by
 have h1:=hS.step (keep_alloc w o)
 have hnot:w.heap.size ∉ ids O:=λ hm=>by have:=(hS.fresh _ hm).2; omega
 refine ⟨h1.keep,h1.vw,λ e he=>?_,λ b hb=>?_,?_,hS.mono,hS.mono _ _ (cv_le (J:=[]) _ _ (keep_alloc w o) (by simp) (λ b hb=>?_) hS.keep.size) hS.facts⟩
 ·rcases List.mem_cons.1 he with rfl | he
  ·have:(w.alloc o).heap[w.heap.size]?=some o:=heap_alloc_new w o
   simp only [Option.bind_some,this]
   exact hC
  ·exact h1.own e he
 ·have hb':b=w.heap.size∨b∈ids O:=by simpa [ids] using hb
  rcases hb' with rfl | hb'
  ·exact ⟨.inl hS.keep.size,by simp⟩
  ·exact h1.fresh b hb'
 ·show (w.heap.size::ids O).Nodup
  exact List.nodup_cons.2 ⟨hnot,hS.nd⟩
 ·have hb':b=w.heap.size∨b∈ids O:=by simpa [ids] using hb
  rcases hb' with rfl | hb'
  ·exact .inr (Nat.le_refl _)
  ·exact .inl hb'
theorem St.at {i:Nat} {b:Nat} {C:Option Obj→Prop} (hS:St w0 h0 M w O F) (hi:O[i]?=some (some b,C)):C w.heap[b]?:=by
 have:=hS.own _ (List.mem_of_getElem? hi)
 simpa using this
theorem ids_set {b:Nat} {C C':Option Obj→Prop}:∀ {O:List OE} {i:Nat},O[i]?=some (some b,C)→ids (O.set i (some b,C'))=ids O
 | [],_,h=>by simp at h
 | e::O,0,h=>by
  have:e=(some b,C):=by simpa using h
  subst this
  simp [ids]
 | e::O,i+1,h=>by
  have:=ids_set (O:=O) (i:=i) (C':=C') (by simpa using h)
  unfold ids at this ⊢
  simp only [List.set_cons_succ,List.filterMap_cons]
  rw [this]
theorem St.write {i:Nat} {b:Nat} {C C':Option Obj→Prop} (hS:St w0 h0 M w O F) (hi:O[i]?=some (some b,C)) (hk:Keep [b] w w') (hC:C' w'.heap[b]?) :
  St w0 h0 M w' (O.set i (some b,C')) F:=by
 have hb:b∈ids O:=List.mem_filterMap.2 ⟨_,List.mem_of_getElem? hi,rfl⟩
 have hids:=ids_set (C':=C') hi
 have hil:i<O.length:=(List.getElem?_eq_some_iff.1 hi).1
 refine ⟨hS.keep.transIn hk (λ c hc=>(List.mem_singleton.1 hc).symm ▸ (hS.fresh b hb).1),hS.vw,λ e he=>?_,λ c hc=>?_,by rw [hids]; exact hS.nd,hS.mono,?_⟩
 ·obtain ⟨j,hj⟩:=List.mem_iff_getElem?.1 he
  rw [List.getElem?_set] at hj
  by_cases hij:i=j
  ·subst hij
   simp [hil] at hj
   subst hj
   simpa using hC
  ·rw [if_neg hij] at hj
   have:=hS.own e (List.mem_of_getElem? hj)
   cases he1:e.1 with
   | none=>rw [he1] at this; exact this
   | some c =>
    rw [he1] at this
    have hc:c∈ids O:=List.mem_filterMap.2 ⟨e,List.mem_of_getElem? hj,he1⟩
    have hne:c≠b:=by
     intro hcb
     subst hcb
     -- two places of one number
     have hnd:=hS.nd
     have key:∀ (O:List OE) (i j:Nat) (e:OE),(ids O).Nodup→i≠j→O[i]?=some (some c,C)→O[j]?=some e→e.1=some c→False:=by
      intro O
      induction O with
      | nil=>intro i j e _ _ h; simp at h
      | cons x O ih =>
       intro i j e hnd hij h1 h2 h3
       match i,j with
       | 0,0=>exact hij rfl
       | 0,j+1 =>
        have hx:x=(some c,C):=by simpa using h1
        subst hx
        have hm:c∈ids O:=List.mem_filterMap.2 ⟨e,List.mem_of_getElem? (by simpa using h2),h3⟩
        have:(c::ids O).Nodup:=by simpa [ids] using hnd
        exact (List.nodup_cons.1 this).1 hm
       | i+1,0 =>
        have hx:x=e:=by simpa using h2
        subst hx
        have hm:c∈ids O:=List.mem_filterMap.2 ⟨_,List.mem_of_getElem? (by simpa using h1),rfl⟩
        have:(c::ids O).Nodup:=by simpa [ids,h3] using hnd
        exact (List.nodup_cons.1 this).1 hm
       | i+1,j+1 =>
        refine ih i j e ?_ (by omega) (by simpa using h1) (by simpa using h2) h3
        cases hx:x.1 with
        | none=>simpa [ids,hx] using hnd
        | some y =>
         have:(y::ids O).Nodup:=by simpa [ids,hx] using hnd
         exact (List.nodup_cons.1 this).2
     exact key O i j e hnd hij hi hj he1
    simp only [Option.bind_some] at this ⊢
    rw [hk.block c (hS.fresh c hc).2 (by simpa using hne)]
    exact this
 ·rw [hids] at hc
  exact ⟨(hS.fresh c hc).1,Nat.lt_of_lt_of_le (hS.fresh c hc).2 hk.size⟩
 ·rw [hids]
  exact hS.mono _ _ (cv_le (J:=[b]) _ _ hk (λ c hc=>(List.mem_singleton.1 hc).symm ▸ hb) (λ c hc => .inl hc) hS.keep.size) hS.facts
theorem St.shutOwn {i:Nat} {b:Nat} {C:Option Obj→Prop} (hS:St w0 h0 [] w O F) (hi:O[i]?=some (some b,C)) (hm:Mono Φ) (h:∀ hh o,F hh→hh b=some o→C (some o)→Φ hh) :
  St w0 h0 [] w (O.eraseIdx i) λ h=>F h∧Φ h:=by
 have hC:=hS.at hi
 have hbO:b∈ids O:=List.mem_filterMap.2 ⟨_,List.mem_of_getElem? hi,rfl⟩
 have hsub:∀ e,e∈O.eraseIdx i→e∈O:=λ e he=>List.mem_of_mem_eraseIdx he
 have hids:∀ {O:List OE} {i:Nat},O[i]?=some (some b,C)→(ids O).Nodup→b ∉ ids (O.eraseIdx i)∧(ids (O.eraseIdx i)).Nodup:=by
  intro O
  induction O with
  | nil=>intro i h; simp at h
  | cons x O ih =>
   intro i h hnd
   match i with
   | 0 =>
    have hx:x=(some b,C):=by simpa using h
    subst hx
    have:(b::ids O).Nodup:=by simpa [ids] using hnd
    simpa using List.nodup_cons.1 this
   | i+1 =>
    have h':O[i]?=some (some b,C):=by simpa using h
    have hbm:b∈ids O:=List.mem_filterMap.2 ⟨_,List.mem_of_getElem? h',rfl⟩
    cases hx:x.1 with
    | none =>
     have:=ih h' (by simpa [ids,hx] using hnd)
     simpa [ids,hx] using this
    | some y =>
     have hnd':(y::ids O).Nodup:=by simpa [ids,hx] using hnd
     obtain ⟨g1,g2⟩:=ih h' (List.nodup_cons.1 hnd').2
     have hyb:y≠b:=λ e=>(List.nodup_cons.1 hnd').1 (e ▸ hbm)
     have hy2:y ∉ ids (O.eraseIdx i):=λ hm=>(List.nodup_cons.1 hnd').1 (by
      obtain ⟨e,he,he1⟩:=List.mem_filterMap.1 hm
      exact List.mem_filterMap.2 ⟨e,List.mem_of_mem_eraseIdx he,he1⟩)
     have e1:ids ((x::O).eraseIdx (i+1))=y::ids (O.eraseIdx i):=by simp [ids,hx]
     rw [e1]
     exact ⟨by simp [Ne.symm hyb,g1],List.nodup_cons.2 ⟨hy2,g2⟩⟩
 obtain ⟨g1,g2⟩:=hids hi hS.nd
 have hsubI:∀ c,c∈ids (O.eraseIdx i)→c∈ids O:=λ c hc=>by
  obtain ⟨e,he,he1⟩:=List.mem_filterMap.1 hc
  exact List.mem_filterMap.2 ⟨e,hsub e he,he1⟩
 have hF:F (cv w0.heap.size h0 (ids (O.eraseIdx i)) w) :=
  hS.mono _ _ (cv_le (J:=[]) _ _ (Keep.refl [] w) (by simp) (λ c hc => .inl (hsubI c hc)) hS.keep.size) hS.facts
 refine ⟨hS.keep,hS.vw,λ e he=>hS.own e (hsub e he),λ c hc=>hS.fresh c (hsubI c hc),g2,hS.mono.and hm,hF,?_⟩
 have hfr:=(hS.fresh b hbO)
 have hge:w0.heap.size≤b:=by exact hfr.1.resolve_right (by simp)
 obtain ⟨o,ho⟩:∃ o,w.heap[b]?=some o:=⟨_,Array.getElem?_eq_getElem hfr.2⟩
 refine h _ o hF ?_ (by rw [← ho]; exact hC)
 unfold cv
 rw [if_neg g1,if_neg (by omega)]
 exact ho
end st
end Go.Dx
namespace Go.Dx
open Go Go.RowKit
section mem
variable {md:Md} {P:Program} {opsA:Array Oper} {rest:List Oper} {Q:Exit→Act→World→Prop} {a:Act} {w w0:World} {h0:View} {M:List Nat} {O:List OE} {F:View→Prop} {n:Nat} {L:FL}
variable {op:Op} {d:Option Nat} {ty t T:TypeId} {pos:String} {af:Array Edge} {g:Option (Nat×Bool)} {x y:Operand}
theorem cell_row {b off:Nat} {cs:List Value} {T:TypeId} {fz:Nat×Nat} (h:w.heap[b]?=some (.cells cs.toArray T fz)):w.cell? ⟨b,off,none⟩=cs[off]?:=by
 simp [World.cell?,h]
theorem St.rd {i b off:Nat} {cs:List Value} {v:Value} (hS:St w0 h0 M w O F) (hi:O[i]?=some (some b,CellsC T cs)) (hv:cs[off]?=some v):w.cell? ⟨b,off,none⟩=some v:=by
 rw [cell_row (hS.at hi)]; exact hv
def spl (cs:List Value) (off:Nat) (new:List Value):List Value:=cs.take off++(new++cs.drop (off+new.length))
def oneV:Value→Bool
 | .agg _ | .tuple _=>false
 | _=>true
def allOne:List Value→Bool
 | []=>true
 | v::r=>oneV v&&allOne r
theorem allOne_mem:∀ {l:List Value},allOne l=true→∀ v∈l,v.oneCell'=true
 | [],_,v,h=>by simp at h
 | u::r,h,v,hv=>by
  simp only [allOne,Bool.and_eq_true] at h
  rcases List.mem_cons.1 hv with rfl | hv
  ·have:=h.1
   cases v <;> simp_all [oneV,Value.oneCell']
  ·exact allOne_mem h.2 v hv
theorem keep_setRow (w:World) (g:Nat) (cs:Array Value):Keep [g] w (w.setRow g cs) :=
 ⟨rfl,rfl,rfl,Nat.le_refl _,by simp [World.setRow],λ k _ hk=>setRow_other w g k cs (by simpa using hk)⟩
theorem run_storeVar {b off:Nat} {cs new:List Value} {v:Value} (hg:w.heap[b]?=some (.cells cs.toArray T (0,0))) (hc:v.cells=new.toArray) (hsz:SzIs P t new.length) (h1:allOne new=true) (hfit:off+new.length≤cs.length) :
  (storeVar t ⟨b,off,none⟩ v).run P w = .ok () (w.setRow b (spl cs off new).toArray):=by
 obtain ⟨inf,hi,hs⟩:=hsz
 have hst:=run_storeCells_at P b off T new 0 cs.toArray w hg (by simpa using hfit) (allOne_mem h1)
 unfold storeVar
 simp only [Nat.add_zero] at hst
 simp [sizeOf,typeInfo,hi,hs,hc,hst,spl]
theorem s_store {i b off:Nat} {cs new:List Value} {v:Value} (hF:Fr a n L) (hS:St w0 h0 M w O F) (hi:O[i]?=some (some b,CellsC T cs)) (hx:ev L x=some (.pointer (some ⟨b,off,none⟩))) (hy:ev L y=some v)
  (hc:v.cells=new.toArray) (hsz:SzIs P t new.length) (h1:allOne new=true) (hfit:off+new.length≤cs.length)
  (k:∀ w' a,St w0 h0 M w' (O.set i (some b,CellsC T (spl cs off new))) F→Fr a n L→wpM md P opsA Q rest a w') :
  wpM md P opsA Q (⟨none,.store t x y,ty,pos,af,none⟩::rest) a w:=by
 refine wpM_plain rfl λ K hK=>?_
 have ex:=hF.ev hx
 have ey:=hF.ev hy
 have:(execOp a.eval ⟨none,.store t x y,ty,pos,af,none⟩).run P w = .ok .skip (w.setRow b (spl cs off new).toArray):=by
  simp only [execOp,ex,ey,Instr.storeAt,Instr.sureAddr,Sem.run_bind,Sem.run_pure,Result.andThen_ok,run_storeVar (hS.at hi) hc hsz h1 hfit]
 exact opM_of_skip this (hK _ _ (k _ _ (hS.write hi (keep_setRow _ _ _) (setRow_heap w b _ _ T _ (hS.at hi))) hF))
structure CR (R:World→World→Prop) (w w0:World) (h0:View) (M:List Nat) (O:List OE) (F:View→Prop) (w1:World):Prop where
 rel:R w w1
 st:St w0 h0 M w1 O F
theorem CR.step {R:World→World→Prop} [hR:Rel R] {w w0 w1 w2:World} {h0:View} {M:List Nat} {O:List OE} {F:View→Prop} (h:CR R w w0 h0 M O F w1) (hk:Keep [] w1 w2):CR R w w0 h0 M O F w2:=⟨hR.step _ _ _ h.rel hk,h.st.step hk⟩
section typedcalls
variable {ops:Array Oper} {R:World→World→Prop} [hR:Rel R] {Qf:SP→(Nat→VP)→Prop} {Γ:Nat→VP}
end typedcalls
theorem St.retv {v v':Value} (hS:St w0 h0 [] w O F) (he:v=v'):Ret w0 h0 (λ u _=>u=v') (.returned v) w:=hS.ret (λ _ _ _ h=>h) λ _ _=>he
theorem Fr.cut {G:Prop} {Lm Lk:FL} (hF:Fr a n L) (hm:Picks L Lm) (hk:Picks L Lk) (h:∀ L0,L0=Lk→Fr a n (Lm++L0)→G):G:=by
 refine h Lk rfl (hF.pick ?_)
 clear h
 induction hm with
 | nil=>exact hk
 | cons h1 _ ih=>exact .cons h1 ih
theorem St.cut {G:Prop} (hS:St w0 h0 M w O F) (h:∀ O0 F0,O0=O→F0=F→St w0 h0 M w O0 F0→G):G:=h O F rfl rfl hS
end mem
section splits
variable {md:Md} {P:Program} {opsA:Array Oper} {l:List Oper} {Q:Exit→Act→World→Prop} {a:Act} {w:World} {n j:Nat} {L:FL} {b:Bool}
variable {w0:World} {h0:View} {M:List Nat} {O:List OE} {F:View→Prop} {T t:TypeId}
end splits
section facts
variable {md:Md} {P:Program} {t e:TypeId} {n sz:Nat}
theorem SzIs.of (h:(P.info? t).map (·.size)=some n):SzIs P t n:=by
 cases hi:P.info? t with
 | none=>simp [hi] at h
 | some i=>exact ⟨i,hi,by simpa [hi] using h⟩
theorem OneT.of (h:(P.underlying t).map aggB=some false):OneT P t:=by
 cases hi:P.underlying t with
 | none=>simp [hi] at h
 | some i=>exact ⟨i,hi,by simpa [hi] using h⟩
theorem AggT.of (h:(P.underlying t).map aggB=some true) (hs:(P.info? t).map (·.size)=some n):AggT P t n:=by
 refine ⟨?_,SzIs.of hs⟩
 cases hi:P.underlying t with
 | none=>simp [hi] at h
 | some i=>exact ⟨i,rfl,by simpa [hi] using h⟩
def fldB (P:Program) (t i:Nat):Option (Nat×Option Nat):=match P.underlying t with
 | some (.struct fs)=>(fs[i]?).map λ f=>(f.offset,(P.info? f.type).map (·.size))
 | _=>none
theorem FldAt.of {i off:Nat} (h:fldB P t i=some (off,some (n+1))):FldAt P t i off:=by
 unfold fldB at h
 split at h
 ·rename_i fs hu
  cases hf:fs[i]? with
  | none=>simp [hf] at h
  | some f =>
   simp [hf] at h
   exact ⟨fs,f,n+1,hu,hf,SzIs.of (by simpa using h.2),by omega,h.1⟩
 ·cases h
theorem ZeroT.of {cs:List Value} (h:(P.info? t).bind (λ i=>i.zero.map λ z=>(z.cells,i.size))=some (cs.toArray,cs.length)):ZeroT P t cs:=by
 cases hi:P.info? t with
 | none=>simp [hi] at h
 | some i =>
  cases hz:i.zero with
  | none=>simp [hi,hz] at h
  | some z=>simp [hi,hz] at h; exact ⟨i,z,hi,hz,h.1,h.2⟩
theorem CallOk.of {f:FuncId} (h:(P.funcs[f]?).map (λ fn=>fn.name == "runtime.NumGoroutine" || fn.body.isNone)=some false):CallOk P f:=by
 cases hi:P.funcs[f]? with
 | none=>simp [hi] at h
 | some fn =>
  rw [hi] at h
  simp only [Option.map_some,Option.some.injEq,Bool.or_eq_false_iff] at h
  exact ⟨fn,hi,h.1,h.2⟩
end facts
theorem wrap_i64 {n:Int} (h1 : -9223372036854775808≤n) (h2:n≤9223372036854775807):IntKind.i64.wrap n=n:=IntWalk.i64_in n ⟨h1,h2⟩
theorem wrap_u64 {n:Int} (h1:0≤n) (h2:n≤18446744073709551615):IntKind.u64.wrap n=n:=IntWalk.u64_in n ⟨h1,h2⟩
theorem wrap_u8 {n:Int} (h1:0≤n) (h2:n≤255):IntKind.u8.wrap n=n:=IntWalk.u8_in n ⟨h1,h2⟩
end Go.Dx
namespace Go.Dx
open Go Go.RowKit
abbrev v8 (b:UInt8):Value := .int .u8 b.toNat
section w32
variable {P:Program} {L:FL} {w:World} {d:Option Nat} {ty t t':TypeId} {pos:String} {af:Array Edge} {g:Option (Nat×Bool)} {x y:Operand}
variable {a b:BitVec 32}
theorem pu_idxn {l:List UInt8} {k:IntKind} {i:Int} {j:Nat} (ht:P.underlying t=some .string) (hx:ev L x=some (vs l)) (hy:ev L y=some (.int k i)) (hj:i=(j:Int)) (h1:j<l.length) :
  Pu P L ⟨d,.index t x y,ty,pos,af,g⟩ w (v8 (l.getD j 0)):=by
 subst hj
 exact pu_idx ht hx hy (by omega) (by omega)
variable {c:UInt8}
end w32
end Go.Dx
namespace Go.Dx
open Go Go.RowKit
section upd
variable {w0 w w':World} {h0:View} {M:List Nat} {O:List OE} {F Φ:View→Prop}
theorem St.upds {J:List Nat} {O':List OE} (hS:St w0 h0 M w O F) (hk:Keep J w w') (hJ:∀ b∈J,b∈ids O) (hO:∀ e∈O',e.2 (e.1.bind λ b=>w'.heap[b]?))
  (hid:∀ b∈ids O',b∈ids O∨w.heap.size≤b∧b<w'.heap.size) (hnd:(ids O').Nodup):St w0 h0 M w' O' F:=by
 refine ⟨hS.keep.transIn hk λ b hb=>(hS.fresh b (hJ b hb)).1,hS.vw,hO,λ b hb=>?_,hnd,hS.mono,
  hS.mono _ _ (cv_le _ _ hk hJ (λ b hb=>(hid b hb).imp id And.left) hS.keep.size) hS.facts⟩
 rcases hid b hb with h | ⟨h,h'⟩
 ·exact ⟨(hS.fresh b h).1,Nat.lt_of_lt_of_le (hS.fresh b h).2 hk.size⟩
 ·exact ⟨.inl (Nat.le_trans hS.keep.size h),h'⟩
theorem St.still {J:List Nat} (hS:St w0 h0 M w O F) (hk:Keep J w w') {e:OE} (he:e∈O) (hn:∀ b,e.1=some b→b ∉ J):e.2 (e.1.bind λ b=>w'.heap[b]?):=by
 have:=hS.own e he
 cases h:e.1 with
 | none=>rw [h] at this; exact this
 | some b =>
  rw [h] at this
  have hb:b∈ids O:=List.mem_filterMap.2 ⟨e,he,h⟩
  simp only [Option.bind_some] at this ⊢
  rw [hk.block b (hS.fresh b hb).2 (hn b h)]
  exact this
theorem St.regrow {i : Nat} {e e' : OE} (hS : St w0 h0 M w O F) (hi : O[i]? = some e) (hk : Keep e.1.toList w w') (hC : e'.2 (e'.1.bind fun b => w'.heap[b]?))
    (hid : e'.1 = e.1 ∨ e'.1 = none ∨ ∃ b, e'.1 = some b ∧ w.heap.size ≤ b ∧ b < w'.heap.size) : St w0 h0 M w' (O.set i e') F := by
  have hil : i < O.length := (List.getElem?_eq_some_iff.1 hi).1
  have hmem : e ∈ O := List.mem_of_getElem? hi
  have hJ : ∀ b ∈ e.1.toList, b ∈ ids O := fun b hb => List.mem_filterMap.2 ⟨e, hmem, by simpa using hb⟩
  -- the numbers
  have key : ∀ (O : List OE) (i : Nat), O[i]? = some e → (ids O).Nodup → (∀ b ∈ ids O, b < w.heap.size) →
      (∀ b ∈ ids (O.set i e'), b ∈ ids O ∨ w.heap.size ≤ b ∧ b < w'.heap.size) ∧ (ids (O.set i e')).Nodup ∧ (∀ x ∈ O.set i e', x = e' ∨ (x ∈ O ∧ ∀ b, x.1 = some b → b ∉ e.1.toList)) := by
    intro O
    induction O with
    | nil => intro i h; simp at h
    | cons x O ih =>
      intro i h hnd hlt
      match i with
      | 0 =>
        have hx : x = e := by simpa using h
        subst hx
        have hnd' : (ids O).Nodup := by
          cases hx1 : x.1 with
          | none => simpa [ids, hx1] using hnd
          | some y => have : (y :: ids O).Nodup := by simpa [ids, hx1] using hnd
                      exact (List.nodup_cons.1 this).2
        have hothers : ∀ y, y ∈ ids O → x.1 ≠ some y := fun y hy hxy => by
          have : (y :: ids O).Nodup := by simpa [ids, hxy] using hnd
          exact (List.nodup_cons.1 this).1 hy
        refine ⟨fun b hb => ?_, ?_, fun z hz => ?_⟩
        · simp only [List.set_cons_zero] at hb
          cases he1 : e'.1 with
          | none =>
            have : b ∈ ids O := by simpa [ids, he1] using hb
            obtain ⟨z, hz, hz1⟩ := List.mem_filterMap.1 this
            exact .inl (List.mem_filterMap.2 ⟨z, by simp [hz], hz1⟩)
          | some c =>
            have : b = c ∨ b ∈ ids O := by simpa [ids, he1] using hb
            rcases this with rfl | this
            · rcases hid with hid | hid | ⟨b', hb', h1, h2⟩
              · exact .inl (List.mem_filterMap.2 ⟨x, by simp, by rw [← hid, he1]⟩)
              · rw [he1] at hid; cases hid
              · rw [he1] at hb'; cases hb'; exact .inr ⟨h1, h2⟩
            · obtain ⟨z, hz, hz1⟩ := List.mem_filterMap.1 this
              exact .inl (List.mem_filterMap.2 ⟨z, by simp [hz], hz1⟩)
        · simp only [List.set_cons_zero]
          cases he1 : e'.1 with
          | none => simpa [ids, he1] using hnd'
          | some c =>
            have : (c :: ids O).Nodup := by
              refine List.nodup_cons.2 ⟨fun hm => ?_, hnd'⟩
              rcases hid with hid | hid | ⟨b', hb', h1, h2⟩
              · exact hothers c hm (by rw [← hid, he1])
              · rw [he1] at hid; cases hid
              · rw [he1] at hb'; cases hb'
                have : c ∈ ids (x :: O) := by
                  obtain ⟨z, hz, hz1⟩ := List.mem_filterMap.1 hm
                  exact List.mem_filterMap.2 ⟨z, by simp [hz], hz1⟩
                have := hlt c this
                omega
            simpa [ids, he1] using this
        · simp only [List.set_cons_zero] at hz
          rcases List.mem_cons.1 hz with rfl | hz
          · exact .inl rfl
          · refine .inr ⟨by simp [hz], fun b hb hm => ?_⟩
            exact hothers b (List.mem_filterMap.2 ⟨z, hz, hb⟩) (by simpa using hm)
      | i + 1 =>
        have h' : O[i]? = some e := by simpa using h
        have heO : e ∈ O := List.mem_of_getElem? h'
        have hnd' : (ids O).Nodup := by
          cases hx1 : x.1 with
          | none => simpa [ids, hx1] using hnd
          | some y => have : (y :: ids O).Nodup := by simpa [ids, hx1] using hnd
                      exact (List.nodup_cons.1 this).2
        have hsub : ∀ b, b ∈ ids O → b ∈ ids (x :: O) := fun b hb => by
          obtain ⟨z, hz, hz1⟩ := List.mem_filterMap.1 hb
          exact List.mem_filterMap.2 ⟨z, by simp [hz], hz1⟩
        obtain ⟨g1, g2, g3⟩ := ih i h' hnd' fun b hb => hlt b (hsub b hb)
        refine ⟨fun b hb => ?_, ?_, fun z hz => ?_⟩
        · simp only [List.set_cons_succ] at hb
          cases hx1 : x.1 with
          | none =>
            have : b ∈ ids (O.set i e') := by simpa [ids, hx1] using hb
            exact (g1 b this).imp (hsub b) id
          | some y =>
            have : b = y ∨ b ∈ ids (O.set i e') := by simpa [ids, hx1] using hb
            rcases this with rfl | this
            · exact .inl (List.mem_filterMap.2 ⟨x, by simp, hx1⟩)
            · exact (g1 b this).imp (hsub b) id
        · simp only [List.set_cons_succ]
          cases hx1 : x.1 with
          | none => simpa [ids, hx1] using g2
          | some y =>
            have hy : (y :: ids O).Nodup := by simpa [ids, hx1] using hnd
            have : (y :: ids (O.set i e')).Nodup := by
              refine List.nodup_cons.2 ⟨fun hm => ?_, g2⟩
              rcases g1 y hm with hm' | ⟨hm', _⟩
              · exact (List.nodup_cons.1 hy).1 hm'
              · have := hlt y (List.mem_filterMap.2 ⟨x, by simp, hx1⟩); omega
            simpa [ids, hx1] using this
        · simp only [List.set_cons_succ] at hz
          rcases List.mem_cons.1 hz with rfl | hz
          · refine .inr ⟨by simp, fun b hb hm => ?_⟩
            have hb2 : b ∈ ids O := List.mem_filterMap.2 ⟨e, heO, by simpa using hm⟩
            have : (b :: ids O).Nodup := by simpa [ids, hb] using hnd
            exact (List.nodup_cons.1 this).1 hb2
          · rcases g3 z hz with rfl | ⟨hz', hz2⟩
            · exact .inl rfl
            · exact .inr ⟨by simp [hz'], hz2⟩
  obtain ⟨g1, g2, g3⟩ := key O i hi hS.nd fun b hb => (hS.fresh b hb).2
  refine hS.upds hk hJ (fun x hx => ?_) g1 g2
  rcases g3 x hx with rfl | ⟨hx', hn⟩
  · exact hC
  · exact hS.still hk hx' hn
theorem St.base (hS:St w0 h0 M w O F):VLe h0 (Full w):=λ k o hk=>by
 have:=hS.vw k o hk
 show w.heap[k]?=some o
 rw [hS.keep.block k ((Array.getElem?_eq_some_iff.1 this.1).1) this.2]
 exact this.1
theorem St.base_cv (hS:St w0 h0 M w O F):VLe h0 (cv w0.heap.size h0 (ids O) w):=λ k o hk=>by
 have:=hS.vw k o hk
 have hlt:k<w0.heap.size:=(Array.getElem?_eq_some_iff.1 this.1).1
 unfold cv
 rw [if_neg (λ hm=>by rcases (hS.fresh k hm).1 with h | h; exact absurd hlt (by omega); exact this.2 h),if_pos hlt]
 exact hk
end upd
def noFz (fz:Nat×Nat) (n:Nat):Prop:=∀ j,j<n→(decide (fz.1≤j)&&decide (j<fz.2))=false
theorem noFz00 (n:Nat):noFz (0,0) n:=λ j _=>by simp
theorem run_storeCells_fz (P:Program) (g o:Nat) (t:TypeId) (fz:Nat×Nat):∀ (vs:List Value) (i:Nat) (cur:Array Value) (w:World),w.heap[g]?=some (.cells cur t fz)→noFz fz cur.size→o+i+vs.length≤cur.size→(∀ v∈vs,v.oneCell'=true) →
  (storeCells ⟨g,o,none⟩ vs i).run P w = .ok () (w.setRow g (cur.toList.take (o+i)++vs++cur.toList.drop (o+i+vs.length)).toArray)
 | [],i,cur,w,hg,_,_,_=>by
  simp only [storeCells,List.append_nil,List.length_nil,Nat.add_zero,List.take_append_drop,Array.toArray_toList]
  rw [setRow_self w g cur t fz hg]
  rfl
 | v::rest,i,cur,w,hg,hn,hl,h1=>by
  have hi:o+i<cur.size:=by simp at hl; omega
  have hcell:w.cell? ⟨g,o+i,none⟩=some cur[o+i]:=by simp [World.cell?,hg,hi]
  have hfro:w.frozen? ⟨g,o+i,none⟩=false:=by
   have:=hn (o+i) hi
   simpa [World.frozen?,hg] using this
  have hst:(store ((⟨g,o,none⟩:Addr).add i) v).run P w = .ok () (w.setRow g (cur.setIfInBounds (o+i) v)):=by
   rw [add_mk,run_store P w _ v _ (h1 v (by simp)),hcell]
   simp [hfro,setCell_eq_setRow w g (o+i) cur t fz v hg]
  have ih:=run_storeCells_fz P g o t fz rest (i+1) (cur.setIfInBounds (o+i) v) (w.setRow g (cur.setIfInBounds (o+i) v)) (setRow_heap w g cur _ t _ hg) (by simpa using hn) (by simp at hl ⊢; omega) (λ x hx=>h1 x (by simp [hx]))
  simp only [storeCells,Sem.run_bind,hst,Result.andThen_ok,ih,setRow_setRow]
  congr 3
  have e:=list_seg_step cur.toList (o+i) v rest (by simp at hl ⊢; omega)
  simpa [Array.toList_setIfInBounds,Nat.add_assoc] using e
def BufC (T:TypeId) (sz:Nat) (v:Value) (xs:List Value):Option Obj→Prop:=λ o =>
 (v = .slice none 0 0∧xs=[]) ∨
 ∃ g off n cap cur fz,v = .slice (some ⟨g,off,none⟩) n cap∧o=some (.cells cur T fz)∧noFz fz cur.size∧xs.length=n*sz∧n≤cap∧cap≤maxLen∧off+cap*sz≤cur.size∧(cur.toList.drop off).take (n*sz)=xs
def bufE (T:TypeId) (sz:Nat) (v:Value) (xs:List Value):OE:=(v.ownBlock,BufC T sz v xs)
section append
variable {P:Program} (w:World)
theorem run_append_gen (t t2 ty e:TypeId) (i:TypeInfo) (z:Value) (u2:TypeDesc) (ht:P.underlying t=some (.slice e)) (hu2:P.underlying t2=some u2) (hu2':∀ k,u2 ≠ .int k) (hi:P.info? e=some i) (hz:i.zero=some z)
  (hzs:z.cells.size=i.size) (v x:Value) (xs:List Value) (id:Option Nat) (hid:v.ownBlock=id) (hown:BufC e i.size v xs (id.bind λ b=>w.heap[b]?))
  (m:Nat) (news:List Value) (hl:news.length=m*i.size) (hlen:(Builtin.lenOf x).run P w = .ok m w) (hfst:∀ w',w'.heap=w.heap→(Builtin.firstCells i.size m x).run P w' = .ok news.toArray w') (h1:∀ u∈news,u.oneCell'=true)
  (hsz:0<i.size) (h63:xs.length+news.length≤maxLen) (hbytes:(xs.length+news.length)*i.bytes≤140737488355328) :
  ∃ v' w',(Builtin.append_ #[t,t2] ty #[v,x]).run P w = .ok v' w'∧BufC e i.size v' (xs++news) (v'.ownBlock.bind λ b=>w'.heap[b]?)∧Keep v.ownBlock.toList w w' ∧
   (v'.ownBlock=v.ownBlock∨∃ b,v'.ownBlock=some b∧w.heap.size≤b∧b<w'.heap.size)∧∃ a n c,v' = .slice a n c∧n*i.size=xs.length+news.length:=by
 subst hid
 obtain ⟨a0,n,cap,rfl⟩:∃ a n c,v = .slice a n c:=by
  rcases hown with ⟨rfl,_⟩ | ⟨g,off,n,cap,cur,fz,rfl,_⟩ <;> exact ⟨_,_,_,rfl⟩
 have hnx:xs.length=n*i.size∧(n≤cap)∧cap≤maxLen∧(a0=none→n=0∧cap=0):=by
  rcases hown with ⟨h,rfl⟩ | ⟨g,off,n',cap',cur,fz,h,_,_,h2,h3,h4,_⟩
  ·cases h; simp [maxLen]
  ·cases h; exact ⟨h2,h3,h4,by simp⟩
 have hxs:=hnx.1
 have hnm:(n+m)*i.size=xs.length+news.length:=by rw [Nat.add_mul,hxs,hl]
 have hnm_le:n+m≤xs.length+news.length:=by rw [← hnm]; exact Nat.le_mul_of_pos_right _ hsz
 have hby:(n+m)*i.bytes≤140737488355328:=Nat.le_trans (Nat.mul_le_mul_right _ hnm_le) hbytes
 have hml:n+m≤maxLen:=by omega
 by_cases hroom:n+m≤cap
 ·
  rcases hown with ⟨h,rfl⟩ | ⟨g,off,n',cap',cur,fz,h,ho,hnf,h2,h3,h4,h5,h6⟩
  ·cases h
   have hm0:m=0:=by omega
   subst hm0
   have hn0:news=[]:=List.eq_nil_of_length_eq_zero (by omega)
   subst hn0
   refine ⟨.slice none 0 0,w,?_,.inl ⟨rfl,rfl⟩,Keep.refl _ _,.inl rfl,_,_,_,rfl,by simp⟩
   simp [Builtin.append_,run_underlying ht,run_underlying hu2,sizeOf,typeInfo,hi,hlen,hfst w rfl]
  ·cases h
   have hg:w.heap[g]?=some (.cells cur e fz):=by simpa [Value.ownBlock] using ho
   have hmul:n*i.size+news.length≤cap*i.size:=by rw [hl,← Nat.add_mul]; exact Nat.mul_le_mul_right _ hroom
   have hst:=run_storeCells_fz P g (off+n*i.size) e fz news 0 cur w hg hnf (by omega) h1
   refine ⟨.slice (some ⟨g,off,none⟩) (n+m) cap,w.setRow g (cur.toList.take (off+n*i.size)++news++cur.toList.drop (off+n*i.size+news.length)).toArray,?_,?_,?_,.inl rfl,_,_,_,rfl,hnm⟩
   ·simp only [Nat.add_zero] at hst
    simp [Builtin.append_,run_underlying ht,run_underlying hu2,sizeOf,typeInfo,hi,hlen,hfst w rfl,hroom,add_mk,hst]
   ·refine .inr ⟨g,off,n+m,cap,_,fz,rfl,by simp only [Value.ownBlock,Option.bind_some]; exact setRow_heap w g cur _ e _ hg,?_,by rw [List.length_append,hnm],hroom,h4,?_,?_⟩
    ·intro j hj; refine hnf j ?_; simp at hj; omega
    ·simp; omega
    ·rw [← h6]
     have e1:off+n*i.size≤cur.toList.length:=by simp; omega
     simp only [List.append_assoc]
     rw [List.drop_append_of_le_length (by simp; omega),List.drop_take,hnm]
     have e2:off+n*i.size - off=n*i.size:=by omega
     rw [e2]
     have e3:(List.take (n*i.size) (List.drop off cur.toList)).length=xs.length:=by rw [h6]
     rw [← List.append_assoc,List.take_append_of_le_length (by rw [List.length_append,e3]; exact Nat.le_refl _)]
     exact List.take_of_length_le (by rw [List.length_append,e3]; exact Nat.le_refl _)
   ·exact keep_setRow w g _
 ·
  have hge:=grownCap_ge w (n+m) cap e
  have hcm:grownCap w (n+m) cap e≤maxLen:=grownCap_le_maxLen w (n+m) cap e hml
  have h63':¬ (9223372036854775807<((n:Int)+(m:Int))):=by simp only [maxLen] at hml; omega
  have h48':¬ (281474976710656<Builtin.nextslicecap (n+m) cap*i.bytes):=by have:=growslice_fits (old:=cap) (by omega:cap<n+m) hby; omega
  have holdf:(Builtin.firstCells i.size n (.slice a0 n cap)).run P w.drew = .ok xs.toArray w.drew:=by
   rcases hown with ⟨h,rfl⟩ | ⟨g,off,n',cap',cur,fz,h,ho,hnf,h2,h3,h4,h5,h6⟩
   ·cases h; simp [Builtin.firstCells]
   ·cases h
    have hg:w.heap[g]?=some (.cells cur e fz):=by simpa [Value.ownBlock] using ho
    refine run_firstCells_some w.drew i.size n ⟨g,off,none⟩ n cap xs hxs λ j u hu=>?_
    rw [add_mk]
    have:w.drew.cell? ⟨g,off+j,none⟩=cur[off+j]?:=by
     have e:w.drew.heap[g]?=some (.cells cur e fz):=hg
     simp [World.cell?,e]
    rw [this]
    rw [← h6,List.getElem?_take] at hu
    split at hu
    ·simpa using hu
    ·cases hu
  have hnewf:=hfst w.drew rfl
  refine ⟨.slice (some ⟨w.heap.size,0,none⟩) (n+m) (grownCap w (n+m) cap e),w.drew.alloc (.cells (xs.toArray++news.toArray++Builtin.zeroCells z.cells (grownCap w (n+m) cap e - (n+m))) e),?_,?_,?_,?_,_,_,_,rfl,hnm⟩
  ·simp [Builtin.append_,run_underlying ht,run_underlying hu2,sizeOf,typeInfo,zeroValue,hi,hz,hlen,hroom,h63',h48',Question.forced,holdf,hnewf,newRow,grownCap]
   congr 2
   apply Array.ext'
   simp
  ·refine .inr ⟨w.heap.size,0,n+m,_,xs.toArray++news.toArray++Builtin.zeroCells z.cells (grownCap w (n+m) cap e - (n+m)),(0,0),rfl,?_,noFz00 _,by rw [List.length_append,hnm],hge,hcm,?_,?_⟩
   ·simp only [Value.ownBlock,Option.bind_some]; exact heap_alloc_new w.drew _
   ·simp only [Array.size_append,List.size_toArray,size_zeroCells,hzs,Nat.zero_add]
    have:(grownCap w (n+m) cap e)*i.size=(n+m)*i.size+(grownCap w (n+m) cap e - (n+m))*i.size:=by rw [← Nat.add_mul]; congr 1; omega
    omega
   ·simp only [Array.toList_append,List.drop_zero,List.append_assoc]
    rw [← List.append_assoc,hnm]
    have:(xs++news).length=xs.length+news.length:=List.length_append
    rw [← this]
    exact List.take_left
  ·exact ⟨rfl,rfl,rfl,Nat.le_succ _,by simp,λ k hk _=>Below.heap_alloc w.drew _ k hk⟩
  ·exact .inr ⟨w.heap.size,rfl,Nat.le_refl _,by simp⟩
end append
end Go.Dx
namespace Go.Dx
open Go Go.RowKit
structure Src (P:Program) (w:World) (x:Value) (sz m:Nat) (news:List Value):Prop where
 len:∀ w',(Builtin.lenOf x).run P w' = .ok m w'
 fst:∀ w',w'.heap=w.heap→(Builtin.firstCells sz m x).run P w' = .ok news.toArray w'
 cells:news.length=m*sz
 one:∀ u∈news,u.oneCell'=true
section src
variable {md:Md} {P:Program} {w:World}
theorem Src.row {g off n c sz:Nat} {arr:Array Value} {T:TypeId} {fz:Nat×Nat} {news:List Value} (hg:w.heap[g]?=some (.cells arr T fz)) (hl:news.length=n*sz) (hn:(arr.toList.drop off).take (n*sz)=news) (h1:∀ u∈news,u.oneCell'=true) :
  Src P w (.slice (some ⟨g,off,none⟩) n c) sz n news:=by
 refine ⟨λ _=>rfl,λ w' hw=>run_firstCells_some w' sz n _ n c news hl λ j u hu=>?_,hl,h1⟩
 have hg':w'.heap[g]?=some (.cells arr T fz):=by rw [hw]; exact hg
 rw [add_mk]
 have:w'.cell? ⟨g,off+j,none⟩=arr[off+j]?:=by simp [World.cell?,hg']
 rw [this]
 rw [← hn,List.getElem?_take] at hu
 split at hu
 ·simpa using hu
 ·cases hu
theorem Src.nil {c sz:Nat} {a:Option Addr}:Src P w (.slice a 0 c) sz 0 []:=by
 refine ⟨λ _=>rfl,λ w' _=>?_,by simp,by simp⟩
 cases a <;> simp [Builtin.firstCells,loadCells,loadCellsFrom]
theorem Src.own {g n c sz:Nat} {cs:List Value} {T:TypeId} (hg:w.heap[g]?=some (.cells cs.toArray T (0,0))) (hl:cs.length=n*sz) (h1:allOne cs=true):Src P w (.slice (some ⟨g,0,none⟩) n c) sz n cs :=
 Src.row hg hl (by rw [← hl]; simp) (allOne_mem h1)
theorem v8_one (l:List UInt8):∀ u∈l.map v8,u.oneCell'=true:=by
 intro u hu
 obtain ⟨b,_,rfl⟩:=List.mem_map.1 hu
 rfl
theorem Src.str {l:List UInt8}:Src P w (vs l) 1 l.length (l.map v8):=by
 refine ⟨λ w'=>by simp [Builtin.lenOf,size_mk],λ w' _=>?_,by simp,v8_one l⟩
 simp only [Builtin.firstCells,mk_extract,List.drop_zero,Nat.sub_zero,List.take_length]
 simp
end src
def AppT (P:Program) (t t2 e:TypeId) (sz bytes:Nat):Prop :=
 P.underlying t=some (.slice e)∧(∃ u2,P.underlying t2=some u2∧∀ k,u2 ≠ .int k)∧∃ i z,P.info? e=some i∧i.zero=some z∧z.cells.size=i.size∧i.size=sz∧i.bytes=bytes∧0<sz
theorem AppT.of {P:Program} {t t2 e:TypeId} {sz bytes:Nat} (h1:P.underlying t=some (.slice e)) (h2:(P.underlying t2).map (λ u=>match u with | .int _=>false | _=>true)=some true)
  (h3:(P.info? e).map (λ i=>(i.zero.map (·.cells.size),i.size,i.bytes))=some (some (sz+1),sz+1,bytes)):AppT P t t2 e (sz+1) bytes:=by
 refine ⟨h1,?_,?_⟩
 ·cases hu:P.underlying t2 with
  | none=>simp [hu] at h2
  | some u=>exact ⟨u,rfl,λ k hk=>by subst hk; simp [hu] at h2⟩
 ·cases hi:P.info? e with
  | none=>simp [hi] at h3
  | some i =>
   cases hz:i.zero with
   | none=>simp [hi,hz] at h3
   | some z =>
    simp [hi,hz] at h3
    exact ⟨i,z,rfl,hz,by omega,h3.2.1,h3.2.2,by omega⟩
section mem
variable {md:Md} {P:Program} {opsA:Array Oper} {rest:List Oper} {Q:Exit→Act→World→Prop} {a:Act} {w w0:World} {h0:View} {M:List Nat} {O:List OE} {F:View→Prop} {n:Nat} {L:FL}
variable {op:Op} {d:Option Nat} {ty t t2 T e:TypeId} {pos:String} {af:Array Edge} {g:Option (Nat×Bool)} {x y:Operand}
theorem St.newNil (hS:St w0 h0 M w O F) (T:TypeId) (sz:Nat):St w0 h0 M w (bufE T sz (.slice none 0 0) []::O) F :=
 ⟨hS.keep,hS.vw,λ e he=>by
  rcases List.mem_cons.1 he with rfl | he
  ·exact .inl ⟨rfl,rfl⟩
  ·exact hS.own e he,λ b hb=>hS.fresh b (by simpa [ids,bufE,Value.ownBlock] using hb),by simpa [ids,bufE,Value.ownBlock] using hS.nd,hS.mono,by simpa [ids,bufE,Value.ownBlock] using hS.facts⟩
theorem s_append {dd i sz m bytes:Nat} {v yv:Value} {xs news:List Value} (hF:Fr a n L) (hS:St w0 h0 M w O F) (hi:O[i]?=some (bufE e sz v xs)) (hT:AppT P t t2 e sz bytes)
  (hx:ev L x=some v) (hy:ev L y=some yv) (hsrc:Src P w yv sz m news) (hb:(xs.length+news.length)*(bytes+1)≤140737488355328) (hd:Nat.blt dd n=true)
  (k:∀ a0 nn c w' a,nn*sz=xs.length+news.length→St w0 h0 M w' (O.set i (bufE e sz (.slice a0 nn c) (xs++news))) F→Fr a n ((dd,.val (.slice a0 nn c))::L)→wpM md P opsA Q rest a w') :
  wpM md P opsA Q (⟨some dd,.call ⟨.builtin .append,#[x,y],#[t,t2]⟩,ty,pos,af,none⟩::rest) a w:=by
 obtain ⟨ht,⟨u2,hu2,hu2'⟩,inf,z,hinf,hz,hzs,rfl,rfl,hsz⟩:=hT
 have hown:=hS.own _ (List.mem_of_getElem? hi)
 have hml:xs.length+news.length≤maxLen:=by
  have:xs.length+news.length≤(xs.length+news.length)*(inf.bytes+1):=Nat.le_mul_of_pos_right _ (by omega)
  simp only [maxLen]; omega
 have hby:(xs.length+news.length)*inf.bytes≤140737488355328:=Nat.le_trans (Nat.mul_le_mul_left _ (by omega)) hb
 obtain ⟨v',w',hr,hB,hk,hid,a0,nn,c,rfl,hnn⟩:=run_append_gen (P:=P) w t t2 ty e inf z u2 ht hu2 hu2' hinf hz hzs v yv xs _ rfl hown m news hsrc.cells (hsrc.len w) hsrc.fst hsrc.one hsz hml hby
 have hrun:Ds P L ⟨some dd,.call ⟨.builtin .append,#[x,y],#[t,t2]⟩,ty,pos,af,none⟩ w λ u w2=>u = .slice a0 nn c∧w2=w':=by
  intro ρ hρ
  unfold Does
  have:(execOp ρ ⟨some dd,.call ⟨.builtin .append,#[x,y],#[t,t2]⟩,ty,pos,af,none⟩).run P w = .ok (.value (.slice a0 nn c)) w':=by
   simp only [execOp,resolve,invoke,builtin,List.map_toArray,List.map_cons,List.map_nil,hρ x (by simp [Op.operands,Call.operands]) _ hx,hρ y (by simp [Op.operands,Call.operands]) _ hy,Sem.run_bind,Sem.run_pure,Result.andThen_ok,hr]
  rw [this]
  exact ⟨rfl,rfl⟩
 refine s_ds hF hrun hd ?_
 rintro u w2 a2 ⟨rfl,rfl⟩ hF'
 exact k _ _ _ _ _ hnn (hS.regrow hi hk hB (hid.imp id .inr)) hF'
theorem buf_cell {sz j:Nat} {g off nn c:Nat} {xs:List Value} (h:BufC T sz (.slice (some ⟨g,off,none⟩) nn c) xs w.heap[g]?) (hj:j<xs.length):w.cell? ⟨g,off+j,none⟩=xs[j]?:=by
 rcases h with ⟨h,_⟩ | ⟨g',off',n',cap',cur,fz,h,ho,_,h2,h3,h4,h5,h6⟩
 ·cases h
 ·cases h
  have:w.cell? ⟨g,off+j,none⟩=cur[off+j]?:=by simp [World.cell?,ho]
  rw [this,← h6,List.getElem?_take,if_pos (by omega)]
  simp
theorem run_tostr {l:List UInt8} {a0:Option Addr} {nn c:Nat} (hsrc:Src P w (.slice a0 nn c) 1 l.length (l.map v8)):(Conv.bytesToString (.slice a0 nn c)).run P w = .ok (vs l) w:=by
 have hn:nn=l.length:=by
  have:=hsrc.len w
  simpa [Builtin.lenOf] using this
 subst hn
 have h:=hsrc.fst w rfl
 cases a0 with
 | none =>
  simp [Builtin.firstCells] at h
  subst h
  simp [Conv.bytesToString]
  rfl
 | some ad =>
  simp only [Builtin.firstCells,Nat.mul_one] at h
  have e:(l.map v8).toArray=((l.map λ b=>(b.toNat:Int)).map (Value.int .u8)).toArray:=by simp
  rw [e] at h
  have:=run_bytesToString (P:=P) w ad l.length c (l.map λ b=>(b.toNat:Int)) h
  rw [this]
  congr 2
  have key:∀ (l:List UInt8) (acc:List UInt8),(l.map λ b=>(b.toNat:Int)).foldl (λ r n=>r.push (UInt8.ofNat n.toNat)) (ByteArray.mk acc.toArray)=⟨(acc++l).toArray⟩:=by
   intro l
   induction l with
   | nil=>intro acc; simp
   | cons b l ih =>
    intro acc
    have e1:(ByteArray.mk acc.toArray).push (UInt8.ofNat (b.toNat:Int).toNat)=⟨(acc++[b]).toArray⟩:=by
     apply ByteArray.ext
     simp [ByteArray.push]
    simp only [List.map_cons,List.foldl_cons,e1,ih (acc++[b])]
    simp
  exact key l []
theorem pu_tostr {l:List UInt8} {v:Value} {a0:Option Addr} {nn c:Nat} (ht:P.underlying t=some (.slice e)) (he:P.underlying e=some (.int .u8)) (ht2:P.underlying t2=some .string) (hx:ev L x=some v) (hv:v = .slice a0 nn c)
  (hsrc:Src P w v 1 l.length (l.map v8)):Pu P L ⟨d,.convert t t2 x,ty,pos,af,g⟩ w (vs l):=by
 intro ρ hρ
 subst hv
 have:=run_tostr hsrc
 simp only [execOp,hρ x (by simp [Op.operands]) _ hx,convert,Sem.run_bind,run_underlying ht,run_underlying ht2,run_underlying he,Result.andThen_ok,this,Sem.run_pure]
end mem
end Go.Dx
namespace Go.Dx
open Go Go.RowKit
section mem
variable {md:Md} {P:Program} {opsA:Array Oper} {rest:List Oper} {Q:Exit→Act→World→Prop} {a:Act} {w w0:World} {h0:View} {M:List Nat} {O:List OE} {F:View→Prop} {n:Nat} {L:FL}
variable {op:Op} {d:Option Nat} {ty t t2 T e:TypeId} {pos:String} {af:Array Edge} {g:Option (Nat×Bool)} {x y:Operand}
theorem pu_sl_to {k:IntKind} {i:Int} {ad:Option Addr} {nn c sz:Nat} (ht:SlT P t e sz) (hx:ev L x=some (.slice ad nn c)) (hy:ev L y=some (.int k i)) (hi0:0≤i) (hi1:i≤c) :
  Pu P L ⟨d,.slice t x none (some y) none,ty,pos,af,g⟩ w (.slice ad i.toNat c):=by
 intro ρ hρ
 obtain ⟨ht,inf,hi,hsz⟩:=ht
 simp only [execOp,hρ x (by simp [Op.operands]) _ hx,Option.map_some,Option.map_none,hρ y (by simp [Op.operands]) _ hy]
 unfold Instr.sliceAt Instr.slice Instr.sliceBounds
 have key:∀ (z:Option Addr),(if c=0 then z else z.map (·.add (0*inf.size)))=z:=by
  intro z; split
  ·rfl
  ·cases z <;> simp [Addr.add]
 simp [run_underlying ht,run_bound hi0 hi1,sizeOf,typeInfo,hi]
 cases ad with
 | none=>simp
 | some q=>simp [Addr.add]
theorem pu_sl_from {k:IntKind} {i:Int} {ad:Option Addr} {nn c sz:Nat} (ht:SlT P t e sz) (hx:ev L x=some (.slice ad nn c)) (hy:ev L y=some (.int k i)) (hi0:0≤i) (hi1:i≤nn) (hnc:nn≤c) :
  Pu P L ⟨d,.slice t x (some y) none none,ty,pos,af,g⟩ w (.slice (if c=i.toNat then ad else ad.map (·.add (i.toNat*sz))) (nn - i.toNat) (c - i.toNat)):=by
 intro ρ hρ
 obtain ⟨ht,inf,hi,hsz⟩:=ht
 subst hsz
 simp only [execOp,hρ x (by simp [Op.operands]) _ hx,Option.map_some,Option.map_none,hρ y (by simp [Op.operands]) _ hy]
 unfold Instr.sliceAt Instr.slice Instr.sliceBounds
 simp [run_underlying ht,run_bound hi0 hi1,sizeOf,typeInfo,hi]
theorem pu_sl_fromto {k k':IntKind} {i j:Int} {z:Operand} {ad:Option Addr} {nn c sz:Nat} (ht:SlT P t e sz) (hx:ev L x=some (.slice ad nn c)) (hy:ev L y=some (.int k i)) (hz:ev L z=some (.int k' j)) (hi0:0≤i) (hij:i≤j) (hj:j≤c) :
  Pu P L ⟨d,.slice t x (some y) (some z) none,ty,pos,af,g⟩ w (.slice (if c=i.toNat then ad else ad.map (·.add (i.toNat*sz))) (j.toNat - i.toNat) (c - i.toNat)):=by
 intro ρ hρ
 obtain ⟨ht,inf,hi,hsz⟩:=ht
 subst hsz
 simp only [execOp,hρ x (by simp [Op.operands]) _ hx,Option.map_some,Option.map_none,hρ y (by simp [Op.operands]) _ hy,hρ z (by simp [Op.operands]) _ hz]
 unfold Instr.sliceAt Instr.slice Instr.sliceBounds
 simp [run_underlying ht,run_bound (show 0≤j by omega) hj,run_bound hi0 (show i≤((j.toNat:Nat):Int) by omega),sizeOf,typeInfo,hi]
end mem
end Go.Dx
namespace Go.Dx
open Go Go.RowKit
def enumO:Nat→List Operand→List (Nat×Operand)
 | _,[]=>[]
 | k,x::r=>(k,x)::enumO (k+1) r
def enumV:Nat→List Value→List (Nat×Value)
 | _,[]=>[]
 | k,x::r=>(k,x)::enumV (k+1) r
def cellsL:List Value→List Value
 | []=>[]
 | v::r=>v.cells.toList++cellsL r
theorem foldl_set (cs:List Value):∀ (off:Nat) (j:Nat) (acc:Array Value),off+j+cs.length≤acc.size →
  ((cs.zipIdx j).foldl (λ a (c,i)=>a.setIfInBounds (off+i) c) acc).toList=acc.toList.take (off+j)++cs++acc.toList.drop (off+j+cs.length):=by
 induction cs with
 | nil=>intro off j acc h; simp
 | cons c cs ih =>
  intro off j acc h
  simp only [List.zipIdx_cons,List.foldl_cons]
  rw [ih off (j+1) _ (by simp at h ⊢; omega)]
  have e:=list_seg_step acc.toList (off+j) c cs (by simp at h ⊢; omega)
  simpa [Array.toList_setIfInBounds,Nat.add_assoc] using e
theorem fill_seq {sz:Nat}:∀ (l:List Value) (k:Nat) (cs:Array Value),(∀ v∈l,v.cells.size=sz)→(k+l.length)*sz≤cs.size →
  ∃ cs',Instr.fill (λ i=>some (i*sz,sz)) cs (enumV k l)=some cs'∧cs'.toList=cs.toList.take (k*sz)++cellsL l++cs.toList.drop ((k+l.length)*sz)
 | [],k,cs,_,_=>⟨cs,rfl,by simp [cellsL]⟩
 | v::r,k,cs,h,hle=>by
  have hv:v.cells.size=sz:=h v (by simp)
  have hk:k*sz+sz≤cs.size:=by
   have:(k+1)*sz≤(k+(v::r).length)*sz:=Nat.mul_le_mul_right _ (by simp)
   rw [Nat.add_mul] at this; omega
  have hfold:(v.cells.zipIdx.foldl (λ cs (c,j)=>cs.setIfInBounds (k*sz+j) c) cs).toList=cs.toList.take (k*sz)++v.cells.toList++cs.toList.drop (k*sz+sz):=by
   have:=foldl_set v.cells.toList (k*sz) 0 cs (by simp; omega)
   simp only [Nat.add_zero] at this
   rw [show v.cells.toList.length=sz by simp [hv]] at this
   rw [← this,← Array.foldl_toList]
   simp
  obtain ⟨cs',h1,h2⟩:=fill_seq r (k+1) (v.cells.zipIdx.foldl (λ cs (c,j)=>cs.setIfInBounds (k*sz+j) c) cs) (λ v hv=>h v (by simp [hv])) (by
   have hs:(v.cells.zipIdx.foldl (λ cs (c,j)=>cs.setIfInBounds (k*sz+j) c) cs).size=cs.size:=by
    rw [← Array.length_toList,hfold]; simp; omega
   rw [hs]; simpa [Nat.add_assoc,Nat.add_comm 1] using hle)
  refine ⟨cs',?_,?_⟩
  ·have hng:¬ (v.cells.size≠sz∨k*sz+v.cells.size > cs.size):=by omega
   simp only [enumV,Instr.fill]
   rw [if_neg (by simpa using hng)]
   exact h1
  ·rw [h2,hfold]
   have e1:(k+1)*sz=k*sz+sz:=by rw [Nat.add_mul]; omega
   have e2:(k+(v::r).length)*sz=(k+1+r.length)*sz:=by simp only [List.length_cons]; congr 1; omega
   rw [e2,e1]
   have hge:k*sz+sz≤(k+1+r.length)*sz:=by rw [← e1]; exact Nat.mul_le_mul_right _ (by omega)
   have hl:(List.take (k*sz) cs.toList++v.cells.toList).length=k*sz+sz:=by simp [hv]; omega
   rw [List.take_append_of_le_length (by rw [hl]; exact Nat.le_refl _),List.take_of_length_le (by rw [hl]; exact Nat.le_refl _)]
   rw [List.drop_append,hl,List.drop_of_length_le (by rw [hl]; exact hge)]
   simp only [List.nil_append,List.drop_drop,cellsL,List.append_assoc]
   congr 4
   omega
theorem enum_map {L:FL} {ρ:Operand→Value}:∀ (xs:List Operand) (k:Nat) (vsl:List Value),xs.map ρ=vsl→(enumO k xs).map (λ p=>(p.1,ρ p.2))=enumV k vsl
 | [],k,vsl,h=>by subst h; rfl
 | x::r,k,vsl,h=>by
  subst h
  simp only [enumO,List.map_cons,enumV]
  rw [enum_map (L:=L) r (k+1) _ rfl]
theorem enum_snd:∀ (xs:List Operand) (k:Nat),(enumO k xs).map (·.2)=xs
 | [],k=>rfl
 | x::r,k=>by simp [enumO,enum_snd r (k+1)]
def BldT (P:Program) (t e:TypeId) (sz:Nat):Prop:=P.underlying t=some (.slice e)∧∃ i z,P.info? e=some i∧i.zero=some z∧z.cells.size=i.size∧i.size=sz
theorem BldT.of {P:Program} {t e:TypeId} {sz:Nat} (h1:P.underlying t=some (.slice e)) (h3:(P.info? e).map (λ i=>(i.zero.map (·.cells.size),i.size))=some (some sz,sz)):BldT P t e sz:=by
 refine ⟨h1,?_⟩
 cases hi:P.info? e with
 | none=>simp [hi] at h3
 | some i =>
  cases hz:i.zero with
  | none=>simp [hi,hz] at h3
  | some z=>simp [hi,hz] at h3; exact ⟨i,z,rfl,hz,by omega,h3.2⟩
def NewRow (w:World) (T:TypeId) (cs:List Value) (b:Nat) (w':World):Prop:=w.heap.size≤b∧w'.heap[b]?=some (.cells cs.toArray T (0,0))
theorem NewRow.keep {w w1 w2:World} {T:TypeId} {cs:List Value} {b:Nat} (h:NewRow w T cs b w1) (hk:Keep [] w1 w2):NewRow w T cs b w2:=by
 refine ⟨h.1,?_⟩
 rw [hk.block b (Array.getElem?_eq_some_iff.1 h.2).1 (by simp)]
 exact h.2
section mem
variable {md:Md} {P:Program} {opsA:Array Oper} {rest:List Oper} {Q:Exit→Act→World→Prop} {a:Act} {w w0:World} {h0:View} {M:List Nat} {O:List OE} {F:View→Prop} {n:Nat} {L:FL}
variable {op:Op} {d:Option Nat} {ty t t2 T e:TypeId} {pos:String} {af:Array Edge} {g:Option (Nat×Bool)} {x y:Operand}
theorem ds_build {sz len:Nat} {xs:List Operand} {vsl:List Value} (hT:BldT P t e sz) (hl:xs.length=len) (hv:evs L xs=some vsl) (hcs:∀ v∈vsl,v.cells.size=sz) (hle:len*sz≤16777216) :
  Ds P L ⟨d,.buildSlice t len (enumO 0 xs).toArray,ty,pos,af,g⟩ w λ v w'=>v = .slice (some ⟨w.heap.size,0,none⟩) len len∧w'=w.alloc (.cells (cellsL vsl).toArray e):=by
 intro ρ hρ
 obtain ⟨ht,i,z,hi,hz,hzs,rfl⟩:=hT
 have hm:=evs_map xs vsl hv λ x hx u hu=>hρ x (by simp [Op.operands,enum_snd,hx]) u hu
 have hlen:vsl.length=len:=by rw [← hm]; simpa using hl
 have hparts:((enumO 0 xs).toArray.map λ p=>(p.1,ρ p.2)).toList=enumV 0 vsl:=by
  simp only [List.map_toArray,enum_map (L:=L) xs 0 vsl hm]
 unfold Does
 have hrun:(Instr.buildSlice t len ((enumO 0 xs).toArray.map λ p=>(p.1,ρ p.2))).run P w = .ok (.slice (some ⟨w.heap.size,0,none⟩) len len) (w.alloc (.cells (cellsL vsl).toArray e)):=by
  have hle':¬ (16777216<len*i.size):=by omega
  have key:∀ (zero:Array Value),∃ cs',Instr.fill (λ j=>some (j*i.size,i.size)) ((Array.range (len*i.size)).map λ j=>zero[j % zero.size]!) (enumV 0 vsl)=some cs'∧cs'.toList=cellsL vsl:=by
   intro zero
   obtain ⟨cs',h1,h2⟩:=fill_seq vsl 0 ((Array.range (len*i.size)).map λ j=>zero[j % zero.size]!) hcs (by simp [hlen])
   refine ⟨cs',h1,?_⟩
   rw [h2]
   simp [hlen]
  unfold Instr.buildSlice
  by_cases hn0:len*i.size=0
  ·obtain ⟨cs',h1,h2⟩:=key #[]
   have h2':cs'=(cellsL vsl).toArray:=by rw [← h2]
   have e0:∀ f:Nat→Value,(Array.range 0).map f=#[]:=λ f=>by apply Array.eq_empty_of_size_eq_zero; simp
   rw [hn0,e0] at h1
   simp only [Sem.run_bind,run_underlying ht,Result.andThen_ok,sizeOf,typeInfo,run_program,hi,Sem.run_pure,hparts,hn0,if_true,newRow,h2']
   rw [if_neg (by decide)]
   rw [Sem.run_bind,Sem.run_pure,Result.andThen_ok]
   simp only [e0,h1]
   simp [h2']
  ·obtain ⟨cs',h1,h2⟩:=key z.cells
   have h2':cs'=(cellsL vsl).toArray:=by rw [← h2]
   simp only [Sem.run_bind,run_underlying ht,Result.andThen_ok,sizeOf,typeInfo,run_program,hi,Sem.run_pure,hle',if_false,hn0,hparts]
   simp [h1,h2',newRow,zeroValue,typeInfo,hi,hz]
 have:(execOp ρ ⟨d,.buildSlice t len (enumO 0 xs).toArray,ty,pos,af,g⟩).run P w = .ok (.value (.slice (some ⟨w.heap.size,0,none⟩) len len)) (w.alloc (.cells (cellsL vsl).toArray e)):=by
  simp only [execOp,Sem.run_bind,hrun,Result.andThen_ok,Sem.run_pure]
 rw [this]
 exact ⟨rfl,rfl⟩
end mem
end Go.Dx
namespace Go.Dx
open Go Go.RowKit
def SlC {α:Type} (T:TypeId) (sz:Nat) (R:View→List Value→α→Prop) (h:View) (v:Value) (l:List α):Prop :=
 ∃ (a:Option Addr) (cap:Nat),v = .slice a l.length cap∧l.length≤cap∧cap≤maxLen ∧
  (l≠[]→∃ g off arr fz,a=some ⟨g,off,none⟩∧(∃ T':TypeId,h g=some (.cells arr T' fz))∧∀ i x,l[i]?=some x→∃ cs,cs.length=sz∧R h cs x∧(arr.toList.drop (off+i*sz)).take sz=cs)
def flatR {α:Type} (f:α→List Value):View→List Value→α→Prop:=λ _ cs x=>cs=f x
section sl
variable {α:Type} {T:TypeId} {sz:Nat} {R:View→List Value→α→Prop} {h h':View} {v:Value} {l:List α}
theorem SlC.mono (hR:∀ cs x,Mono λ h=>R h cs x) (hs:SlC T sz R h v l) (hle:VLe h h'):SlC T sz R h' v l:=by
 obtain ⟨a,cap,hv,h1,h2,h3⟩:=hs
 refine ⟨a,cap,hv,h1,h2,λ hne=>?_⟩
 obtain ⟨g,off,arr,fz,ha,hg,hx⟩:=h3 hne
 exact ⟨g,off,arr,fz,ha,(let ⟨T',hg⟩:=hg; ⟨T',hle _ _ hg⟩),λ i x hi=>let ⟨cs,c1,c2,c3⟩:=hx i x hi; ⟨cs,c1,hR cs x _ _ hle c2,c3⟩⟩
theorem SlC.monoF {f:α→List Value} (hs:SlC T sz (flatR f) h v l) (hle:VLe h h'):SlC T sz (flatR f) h' v l:=hs.mono (λ _ _ _ _ _ h=>h) hle
theorem Mono.sl (hR:∀ cs x,Mono λ h=>R h cs x):Mono λ h=>SlC T sz R h v l:=λ _ _ hle hs=>hs.mono hR hle
theorem Mono.slF {f:α→List Value}:Mono λ h=>SlC T sz (flatR f) h v l:=λ _ _ hle hs=>hs.monoF hle
theorem SlC.parts (hs:SlC T sz R h v l):∃ a cap,v = .slice a l.length cap∧l.length≤cap∧cap≤maxLen:=let ⟨a,cap,hv,h1,h2,_⟩:=hs; ⟨a,cap,hv,h1,h2⟩
theorem SlC.at {f:α→List Value} {a:Option Addr} {n cap:Nat} (hs:SlC T sz (flatR f) h (.slice a n cap) l) {i:Nat} {x:α} (hi:l[i]?=some x) :
  ∃ g off,a=some ⟨g,off,none⟩∧∀ w,VLe h (Full w)→∀ j c,(f x)[j]?=some c→w.cell? ⟨g,off+i*sz+j,none⟩=some c:=by
 obtain ⟨a',cap',hv,h1,h2,h3⟩:=hs
 cases hv
 obtain ⟨g,off,arr,fz,ha,hg,hx⟩:=h3 (by intro e; subst e; simp at hi)
 refine ⟨g,off,ha,λ w hw j c hj=>?_⟩
 obtain ⟨cs,c1,c2,c3⟩:=hx i x hi
 have hcs:cs=f x:=c2
 subst hcs
 obtain ⟨T',hg⟩:=hg
 have hgw:w.heap[g]?=some (.cells arr T' fz):=hw _ _ hg
 have:w.cell? ⟨g,off+i*sz+j,none⟩=arr[off+i*sz+j]?:=by simp [World.cell?,hgw]
 rw [this]
 rw [← c3,List.getElem?_take] at hj
 split at hj
 ·simpa using hj
 ·cases hj
theorem SlC.take {a:Option Addr} {n cap k:Nat} (hs:SlC T sz R h (.slice a n cap) l) (hk:k≤l.length):SlC T sz R h (.slice a k cap) (l.take k):=by
 obtain ⟨a',cap',hv,h1,h2,h3⟩:=hs
 cases hv
 have hlen:(l.take k).length=k:=by simp; omega
 refine ⟨a,cap,by rw [hlen],by omega,h2,λ hne=>?_⟩
 obtain ⟨g,off,arr,fz,ha,hg,hx⟩:=h3 (by intro e; subst e; simp at hne)
 refine ⟨g,off,arr,fz,ha,hg,λ i x hi=>hx i x ?_⟩
 rw [List.getElem?_take] at hi
 split at hi
 ·exact hi
 ·cases hi
theorem SlC.drop {a:Option Addr} {n cap k:Nat} (hs:SlC T sz R h (.slice a n cap) l) (hk:k≤l.length) :
  SlC T sz R h (.slice (if cap=k then a else a.map (·.add (k*sz))) (n - k) (cap - k)) (l.drop k):=by
 obtain ⟨a',cap',hv,h1,h2,h3⟩:=hs
 cases hv
 refine ⟨if cap=k then a else a.map (·.add (k*sz)),cap - k,by rw [List.length_drop],by rw [List.length_drop]; omega,by omega,λ hne=>?_⟩
 obtain ⟨g,off,arr,fz,ha,hg,hx⟩:=h3 (by intro e; subst e; simp at hne)
 have hkl:k<l.length:=by
  rcases Nat.lt_or_ge k l.length with h | h
  ·exact h
  ·exact absurd (List.drop_of_length_le h) hne
 refine ⟨g,off+k*sz,arr,fz,?_,hg,λ i x hi=>?_⟩
 ·rw [if_neg (by omega),ha]; simp [add_mk]
 ·rw [List.getElem?_drop] at hi
  obtain ⟨cs,c1,c2,c3⟩:=hx _ x hi
  refine ⟨cs,c1,c2,?_⟩
  rw [← c3]
  congr 2
  rw [Nat.add_mul]; omega
theorem SlC.nil {cap:Nat} {a:Option Addr} (hc:cap≤maxLen):SlC T sz R h (.slice a 0 cap) []:=⟨a,cap,rfl,Nat.zero_le _,hc,λ h=>absurd rfl h⟩
theorem SlC.ofRow {f:α→List Value} (hf:∀ x∈l,(f x).length=sz) {g off n cap:Nat} {arr:Array Value} {fz:Nat×Nat} (hg:h g=some (.cells arr T fz)) (hn:n=l.length) (hc:n≤cap) (hm:cap≤maxLen)
  (ha:(arr.toList.drop off).take (n*sz)=(l.map f).flatten):SlC T sz (flatR f) h (.slice (some ⟨g,off,none⟩) n cap) l:=by
 subst hn
 refine ⟨_,cap,rfl,hc,hm,λ _=>⟨g,off,arr,fz,rfl,⟨T,hg⟩,λ i x hi=>⟨f x,hf x (List.mem_of_getElem? hi),rfl,?_⟩⟩⟩
 have key:∀ (l:List α) (xs:List Value) (i:Nat) (x:α),(∀ x∈l,(f x).length=sz)→xs.take (l.length*sz)=(l.map f).flatten→l[i]?=some x→(xs.drop (i*sz)).take sz=f x:=by
  intro l
  induction l with
  | nil=>intro xs i x _ _ hi; simp at hi
  | cons y l ih =>
   intro xs i x hf hx hi
   have hy:(f y).length=sz:=hf y (by simp)
   have e1:xs.take sz=f y:=by
    have:=congrArg (List.take sz) hx
    rw [List.take_take,Nat.min_eq_left (by simp only [List.length_cons,Nat.add_mul]; omega)] at this
    rw [this]
    simp [hy]
   match i with
   | 0=>simp at hi; subst hi; simpa using e1
   | i+1 =>
    have:=ih (xs.drop sz) i x (λ z hz=>hf z (by simp [hz])) (by
     have h2:=congrArg (List.drop sz) hx
     rw [List.drop_take] at h2
     rw [show (y::l).length*sz - sz=l.length*sz by simp only [List.length_cons,Nat.add_mul]; omega] at h2
     rw [h2]
     simp [hy]) (by simpa using hi)
    rw [List.drop_drop] at this
    rw [← this]
    congr 2
    rw [Nat.add_mul]; omega
 have:=key l (arr.toList.drop off) i x hf ha hi
 rwa [List.drop_drop] at this
end sl
section mem
variable {md:Md} {P:Program} {opsA:Array Oper} {rest:List Oper} {Q:Exit→Act→World→Prop} {a:Act} {w w0:World} {h0:View} {M:List Nat} {O:List OE} {F:View→Prop} {n:Nat} {L:FL}
variable {op:Op} {d:Option Nat} {ty t t2 T e:TypeId} {pos:String} {af:Array Edge} {g:Option (Nat×Bool)} {x y:Operand}
theorem pu_iaddr_sla {k:IntKind} {ad:Option Addr} {b o sz:Nat} {n c:Nat} {i:Int} {j:Nat} (ha:ad=some ⟨b,o,none⟩) (ht:SlT P t e sz)
  (hx:ev L x=some (.slice ad n c)) (hy:ev L y=some (.int k i)) (hj:i=(j:Int)) (h1:j<n):Pu P L ⟨d,.indexAddr t x y,ty,pos,af,g⟩ w (.pointer (some ⟨b,o+j*sz,none⟩)):=by
 subst ha hj
 have:=pu_iaddr_sl (P:=P) (L:=L) (w:=w) (d:=d) (ty:=ty) (pos:=pos) (af:=af) (g:=g) ht hx hy (by omega) (by omega)
 simpa using this
end mem
def MkT (P:Program) (e:TypeId) (sz bytes:Nat):Prop:=∃ i z,P.info? e=some i∧i.zero=some z∧z.cells.size=i.size∧i.size=sz∧i.bytes=bytes
theorem MkT.of {P:Program} {e:TypeId} {sz bytes:Nat} (h3:(P.info? e).map (λ i=>(i.zero.map (·.cells.size),i.size,i.bytes))=some (some sz,sz,bytes)):MkT P e sz bytes:=by
 cases hi:P.info? e with
 | none=>simp [hi] at h3
 | some i =>
  cases hz:i.zero with
  | none=>simp [hi,hz] at h3
  | some z=>simp [hi,hz] at h3; exact ⟨i,z,hi,hz,by omega,h3.2.1,h3.2.2⟩
end Go.Dx
namespace Go.Dx
open Go Go.RowKit
def RetM (M:List Nat) (w:World) (Ψ:Value→World→Prop):Ending→World→Prop:=λ e w'=>∃ v,e = .returned v∧Keep M w w'∧Ψ v w'
section mem
variable {md:Md} {P:Program} {opsA:Array Oper} {rest:List Oper} {Q:Exit→Act→World→Prop} {a:Act} {w w0:World} {h0:View} {M:List Nat} {O:List OE} {F:View→Prop} {n:Nat} {L:FL}
variable {op:Op} {d:Option Nat} {ty t t2 T e:TypeId} {pos:String} {af:Array Edge} {g:Option (Nat×Bool)} {x y:Operand}
theorem St.retM {Ψ:Value→World→Prop} {v:Value} (hS:St w0 h0 M w O F) (h:Ψ v w):RetM M w0 Ψ (.returned v) w:=⟨v,rfl,hS.keep,h⟩
theorem St.initL (w:World) (h:View) (hv:VLe h (Full w)) (O0:List OE) (hO:∀ e∈O0,e.2 (e.1.bind λ b=>w.heap[b]?)) (hlt:∀ b∈ids O0,b<w.heap.size∧h b=none) (hnd:(ids O0).Nodup) :
  St w h (ids O0) w O0 λ _=>True :=
 ⟨Keep.refl _ _,λ k o hk=>⟨hv k o hk,λ hm=>by rw [(hlt k hm).2] at hk; cases hk⟩,hO,λ b hb=>⟨.inr hb,(hlt b hb).1⟩,hnd,Mono.tru,trivial⟩
theorem St.init1 (w : World) (h : View) (hv : VLe h (Full w)) (b : Nat) (C : Option Obj → Prop) {o : Obj} (hb : w.heap[b]? = some o) (hC : C (some o)) (hn : h b = none) : St w h [b] w [(some b, C)] fun _ => True :=
  St.initL w h hv [(some b, C)] (fun e he => by have : e = (some b, C) := by simpa using he
                                                subst this; simpa [hb] using hC)
    (fun c hc => by have : c = b := by simpa [ids] using hc
                    subst this; exact ⟨(Array.getElem?_eq_some_iff.1 hb).1, hn⟩) (by simp [ids])
def fillL (places:List (Nat×Nat)):List Value→List (Nat×Value)→Option (List Value)
 | cs,[]=>some cs
 | cs,(i,v)::r=>match places[i]? with
  | none=>none
  | some (off,size)=>if v.cells.size≠size∨off+v.cells.size > cs.length then none else fillL places (spl cs off v.cells.toList) r
theorem fill_eq (places:List (Nat×Nat)) (place:Nat→Option (Nat×Nat)) (hp:∀ i,places[i]?≠none→place i=places[i]?):∀ (parts:List (Nat×Value)) (cs cs':List Value),fillL places cs parts=some cs'→Instr.fill place cs.toArray parts=some cs'.toArray
 | [],cs,cs',h=>by simp [fillL] at h; subst h; rfl
 | (i,v)::r,cs,cs',h=>by
  unfold fillL at h
  cases hpl:places[i]? with
  | none=>simp [hpl] at h
  | some p =>
   obtain ⟨off,size⟩:=p
   simp only [hpl] at h
   split at h
   ·cases h
   ·rename_i hng
    have hpi:place i=some (off,size):=by rw [hp i (by rw [hpl]; simp),hpl]
    unfold Instr.fill
    simp only [hpi]
    rw [if_neg (by simpa using hng)]
    have hsz:off+v.cells.size≤cs.length:=by omega
    have e:(v.cells.zipIdx.foldl (λ cs (c,j)=>cs.setIfInBounds (off+j) c) cs.toArray)=(spl cs off v.cells.toList).toArray:=by
     apply Array.ext'
     have:=foldl_set v.cells.toList off 0 cs.toArray (by simpa using hsz)
     simp only [Nat.add_zero] at this
     rw [show (spl cs off v.cells.toList).toArray.toList=spl cs off v.cells.toList from rfl]
     unfold spl
     rw [← List.append_assoc,← this,← Array.foldl_toList]
     simp
    rw [e]
    exact fill_eq places place hp r _ _ h
def ArrB (P:Program) (t:TypeId) (places:List (Nat×Nat)) (zero:List Value):Prop :=
 ∃ inf z n e ie,P.info? t=some inf∧inf.zero=some z∧z.cells=zero.toArray∧P.underlying t=some (.array n e)∧P.info? e=some ie∧∀ i,places[i]?≠none→places[i]?=some (i*ie.size,ie.size)
def StrB (P:Program) (t:TypeId) (places:List (Nat×Nat)) (zero:List Value):Prop :=
 ∃ inf z fs,P.info? t=some inf∧inf.zero=some z∧z.cells=zero.toArray∧P.underlying t=some (.struct fs)∧fs.toList.map (λ f=>(P.info? f.type).map λ i=>(f.offset,i.size))=places.map some
theorem ArrB.of {places : List (Nat × Nat)} {zero : List Value} {m e sz : Nat} (h1 : (P.info? t).bind (fun i => i.zero.map (·.cells)) = some zero.toArray) (h2 : P.underlying t = some (.array m e)) (h3 : (P.info? e).map (·.size) = some sz)
    (h4 : ∀ i, i < places.length → places[i]? = some (i * sz, sz)) : ArrB P t places zero := by
  cases hi : P.info? t with
  | none => simp [hi] at h1
  | some inf =>
    cases hz : inf.zero with
    | none => simp [hi, hz] at h1
    | some z =>
      cases he : P.info? e with
      | none => simp [he] at h3
      | some ie =>
        have hs : ie.size = sz := by simpa [he] using h3
        refine ⟨inf, z, m, e, ie, hi, hz, by simpa [hi, hz] using h1, h2, he, fun i hi => ?_⟩
        rw [hs]
        exact h4 i (by rcases Nat.lt_or_ge i places.length with h | h
                       · exact h
                       · exact absurd (List.getElem?_eq_none h) hi)
def strPl (P:Program) (t:TypeId):Option (List (Option (Nat×Nat))):=match P.underlying t with
 | some (.struct fs)=>some (fs.toList.map λ f=>(P.info? f.type).map λ i=>(f.offset,i.size))
 | _=>none
theorem StrB.of {places:List (Nat×Nat)} {zero:List Value} (h1:(P.info? t).bind (λ i=>i.zero.map (·.cells))=some zero.toArray) (h2:strPl P t=some (places.map some)):StrB P t places zero:=by
 cases hi:P.info? t with
 | none=>simp [hi] at h1
 | some inf =>
  cases hz:inf.zero with
  | none=>simp [hi,hz] at h1
  | some z =>
   unfold strPl at h2
   split at h2
   ·rename_i fs hu
    exact ⟨inf,z,fs,hi,hz,by simpa [hi,hz] using h1,hu,by simpa using h2⟩
   ·cases h2
theorem pu_build_ar {places:List (Nat×Nat)} {zero cs:List Value} {parts:List (Nat×Operand)} {vsl:List Value} (hB:ArrB P t places zero) (hv:evs L (parts.map (·.2))=some vsl) (hf:fillL places zero ((parts.map (·.1)).zip vsl)=some cs) :
  Pu P L ⟨d,.build t parts.toArray,ty,pos,af,g⟩ w (.agg cs.toArray):=by
 intro ρ hρ
 obtain ⟨inf,z,nn,e,ie,hi,hz,hzc,hu,hie,hp⟩:=hB
 have hm:=evs_map _ vsl hv λ x hx u hu=>hρ x (by simpa [Op.operands] using hx) u hu
 have hparts:(parts.toArray.map λ p=>(p.1,ρ p.2)).toList=(parts.map (·.1)).zip vsl:=by
  rw [← hm]
  simp only [List.map_toArray,List.map_map]
  clear hm hv hf hρ
  induction parts with
  | nil=>rfl
  | cons p r ih=>simp only [List.map_cons,List.zip_cons_cons,Function.comp]; rw [ih]
 have hfill:=fill_eq places (λ i=>some (i*ie.size,ie.size)) (λ i hi=>(hp i hi).symm) _ _ _ hf
 simp only [execOp]
 unfold Instr.build
 simp only [Sem.run_bind,zeroValue,typeInfo,run_program,hi,hz,Result.andThen_ok,Sem.run_pure,run_underlying hu,sizeOf,hie,hparts,hzc,hfill]
theorem run_mapM_places {fs:List Field} {places:List (Nat×Nat)} (h:fs.map (λ f=>(P.info? f.type).map λ i=>(f.offset,i.size))=places.map some) :
  (fs.mapM (m:=Sem) λ f=>do pure (f.offset,← sizeOf f.type)).run P w = .ok places w:=by
 induction fs generalizing places with
 | nil=>cases places with
  | nil=>simp
  | cons p r=>simp at h
 | cons f fs ih=>cases places with
  | nil=>simp at h
  | cons p r =>
   simp only [List.map_cons,List.cons.injEq] at h
   cases hi:P.info? f.type with
   | none=>simp [hi] at h
   | some i =>
    have hp:(f.offset,i.size)=p:=by simpa [hi] using h.1
    simp only [List.mapM_cons,Sem.run_bind,sizeOf,typeInfo,run_program,hi,Result.andThen_ok,Sem.run_pure]
    have:=ih h.2
    simp only [sizeOf,typeInfo] at this
    rw [this]
    simp [hp]
theorem pu_build_st {places:List (Nat×Nat)} {zero cs:List Value} {parts:List (Nat×Operand)} {vsl:List Value} (hB:StrB P t places zero) (hv:evs L (parts.map (·.2))=some vsl) (hf:fillL places zero ((parts.map (·.1)).zip vsl)=some cs) :
  Pu P L ⟨d,.build t parts.toArray,ty,pos,af,g⟩ w (.agg cs.toArray):=by
 intro ρ hρ
 obtain ⟨inf,z,fs,hi,hz,hzc,hu,hp⟩:=hB
 have hm:=evs_map _ vsl hv λ x hx u hu=>hρ x (by simpa [Op.operands] using hx) u hu
 have hparts:(parts.toArray.map λ p=>(p.1,ρ p.2)).toList=(parts.map (·.1)).zip vsl:=by
  rw [← hm]
  simp only [List.map_toArray,List.map_map]
  clear hm hv hf hρ
  induction parts with
  | nil=>rfl
  | cons p r ih=>simp only [List.map_cons,List.zip_cons_cons,Function.comp]; rw [ih]
 have hmm:(fs.mapM (m:=Sem) λ f=>do pure (f.offset,← sizeOf f.type)).run P w = .ok places.toArray w:=by
  have h1:=run_mapM_places (w:=w) hp
  obtain ⟨fl⟩:=fs
  simp only [List.mapM_toArray]
  show ((fl.mapM (m:=Sem) _) >>= λ x=>pure (List.toArray x)).run P w=_
  rw [Sem.run_bind]
  refine (congrArg (λ r=>Result.andThen r _) h1).trans ?_
  simp
 have hfill:=fill_eq places (λ i=>places.toArray[i]?) (λ i _=>by simp) _ _ _ hf
 simp only [execOp]
 unfold Instr.build
 simp only [Sem.run_bind,zeroValue,typeInfo,run_program,hi,hz,Result.andThen_ok,Sem.run_pure,run_underlying hu]
 refine (congrArg (λ r=>Result.andThen (Result.andThen r _) _) hmm).trans ?_
 simp only [Result.andThen_ok,hparts,hzc,hfill,Sem.run_pure]
end mem
end Go.Dx
namespace Go.Dx
open Go Go.RowKit
theorem allOne_map {α:Type} (f:α→Value) (hf:∀ x,oneV (f x)=true):∀ l:List α,allOne (l.map f)=true
 | []=>rfl
 | x::l=>by simp [allOne,hf x,allOne_map f hf l]
section mem
variable {md:Md} {P:Program} {opsA:Array Oper} {rest:List Oper} {Q:Exit→Act→World→Prop} {a:Act} {w w0:World} {h0:View} {M:List Nat} {O:List OE} {F:View→Prop} {n:Nat} {L:FL}
variable {op:Op} {d:Option Nat} {ty t t2 T e:TypeId} {pos:String} {af:Array Edge} {g:Option (Nat×Bool)} {x y:Operand}
theorem ids_app (A B:List OE):ids (A++B)=ids A++ids B:=by simp [ids]
theorem ids_erase (O:List OE) (i:Nat):(∀ b∈ids (O.eraseIdx i),b∈ids O)∧((ids O).Nodup→(ids (O.eraseIdx i)).Nodup):=by
 induction O generalizing i with
 | nil=>simp [ids]
 | cons x O ih =>
  match i with
  | 0 =>
   cases hx:x.1 with
   | none=>simp [ids,hx]
   | some y =>
    have e1:ids (x::O)=y::ids O:=by simp [ids,hx]
    rw [List.eraseIdx_cons_zero,e1]
    exact ⟨λ b hb=>List.mem_cons_of_mem _ hb,λ h=>(List.nodup_cons.1 h).2⟩
  | i+1 =>
   obtain ⟨g1,g2⟩:=ih i
   cases hx:x.1 with
   | none =>
    have e1:ids (x::O)=ids O:=by simp [ids,hx]
    have e2:ids (x::O.eraseIdx i)=ids (O.eraseIdx i):=by simp [ids,hx]
    rw [List.eraseIdx_cons_succ,e1,e2]
    exact ⟨g1,g2⟩
   | some y =>
    have e1:ids (x::O)=y::ids O:=by simp [ids,hx]
    have e2:ids (x::O.eraseIdx i)=y::ids (O.eraseIdx i):=by simp [ids,hx]
    rw [List.eraseIdx_cons_succ,e1,e2]
    refine ⟨λ b hb=>?_,λ h=>List.nodup_cons.2 ⟨λ hm=>(List.nodup_cons.1 h).1 (g1 _ hm),g2 (List.nodup_cons.1 h).2⟩⟩
    rcases List.mem_cons.1 hb with rfl | hb
    ·simp
    ·exact List.mem_cons_of_mem _ (g1 b hb)
theorem St.forget (hS:St w0 h0 M w O F) (i:Nat):St w0 h0 M w (O.eraseIdx i) F:=by
 obtain ⟨g1,g2⟩:=ids_erase O i
 exact ⟨hS.keep,hS.vw,λ e he=>hS.own e (List.mem_of_mem_eraseIdx he),λ b hb=>hS.fresh b (g1 b hb),g2 hS.nd,hS.mono,
  hS.mono _ _ (cv_le (J:=[]) _ _ (Keep.refl [] w) (by simp) (λ c hc => .inl (g1 c hc)) hS.keep.size) hS.facts⟩
theorem BufC.slc {k nn c:Nat} {a0:Option Addr} {α:Type} {f:α→Value} {l:List α} {h:View} {o:Option Obj} (hB:BufC T 1 (.slice a0 nn c) (l.map f) o)
  (hg:∀ b,(Value.slice a0 nn c).ownBlock=some b→h b=o) (hk:k≤l.length):SlC T 1 (flatR λ x=>[f x]) h (.slice a0 k c) (l.take k):=by
 have hlen:(l.take k).length=k:=by simp; omega
 rcases hB with ⟨h1,h2⟩ | ⟨g',off,n',cap',cur,fz,h1,ho,_,h2,h3,h4,h5,h6⟩
 ·cases h1
  have hl:l=[]:=by simpa using h2
  subst hl
  have:k=0:=by simpa using hk
  subst this
  exact ⟨none,0,rfl,by simp,by simp [maxLen],λ h=>absurd rfl h⟩
 ·cases h1
  have hn:l.length=nn:=by simpa using h2
  have hgg:=hg g' rfl
  have:=SlC.ofRow (T:=T) (sz:=1) (h:=h) (l:=l.take k) (f:=λ x=>[f x]) (λ _ _=>rfl) (g:=g') (off:=off) (n:=k) (cap:=c) (arr:=cur) (fz:=fz) (by rw [hgg,ho]) hlen.symm (by omega) h4 (by
   have h7:(List.take k (List.drop off cur.toList))=(l.map f).take k:=by
    rw [← h6,List.take_take,Nat.mul_one,Nat.min_eq_left (by omega)]
   rw [Nat.mul_one,h7,← List.map_take]
   generalize l.take k=q
   induction q with
   | nil=>rfl
   | cons x q ih=>simp [ih])
  exact this
theorem BufC.drop {nn c k:Nat} {a0:Option Addr} {α:Type} {f:α→Value} {l:List α} {o:Option Obj} (hB:BufC T 1 (.slice a0 nn c) (l.map f) o) (hk:k≤l.length) (h0:0<k) :
  BufC T 1 (.slice (if c=k then a0 else a0.map (·.add (k*1))) (nn - k) (c - k)) ((l.drop k).map f) o:=by
 rcases hB with ⟨h1,h2⟩ | ⟨g',off,n',cap',cur,fz,h1,ho,hz,h2,h3,h4,h5,h6⟩
 ·cases h1
  have hl:l=[]:=by simpa using h2
  subst hl
  simp at hk; omega
 ·cases h1
  have hn:l.length=nn:=by simpa using h2
  have h7:(List.drop k (List.take nn (List.drop off cur.toList)))=(l.drop k).map f:=by rw [Nat.mul_one] at h6; rw [h6,List.map_drop]
  by_cases hck:c=k
  ·rw [if_pos hck]
   refine .inr ⟨g',off,nn - k,c - k,cur,fz,rfl,ho,hz,by simp [hn],by omega,by omega,by omega,?_⟩
   have:l.drop k=[]:=List.drop_of_length_le (by omega)
   have hz0:nn - k=0:=by omega
   simp [this,hz0]
  ·rw [if_neg hck]
   refine .inr ⟨g',off+k*1,nn - k,c - k,cur,fz,by simp [add_mk],ho,hz,by simp [hn],by omega,by omega,by omega,?_⟩
   rw [← h7,List.drop_take,List.drop_drop]
   congr 1
   ·omega
   ·congr 1; omega
theorem BufC.le {nn c:Nat} {a0:Option Addr} {xs:List Value} {o:Option Obj} (h:BufC T 1 (.slice a0 nn c) xs o):xs.length=nn∧nn≤c∧c≤maxLen:=by
 rcases h with ⟨h1,rfl⟩ | ⟨g',off,n',cap',cur,fz,h1,ho,_,h2,h3,h4,h5,h6⟩
 ·cases h1; simp [maxLen]
 ·cases h1; exact ⟨by omega,h3,h4⟩
theorem pu_sl_ton {k:IntKind} {i:Int} {j:Nat} {ad:Option Addr} {nn c sz:Nat} (ht:SlT P t e sz) (hx:ev L x=some (.slice ad nn c)) (hy:ev L y=some (.int k i)) (hj:i=(j:Int)) (hi1:j≤c) :
  Pu P L ⟨d,.slice t x none (some y) none,ty,pos,af,g⟩ w (.slice ad j c):=by
 subst hj; exact pu_sl_to ht hx hy (by omega) (by omega)
theorem pu_sl_fromn {k:IntKind} {i:Int} {j:Nat} {ad:Option Addr} {nn c sz:Nat} (ht:SlT P t e sz) (hx:ev L x=some (.slice ad nn c)) (hy:ev L y=some (.int k i)) (hj:i=(j:Int)) (hi1:j≤nn) (hnc:nn≤c) :
  Pu P L ⟨d,.slice t x (some y) none none,ty,pos,af,g⟩ w (.slice (if c=j then ad else ad.map (·.add (j*sz))) (nn - j) (c - j)):=by
 subst hj; exact pu_sl_from ht hx hy (by omega) (by omega) hnc
end mem
end Go.Dx
namespace Go.Dx
open Go Go.RowKit
section mem
variable {md:Md} {P:Program} {opsA:Array Oper} {rest:List Oper} {Q:Exit→Act→World→Prop} {a:Act} {w w0:World} {h0:View} {M:List Nat} {O:List OE} {F:View→Prop} {n:Nat} {L:FL}
variable {op:Op} {d:Option Nat} {ty t t2 T e:TypeId} {pos:String} {af:Array Edge} {g:Option (Nat×Bool)} {x y:Operand}
def NewBuf (w:World) (T:TypeId) (sz:Nat) (xs:List Value) (v:Value) (w':World):Prop :=
 BufC T sz v xs (v.ownBlock.bind λ b=>w'.heap[b]?)∧∀ b,v.ownBlock=some b→w.heap.size≤b∧b<w'.heap.size
theorem pu_sl_fton {k k':IntKind} {i j:Int} {p q m:Nat} {z:Operand} {ad:Option Addr} {nn c sz:Nat} (ht:SlT P t e sz) (hx:ev L x=some (.slice ad nn c)) (hy:ev L y=some (.int k i)) (hz:ev L z=some (.int k' j)) (hp:i=(p:Int)) (hq:j=(q:Int)) (hpq:p≤q) (hqc:q≤c) (hm:q - p=m) :
  Pu P L ⟨d,.slice t x (some y) (some z) none,ty,pos,af,g⟩ w (.slice (if c=p then ad else ad.map (·.add (p*sz))) m (c - p)):=by
 subst hp hq hm
 have:=pu_sl_fromto (P:=P) (w:=w) (d:=d) (ty:=ty) (pos:=pos) (af:=af) (g:=g) ht hx hy hz (by omega) (by omega) (by omega)
 simpa using this
theorem BufC.part {nn c:Nat} {a0:Option Addr} {α:Type} {f:α→Value} {l:List α} {h:View} {o:Option Obj} (p q:Nat) {m:Nat} (hB:BufC T 1 (.slice a0 nn c) (l.map f) o)
  (hg:∀ b,(Value.slice a0 nn c).ownBlock=some b→h b=o) (hpq:p≤q) (hq:q≤l.length) (hm:q - p=m):SlC T 1 (flatR λ x=>[f x]) h (.slice (if c=p then a0 else a0.map (·.add (p*1))) m (c - p)) ((l.drop p).take m):=by
 subst hm
 have hle:=hB.le
 have hn:nn=l.length:=by simpa using hle.1.symm
 have h1:=BufC.slc hB hg (Nat.le_refl l.length)
 rw [List.take_length] at h1
 have h2:=h1.drop (k:=p) (by omega)
 exact h2.take (k:=q - p) (by rw [List.length_drop]; omega)
end mem
end Go.Dx
namespace Go.Dx
open Go Go.RowKit
section open_
variable {P:Program} {ops:Array Oper} {C:World→Prop} {R:World→World→Prop} [hR:Rel R] {Qf:SP→(Nat→VP)→Prop} {rest:List Oper} {Γ:Nat→VP} {L:FL} {op:Op} {ty t t2 T e:TypeId} {pos:String} {af:Array Edge}
end open_
section calls
variable {P:Program} {ops:Array Oper} {R:World→World→Prop} [hR:Rel R] {Qf:SP→(Nat→VP)→Prop} {rest:List Oper} {Γ:Nat→VP} {L:FL} {w w0:World} {h0:View} {M:List Nat} {O:List OE} {F:View→Prop} {ty t t2 T e:TypeId} {pos:String} {af:Array Edge}
end calls
end Go.Dx
namespace Go.Dx
open Go Go.RowKit Go.ChangeShapes Go.WideShapes Go.ChangeAt
theorem Keep.below {w w':World} (h:Keep [] w w'):Below w.heap.size w w':=⟨h.os,h.tape,h.output,h.size,λ k hk=>h.block k hk (by simp)⟩
section law
variable {H:Type} {enc:TypeId×Value→H}
theorem trodAll_stays {P:Program} (hl:laidOutB P=true) {W W':World} (hb:Below W.heap.size W W'):∀ {ts:List TypeId} {vs:List Value} {ds:List (DataW H)} {p:List MemPlace},
  (ts.all λ t=>P.readableRec t&&decide (t<P.types.size))=true→DataW.TrodAll enc P W 0 (λ _=>true) true ts vs ds p→DataW.TrodAll enc P W' 0 (λ b=>decide (b<W.heap.size)) true ts vs ds p
 | [],[],[],_,_,h=>h
 | t::ts,v::vs,d::ds,p,hr,h=>by
  have hlt:=h.lt
  obtain ⟨p1,q1,h1,h2,rfl⟩:=h
  simp only [List.all_cons,Bool.and_eq_true,decide_eq_true_eq] at hr
  exact ⟨p1,q1,Below.trod hl hr.1.1 hr.1.2 h1 hb λ x hx=>hlt x (List.mem_append_left _ hx),trodAll_stays hl hb hr.2 h2,rfl⟩
 | [],_::_,_,_,_,h=>h.elim
 | [],[],_::_,_,_,h=>h.elim
 | _::_,[],_,_,_,h=>h.elim
 | _::_,_::_,[],_,_,h=>h.elim
theorem trodAll_len {P:Program} {w:World} {base:Nat} {spare:Nat→Bool} {held:Bool}:∀ {ts:List TypeId} {vs:List Value} {ds:List (DataW H)} {ps:List MemPlace},DataW.TrodAll enc P w base spare held ts vs ds ps→ds.length=ts.length
 | [],[],[],_,_=>rfl
 | _::_,_::_,_::_,_,h=>by
  obtain ⟨_,_,_,h2,_⟩:=h
  simp [trodAll_len h2]
 | [],_::_,_,_,h=>h.elim
 | [],[],_::_,_,h=>h.elim
 | _::_,[],_,_,h=>h.elim
 | _::_,_::_,[],_,h=>h.elim
theorem int_bounds {n:Int} (h:(Lit.int .i64 n).wf=true) : -9223372036854775808≤n∧n≤9223372036854775807:=by
 have h1:IntKind.i64.min = -9223372036854775808:=rfl
 have h2:IntKind.i64.max=9223372036854775807:=rfl
 simp only [Lit.wf,Bool.and_eq_true,decide_eq_true_eq] at h
 omega
end law
end Go.Dx
namespace Go.Dx
open Go Go.RowKit Go.ChangeShapes Go.WideShapes Go.ChangeAt
section law
variable {H:Type} {enc:TypeId×Value→H}
theorem law_liftedL {C:Checked} {os:Os} {f:FuncId} {fn:Func} {s:ChangeSpec} {tb:TypeId} {laid:List (String×DataW Unit)} (hl:laidOutB C.prog=true) (own:ownKnob C.prog.godebug=none) (started:os.Started) (noInit:C.prog.inits.idxOf? f=none) (hfn:C.prog.funcs[f]?=some fn)
  (witness:∃ (w:World) (tape:Tape) (i:Input),w.os=os∧(w.forCall tape i).Shaped C.prog∧i.vars=[]∧Input.okWide C.prog (w.forCall tape i) .any w.heap.size f i ∧
   ((s.pre enc C.prog fn [] false (w.forCall tape i).memory i.args∧laidMetH C.prog laid (w.forCall tape i).memory)∧sizedMet enc C.prog fn (OpenSpec.ofChange s) false (w.forCall tape i).memory i.args)∧({}:Assume).holds C.prog (lone (Frame.enter C.prog f i.args .normal) [] (w.forCall tape i)))
  (hvars:s.vars=[]) (hres:fn.resultTypes.toList=[tb]) (htb:C.prog.underlying tb=some .bool)
  (hrd:(fn.params.toList.all λ t=>C.prog.readableRec t&&decide (t<C.prog.types.size))=true)
  (hs:∀ ds:List (DataW H),ds.length=fn.params.toList.length→(s.fn H ds).results=[.lit (.bool true)]∧(s.fn H ds).args=ds∧(s.fn H ds).vars=[])
  (contract:∀ (W:World) (base:Nat) (args:Array Value) (ds:List (DataW H)) (p:List MemPlace),(∀ (j:Nat) t v,fn.params[j]?=some t→args[j]?=some v→Value.okWide C.prog W .any base t v) →
   DataW.TrodAll enc C.prog W 0 (λ _=>true) true fn.params.toList args.toList ds p →
   (DataW.weightsEach C.prog fn.params.toList ds).all (·≤reachBytes)=true→laidMetH C.prog laid W→Calls C.prog f args W (Ret W (Full W) λ u _=>u = .bool true)) :
  ReturnsInHanded {} C os f .any (λ w args=>(s.pre enc C.prog fn [] false w args∧laidMetH C.prog laid w)∧sizedMet enc C.prog fn (OpenSpec.ofChange s) false w args) (s.post enc C.prog fn false true false false):=by
 refine returnsInHanded_of_change_and (X:=λ w _=>laidMetH C.prog laid w) (λ _ _ _ hh h=>h.of_heap hh) own started noInit hfn witness ?_
 intro W base args ds gs before hval hW _ hsz hL _
 have hW':=hW
 obtain ⟨p,q,hA,hV,rfl,_,_⟩:=hW
 rw [hvars] at hV
 obtain ⟨rfl,rfl⟩:=trodVars_none hV
 have hpt:s.plain.varTypes C.prog=[]:=by
  simp [DataSpec.varTypes,ChangeSpec.plain,hvars]
 rw [hpt] at hsz
 simp only [List.append_nil] at hsz hW'
 have hlen:=trodAll_len hA
 obtain ⟨e1,e2,e3⟩:=hs ds hlen
 refine (contract W base args ds p hval hA hsz hL).mono ?_
 rintro e W' ⟨v,rfl,hk,rfl⟩
 have hb:=hk.below
 refine ⟨_,rfl,ds,[],p,[],p,[],hW',?_,?_,?_,hb.frame _,λ h=>by cases h⟩
 ·rw [List.append_nil,e1,hres]
  have hrs:(Value.bool true).resultList fn.resultTypes.size=[.bool true]:=by
   have:fn.resultTypes.size=1:=by rw [← Array.length_toList,hres]; rfl
   rw [this]; rfl
  rw [hrs]
  exact trodAll_mk1 (shut_bool htb true)
 ·rw [List.append_nil,e2]
  exact trodAll_stays hl hb hrd hA
 ·rw [List.append_nil,e3,hvars]; rfl
end law
end Go.Dx
namespace Go.Dx
open Go Go.RowKit
section control
variable {md:Md} {P:Program} {Q:Exit→Act→World→Prop} {a:Act} {w:World}
theorem c_scope {c:Code} (h:codeM .wp P c (Exit.noGoto Q) a w):codeM .wp P (Code.scope c) Q a w:=wp_scope_straight h
theorem c_label {l:Nat} (h:Q .normal a w):codeM .wp P (Code.label l) Q a w:=wp_label h
theorem n_scope (h:Q .normal a w):Exit.noGoto Q .normal a w:=h
theorem r_scope (h:Q .ret a w):Exit.noGoto Q .ret a w:=h
theorem x_scope {i:Nat} (h:Q (.exit i) a w):Exit.noGoto Q (.exit i) a w:=h
theorem c_goto {l:Nat} (h:Q (.goto l) a w):codeM md P (Code.goto l) Q a w:=by
 cases md with
 | wp=>exact wp_goto h
 | rd r=>exact wpIn_goto h
 | df ds=>exact wp_goto ⟨a,rfl,h⟩
end control
section mem
variable {md:Md} {P:Program} {opsA:Array Oper} {rest:List Oper} {Q:Exit→Act→World→Prop} {a:Act} {w w0:World} {h0:View} {M:List Nat} {O:List OE} {F:View→Prop} {n:Nat} {L:FL}
variable {op:Op} {d:Option Nat} {ty t t2 T e:TypeId} {pos:String} {af:Array Edge} {g:Option (Nat×Bool)} {x y:Operand}
theorem ds_callF {f:FuncId} {args:List Operand} {vsl first cap:List Value} {ats:Array TypeId} {Post:VP} (hc:CallOk P f) (hx:ev L x=some (.func (.func f) first.toArray cap.toArray)) (ha:evs L args=some vsl)
  (H:Calls P f (first++vsl++cap).toArray w λ e w'=>∃ v,e = .returned v∧Post v w'):Ds P L ⟨d,.call ⟨.value x,args.toArray,ats⟩,ty,pos,af,g⟩ w Post:=by
 intro ρ hρ
 have hm:=evs_map args vsl ha λ x hx u hu=>hρ x (by simp [Op.operands,Call.operands,hx]) u hu
 have hf:ρ x = .func (.func f) first.toArray cap.toArray:=hρ x (by simp [Op.operands,Call.operands]) _ hx
 unfold Does
 have:(execOp ρ ⟨d,.call ⟨.value x,args.toArray,ats⟩,ty,pos,af,g⟩).run P w = .ok (.enter f (first++vsl++cap).toArray) w:=by
  simp only [execOp,resolve,List.map_toArray,hm,hf,Deferred.ofValue,Sem.run_bind,Sem.run_pure,Result.andThen_ok,invoke,List.append_toArray]
  exact run_call hc
 rw [this]
 exact H
theorem pu_mkfunc {fn:Fn} {cs:List Operand} {vsl:List Value} (ha:evs L cs=some vsl):Pu P L ⟨d,.makeFunc fn #[] cs.toArray,ty,pos,af,g⟩ w (.func fn #[] vsl.toArray):=by
 intro ρ hρ
 have hm:=evs_map cs vsl ha λ x hx u hu=>hρ x (by simp [Op.operands,hx]) u hu
 simp only [execOp,Instr.makeFunc,List.map_toArray,hm,Sem.run_bind,Sem.run_pure,Result.andThen_ok]
 rfl
theorem NewBuf.nil {sz:Nat} {w':World}:NewBuf w T sz [] (.slice none 0 0) w':=⟨.inl ⟨rfl,rfl⟩,λ b hb=>by cases hb⟩
theorem St.addRow {cs:List Value} {b:Nat} {w':World} (hS:St w0 h0 M w O F) (hk:Keep [] w w') (hb:NewRow w T cs b w'):St w0 h0 M w' ((some b,CellsC T cs)::O) F:=by
 refine hS.upds hk (by simp) (λ x hx=>?_) (λ c hc=>?_) ?_
 ·rcases List.mem_cons.1 hx with rfl | hx
  ·exact hb.2
  ·exact hS.still hk hx (by simp)
 ·have hc':c=b∨c∈ids O:=by simpa [ids] using hc
  rcases hc' with rfl | hc'
  ·exact .inr ⟨hb.1,(Array.getElem?_eq_some_iff.1 hb.2).1⟩
  ·exact .inl hc'
 ·show (b::ids O).Nodup
  exact List.nodup_cons.2 ⟨λ hm=>by have:=(hS.fresh b hm).2; have:=hb.1; omega,hS.nd⟩
theorem BufC.sl {sz nn c:Nat} {a0:Option Addr} {α:Type} {f:α→List Value} {l:List α} {h:View} {o:Option Obj} (hB:BufC T sz (.slice a0 nn c) (l.map f).flatten o)
  (hg:∀ b,(Value.slice a0 nn c).ownBlock=some b→h b=o) (hf:∀ x∈l,(f x).length=sz) (hn:nn=l.length):SlC T sz (flatR f) h (.slice a0 nn c) l:=by
 rcases hB with ⟨h1,h2⟩ | ⟨g',off,n',cap',cur,fz,h1,ho,_,h2,h3,h4,h5,h6⟩
 ·cases h1
  have:l=[]:=List.length_eq_zero_iff.1 hn.symm
  subst this
  exact SlC.nil (by simp [maxLen])
 ·cases h1
  have hgo:h g'=some (.cells cur T fz):=by rw [hg g' rfl,ho]
  exact SlC.ofRow hf hgo hn h3 h4 h6
end mem
section un
variable {md:Md} {P:Program} {ops rest:List Oper} {opsA:Array Oper} {Q:Exit→Act→World→Prop} {C:World→Prop} {R:World→World→Prop} {Qf:SP→(Nat→VP)→Prop} {Γ:Nat→VP} {a:Act} {w:World} {n:Nat} {L:FL} {op:Op} {ty:TypeId} {pos:String} {af:Array Edge}
theorem yielded_un {j:Nat} (h:∃ o t,opsA[j]?=some o∧o.dst=some t∧a.tmps.getD t undef=undef):yielded opsA a.tmps j=none:=by
 obtain ⟨o,t,ho,ht,hv⟩:=h
 unfold yielded
 simp only [ho,Option.bind_some,ht]
 cases h:a.tmps[t]? with
 | none=>rfl
 | some x =>
  have:x=undef:=by simpa [h] using hv
  subst this; rfl
end un
end Go.Dx
namespace Go.Dx
open Go Go.RowKit
section regst
variable {P:Program} {w w0:World} {h0:View} {M:List Nat} {O:List OE} {F:View→Prop} {Q:Exit→Act→World→Prop} {a:Act} {sz id:Nat} {l rest:List Oper} {L:FL}
def Either (T:TypeId) (cs cs':List Value):Option Obj→Prop:=λ o=>CellsC T cs o∨CellsC T cs' o
theorem region_sto {i b:Nat} {T:TypeId} {cs:List Value} (cs':List Value) (n:Nat) (hF:Fr a sz L) (hS:St w0 h0 M w O F) (hi:O[i]?=some (some b,CellsC T cs)) (hv:∀ t Φ,lk L t≠some (.prd Φ)) (hm:P.follows .mixedOrders=true) (hB:typT l.toArray n sz=true)
  (h:b<w.heap.size→∀ Γ,GF Γ L→TyW P l.toArray (CR (SR w b (.cells cs'.toArray T (0,0))) w w0 h0 M (O.set i (some b,Either T cs cs')) F) (SR w b (.cells cs'.toArray T (0,0)))
   (TEnd P l n Q (CR (SR w b (.cells cs'.toArray T (0,0))) w w0 h0 M (O.set i (some b,Either T cs cs')) F) sz) (l.take n) Γ):codeM .wp P (Code.region id l.toArray true) Q a w:=by
 have hS':St w0 h0 M w (O.set i (some b,Either T cs cs')) F:=hS.write hi (⟨rfl,rfl,rfl,Nat.le_refl _,Nat.le_refl _,λ _ _ _=>rfl⟩) (.inl (hS.at hi))
 have hb:b∈ids O:=List.mem_filterMap.2 ⟨_,List.mem_of_getElem? hi,rfl⟩
 exact region_typed n hF hv hm (λ _ hk=>⟨Rel.keep hk,hS'.step hk⟩) hB (h (hS.fresh b hb).2)
theorem St.tight {i b:Nat} {T:TypeId} {cs':List Value} {E:Option Obj→Prop} (hS:St w0 h0 M w O F) (hi:O[i]?=some (some b,E)) (h:w.heap[b]?=some (.cells cs'.toArray T (0,0))):St w0 h0 M w (O.set i (some b,CellsC T cs')) F :=
 hS.write hi ⟨rfl,rfl,rfl,Nat.le_refl _,Nat.le_refl _,λ _ _ _=>rfl⟩ h
theorem spl_spl (cs:List Value) (off:Nat) (new:List Value) (h:off+new.length≤cs.length):spl (spl cs off new) off new=spl cs off new:=by
 have e1:(cs.take off).length=off:=by simp; omega
 unfold spl
 rw [List.take_append_of_le_length (by rw [e1]; exact Nat.le_refl _),List.take_of_length_le (by rw [e1]; exact Nat.le_refl _)]
 congr 2
 rw [List.drop_append,e1,List.drop_of_length_le (by rw [e1]; omega),List.nil_append,List.drop_append,List.drop_of_length_le (by omega),List.nil_append]
 rw [show off+new.length - off - new.length=0 by omega,List.drop_zero]
theorem spl_len (cs:List Value) (off:Nat) (new:List Value) (h:off+new.length≤cs.length):(spl cs off new).length=cs.length:=by
 simp [spl]; omega
variable {ops:Array Oper} {Qf:SP→(Nat→VP)→Prop} {Γ:Nat→VP} {t T:TypeId} {x y:Operand} {ty:TypeId} {pos:String} {af:Array Edge}
theorem t_store {i b off:Nat} {cs cs' new:List Value} {v:Value} (hb:b<w.heap.size) (hG:GF Γ L) (hi:O[i]?=some (some b,Either T cs cs')) (hx:ev L x=some (.pointer (some ⟨b,off,none⟩))) (hy:ev L y=some v)
  (hc:v.cells=new.toArray) (hsz:SzIs P t new.length) (h1:allOne new=true) (hfit:off+new.length≤cs.length) (he:cs'=spl cs off new)
  (k:∀ Γ,GF Γ L→TyW P ops (CR (SR w b (.cells cs'.toArray T (0,0))) w w0 h0 M O F) (SR w b (.cells cs'.toArray T (0,0))) (λ E Γ=>Qf (λ σ w=>w.heap[b]?=some (.cells cs'.toArray T (0,0))∧E σ w) Γ) rest Γ) :
  TyW P ops (CR (SR w b (.cells cs'.toArray T (0,0))) w w0 h0 M O F) (SR w b (.cells cs'.toArray T (0,0))) Qf (⟨none,.store t x y,ty,pos,af,none⟩::rest) Γ:=by
 refine ⟨λ _ _=>True,λ _ w=>w.heap[b]?=some (.cells cs'.toArray T (0,0)),⟨⟨λ _ _ _ _ _ h=>h,λ _ _ a c hC hR _ h=>hR.2.2 h⟩,λ a w1 hC hs=>?_⟩,k Γ hG⟩
 simp only [Region.wanted,if_true]
 have ex:=hG.ev hs x (by simp [Op.operands]) _ hx
 have ey:=hG.ev hs y (by simp [Op.operands]) _ hy
 have key:∃ c1:List Value,w1.heap[b]?=some (.cells c1.toArray T (0,0))∧off+new.length≤c1.length∧spl c1 off new=cs':=by
  rcases hC.st.at hi with h | h
  ·exact ⟨cs,h,hfit,he.symm⟩
  ·refine ⟨cs',h,?_,?_⟩
   ·rw [he,spl_len cs off new hfit]; exact hfit
   ·rw [he,spl_spl cs off new hfit]
 obtain ⟨c1,hg,hf1,hs1⟩:=key
 have hrun:(execOp a.eval ⟨none,.store t x y,ty,pos,af,none⟩).run P w1 = .ok .skip (w1.setRow b (spl c1 off new).toArray):=by
  simp only [execOp,ex,ey,Instr.storeAt,Instr.sureAddr,Sem.run_bind,Sem.run_pure,Result.andThen_ok,run_storeVar hg hc hsz h1 hf1]
 have hk:Keep [b] w1 (w1.setRow b (spl c1 off new).toArray):=keep_setRow _ _ _
 have hn:(w1.setRow b (spl c1 off new).toArray).heap[b]?=some (.cells cs'.toArray T (0,0)):=by rw [setRow_heap w1 b _ _ T _ hg,hs1]
 have hR:SR w b (.cells cs'.toArray T (0,0)) w1 (w1.setRow b (spl c1 off new).toArray):=⟨hk,λ k h1 _=>setRow_other w1 b k _ (by omega),λ _=>hn⟩
 have hS:=hC.st.write (C':=Either T cs cs') hi hk (.inr hn)
 have e:O.set i (some b,Either T cs cs')=O:=List.ext_getElem? λ m=>by
  rw [List.getElem?_set]
  split
  ·rename_i hm; subst hm; rw [if_pos (List.getElem?_eq_some_iff.1 hi).1,hi]
  ·rfl
 rw [e] at hS
 exact .inr ⟨_,hrun,⟨⟨hC.rel.1.trans hk,λ k h1 h2=>absurd h2 (by omega),λ _=>hn⟩,hS⟩,hR,trivial,hn⟩
end regst
end Go.Dx
namespace Go.Dx
open Go Go.RowKit
section iter
variable {md:Md} {P:Program} {opsA:Array Oper} {rest:List Oper} {Q:Exit→Act→World→Prop} {a:Act} {w w0:World} {h0:View} {M:List Nat} {O:List OE} {F:View→Prop} {n:Nat} {L:FL}
variable {op:Op} {d:Option Nat} {ty t t2 T e:TypeId} {pos:String} {af:Array Edge} {g:Option (Nat×Bool)} {x y:Operand}
def IterC (s:List UInt8) (k:Nat):Option Obj→Prop:=λ o=>o=some (.stringIter ⟨s.toArray⟩ k)
theorem s_range {dd:Nat} {s:List UInt8} (hF:Fr a n L) (hS:St w0 h0 M w O F) (ht:P.underlying t=some .string) (hx:ev L x=some (vs s)) (hd:Nat.blt dd n=true)
  (k:∀ b w' a,St w0 h0 M w' ((some b,IterC s 0)::O) F→Fr a n ((dd,.val (.pointer (some ⟨b,0,none⟩)))::L)→wpM md P opsA Q rest a w') :
  wpM md P opsA Q (⟨some dd,.range t x,ty,pos,af,none⟩::rest) a w:=by
 have hrun:Ds P L ⟨some dd,.range t x,ty,pos,af,none⟩ w λ v' w'=>v' = .pointer (some ⟨w.heap.size,0,none⟩)∧w'=w.alloc (.stringIter ⟨s.toArray⟩ 0):=by
  intro ρ hρ
  unfold Does
  have:(execOp ρ ⟨some dd,.range t x,ty,pos,af,none⟩).run P w = .ok (.value (.pointer (some ⟨w.heap.size,0,none⟩))) (w.alloc (.stringIter ⟨s.toArray⟩ 0)):=by
   simp only [execOp,hρ x (by simp [Op.operands]) _ hx,vs,Sem.run_bind,run_range_string w t _ ht,Result.andThen_ok]
   rfl
  rw [this]
  exact ⟨rfl,rfl⟩
 refine s_ds hF hrun hd ?_
 rintro v' w' a' ⟨rfl,rfl⟩ hF'
 exact k _ _ _ (hS.new _ rfl) hF'
theorem run_next_at (w:World) (b:Nat) (s:ByteArray) (k:Nat) (ty:TypeId) (hb:w.heap[b]?=some (.stringIter s k)) (h:k<s.size) :
  (Instr.next (.pointer (some ⟨b,0,none⟩)) true ty).run P w =
   .ok (.tuple #[.bool true,.int .i64 k,.int .i32 (Utf8.decode s k).1]) { w with heap:=w.heap.setIfInBounds b (.stringIter s (k+(Utf8.decode s k).2)) }:=by
 simp only [Instr.next,getObj,setObj,Sem.run_bind,Sem.run,hb,Result.andThen,h,if_true]
 simp [goInt,Sem.run]
theorem run_next_over (w:World) (b:Nat) (s:ByteArray) (k:Nat) (ty:TypeId) (hb:w.heap[b]?=some (.stringIter s k)) (h:¬ k<s.size) :
  (Instr.next (.pointer (some ⟨b,0,none⟩)) true ty).run P w = .ok (.tuple #[.bool false]) w:=by
 simp [Instr.next,getObj,Sem.run,hb,h]
theorem keep_setI (w:World) (b:Nat) (o:Obj):Keep [b] w { w with heap:=w.heap.setIfInBounds b o } :=
 ⟨rfl,rfl,rfl,Nat.le_refl _,by simp,λ k _ hk=>by
  show (w.heap.setIfInBounds b o)[k]?=w.heap[k]?
  rw [Array.getElem?_setIfInBounds_ne]
  intro e; exact hk (by simp [e])⟩
theorem s_next {dd i b p:Nat} {s:List UInt8} (hF:Fr a n L) (hS:St w0 h0 M w O F) (hi:O[i]?=some (some b,IterC s p)) (hx:ev L x=some (.pointer (some ⟨b,0,none⟩))) (hd:Nat.blt dd n=true)
  (k1:p<s.length→∀ w' a,St w0 h0 M w' (O.set i (some b,IterC s (p+(Utf8.decode ⟨s.toArray⟩ p).2))) F→Fr a n ((dd,.val (.tuple #[.bool true,.int .i64 p,.int .i32 (Utf8.decode ⟨s.toArray⟩ p).1]))::L)→wpM md P opsA Q rest a w')
  (k2:¬ p<s.length→∀ a,Fr a n ((dd,.val (.tuple #[.bool false]))::L)→wpM md P opsA Q rest a w) :
  wpM md P opsA Q (⟨some dd,.next x true,ty,pos,af,none⟩::rest) a w:=by
 have hb:w.heap[b]?=some (.stringIter ⟨s.toArray⟩ p):=hS.at hi
 by_cases hp:p<s.length
 ·have hrun:Ds P L ⟨some dd,.next x true,ty,pos,af,none⟩ w λ v' w'=>v' = .tuple #[.bool true,.int .i64 p,.int .i32 (Utf8.decode ⟨s.toArray⟩ p).1]∧w'={ w with heap:=w.heap.setIfInBounds b (.stringIter ⟨s.toArray⟩ (p+(Utf8.decode ⟨s.toArray⟩ p).2)) }:=by
   intro ρ hρ
   unfold Does
   have:(execOp ρ ⟨some dd,.next x true,ty,pos,af,none⟩).run P w = .ok (.value (.tuple #[.bool true,.int .i64 p,.int .i32 (Utf8.decode ⟨s.toArray⟩ p).1])) { w with heap:=w.heap.setIfInBounds b (.stringIter ⟨s.toArray⟩ (p+(Utf8.decode ⟨s.toArray⟩ p).2)) }:=by
    simp only [execOp,hρ x (by simp [Op.operands]) _ hx,Sem.run_bind,run_next_at w b _ p ty hb (by rw [size_mk]; exact hp),Result.andThen_ok]
    rfl
   rw [this]
   exact ⟨rfl,rfl⟩
  refine s_ds hF hrun hd ?_
  rintro v' w' a' ⟨rfl,rfl⟩ hF'
  refine k1 hp _ _ (hS.write hi (keep_setI _ _ _) ?_) hF'
  have hlt:b<w.heap.size:=(Array.getElem?_eq_some_iff.1 hb).1
  show (w.heap.setIfInBounds b _)[b]?=_
  simp [hlt]
 ·have hrun:Ds P L ⟨some dd,.next x true,ty,pos,af,none⟩ w λ v' w'=>v' = .tuple #[.bool false]∧w'=w:=by
   intro ρ hρ
   unfold Does
   have:(execOp ρ ⟨some dd,.next x true,ty,pos,af,none⟩).run P w = .ok (.value (.tuple #[.bool false])) w:=by
    simp only [execOp,hρ x (by simp [Op.operands]) _ hx,Sem.run_bind,run_next_over w b _ p ty hb (by rw [size_mk]; exact hp),Result.andThen_ok]
    rfl
   rw [this]
   exact ⟨rfl,rfl⟩
  refine s_ds hF hrun hd ?_
  rintro v' w' a' ⟨rfl,rfl⟩ hF'
  exact k2 hp _ hF'
theorem decode_lo {s:List UInt8} {p:Nat} (h:p<s.length) (ha:(s.getD p 0).toNat<128):Utf8.decode ⟨s.toArray⟩ p=((s.getD p 0).toNat,1):=by
 have hp:p<(ByteArray.mk s.toArray).size:=by rw [size_mk]; exact h
 have e:(ByteArray.mk s.toArray)[p]'hp=s.getD p 0:=by
  have:=mk_get s p h
  rw [getElem?_pos _ p hp] at this
  exact Option.some.inj this
 rw [decode_ascii _ p hp (by rw [e]; exact ha),e]
theorem decode_hi {s:List UInt8} {p:Nat} (h:p<s.length) (ha:128≤(s.getD p 0).toNat):128≤(Utf8.decode ⟨s.toArray⟩ p).1∧1≤(Utf8.decode ⟨s.toArray⟩ p).2:=by
 have hp:p<(ByteArray.mk s.toArray).size:=by rw [size_mk]; exact h
 have e:(ByteArray.mk s.toArray)[p]'hp=s.getD p 0:=by
  have:=mk_get s p h
  rw [getElem?_pos _ p hp] at this
  exact Option.some.inj this
 exact decode_high _ p hp (by rw [e]; exact ha)
end iter
end Go.Dx
namespace Go.Dx
open Go Go.RowKit Go.ChangeShapes Go.WideShapes Go.ChangeAt
section opens
variable {H:Type} {enc:TypeId×Value→H} {P:Program} {W:World} {base:Nat} {spare:Nat→Bool} {held:Bool}
def FldIs (P:Program) (t i off ty sz:Nat):Prop:=∃ (fs:Array Field) (f:Field),P.underlying t=some (.struct fs)∧fs[i]?=some f∧f.type=ty∧f.offset=off∧P.cellsOf ty=sz
def fldIsB (P:Program) (t i:Nat):Option (Nat×Nat×Nat):=match P.underlying t with
 | some (.struct fs)=>(fs[i]?).map λ f=>(f.type,f.offset,P.cellsOf f.type)
 | _=>none
theorem FldIs.of {t i off ty sz:Nat} (h:fldIsB P t i=some (ty,off,sz)):FldIs P t i off ty sz:=by
 unfold fldIsB at h
 split at h
 ·rename_i fs hu
  cases hf:fs[i]? with
  | none=>simp [hf] at h
  | some f =>
   simp [hf] at h
   obtain ⟨h1,h2,h3⟩:=h
   exact ⟨fs,f,hu,hf,h1,h2,by rw [← h1]; exact h3⟩
 ·cases h
theorem trod_at {t i off ty sz fuel:Nat} {cs:List Value} {x:DataW H×List MemPlace} (hf:FldIs P t i off ty sz) (h:DataW.trod enc P W base spare held fuel t cs=some x) :
  cs.length=P.cellsOf t∧∃ n y,n<fuel∧DataW.trod enc P W base spare held n ty ((cs.drop off).take sz)=some y:=by
 obtain ⟨fs,f,hu,hi,h1,h2,h3⟩:=hf
 obtain ⟨xs,n,rfl,rfl,hl,hlen,hx⟩:=DataW.trod_struct hu h
 refine ⟨hl,n,?_⟩
 have hlt:i<xs.length:=by rw [hlen]; exact (Array.getElem?_eq_some_iff.1 hi).1
 have:=hx i f hi
 rw [h1,h2,h3,List.getElem?_eq_getElem hlt] at this
 exact ⟨_,Nat.lt_succ_self n,this⟩
theorem open_sl {t e sz fuel:Nat} {v:Value} {x:DataW H×List MemPlace} (ht:P.underlying t=some (.slice e)) (hsz:P.cellsOf e=sz) (hpos:0<sz) (h:DataW.trod enc P W base spare held fuel t [v]=some x) :
  ∃ (ad:Option Addr) (cap n0:Nat) (c:Nat→List Value),v = .slice ad n0 cap∧SlC e sz (flatR c) (Full W) (.slice ad (List.range n0).length cap) (List.range n0)∧∀ i,i<n0→∃ n y,n<fuel∧DataW.trod enc P W base spare held n e (c i)=some y:=by
 subst hsz
 rcases DataW.trod_slice ht h with ⟨hcs,_⟩ | ⟨a,len,cap,elems,rest,n,rfl,hcs,_,hb,hl,hm,hlen,hel,_⟩
 ·cases hcs
  exact ⟨none,0,0,λ _=>[],rfl,SlC.nil (by simp [maxLen]),λ i hi=>absurd hi (Nat.not_lt_zero i)⟩
 ·cases hcs
  have one:∀ i,i<len→∃ cs':List Value,W.cells? base (a.add (i*P.cellsOf e)) (P.cellsOf e)=some cs'∧∃ y,DataW.trod enc P W base spare held n e cs'=some y:=by
   intro i hi
   have:=hel i hi
   rw [List.getElem?_eq_getElem (by omega)] at this
   obtain ⟨cs',h1,h2⟩:=Option.bind_eq_some_iff.1 this
   exact ⟨cs',h1,_,h2⟩
  obtain ⟨c,hc⟩:=Go.Deep.choose_lt one
  refine ⟨some a,cap,len,c,rfl,?_,λ i hi=>let ⟨y,hy⟩:=(hc i hi).2; ⟨n,y,Nat.lt_succ_self n,hy⟩⟩
  refine ⟨some a,cap,rfl,by rw [List.length_range]; exact hl,hm,λ hne=>?_⟩
  have hn0:0<len:=by
   rcases Nat.eq_zero_or_pos len with h | h
   ·subst h; exact absurd rfl hne
   ·exact h
  have hcell:∀ i,i<len→∀ j,j<P.cellsOf e→W.cell? ((a.add (i*P.cellsOf e)).add j)=(c i)[j]?:=λ i hi=>(World.cells?_some (hc i hi).1).2.2
  have hclen:∀ i,i<len→(c i).length=P.cellsOf e:=λ i hi=>(World.cells?_some (hc i hi).1).2.1
  have hsp:a.spot=none:=by
   have h0:=hcell 0 hn0 0 hpos
   rw [List.getElem?_eq_getElem (by rw [hclen 0 hn0]; exact hpos)] at h0
   simpa [Addr.add] using World.cell?_spot h0
  obtain ⟨b,off,spot⟩:=a
  subst hsp
  have hcell':∀ i,i<len→∀ j,j<P.cellsOf e→W.cell? ⟨b,off+i*P.cellsOf e+j,none⟩=(c i)[j]?:=λ i hi j hj=>by
   have:=hcell i hi j hj
   rwa [add_mk,add_mk] at this
  have h00:=hcell' 0 hn0 0 hpos
  rw [List.getElem?_eq_getElem (by rw [hclen 0 hn0]; exact hpos)] at h00
  unfold World.cell? at h00
  cases hbk:W.heap[b]? with
  | none=>simp [hbk] at h00
  | some o =>
   cases o with
   | cells arr T fz =>
    refine ⟨b,off,arr,fz,rfl,⟨T,hbk⟩,λ i x hi=>?_⟩
    have hi':i<len:=by
     have:=(List.getElem?_eq_some_iff.1 hi).1
     simpa using this
    have hx:x=i:=by simp [hi'] at hi; exact hi.symm
    subst hx
    refine ⟨c x,hclen x hi',rfl,?_⟩
    apply List.ext_getElem?
    intro j
    rw [List.getElem?_take]
    split
    ·rename_i hj
     have:=hcell' x hi' j hj
     rw [List.getElem?_drop]
     simpa [World.cell?,hbk] using this
    ·rename_i hj
     rw [List.getElem?_eq_none (by rw [hclen x hi']; omega)]
   | _=>simp [hbk] at h00
theorem trod_i {t fuel:Nat} {cs:List Value} {x:DataW H×List MemPlace} (ht:P.underlying t=some (.int .i64)) (h:DataW.trod enc P W base spare held fuel t cs=some x):∃ n:Int,cs=[.int .i64 n] ∧ -9223372036854775808≤n∧n≤9223372036854775807:=by
 obtain ⟨n,h1,_,h2⟩:=DataW.trod_int ht h
 exact ⟨n,h1,int_bounds h2⟩
theorem trod_s {t fuel:Nat} {cs:List Value} {x:DataW H×List MemPlace} (ht:P.underlying t=some .string) (h:DataW.trod enc P W base spare held fuel t cs=some x):∃ s:List UInt8,cs=[vs s]∧s.length≤9223372036854775807:=by
 obtain ⟨s,h1,_,h2⟩:=DataW.trod_string ht h
 refine ⟨s.data.toList,by rw [h1],?_⟩
 simp only [maxLen] at h2
 have:s.data.toList.length=s.size:=by simp [← ByteArray.size_data]
 omega
end opens
end Go.Dx
namespace Go.Dx
open Go Go.RowKit
section eq
variable {md:Md} {P:Program} {w:World}
inductive PK where
 | i (k:IntKind)
 | b
 | s
def PK.ty (P:Program) (t:TypeId):PK→Prop
 | .i k=>P.underlying t=some (.int k)
 | .b=>P.underlying t=some .bool
 | .s=>P.underlying t=some .string
def PK.fits:PK→Value→Prop
 | .i k,v=>∃ n,v = .int k n
 | .b,v=>∃ c,v = .bool c
 | .s,v=>∃ l,v=vs l
def eqC:Value→Value→Bool
 | .int _ a,.int _ b=>decide (a=b)
 | .bool a,.bool b=>decide (a=b)
 | .string a,.string b=>decide (a.data.toList=b.data.toList)
 | _,_=>false
theorem run_eqC {d:Nat} {t:TypeId} {u v:Value} {k:PK} (ht:k.ty P t) (hu:k.fits u) (hv:k.fits v):(Op.equalIn (d+1) t u v).run P w = .ok (eqC u v) w:=by
 cases k with
 | i k =>
  obtain ⟨a,rfl⟩:=hu
  obtain ⟨b,rfl⟩:=hv
  rw [run_equalIn_int w d t k k a b ht]
  rfl
 | b =>
  obtain ⟨a,rfl⟩:=hu
  obtain ⟨b,rfl⟩:=hv
  rw [run_equalIn_bool' w d t a b ht]
  cases a <;> cases b <;> rfl
 | s =>
  obtain ⟨a,rfl⟩:=hu
  obtain ⟨b,rfl⟩:=hv
  unfold vs
  rw [run_equalIn_string w d t _ _ ht]
  congr 1
  simp only [ByteArray.toList_eq,eqC]
  exact Bool.eq_iff_iff.2 (by simp)
theorem run_partC {t:TypeId} {u:Value} {k:PK} {xs:Array Value} {off:Nat} (ht:k.ty P t) (hx:xs[off]?=some u):(part t xs off).run P w = .ok u w:=by
 cases k <;> exact run_part_plain w (by simp only [PK.ty] at ht; simp [Program.plainKey,ht]) hx
def FieldsAre (P:Program):List Field→List (Nat×PK)→Prop
 | [],[]=>True
 | f::fs,s::sp=>f.name ≠ "_" ∧ f.offset=s.1∧s.2.ty P f.type∧FieldsAre P fs sp
 | _,_=>False
def PK.tyB (P:Program) (t:TypeId):PK→Bool
 | .i k=>match P.underlying t with
  | some (.int k')=>decide (k'=k)
  | _=>false
 | .b=>match P.underlying t with
  | some .bool=>true
  | _=>false
 | .s=>match P.underlying t with
  | some .string=>true
  | _=>false
theorem PK.ty_of {t:TypeId} {k:PK} (h:k.tyB P t=true):k.ty P t:=by
 cases k <;> simp only [PK.tyB] at h <;> simp only [PK.ty] <;> split at h <;> simp_all
def fieldsB (P:Program):List Field→List (Nat×PK)→Bool
 | [],[]=>true
 | f::fs,s::sp=>f.name != "_" && decide (f.offset=s.1)&&s.2.tyB P f.type&&fieldsB P fs sp
 | _,_=>false
theorem FieldsAre.of:∀ {fs:List Field} {sp:List (Nat×PK)},fieldsB P fs sp=true→FieldsAre P fs sp
 | [],[],_=>trivial
 | f::fs,s::sp,h=>by
  simp only [fieldsB,Bool.and_eq_true,bne_iff_ne,ne_eq,decide_eq_true_eq] at h
  exact ⟨h.1.1.1,h.1.1.2,PK.ty_of h.1.2,FieldsAre.of h.2⟩
 | [],_::_,h=>by simp [fieldsB] at h
 | _::_,[],h=>by simp [fieldsB] at h
theorem run_eqFs {d:Nat} {xs ys:Array Value}:∀ {fs:List Field} {sp:List (Nat×PK)},FieldsAre P fs sp→(∀ s∈sp,∃ u v,xs[s.1]?=some u∧ys[s.1]?=some v∧s.2.fits u∧s.2.fits v) →
  (Op.eqFields (d+1) xs ys fs).run P w = .ok (sp.all λ s=>eqC (xs.getD s.1 undef) (ys.getD s.1 undef)) w
 | [],[],_,_=>rfl
 | f::fs,s::sp,⟨h1,h2,h3,h4⟩,hc=>by
  obtain ⟨u,v,hu,hv,fu,fv⟩:=hc s (by simp)
  have ih:=run_eqFs (d:=d) (xs:=xs) (ys:=ys) h4 λ s hs=>hc s (by simp [hs])
  have eu:xs.getD s.1 undef=u:=by simp [hu]
  have ev:ys.getD s.1 undef=v:=by simp [hv]
  rw [← h2] at hu hv
  simp only [Op.eqFields,h1,ne_eq,not_false_eq_true,if_true,Sem.run_bind,run_partC h3 hu,run_partC h3 hv,Result.andThen_ok,run_eqC h3 fu fv,List.all_cons,eu,ev]
  cases eqC u v
  ·simp
  ·simpa using ih
 | [],_::_,h,_=>h.elim
 | _::_,[],h,_=>h.elim
def EqT (P:Program) (t:TypeId) {α:Type} [DecidableEq α] (f:α→List Value):Prop :=
 P.eqGuardType P.depth t=false∧∀ (w:World) (a b:α),(Op.equalIn 10000 t (.agg (f a).toArray) (.agg (f b).toArray)).run P w = .ok (decide (a=b)) w
theorem EqT.of {α:Type} [DecidableEq α] {t:TypeId} {f:α→List Value} (sp:List (Nat×PK)) (hg:P.eqGuardType P.depth t=false) (hs:P.stoodInHeld t=false) (ht:P.underlying t=some (.struct (P.fieldsOf t)))
  (hf:fieldsB P (P.fieldsOf t).toList sp=true) (hc:∀ a b:α,∀ s∈sp,∃ u v,(f a)[s.1]?=some u∧(f b)[s.1]?=some v∧s.2.fits u∧s.2.fits v)
  (he:∀ a b:α,(sp.all λ s=>eqC ((f a).toArray.getD s.1 undef) ((f b).toArray.getD s.1 undef))=decide (a=b)):EqT P t f:=by
 refine ⟨hg,λ w a b=>?_⟩
 rw [show (10000:Nat)=9998+1+1 from rfl,run_equalIn_struct w _ t _ _ ht hs,run_eqFs (FieldsAre.of hf) (λ s hs=>by
  obtain ⟨u,v,h1,h2,h3,h4⟩:=hc a b s hs
  exact ⟨u,v,by simpa using h1,by simpa using h2,h3,h4⟩),he a b]
variable {L:FL} {op:Op} {d:Option Nat} {ty t t' T e:TypeId} {pos:String} {af:Array Edge} {g:Option (Nat×Bool)} {x y:Operand} {α:Type} [DecidableEq α] {f:α→List Value} {a b:α}
def FldV (P:Program) (t i off:Nat):Prop:=∃ (fs:Array Field) (f:Field),P.underlying t=some (.struct fs)∧fs[i]?=some f∧f.offset=off∧(P.underlying f.type).map aggB=some false
def fldVB (P:Program) (t i:Nat):Option (Nat×Option Bool):=match P.underlying t with
 | some (.struct fs)=>(fs[i]?).map λ f=>(f.offset,(P.underlying f.type).map aggB)
 | _=>none
theorem FldV.of {i off:Nat} (h:fldVB P t i=some (off,some false)):FldV P t i off:=by
 unfold fldVB at h
 split at h
 ·rename_i fs hu
  cases hf:fs[i]? with
  | none=>simp [hf] at h
  | some f=>simp [hf] at h; exact ⟨fs,f,hu,hf,h.1,by simpa using h.2⟩
 ·cases h
theorem pu_field {i off:Nat} {cs:List Value} {v:Value} (hf:FldV P t i off) (hx:ev L x=some (.agg cs.toArray)) (hv:cs[off]?=some v):Pu P L ⟨d,.field t x i,ty,pos,af,g⟩ w v:=by
 obtain ⟨fs,f,hu,hi,rfl,hk⟩:=hf
 intro ρ hρ
 have hp:(part f.type cs.toArray f.offset).run P w = .ok v w:=by
  cases hu:P.underlying f.type with
  | none=>simp [hu] at hk
  | some q =>
   have hq:aggB q=false:=by simpa [hu] using hk
   cases q <;> simp [aggB] at hq <;> simp [part,isAgg,run_underlying hu,hv]
 simp only [execOp,hρ x (by simp [Op.operands]) _ hx,Instr.field,Sem.run_bind,run_underlying hu,Result.andThen_ok,hi,asAgg,Sem.run_pure,hp]
end eq
section calls
variable {md:Md} {P:Program} {opsA:Array Oper} {rest:List Oper} {Q:Exit→Act→World→Prop} {a:Act} {w w0:World} {h0:View} {M:List Nat} {O:List OE} {F:View→Prop} {n:Nat} {L:FL}
variable {op:Op} {d:Option Nat} {ty t t2 T e:TypeId} {pos:String} {af:Array Edge} {g:Option (Nat×Bool)} {x y:Operand}
end calls
section idx
variable {α:Type} {p:α→Bool} {l:List α}
def idxS (p:α→Bool) (l:List α):Int:=match l.findIdx? p with
 | some i=>(i:Int)
 | none => -1
theorem idx_hit (d:α) {k:Nat} (hk:k<l.length) (hn:∀ j,j<k→p (l.getD j d)=false) (hp:p (l.getD k d)=true):idxS p l=(k:Int):=by
 have e:l.findIdx? p=some k:=by
  rw [List.findIdx?_eq_some_iff_getElem]
  refine ⟨hk,by simpa [List.getD,hk] using hp,λ j hj=>?_⟩
  have:=hn j hj
  simpa [List.getD,show j<l.length by omega] using this
 unfold idxS
 rw [e]
theorem idx_none (d:α) (hn:∀ j,j<l.length→p (l.getD j d)=false):idxS p l = -1:=by
 have e:l.findIdx? p=none:=by
  rw [List.findIdx?_eq_none_iff]
  intro x hx
  obtain ⟨j,hj⟩:=List.mem_iff_getElem?.1 hx
  have hlt:=(List.getElem?_eq_some_iff.1 hj).1
  have:=hn j hlt
  simpa [List.getD,hj] using this
 unfold idxS
 rw [e]
theorem idx_cases (d:α):(idxS p l = -1∧∀ j,j<l.length→p (l.getD j d)=false)∨∃ k:Nat,idxS p l=(k:Int)∧k<l.length∧p (l.getD k d)=true∧∀ j,j<k→p (l.getD j d)=false:=by
 cases h:l.findIdx? p with
 | none =>
  refine .inl ⟨by simp [idxS,h],λ j hj=>?_⟩
  rw [List.findIdx?_eq_none_iff] at h
  have:=h (l.getD j d) (by simp [List.getD,hj])
  simpa using this
 | some k =>
  have h2:=List.findIdx?_eq_some_iff_getElem.1 h
  obtain ⟨hk,hp,hn⟩:=h2
  refine .inr ⟨k,by simp [idxS,h],hk,by simpa [List.getD,hk] using hp,λ j hj=>?_⟩
  have:=hn j hj
  simpa [List.getD,show j<l.length by omega] using this
theorem idx_any:decide (0≤idxS p l)=l.any p:=by
 cases h:l.findIdx? p with
 | none =>
  have h2:=List.findIdx?_eq_none_iff.1 h
  have:l.any p=false:=by simpa using h2
  rw [this]; simp [idxS,h]
 | some k =>
  obtain ⟨hk,hp,_⟩:=List.findIdx?_eq_some_iff_getElem.1 h
  have:l.any p=true:=by rw [List.any_eq_true]; exact ⟨l[k],List.getElem_mem hk,hp⟩
  rw [this]; simp [idxS,h]
theorem all_upto (d:α) (h:∀ j,j<l.length→p (l.getD j d)=true):l.all p=true:=by
 rw [List.all_eq_true]
 intro x hx
 obtain ⟨j,hj⟩:=List.mem_iff_getElem?.1 hx
 have hlt:=(List.getElem?_eq_some_iff.1 hj).1
 have:=h j hlt
 simpa [List.getD,hj] using this
theorem all_not (d:α) {k:Nat} (hk:k<l.length) (h:p (l.getD k d)=false):l.all p=false:=by
 rw [List.all_eq_false]
 exact ⟨l.getD k d,by simp [List.getD,hk],by rw [h]; decide⟩
end idx
end Go.Dx
namespace Go.Dx
open Go Go.RowKit
section q
variable {P:Program} {ops:Array Oper} {Qf:SP→(Nat→VP)→Prop} {rest:List Oper} {Γ:Nat→VP} {L:FL} {w w0:World} {h0:View} {M:List Nat} {O:List OE} {F:View→Prop} {ty t t2 T e:TypeId} {pos:String} {af:Array Edge}
end q
end Go.Dx
namespace Go.Dx
open Go Go.RowKit
section mk
variable {md:Md} {P:Program} {opsA:Array Oper} {rest:List Oper} {Q:Exit→Act→World→Prop} {a:Act} {w w0:World} {h0:View} {M:List Nat} {O:List OE} {F:View→Prop} {n:Nat} {L:FL}
variable {op:Op} {d:Option Nat} {ty t t2 T e:TypeId} {pos:String} {af:Array Edge} {g:Option (Nat×Bool)} {x y:Operand}
theorem keep_below {w w':World} (h:Below w.heap.size w w') (hd:w.drawn≤w'.drawn):Keep [] w w':=⟨h.os,h.tape,h.output,hd,h.size,λ k hk _=>h.block k hk⟩
theorem calls_below {f:FuncId} {args:Array Value} {v:Value} {h:View} (H:Calls P f args w λ e w'=>e = .returned v∧Below w.heap.size w w'∧w.drawn≤w'.drawn):Calls P f args w (Ret w h λ u _=>u=v) :=
 H.mono λ e w' ⟨he,hb,hd⟩=>⟨v,he,keep_below hb hd,rfl⟩
end mk
end Go.Dx
namespace Go.Dx
open Go Go.RowKit
def AR (w:World) (z nw:Obj) (a b:World):Prop :=
 b.os=a.os∧b.tape=a.tape∧b.output=a.output∧a.drawn≤b.drawn∧a.heap.size≤b.heap.size∧∀ k,k<a.heap.size→b.heap[k]?=a.heap[k]?∨(w.heap.size≤k∧a.heap[k]?=some z∧b.heap[k]?=some nw)
theorem AR.refl (w:World) (z nw:Obj) (a:World):AR w z nw a a:=⟨rfl,rfl,rfl,Nat.le_refl _,Nat.le_refl _,λ _ _ => .inl rfl⟩
theorem AR.trans {w:World} {z nw:Obj} {a b c:World} (h:AR w z nw a b) (k:AR w z nw b c):AR w z nw a c:=by
 refine ⟨k.1.trans h.1,k.2.1.trans h.2.1,k.2.2.1.trans h.2.2.1,Nat.le_trans h.2.2.2.1 k.2.2.2.1,Nat.le_trans h.2.2.2.2.1 k.2.2.2.2.1,λ i hi=>?_⟩
 have h1:=h.2.2.2.2.2 i hi
 have h2:=k.2.2.2.2.2 i (Nat.lt_of_lt_of_le hi h.2.2.2.2.1)
 rcases h1 with h1 | ⟨h1,h3,h4⟩
 ·rcases h2 with h2 | ⟨h2,h5,h6⟩
  ·exact .inl (h2.trans h1)
  ·exact .inr ⟨h2,h1 ▸ h5,h6⟩
 ·rcases h2 with h2 | ⟨h2,h5,h6⟩
  ·exact .inr ⟨h1,h3,h2.trans h4⟩
  ·exact .inr ⟨h1,h3,h6⟩
theorem AR.of_keep {w:World} {z nw:Obj} {a b:World} (h:Keep [] a b):AR w z nw a b:=⟨h.os,h.tape,h.output,h.drawn,h.size,λ k hk => .inl (h.block k hk (by simp))⟩
instance (w:World) (z nw:Obj):Rel (AR w z nw):=⟨AR.refl w z nw,λ _ _ _ h k=>h.trans (.of_keep k)⟩
theorem AR.keep {w:World} {z nw:Obj} {w1:World} (h:AR w z nw w w1):Keep [] w w1:=⟨h.1,h.2.1,h.2.2.1,h.2.2.2.1,h.2.2.2.2.1,λ k hk _=>by
 rcases h.2.2.2.2.2 k hk with h1 | ⟨h1,_⟩
 ·exact h1
 ·omega⟩
section al
variable {P:Program} {w w0:World} {h0:View} {M:List Nat} {O:List OE} {F:View→Prop} {Q:Exit→Act→World→Prop} {a:Act} {sz id:Nat} {l rest:List Oper} {L:FL}
variable {ops:Array Oper} {Qf:SP→(Nat→VP)→Prop} {Γ:Nat→VP} {t T:TypeId} {x y:Operand} {ty:TypeId} {pos:String} {af:Array Edge} {zc new:List Value}
end al
end Go.Dx
namespace Go.Dx
open Go Go.RowKit
section
variable {P:Program} {L:FL} {w:World} {d:Option Nat} {ty t t':TypeId} {pos:String} {af:Array Edge} {g:Option (Nat×Bool)} {x y:Operand}
theorem pu_min {k k':IntKind} {m n r:Int} {ats:Array TypeId} (hx:ev L x=some (.int k m)) (hy:ev L y=some (.int k' n)) (hr:(if n<m then n else m)=r):Pu P L ⟨d,.call ⟨.builtin .min,#[x,y],ats⟩,ty,pos,af,g⟩ w (.int k r):=by
 subst hr
 intro ρ hρ
 simp [execOp,resolve,invoke,builtin,hρ x (by simp [Op.operands,Call.operands]) _ hx,hρ y (by simp [Op.operands,Call.operands]) _ hy,Builtin.min_,Builtin.min2]
theorem pu_max {k k':IntKind} {m n r:Int} {ats:Array TypeId} (hx:ev L x=some (.int k m)) (hy:ev L y=some (.int k' n)) (hr:(if m<n then n else m)=r):Pu P L ⟨d,.call ⟨.builtin .max,#[x,y],ats⟩,ty,pos,af,g⟩ w (.int k r):=by
 subst hr
 intro ρ hρ
 simp [execOp,resolve,invoke,builtin,hρ x (by simp [Op.operands,Call.operands]) _ hx,hρ y (by simp [Op.operands,Call.operands]) _ hy,Builtin.max_,Builtin.max2]
end
def I64 (n:Int):Prop := -9223372036854775808≤n∧n≤9223372036854775807
def codeN (n:Int):Nat:=if n<0 then 2*(-1 - n).toNat+1 else 2*n.toNat
def vnum (c:Nat):List UInt8:=if c<128 then [UInt8.ofNat c] else UInt8.ofNat (128+c % 128)::vnum (c / 128)
def numS (n:Int):List UInt8:=vnum (codeN n)
def textS (s:List UInt8):List UInt8:=numS s.length++s
theorem byte_lo {m:Nat} (h:m<256):(UInt8.ofNat m).toNat=m:=by simp; omega
section
variable {P:Program}
theorem run_eqArr {d n:Nat} {t e:TypeId} {k:PK} (ht:P.underlying t=some (.array n e)) (hz:SzIs P e 1) (hk:k.ty P e) {xs ys:Array Value} (hc:∀ i,i<n→∃ u v,xs[i]?=some u∧ys[i]?=some v∧k.fits u∧k.fits v) (w:World) :
  (Op.equalIn (d+2) t (.agg xs) (.agg ys)).run P w = .ok ((List.range n).all λ i=>eqC (xs.getD i undef) (ys.getD i undef)) w:=by
 obtain ⟨inf,hi,hs⟩:=hz
 have hz:∀ w,(sizeOf e).run P w = .ok 1 w:=λ w=>by rw [← hs]; simp [sizeOf,typeInfo,hi]
 rw [Op.equalIn]
 simp only [Sem.run_bind,run_underlying ht,Result.andThen_ok,hz]
 simp only [Std.Legacy.Range.forIn_eq_forIn_range',Std.Legacy.Range.size,Nat.sub_zero,Nat.add_sub_cancel,Nat.div_one,Nat.mul_one]
 rw [← List.range_eq_range']
 have hl:∀ i∈List.range n,i<n:=λ i hi=>List.mem_range.1 hi
 generalize List.range n=l at hl
 induction l with
 | nil=>simp
 | cons i l ih =>
  obtain ⟨u,v,hu,hv,fu,fv⟩:=hc i (hl i (by simp))
  have eu:xs.getD i undef=u:=by simp [hu]
  have ev:ys.getD i undef=v:=by simp [hv]
  have ih:=ih λ j hj=>hl j (by simp [hj])
  simp only [List.forIn_cons,Sem.run_bind,run_partC hk hu,run_partC hk hv,Result.andThen_ok,run_eqC hk fu fv,List.all_cons,eu,ev]
  cases eqC u v
  ·simp
  ·simpa using ih
theorem EqT.ofArr {α:Type} [DecidableEq α] {t e:TypeId} {f:α→List Value} (n:Nat) (k:PK) (hg:P.eqGuardType P.depth t=false) (ht:P.underlying t=some (.array n e)) (hz:SzIs P e 1) (hk:k.ty P e)
  (hc:∀ a b:α,∀ i,i<n→∃ u v,(f a)[i]?=some u∧(f b)[i]?=some v∧k.fits u∧k.fits v)
  (he:∀ a b:α,((List.range n).all λ i=>eqC ((f a).toArray.getD i undef) ((f b).toArray.getD i undef))=decide (a=b)):EqT P t f:=by
 refine ⟨hg,λ w a b=>?_⟩
 rw [show (10000:Nat)=9998+2 from rfl,run_eqArr ht hz hk (λ i hi=>by
  obtain ⟨u,v,h1,h2,h3,h4⟩:=hc a b i hi
  exact ⟨u,v,by simpa using h1,by simpa using h2,h3,h4⟩),he a b]
end
theorem less_cmp:∀ a b:List UInt8,Op.bytesLess a b=decide (Lib.compareBytes a b = -1)
 | [],[]=>rfl
 | [],_::_=>rfl
 | _::_,[]=>rfl
 | a::as,b::bs=>by
  unfold Op.bytesLess Lib.compareBytes
  by_cases h1:a<b
  ·simp [h1]
  ·by_cases h2:b<a
   ·have:¬ a=b:=λ e=>by subst e; exact h1 h2
    simp [h1,h2,this]
   ·have:a=b:=UInt8.le_antisymm (UInt8.not_lt.1 h2) (UInt8.not_lt.1 h1)
    subst this
    simp [h1,less_cmp as bs]
theorem cmp_refl:∀ a:List UInt8,Lib.compareBytes a a=0
 | []=>rfl
 | a::as=>by unfold Lib.compareBytes; simp [cmp_refl as]
theorem cmp_zero:∀ {a b:List UInt8},Lib.compareBytes a b=0→a=b
 | [],[],_=>rfl
 | [],_::_,h=>by cases h
 | _::_,[],h=>by cases h
 | a::as,b::bs,h=>by
  unfold Lib.compareBytes at h
  by_cases h1:a<b
  ·simp [h1] at h
  ·by_cases h2:b<a
   ·simp [h1,h2] at h
   ·simp [h1,h2] at h
    have hab:a=b:=UInt8.le_antisymm (UInt8.not_lt.1 h2) (UInt8.not_lt.1 h1)
    rw [hab,cmp_zero h]
theorem cmp_three:∀ a b:List UInt8,Lib.compareBytes a b = -1∨Lib.compareBytes a b=0∨Lib.compareBytes a b=1
 | [],[] => .inr (.inl rfl)
 | [],_::_ => .inl rfl
 | _::_,[] => .inr (.inr rfl)
 | a::as,b::bs=>by
  unfold Lib.compareBytes
  by_cases h1:a<b
  ·simp [h1]
  ·by_cases h2:b<a
   ·simp [h1,h2]
   ·simp only [h1,h2,if_false]; exact cmp_three as bs
theorem cmp_swap:∀ a b:List UInt8,Lib.compareBytes b a = -Lib.compareBytes a b
 | [],[]=>rfl
 | [],_::_=>rfl
 | _::_,[]=>rfl
 | a::as,b::bs=>by
  unfold Lib.compareBytes
  by_cases h1:a<b
  ·have h2:¬ b<a:=λ h=>UInt8.lt_irrefl _ (UInt8.lt_trans h1 h)
   simp [h1,h2]
  ·by_cases h2:b<a
   ·simp [h1,h2]
   ·simp [h1,h2,cmp_swap as bs]
theorem cmp_trans:∀ a b c:List UInt8,Lib.compareBytes a b = -1→Lib.compareBytes b c = -1→Lib.compareBytes a c = -1
 | [],[],_,h,_=>by cases h
 | [],_::_,[],_,h=>by cases h
 | [],_::_,_::_,_,_=>rfl
 | _::_,[],_,h,_=>by cases h
 | _::_,_::_,[],_,h=>by cases h
 | a::as,b::bs,c::cs,h,k=>by
  unfold Lib.compareBytes at h k ⊢
  by_cases h1:a<b
  ·by_cases k1:b<c
   ·simp [UInt8.lt_trans h1 k1]
   ·by_cases k2:c<b
    ·simp [k1,k2] at k
    ·have:b=c:=UInt8.le_antisymm (UInt8.not_lt.1 k2) (UInt8.not_lt.1 k1)
     subst this; simp [h1]
  ·by_cases h2:b<a
   ·simp [h1,h2] at h
   ·have:a=b:=UInt8.le_antisymm (UInt8.not_lt.1 h2) (UInt8.not_lt.1 h1)
    subst this
    by_cases k1:a<c
    ·simp [k1]
    ·by_cases k2:c<a
     ·simp [k1,k2] at k
     ·simp only [k1,k2,h1,if_false] at h k ⊢
      exact cmp_trans as bs cs h k
section
variable {P:Program} {L:FL} {w:World} {d:Option Nat} {ty t t':TypeId} {pos:String} {af:Array Edge} {g:Option (Nat×Bool)} {x y:Operand} {l l':List UInt8}
theorem pu_slt (hx:ev L x=some (vs l)) (hy:ev L y=some (vs l')):Pu P L ⟨d,.binOp .lss t x y t',ty,pos,af,g⟩ w (.bool (decide (Lib.compareBytes l l' = -1))):=by
 intro ρ hρ
 have e:binOp .lss t (vs l) (vs l')=pure (.bool (decide (Lib.compareBytes l l' = -1))):=by rw [binOp_string_lss,less_cmp]; simp [toList_mk]
 simp only [execOp,hρ x (by simp [Op.operands]) _ hx,hρ y (by simp [Op.operands]) _ hy,Sem.run_bind,e]
 simp [eqGuard]
end
section
variable {md:Md} {P:Program} {opsA:Array Oper} {rest:List Oper} {Q:Exit→Act→World→Prop} {a:Act} {w w0:World} {h0:View} {M:List Nat} {O:List OE} {F:View→Prop} {n:Nat} {L:FL} {T ty:TypeId} {pos:String} {af:Array Edge}
end
theorem calls_same {P:Program} {w:World} {f:FuncId} {args:Array Value} {v:Value} {h:View} (H:Calls P f args w λ e w'=>e = .returned v∧w'=w):Calls P f args w (Ret w h λ u _=>u=v) :=
 calls_below (H.mono λ e w' ⟨he,hw⟩=>⟨he,by subst hw; exact ⟨Below.refl _ _,Nat.le_refl _⟩⟩)
end Go.Dx
namespace Go.Proofs.YtbmmnalndollkaaGreatDoor
open Go Go.Dx Go.RowKit
structure Val where
 k:Int
 n:Int
 s:List UInt8
deriving DecidableEq
def v0:Val:=⟨0,0,[]⟩
def valC (v:Val):List Value:=[.int .i64 v.k,.int .i64 v.n,vs v.s]
def i64 (n:Int):Prop := -9223372036854775808≤n∧n≤9223372036854775807
def valB (v:Val):Prop:=i64 v.k∧i64 v.n
def plainS (s:List UInt8):Bool:=decide (s.length≤40)&&s.all λ b=>decide (32≤(b.toNat:Int))&&decide ((b.toNat:Int)≤126)
def plB (b:UInt8):Bool:=decide (32≤(b.toNat:Int))&&decide ((b.toNat:Int)≤126)
theorem pl_yes {b:UInt8} (h1:¬ (b.toNat:Int)<32) (h2:¬ (b.toNat:Int) > 126):plB b=true:=by simp [plB]; omega
theorem pl_no {b:UInt8} (h:(b.toNat:Int)<32∨(b.toNat:Int) > 126):plB b=false:=by simp [plB]; omega
theorem plain_not {s:List UInt8} {k:Nat} (hk:k<s.length) (h:plB (s.getD k 0)=false):plainS s=false:=by
 have:=all_not (p:=plB) 0 hk h
 rw [plainS,show (s.all λ b=>decide (32≤(b.toNat:Int))&&decide ((b.toNat:Int)≤126))=s.all plB from rfl,this,Bool.and_false]
theorem plain_no {s:List UInt8} {k:Nat} (hk:k<s.length) (h:((s.getD k 0).toNat:Int)<32∨((s.getD k 0).toNat:Int) > 126):plainS s=false:=plain_not hk (pl_no h)
theorem plain_len (s:List UInt8) (h:∀ j,j<s.length→plB (s.getD j 0)=true):decide ((s.length:Int)≤40)=plainS s:=by
 have:=all_upto (p:=plB) 0 h
 rw [plainS,show (s.all λ b=>decide (32≤(b.toNat:Int))&&decide ((b.toNat:Int)≤126))=s.all plB from rfl,this,Bool.and_true]
 exact Bool.eq_iff_iff.2 (by simp; omega)
theorem plain_long {s:List UInt8} (h:40<s.length):plainS s=false:=by rw [plainS,decide_eq_false (by omega),Bool.false_and]
theorem plain_all {s:List UInt8} (h0:s.length≤40) (h:∀ j,j<s.length→plB (s.getD j 0)=true):plainS s=true:=by rw [← plain_len s h]; simp; omega
theorem dec_plain {s:List UInt8} {k:Nat} (hk:k<s.length) (h1:¬ ((Utf8.decode ⟨s.toArray⟩ k).1:Int)<32) (h2:¬ ((Utf8.decode ⟨s.toArray⟩ k).1:Int) > 126):plB (s.getD k 0)=true∧(Utf8.decode ⟨s.toArray⟩ k).2=1:=by
 rcases Nat.lt_or_ge (s.getD k 0).toNat 128 with h | h
 ·have e:=decode_lo hk h
  rw [e] at h1 h2 ⊢
  exact ⟨pl_yes h1 h2,rfl⟩
 ·have:=(decode_hi hk h).1
  omega
theorem dec_bad {s:List UInt8} {k:Nat} (hk:k<s.length) (h1:((Utf8.decode ⟨s.toArray⟩ k).1:Int)<32∨((Utf8.decode ⟨s.toArray⟩ k).1:Int) > 126):plB (s.getD k 0)=false:=by
 rcases Nat.lt_or_ge (s.getD k 0).toNat 128 with h | h
 ·have e:=decode_lo hk h
  rw [e] at h1
  exact pl_no h1
 ·exact pl_no (by omega)
theorem andnot1 {n:Int} (h:i64 n) {r:Int} (hr:IntKind.i64.wrap ((BitVec.ofInt IntKind.i64.bits n &&& ~~~ BitVec.ofInt IntKind.i64.bits 1).toNat:Int)=r):(r=0)↔(n=0∨n=1):=by
 subst hr
 constructor
 ·intro hw
  have hz:(BitVec.ofInt IntKind.i64.bits n &&& ~~~ BitVec.ofInt IntKind.i64.bits 1).toNat=0:=by
   have hlt:=(BitVec.ofInt IntKind.i64.bits n &&& ~~~ BitVec.ofInt IntKind.i64.bits 1).isLt
   generalize (BitVec.ofInt IntKind.i64.bits n &&& ~~~ BitVec.ofInt IntKind.i64.bits 1).toNat=m at *
   have hb:IntKind.i64.bits=64:=rfl
   rw [hb] at hlt
   simp only [IntKind.wrap,IntKind.bits,IntKind.signed] at hw
   omega
  have hx:(BitVec.ofInt IntKind.i64.bits n).toNat<2 ^ 1:=by
   refine Nat.lt_pow_two_of_testBit _ λ i hi=>?_
   have e:(BitVec.ofInt IntKind.i64.bits n &&& ~~~ BitVec.ofInt IntKind.i64.bits 1)=0#_:=BitVec.eq_of_toNat_eq (by simpa using hz)
   have e2:=congrArg (λ x=>x.getLsbD i) e
   simp only [BitVec.getLsbD_and,BitVec.getLsbD_not,BitVec.getLsbD_zero] at e2
   rw [BitVec.testBit_toNat]
   by_cases hi2:i<IntKind.i64.bits
   ·have:(BitVec.ofInt IntKind.i64.bits 1).getLsbD i=false:=by
     rw [show BitVec.ofInt IntKind.i64.bits 1=1#IntKind.i64.bits from rfl,BitVec.getLsbD_one]
     simp; omega
    rw [this] at e2
    simpa only [hi2,decide_true,Bool.true_and,Bool.not_false,Bool.and_true] using e2
   ·exact BitVec.getLsbD_of_ge _ _ (by omega)
  rw [BitVec.toNat_ofInt] at hx
  have hb:IntKind.i64.bits=64:=rfl
  rw [hb] at hx
  unfold i64 at h
  omega
 ·rintro (rfl | rfl) <;> decide
def valOk (v:Val):Bool :=
 if v.k=0 then decide (v.n=0)&&decide (v.s=[]) else if v.k=1 then decide (v.s=[]) else if v.k=2 then decide (v.n=0)&&plainS v.s
 else if v.k=3 then decide (v.s=[])&&(decide (v.n=0)||decide (v.n=1)) else false
theorem upto_snoc {P:Nat→Prop} {k:Nat} (h:∀ j,j<k→P j) (hk:P k):∀ j,j<k+1→P j:=by
 intro j hj
 rcases Nat.lt_or_ge j k with h1 | h1
 ·exact h j h1
 ·rw [show j=k by omega]; exact hk
theorem getD_mem {α:Type} (l:List α) (k:Nat) (d:α) (h:k<l.length):l.getD k d∈l:=by
 simp [List.getD,h]
theorem getD_lt {α:Type} (l:List α) (k:Nat) (d:α) (h:k<l.length):l.getD k d=l[k]:=by
 simp [List.getD,h]
theorem valOk_cases {v:Val} (h:valOk v=true):(v.k=0∧v.n=0∧v.s=[])∨(v.k=1∧v.s=[])∨(v.k=2∧v.n=0∧plainS v.s=true)∨(v.k=3∧v.s=[]∧(v.n=0∨v.n=1)):=by
 unfold valOk at h
 split at h
 ·simp at h; exact .inl ⟨by assumption,h.1,h.2⟩
 ·split at h
  ·simp at h; exact .inr (.inl ⟨by assumption,h⟩)
  ·split at h
   ·simp at h; exact .inr (.inr (.inl ⟨by assumption,h.1,h.2⟩))
   ·split at h
    ·simp at h; exact .inr (.inr (.inr ⟨by assumption,h.1,h.2⟩))
    ·cases h
theorem plain_40 {s:List UInt8} (h:plainS s=true):s.length≤40:=by
 simp only [plainS,Bool.and_eq_true,decide_eq_true_eq] at h; exact h.1
theorem valOk_40 {v:Val} (h:valOk v=true):v.s.length≤40:=by
 rcases valOk_cases h with ⟨_,_,h⟩ | ⟨_,h⟩ | ⟨_,_,h⟩ | ⟨_,h,_⟩
 ·simp [h]
 ·simp [h]
 ·exact plain_40 h
 ·simp [h]
def cmpI (x y:Int):Int:=if x<y then -1 else if y<x then 1 else 0
def cmpV (a b:Val):Int:=if cmpI a.k b.k≠0 then cmpI a.k b.k else if cmpI a.n b.n≠0 then cmpI a.n b.n else Lib.compareBytes a.s b.s
def lessV (a b:Val):Prop:=a.k<b.k∨(a.k=b.k∧(a.n<b.n∨(a.n=b.n∧Lib.compareBytes a.s b.s = -1)))
theorem cmp_less {a b:Val} (h:lessV a b):cmpV a b = -1:=by
 unfold cmpV cmpI
 rcases h with h | ⟨h,h2 | ⟨h2,h3⟩⟩
 ·simp [h]
 ·simp [h,h2]
 ·simp [h,h2,h3]
theorem cmp_same (a:Val):cmpV a a=0:=by simp [cmpV,cmpI,cmp_refl]
theorem cmp_more {a b:Val} (h:¬ lessV a b) (hn:¬ a=b):cmpV a b=1:=by
 obtain ⟨k,n,s⟩:=a
 obtain ⟨k',n',s'⟩:=b
 simp only [lessV,not_or] at h
 obtain ⟨h1,h2⟩:=h
 unfold cmpV cmpI
 simp only at h1 h2 ⊢
 by_cases hk:k'<k
 ·simp [h1,hk]
 ·have:k=k':=by omega
  subst this
  have h2:¬ (n<n'∨n=n'∧Lib.compareBytes s s' = -1):=λ h=>h2 ⟨rfl,h⟩
  by_cases hn1:n'<n
  ·have:¬ n<n':=by omega
   simp [this,hn1]
  ·have:n=n':=by
    rcases Int.lt_or_le n n' with h | h
    ·exact absurd (.inl h) h2
    ·omega
   subst this
   simp only [Int.lt_irrefl,if_false,ne_eq,not_true_eq_false]
   rcases cmp_three s s' with h | h | h
   ·exact absurd (.inr ⟨rfl,h⟩) h2
   ·rw [cmp_zero h] at hn; exact absurd rfl hn
   ·exact h
def orI (l:List Int):Int:=(l.find? λ x => !decide (x=0)).getD 0
theorem orI_three (a b c:Int):orI [a,b,c]=if a≠0 then a else if b≠0 then b else c:=by
 by_cases ha:a=0
 ·by_cases hb:b=0
  ·by_cases hc:c=0
   ·simp [orI,ha,hb,hc]
   ·simp [orI,ha,hb,hc]
  ·simp [orI,ha,hb]
 ·simp [orI,ha]
theorem orI_hit (l:List Int) (k:Nat) (hk:k<l.length) (hn:∀ j,j<k→l.getD j 0=0) (h:¬ l.getD k 0=0):orI l=l.getD k 0:=by
 have e:l.find? (λ x => !decide (x=0))=some (l.getD k 0):=by
  rw [List.find?_eq_some_iff_getElem]
  refine ⟨by simpa using h,k,hk,by simp [hk],λ j hj=>?_⟩
  have:=hn j hj
  simpa [List.getD,show j<l.length by omega] using this
 rw [orI,e]; rfl
theorem orI_none (l:List Int) (hn:∀ j,j<l.length→l.getD j 0=0):orI l=0:=by
 have e:l.find? (λ x => !decide (x=0))=none:=by
  rw [List.find?_eq_none]
  intro b hb
  obtain ⟨j,hj⟩:=List.mem_iff_getElem?.1 hb
  have hlt:=(List.getElem?_eq_some_iff.1 hj).1
  have:=hn j hlt
  simpa [List.getD,hj] using this
 rw [orI,e]; rfl
def quS (s:List UInt8):List UInt8:=34::(s.flatMap λ b=>if b=34∨b=92 then [92,b] else [b])++[34]
end Go.Proofs.YtbmmnalndollkaaGreatDoor
namespace Go.Proofs.YtbmmnalndollkaaGreatDoor
open Go Go.Dx Go.RowKit
theorem take_snoc {α:Type} (l:List α) (k:Nat) (h:k<l.length):l.take (k+1)=l.take k++[l[k]]:=by
 rw [List.take_succ_eq_append_getElem h]
theorem take_snocD {α:Type} (l:List α) (k:Nat) (d:α) (h:k<l.length):l.take (k+1)=l.take k++[l.getD k d]:=by rw [take_snoc l k h,getD_lt l k d h]
theorem u8_all {p:Nat→Prop} (h:∀ n<256,p n) (b:UInt8):p b.toNat:=h _ b.toNat_lt
def low (b:UInt8):Int:=IntKind.u8.wrap ((BitVec.ofInt IntKind.u8.bits (b.toNat:Int) ||| BitVec.ofInt IntKind.u8.bits 32).toNat:Int)
def isLet (b:UInt8):Bool:=decide (97≤low b)&&decide (low b≤122)||decide ((b.toNat:Int)=95)
def isDig (b:UInt8):Bool:=decide (48≤(b.toNat:Int))&&decide ((b.toNat:Int)≤57)
theorem isLet_ref (b:UInt8):isLet b=(decide (97≤(b.toNat:Int))&&decide ((b.toNat:Int)≤122)||decide (65≤(b.toNat:Int))&&decide ((b.toNat:Int)≤90)||decide ((b.toNat:Int)=95)):=by
 unfold isLet low
 exact u8_all (p:=λ n=>(decide (97≤IntKind.u8.wrap ((BitVec.ofInt IntKind.u8.bits (n:Int) ||| BitVec.ofInt IntKind.u8.bits 32).toNat:Int))&&decide (IntKind.u8.wrap ((BitVec.ofInt IntKind.u8.bits (n:Int) ||| BitVec.ofInt IntKind.u8.bits 32).toNat:Int)≤122)||decide ((n:Int)=95))=(decide (97≤(n:Int))&&decide ((n:Int)≤122)||decide (65≤(n:Int))&&decide ((n:Int)≤90)||decide ((n:Int)=95))) (by decide +kernel) b
def isWord (b:UInt8):Bool:=isLet b||isDig b
theorem tw_len (p:UInt8→Bool):∀ (s:List UInt8) (k:Nat),(s.take k).all p=true→k≤s.length→(k=s.length∨p (s.getD k 0)=false)→(s.takeWhile p).length=k
 | [],k,_,hk,_=>by simp at hk; subst hk; rfl
 | b::s,0,_,_,h=>by
  have:p b=false:=by simpa using h
  simp [List.takeWhile_cons,this]
 | b::s,k+1,ha,hk,h=>by
  simp only [List.take_succ_cons,List.all_cons,Bool.and_eq_true] at ha
  rw [List.takeWhile_cons_of_pos (by simpa using ha.1),List.length_cons,tw_len p s k ha.2 (by simpa using hk) (by simpa using h)]
theorem tw_le (p:UInt8→Bool) (s:List UInt8):(s.takeWhile p).length≤s.length:=by
 induction s with
 | nil=>simp
 | cons b s ih=>rw [List.takeWhile_cons]; split <;> simp; exact ih
def wordN (s:List UInt8):Nat:=match s with
 | []=>0
 | b::_=>bif isLet b then (s.takeWhile isWord).length else 0
theorem wordN_le (s:List UInt8):wordN s≤s.length:=by
 unfold wordN
 split
 ·simp
 ·cases isLet _
  ·simp
  ·exact tw_le _ _
theorem wordN_pos (s:List UInt8) (h:s≠[]) (hl:isLet (s.getD 0 0)=true):wordN s=(s.takeWhile isWord).length:=by
 match s,h with
 | b::s,_=>simp at hl; simp [wordN,hl]
theorem wordN_zero (s:List UInt8) (h:s=[]∨isLet (s.getD 0 0)=false):wordN s=0:=by
 match s,h with
 | [],_=>rfl
 | b::s,h=>simp at h; simp [wordN,h]
theorem wordN_posit (s:List UInt8) (h:s≠[]) (hl:isLet (s.getD 0 0)=true):0<wordN s:=by
 rw [wordN_pos s h hl]
 match s,h with
 | b::s,_ =>
  simp at hl
  rw [List.takeWhile_cons_of_pos (by simp [isWord,hl])]; simp
structure Tok where
 k:Int
 s:List UInt8
 n:Int
 p:Int
deriving DecidableEq
def tokC (t:Tok):List Value:=[.int .i64 t.k,vs t.s,.int .i64 t.n,.int .i64 t.p]
theorem tokC_len (t:Tok):(tokC t).length=4:=rfl
inductive Res where
 | err (e:Int)
 | ok (t:Tok) (n:Nat)
def t0:Tok:=⟨0,[],0,0⟩
def resT:Res→Tok
 | .err _=>t0
 | .ok t _=>t
def resN:Res→Nat
 | .err _=>0
 | .ok _ n=>n
def resE:Res→Int
 | .err e=>e
 | .ok _ _=>0
def resB (r:Res):Value := .tuple #[.agg (tokC (resT r)).toArray,.int .i64 (resN r:Int),.int .i64 (resE r)]
def nameS (s:List UInt8):Res:=if 16<wordN s then .err 5 else .ok ⟨1,s.take (wordN s),0,0⟩ (wordN s)
def numStep (o:Option Nat) (b:UInt8):Option Nat:=o.bind λ v=>if (9223372036854775807 - (b.toNat - 48)) / 10<v then none else some (10*v+(b.toNat - 48))
def numF (ds:List UInt8):Option Nat:=ds.foldl numStep (some 0)
def digN (s:List UInt8):Nat:=(s.takeWhile isDig).length
def numS (s:List UInt8):Res:=if 1<digN s∧((s.getD 0 0).toNat:Int)=48 then .err 11 else match numF (s.take (digN s)) with
 | none => .err 15
 | some v => .ok ⟨2,[],v,0⟩ (digN s)
theorem digN_le (s:List UInt8):digN s≤s.length:=tw_le _ _
theorem numF_snoc (s:List UInt8) (k:Nat) (hk:k<s.length):numF (s.take (k+1))=numStep (numF (s.take k)) (s.getD k 0):=by
 rw [take_snocD s k 0 hk]; simp [numF,List.foldl_append]
abbrev bt (s:List UInt8) (i:Nat):Int:=((s.getD i 0).toNat:Int)
def textG (s:List UInt8) (i:Nat) (b:List UInt8):Res :=
 if h:i<s.length then
  if bt s i=34 then (if 40<b.length then .err 5 else .ok ⟨3,b,0,0⟩ (i+1))
  else if bt s i=92 then (if i+1=s.length∨(bt s (i+1)≠34∧bt s (i+1)≠92) then .err 11 else textG s (i+2) (b++[s.getD (i+1) 0]))
  else if bt s i<32∨126<bt s i then .err 11 else textG s (i+1) (b++[s.getD i 0])
 else .err 11
termination_by s.length - i
theorem tx_over {s:List UInt8} {i:Nat} {b:List UInt8} (h:¬ i<s.length):textG s i b = .err 11:=by rw [textG,dif_neg h]
theorem tx_big {s:List UInt8} {i:Nat} {b:List UInt8} (h:i<s.length) (h1:bt s i=34) (h2:40<b.length):textG s i b = .err 5:=by rw [textG,dif_pos h,if_pos h1,if_pos h2]
theorem tx_end {s:List UInt8} {i:Nat} {b:List UInt8} (h:i<s.length) (h1:bt s i=34) (h2:¬ 40<b.length):textG s i b = .ok ⟨3,b,0,0⟩ (i+1):=by rw [textG,dif_pos h,if_pos h1,if_neg h2]
theorem tx_bad {s:List UInt8} {i:Nat} {b:List UInt8} (h:i<s.length) (h1:¬ bt s i=34) (h2:bt s i=92) (h3:i+1=s.length∨(bt s (i+1)≠34∧bt s (i+1)≠92)):textG s i b = .err 11:=by rw [textG,dif_pos h,if_neg h1,if_pos h2,if_pos h3]
theorem tx_esc {s:List UInt8} {i:Nat} {b:List UInt8} (h:i<s.length) (h1:¬ bt s i=34) (h2:bt s i=92) (h3:¬ (i+1=s.length∨(bt s (i+1)≠34∧bt s (i+1)≠92))):textG s i b=textG s (i+2) (b++[s.getD (i+1) 0]):=by rw [textG,dif_pos h,if_neg h1,if_pos h2,if_neg h3]
theorem tx_ctl {s:List UInt8} {i:Nat} {b:List UInt8} (h:i<s.length) (h1:¬ bt s i=34) (h2:¬ bt s i=92) (h3:bt s i<32∨126<bt s i):textG s i b = .err 11:=by rw [textG,dif_pos h,if_neg h1,if_neg h2,if_pos h3]
theorem tx_ch {s:List UInt8} {i:Nat} {b:List UInt8} (h:i<s.length) (h1:¬ bt s i=34) (h2:¬ bt s i=92) (h3:¬ (bt s i<32∨126<bt s i)):textG s i b=textG s (i+1) (b++[s.getD i 0]):=by rw [textG,dif_pos h,if_neg h1,if_neg h2,if_neg h3]
def textS (s:List UInt8):Res:=textG s 1 []
def marksL:List (List UInt8):=[[46,46],[33,61],[60,61],[62,61],[40],[41],[91],[93],[44],[43],[45],[42],[47],[61],[60],[62]]
def pre (s m:List UInt8):Bool:=decide (m.length≤s.length)&&decide (s.take m.length=m)
def markG (s:List UInt8):List (List UInt8)→Res
 | [] => .err 11
 | m::l=>bif pre s m then .ok ⟨4,m,0,0⟩ m.length else markG s l
def oneS (s:List UInt8):Res :=
 bif isLet (s.getD 0 0) then nameS s else bif isDig (s.getD 0 0) then numS s else bif decide (bt s 0=34) then textS s else markG s marksL
theorem one_let {s:List UInt8} (h:isLet (s.getD 0 0)=true):oneS s=nameS s:=by rw [oneS,h]; rfl
theorem one_dig {s:List UInt8} (h:isLet (s.getD 0 0)=false) (h2:isDig (s.getD 0 0)=true):oneS s=numS s:=by rw [oneS,h,h2]; rfl
theorem one_txt {s:List UInt8} (h:isLet (s.getD 0 0)=false) (h2:isDig (s.getD 0 0)=false) (h3:bt s 0=34):oneS s=textS s:=by rw [oneS,h,h2,decide_eq_true h3]; rfl
theorem one_mark {s:List UInt8} (h:isLet (s.getD 0 0)=false) (h2:isDig (s.getD 0 0)=false) (h3:¬ bt s 0=34):oneS s=markG s marksL:=by rw [oneS,h,h2,decide_eq_false h3]; rfl
def lexG (s:List UInt8) (i:Nat) (out:List Tok):List Tok×Int×Int :=
 if h:i<s.length then
  if bt s i=32 then lexG s (i+1) out
  else match oneS (s.drop i) with
   | .err e=>([],(i:Int),e)
   | .ok t n=>if hn:0<n then lexG s (i+n) (out++[{ t with p:=(i:Int) }]) else ([],0,0)
 else (out,0,0)
termination_by s.length - i
def lexS (s:List UInt8):List Tok×Int×Int:=if 200<s.length then ([],0,5) else lexG s 0 []
def resvL:List (List UInt8):=[[97,110,100],[111,114],[110,111,116],[105,102],[116,104,101,110],[101,108,115,101],[116,114,117,101],[102,97,108,115,101],[110,117,108,108]]
def resS (s:List UInt8):Bool:=resvL.contains s
def nameOk (s:List UInt8):Bool := !decide (s=[])&&(decide ((wordN s:Int)=(s.length:Int))&&(decide ((s.length:Int)≤16) && !resS s))
def key (pl:Bool) (t:Tok):Tok:=bif pl then t else { t with p:=0 }
theorem text_ok (s:List UInt8) (hs:0<s.length):∀ (i:Nat) (b:List UInt8),(∃ e,textG s i b = .err e∧e≠0)∨(∃ t n,textG s i b = .ok t n∧0<n∧n≤s.length):=by
 intro i b
 induction i,b using textG.induct (s:=s) with
 | case1 i b h h1 h2=>exact .inl ⟨5,tx_big h h1 h2,by decide⟩
 | case2 i b h h1 h2=>exact .inr ⟨_,_,tx_end h h1 h2,by omega,by omega⟩
 | case3 i b h h1 h2 h3=>exact .inl ⟨11,tx_bad h h1 h2 h3,by decide⟩
 | case4 i b h h1 h2 h3 ih=>rw [tx_esc h h1 h2 h3]; exact ih
 | case5 i b h h1 h2 h3=>exact .inl ⟨11,tx_ctl h h1 h2 h3,by decide⟩
 | case6 i b h h1 h2 h3 ih=>rw [tx_ch h h1 h2 h3]; exact ih
 | case7 i b h=>exact .inl ⟨11,tx_over h,by decide⟩
theorem mark_ok (s:List UInt8):∀ l:List (List UInt8),(∀ m∈l,0<m.length)→(∃ e,markG s l = .err e∧e≠0)∨(∃ t n,markG s l = .ok t n∧0<n∧n≤s.length)
 | [],_ => .inl ⟨11,rfl,by decide⟩
 | m::l,h=>by
  rw [markG]
  cases hp:pre s m
  ·exact mark_ok s l λ x hx=>h x (by simp [hx])
  ·refine .inr ⟨_,_,rfl,h m (by simp),?_⟩
   simp [pre] at hp; exact hp.1
theorem digN_pos (s:List UInt8) (h:0<s.length) (hl:isDig (s.getD 0 0)=true):0<digN s:=by
 unfold digN
 match s,h with
 | b::s,_=>simp at hl; rw [List.takeWhile_cons_of_pos (by simp [hl])]; simp
theorem one_ok (s:List UInt8) (hs:0<s.length):(∃ e,oneS s = .err e∧e≠0)∨(∃ t n,oneS s = .ok t n∧0<n∧n≤s.length):=by
 cases h1:isLet (s.getD 0 0)
 ·cases h2:isDig (s.getD 0 0)
  ·by_cases h3:bt s 0=34
   ·rw [one_txt h1 h2 h3]; exact text_ok s hs 1 []
   ·rw [one_mark h1 h2 h3]; exact mark_ok s marksL (by decide)
  ·rw [one_dig h1 h2,numS]
   split
   ·exact .inl ⟨11,rfl,by decide⟩
   ·split
    ·exact .inl ⟨15,rfl,by decide⟩
    ·exact .inr ⟨_,_,rfl,digN_pos s hs h2,digN_le s⟩
 ·rw [one_let h1,nameS]
  split
  ·exact .inl ⟨5,rfl,by decide⟩
  ·exact .inr ⟨_,_,rfl,wordN_posit s (by intro e; subst e; simp at hs) h1,wordN_le s⟩
theorem lex_end {s:List UInt8} {i:Nat} {out:List Tok} (h:¬ i<s.length):lexG s i out=(out,0,0):=by rw [lexG,dif_neg h]
theorem lex_sp {s:List UInt8} {i:Nat} {out:List Tok} (h:i<s.length) (h1:bt s i=32):lexG s i out=lexG s (i+1) out:=by rw [lexG,dif_pos h,if_pos h1]
theorem lex_err {s:List UInt8} {i:Nat} {out:List Tok} {e:Int} (h:i<s.length) (h1:¬ bt s i=32) (he:oneS (s.drop i) = .err e):lexG s i out=([],(i:Int),e):=by rw [lexG,dif_pos h,if_neg h1,he]
theorem lex_ok {s:List UInt8} {i:Nat} {out:List Tok} {t:Tok} {n:Nat} (h:i<s.length) (h1:¬ bt s i=32) (he:oneS (s.drop i) = .ok t n) (hn:0<n):lexG s i out=lexG s (i+n) (out++[{ t with p:=(i:Int) }]):=by
 rw [lexG,dif_pos h,if_neg h1,he]; simp only [dif_pos hn]
theorem flatC_len (l:List Tok):(l.map tokC).flatten.length=4*l.length:=by
 induction l with
 | nil=>rfl
 | cons t l ih=>simp only [List.map_cons,List.flatten_cons,List.length_append,ih,tokC_len,List.length_cons]; omega
theorem word_end (s:List UInt8) (k:Nat) (hk:k≤s.length) (ha:(s.take k).all isWord=true) (h0:k=0∨isLet (s.getD 0 0)=true) (he:k=s.length∨(isLet (s.getD k 0)=false∧(k=0∨isDig (s.getD k 0)=false))):wordN s=k:=by
 rcases Nat.eq_zero_or_pos k with rfl | hp
 ·refine wordN_zero s ?_
  rcases he with h | h
  ·exact .inl (List.length_eq_zero_iff.1 h.symm)
  ·exact .inr h.1
 ·have hl:=h0.resolve_left (by omega)
  rw [wordN_pos s (by intro e; subst e; simp at hk; omega) hl]
  refine tw_len isWord s k ha hk (he.imp id λ h=>?_)
  rw [isWord,h.1,h.2.resolve_left (by omega)]; rfl
theorem dig_b {b:UInt8} (h:isDig b=true):48≤b.toNat∧b.toNat≤57:=by simp [isDig] at h; omega
theorem numS_none {s:List UInt8} {k:Nat} (hk:k<s.length) (h:numF (s.take k)=none):numF (s.take (k+1))=none:=by rw [numF_snoc s k hk,h]; rfl
theorem numS_over {s:List UInt8} {k v:Nat} (hk:k<s.length) (h:numF (s.take k)=some v) (ho:(9223372036854775807 - ((s.getD k 0).toNat - 48)) / 10<v):numF (s.take (k+1))=none:=by rw [numF_snoc s k hk,h,numStep,Option.bind_some,if_pos ho]
theorem numS_step {s:List UInt8} {k v:Nat} (hk:k<s.length) (h:numF (s.take k)=some v) (ho:¬ (9223372036854775807 - ((s.getD k 0).toNat - 48)) / 10<v):numF (s.take (k+1))=some (10*v+((s.getD k 0).toNat - 48)):=by rw [numF_snoc s k hk,h,numStep,Option.bind_some,if_neg ho]
theorem mark_step (s:List UInt8) (k:Nat) (hk:k<16):markG s (marksL.drop k)=bif pre s (marksL.getD k []) then .ok ⟨4,marksL.getD k [],0,0⟩ (marksL.getD k []).length else markG s (marksL.drop (k+1)):=by
 have hk':k<marksL.length:=hk
 rw [List.drop_eq_getElem_cons hk',markG,getD_lt marksL k [] hk']
theorem lexG_len (s:List UInt8):∀ (i:Nat) (out:List Tok),(lexG s i out).1.length≤out.length+(s.length - i):=by
 intro i out
 induction i,out using lexG.induct (s:=s) with
 | case1 i out h h1 ih=>rw [lex_sp h h1]; omega
 | case2 i out h h1 e he=>rw [lex_err h h1 he]; simp
 | case3 i out h h1 t n he hn ih=>rw [lex_ok h h1 he hn]; simp at ih ⊢; omega
 | case4 i out h h1 t n he hn=>rw [lexG,dif_pos h,if_neg h1,he]; simp only [dif_neg hn]; simp
 | case5 i out h=>rw [lex_end h]; simp
theorem lexS_len (s:List UInt8):(lexS s).1.length≤s.length:=by
 unfold lexS
 split
 ·simp
 ·have:=lexG_len s 0 []; simpa using this
theorem markG_ix (s:List UInt8):∀ l:List (List UInt8),markG s l=match l.findIdx? (pre s) with
  | some i => .ok ⟨4,l.getD i [],0,0⟩ (l.getD i []).length
  | none => .err 11
 | []=>rfl
 | m::l=>by
  rw [markG,List.findIdx?_cons]
  cases hp:pre s m
  ·simp only [cond_false]
   rw [markG_ix s l]
   cases List.findIdx? (pre s) l <;> simp
  ·simp
end Go.Proofs.YtbmmnalndollkaaGreatDoor
namespace Go.Proofs.YtbmmnalndollkaaGreatDoor
open Go Go.Dx Go.RowKit
inductive Ex where
 | mk (op:Int) (v:Val) (s:List UInt8) (l:List Ex)
def Ex.op:Ex→Int
 | .mk op _ _ _=>op
def Ex.v:Ex→Val
 | .mk _ v _ _=>v
def Ex.s:Ex→List UInt8
 | .mk _ _ s _=>s
def Ex.l:Ex→List Ex
 | .mk _ _ _ l=>l
@[simp] theorem ex_op (op:Int) (v:Val) (s:List UInt8) (l:List Ex):(Ex.mk op v s l).op=op:=rfl
@[simp] theorem ex_v (op:Int) (v:Val) (s:List UInt8) (l:List Ex):(Ex.mk op v s l).v=v:=rfl
@[simp] theorem ex_s (op:Int) (v:Val) (s:List UInt8) (l:List Ex):(Ex.mk op v s l).s=s:=rfl
@[simp] theorem ex_l (op:Int) (v:Val) (s:List UInt8) (l:List Ex):(Ex.mk op v s l).l=l:=rfl
theorem Ex.lt {x y:Ex} (h:y∈x.l):SizeOf.sizeOf y<SizeOf.sizeOf x:=by
 cases x with
 | mk op v s l =>
  have:=List.sizeOf_lt_of_mem (show y∈l from h)
  simp only [Ex.mk.sizeOf_spec]; omega
def exC (op:Int) (v:Val) (s:List UInt8) (sl:Value):List Value:=[.int .i64 op,.int .i64 v.k,.int .i64 v.n,vs v.s,vs s,sl]
inductive RX (h:View):List Value→Ex→Prop
 | mk (op:Int) (v:Val) (s:List UInt8) (l:List Ex) (ad:Option Addr) (cap:Nat) (c:Nat→List Value) (hb:i64 op∧valB v)
   (hs:SlC 114 6 (flatR c) h (.slice ad (List.range l.length).length cap) (List.range l.length)) (hc:∀ i y,l[i]?=some y→RX h (c i) y):RX h (exC op v s (.slice ad l.length cap)) (.mk op v s l)
theorem RX.mono {h h':View} (hle:VLe h h') {cs:List Value} {x:Ex} (hx:RX h cs x):RX h' cs x:=by
 induction hx with
 | mk op v s l ad cap c hb hs hc ih=>exact .mk op v s l ad cap c hb (hs.monoF hle) ih
def XL (h:View) (ad:Option Addr) (cap:Nat) (l:List Ex):Prop:=∃ c:Nat→List Value,SlC 114 6 (flatR c) h (.slice ad l.length cap) (List.range l.length)∧∀ i y,l[i]?=some y→RX h (c i) y
theorem RX.inv {h:View} {cs:List Value} {x:Ex} (hx:RX h cs x):∃ ad cap,cs=exC x.op x.v x.s (.slice ad x.l.length cap)∧i64 x.op∧valB x.v∧XL h ad cap x.l:=by
 cases hx with
 | mk op v s l ad cap c hb hs hc=>exact ⟨ad,cap,rfl,hb.1,hb.2,c,by simpa [Ex.l] using hs,hc⟩
theorem XL.mono {h h':View} (hle:VLe h h') {ad:Option Addr} {cap:Nat} {l:List Ex} (hx:XL h ad cap l):XL h' ad cap l:=by
 obtain ⟨c,h1,h2⟩:=hx
 exact ⟨c,h1.monoF hle,λ i y hi=>(h2 i y hi).mono hle⟩
def ex0:Ex := .mk 0 v0 [] []
theorem XL.at {h:View} {ad:Option Addr} {cap:Nat} {l:List Ex} (hx:XL h ad cap l) {i:Nat} (hi:i<l.length):∃ g off cs,ad=some ⟨g,off,none⟩∧RX h cs (l.getD i ex0)∧cs.length=6∧∀ w,VLe h (Full w)→∀ j v,cs[j]?=some v→w.cell? ⟨g,off+i*6+j,none⟩=some v:=by
 obtain ⟨c,h1,h2⟩:=hx
 obtain ⟨g,off,ha,H⟩:=h1.at (i:=i) (x:=i) (by simp [hi])
 have hg:l[i]?=some (l.getD i ex0):=by rw [getD_lt l i ex0 hi]; exact List.getElem?_eq_getElem hi
 have hr:=h2 i _ hg
 refine ⟨g,off,c i,ha,hr,?_,H⟩
 obtain ⟨ad',cap',e,_⟩:=hr.inv
 rw [e]; rfl
def cntS (op:Int):Int:=if op=1∨op=2 then 0 else if op=3 then 1 else if op=16 then 3 else if 4≤op∧op≤15 then 2 else -1
mutual
def rightS:Ex→Bool
 | .mk op v s l=>decide ((l.length:Int)=cntS op)&&(if op=1 then decide (s=[])&&valOk v&&(!decide (v.k=1)||decide (0≤v.n)) else if op=2 then decide (v=v0)&&nameOk s else decide (v=v0)&&decide (s=[])&&rightL l)
def rightL:List Ex→Bool
 | []=>true
 | x::l=>rightS x&&rightL l
end
theorem rightL_all:∀ l:List Ex,rightL l=l.all rightS
 | []=>rfl
 | x::l=>by rw [rightL,List.all_cons,rightL_all l]
theorem right_mk (op:Int) (v:Val) (s:List UInt8) (l:List Ex):rightS (.mk op v s l)=(decide ((l.length:Int)=cntS op)&&(if op=1 then decide (s=[])&&valOk v&&(!decide (v.k=1)||decide (0≤v.n)) else if op=2 then decide (v=v0)&&nameOk s else decide (v=v0)&&decide (s=[])&&l.all rightS)):=by
 rw [rightS,rightL_all]
theorem right_eq (x:Ex):rightS x=(decide ((x.l.length:Int)=cntS x.op)&&(if x.op=1 then decide (x.s=[])&&valOk x.v&&(!decide (x.v.k=1)||decide (0≤x.v.n)) else if x.op=2 then decide (x.v=v0)&&nameOk x.s else decide (x.v=v0)&&decide (x.s=[])&&x.l.all rightS)):=by
 cases x with
 | mk op v s l=>rw [rightS,rightL_all]; rfl
def looseX:Nat→Ex→Bool
 | 0,_=>false
 | d+1,x=>decide (x.s.length≤1000000)&&decide (x.v.s.length≤9223372036854775807)&&decide (x.l.length≤5)&&x.l.all (looseX d)
def SmX (x:Ex):Prop:=∃ d,looseX d x=true
theorem SmX.parts {x:Ex} (h:SmX x):x.s.length≤1000000∧x.v.s.length≤9223372036854775807∧x.l.length≤5∧∀ y∈x.l,SmX y:=by
 obtain ⟨d,h⟩:=h
 cases d with
 | zero=>simp [looseX] at h
 | succ d =>
  simp only [looseX,Bool.and_eq_true,decide_eq_true_eq,List.all_eq_true] at h
  exact ⟨h.1.1.1,h.1.1.2,h.1.2,λ y hy=>⟨d,h.2 y hy⟩⟩
structure GX (h:View) (ad:Option Addr) (cap:Nat) (x:Ex):Prop where
 xl:XL h ad cap x.l
 op:i64 x.op
 v:valB x.v
 sm:SmX x
def GL (h:View) (ad:Option Addr) (cap:Nat) (l:List Ex):Prop:=XL h ad cap l∧∀ y∈l,SmX y
theorem GX.mono {h h':View} (hle:VLe h h') {ad:Option Addr} {cap:Nat} {x:Ex} (hx:GX h ad cap x):GX h' ad cap x:=⟨hx.xl.mono hle,hx.op,hx.v,hx.sm⟩
theorem XL.at2 {h:View} {ad:Option Addr} {cap:Nat} {l:List Ex} (hx:XL h ad cap l) {i:Nat} (hi:i<l.length):∃ g off ad2 cap2,ad=some ⟨g,off,none⟩∧XL h ad2 cap2 (l.getD i ex0).l∧i64 (l.getD i ex0).op∧valB (l.getD i ex0).v ∧
  ∀ w,VLe h (Full w)→∀ j v,(exC (l.getD i ex0).op (l.getD i ex0).v (l.getD i ex0).s (.slice ad2 (l.getD i ex0).l.length cap2))[j]?=some v→w.cell? ⟨g,off+i*6+j,none⟩=some v:=by
 obtain ⟨g,off,cs,ha,hr,_,H⟩:=hx.at hi
 obtain ⟨ad2,cap2,rfl,h1,h2,h3⟩:=hr.inv
 exact ⟨g,off,ad2,cap2,ha,h3,h1,h2,H⟩
theorem GL.at {h:View} {ad:Option Addr} {cap:Nat} {l:List Ex} (hx:GL h ad cap l) {i:Nat} (hi:i<l.length):∃ g off ad2 cap2,ad=some ⟨g,off,none⟩∧GX h ad2 cap2 (l.getD i ex0) ∧
  ∀ w,VLe h (Full w)→∀ j v,(exC (l.getD i ex0).op (l.getD i ex0).v (l.getD i ex0).s (.slice ad2 (l.getD i ex0).l.length cap2))[j]?=some v→w.cell? ⟨g,off+i*6+j,none⟩=some v:=by
 obtain ⟨g,off,ad2,cap2,ha,h1,h2,h3,H⟩:=hx.1.at2 hi
 exact ⟨g,off,ad2,cap2,ha,⟨h1,h2,h3,hx.2 _ (getD_mem l i ex0 hi)⟩,H⟩
theorem any_all (p:Ex→Bool) (l:List Ex):(!(l.any λ y => !p y))=l.all p:=by
 induction l with
 | nil=>rfl
 | cons y l ih=>rw [List.any_cons,List.all_cons,← ih]; cases p y <;> simp
theorem XL.lm {h:View} {ad:Option Addr} {cap:Nat} {l:List Ex} (hx:XL h ad cap l):l.length≤9223372036854775807:=by
 obtain ⟨c,hs,_⟩:=hx
 obtain ⟨_,_,_,h1,h2⟩:=hs.parts
 simp only [maxLen] at h2
 simp at h1; omega
structure Col where
 name:List UInt8
 kind:Int
 oa:Option Addr
 on:Nat
 oc:Nat
def colC (c:Col):List Value:=[vs c.name,.int .i64 c.kind,.slice c.oa c.on c.oc]
def c0:Col:=⟨[],0,none,0,0⟩
def atS (l:List Col) (s:List UInt8):Int:=idxS (λ c=>decide (c.name=s)) l
def fewS (l:List Col):Bool:=decide (l.length≤12)&&l.all λ c=>decide (c.name.length≤300)
def fitS (a b:Int):Bool:=decide (a=b)||(decide (a=0)||decide (b=0))
def badN (l:List Col) (i:Nat):Prop:=nameOk (l.getD i c0).name=false∨atS l (l.getD i c0).name≠(i:Int)
def badK (k:Int):Prop:=k≠1∧k≠2∧k≠3
instance (l:List Col) (i:Nat):Decidable (badN l i):=inferInstanceAs (Decidable (_∨_))
instance (k:Int):Decidable (badK k):=inferInstanceAs (Decidable (_∧_))
def colsG (l:List Col) (i:Nat):Int:=if i<l.length then (if badN l i then 13 else if badK (l.getD i c0).kind then 14 else colsG l (i+1)) else 0
termination_by l.length - i
theorem cg_over {l:List Col} {i:Nat} (h:¬ i<l.length):colsG l i=0:=by rw [colsG,if_neg h]
theorem cg_name {l:List Col} {i:Nat} (h:i<l.length) (h1:badN l i):colsG l i=13:=by rw [colsG,if_pos h,if_pos h1]
theorem cg_kind {l:List Col} {i:Nat} (h:i<l.length) (h1:¬ badN l i) (h2:badK (l.getD i c0).kind):colsG l i=14:=by rw [colsG,if_pos h,if_neg h1,if_pos h2]
theorem cg_next {l:List Col} {i:Nat} (h:i<l.length) (h1:¬ badN l i) (h2:¬ badK (l.getD i c0).kind):colsG l i=colsG l (i+1):=by rw [colsG,if_pos h,if_neg h1,if_neg h2]
theorem at_le {l:List Col} {i:Nat} (h:i<l.length):∃ k:Nat,atS l (l.getD i c0).name=(k:Int)∧k≤i:=by
 rcases idx_cases (p:=λ c:Col=>decide (c.name=(l.getD i c0).name)) (l:=l) c0 with ⟨_,hn⟩ | ⟨k,hk,_,_,hn⟩
 ·have:=hn i h; simp at this
 ·refine ⟨k,hk,?_⟩
  rcases Nat.lt_or_ge i k with h1 | h1
  ·have:=hn i h1; simp at this
  ·exact h1
def colsS (l:List Col):Int:=if 6<l.length then 24 else colsG l 0
def eith (a b:Int):Int:=if a≠0 then a else b
def addK (a b:Int):Int:=if eith a b=2 then 2 else 1
def rulS (op:Int) (k:List Int):Int×Bool :=
 if op=3∨op=5∨op=6∨op=7 then (1,k.all (fitS · 1))
 else if op=4 then (addK (k.getD 0 0) (k.getD 1 0),k.all (fitS · (addK (k.getD 0 0) (k.getD 1 0))))
 else if op=8∨op=9 then (3,fitS (k.getD 0 0) (k.getD 1 0))
 else if 10≤op∧op≤13 then (3,fitS (k.getD 0 0) (k.getD 1 0) && !k.contains 3)
 else if op=14∨op=15 then (3,k.all (fitS · 3))
 else (eith (k.getD 1 0) (k.getD 2 0),fitS (k.getD 0 0) 3&&fitS (k.getD 1 0) (k.getD 2 0))
def ofK (r:Int×Bool):Int×Int:=if r.2 then (r.1,0) else (0,14)
mutual
def kindS (cl:List Col):Ex→Int×Int
 | .mk op v s l=>if op=1 then (v.k,0) else if op=2 then (if atS cl s<0 then (0,13) else ((cl.getD (atS cl s).toNat c0).kind,0)) else match kindL cl l with
  | (_,some e)=>(0,e)
  | (ks,none)=>ofK (rulS op ks)
def kindL (cl:List Col):List Ex→List Int×Option Int
 | []=>([],none)
 | x::l=>if (kindS cl x).2≠0 then ([],some (kindS cl x).2) else match kindL cl l with
  | (_,some e)=>([],some e)
  | (ks,none)=>((kindS cl x).1::ks,none)
end
theorem kind_eq (cl:List Col) (x:Ex):kindS cl x=if x.op=1 then (x.v.k,0) else if x.op=2 then (if atS cl x.s<0 then (0,13) else ((cl.getD (atS cl x.s).toNat c0).kind,0)) else match kindL cl x.l with
  | (_,some e)=>(0,e)
  | (ks,none)=>ofK (rulS x.op ks):=by
 cases x with
 | mk op v s l=>rw [kindS]; rfl
theorem kindL_ok (cl:List Col):∀ l:List Ex,(∀ y∈l,(kindS cl y).2=0)→kindL cl l=(l.map λ y=>(kindS cl y).1,none)
 | [],_=>rfl
 | x::l,h=>by
  rw [kindL,if_neg (by simp [h x (by simp)]),kindL_ok cl l λ y hy=>h y (by simp [hy])]
  rfl
theorem kindL_err (cl:List Col):∀ (l:List Ex) (k:Nat),k<l.length→(∀ j,j<k→(kindS cl (l.getD j ex0)).2=0)→(kindS cl (l.getD k ex0)).2≠0→kindL cl l=([],some (kindS cl (l.getD k ex0)).2)
 | [],k,h,_,_=>absurd h (Nat.not_lt_zero k)
 | x::l,0,_,_,he=>by rw [kindL,if_pos (show (kindS cl x).2≠0 from he)]; rfl
 | x::l,k+1,h,hn,he=>by
  rw [kindL,if_neg (by have:=hn 0 (by omega); simpa using this),kindL_err cl l k (by simpa using h) (λ j hj=>by have:=hn (j+1) (by omega); simpa using this) (by simpa using he)]
  rfl
def kindT (cl:List Col) (x:Ex):Int×Int:=if rightS x then kindS cl x else (0,2)
theorem at_get {l:List Col} {s:List UInt8} (h:¬ atS l s<0):∃ m:Nat,atS l s=(m:Int)∧m<l.length:=by
 rcases idx_cases (p:=λ c:Col=>decide (c.name=s)) (l:=l) c0 with ⟨h1,_⟩ | ⟨k,hk,hl,_⟩
 ·exact absurd (show atS l s<0 by unfold atS; omega) h
 ·exact ⟨k,hk,hl⟩
theorem flat1_len (l:List Int):(l.map λ n=>[Value.int .i64 n]).flatten.length=l.length:=by
 induction l with
 | nil=>rfl
 | cons n l ih=>simp only [List.map_cons,List.flatten_cons,List.length_append,ih,List.length_cons,List.length_nil]; omega
theorem cnt_pos {op:Int} (h:3≤op∧op≤16):1≤cntS op∧(op=3→cntS op=1)∧(4≤op∧op≤15→cntS op=2)∧(op=16→cntS op=3):=by
 unfold cntS
 refine ⟨?_,?_,?_,?_⟩ <;> intros <;> split <;> (try split) <;> (try split) <;> (try split) <;> omega
theorem cnt_some {op:Int} (h:0≤cntS op) (h1:op≠1) (h2:op≠2):3≤op∧op≤16:=by
 unfold cntS at h
 split at h <;> (try split at h) <;> (try split at h) <;> (try split at h) <;> omega
theorem right_sub {x:Ex} (h:rightS x=true) (h1:¬ x.op=1) (h2:¬ x.op=2):(3≤x.op∧x.op≤16)∧(x.l.length:Int)=cntS x.op∧∀ y∈x.l,rightS y=true:=by
 rw [right_eq,if_neg h1,if_neg h2] at h
 simp only [Bool.and_eq_true,decide_eq_true_eq,List.all_eq_true] at h
 exact ⟨cnt_some (by omega) h1 h2,h.1,h.2.2⟩
theorem all_1 {p:Int→Bool} {l:List Int} (h:l.length=1):l.all p=p (l.getD 0 0):=by
 match l,h with
 | [a],_=>simp
theorem all_2 {p:Int→Bool} {l:List Int} (h:l.length=2):l.all p=(p (l.getD 0 0)&&p (l.getD 1 0)):=by
 match l,h with
 | [a,b],_=>simp
theorem con_2 {l:List Int} (h:l.length=2):(!l.contains 3)=(!decide (l.getD 0 0=3) && !decide (l.getD 1 0=3)):=by
 match l,h with
 | [a,b],_ =>
  simp [List.contains_cons]
  exact Bool.eq_iff_iff.2 (by simp; constructor <;> (rintro ⟨h1,h2⟩; exact ⟨λ h=>h1 h.symm,λ h=>h2 h.symm⟩))
section
variable {op:Int} {l:List Int}
theorem rul1 (h:op=3∨op=5∨op=6∨op=7):rulS op l=(1,l.all (fitS · 1)):=by rw [rulS,if_pos h]
theorem rul2 (h:op=4):rulS op l=(addK (l.getD 0 0) (l.getD 1 0),l.all (fitS · (addK (l.getD 0 0) (l.getD 1 0)))):=by rw [rulS,if_neg (by omega),if_pos h]
theorem rul3 (h:op=8∨op=9):rulS op l=(3,fitS (l.getD 0 0) (l.getD 1 0)):=by rw [rulS,if_neg (by omega),if_neg (by omega),if_pos h]
theorem rul4 (h:10≤op∧op≤13):rulS op l=(3,fitS (l.getD 0 0) (l.getD 1 0) && !l.contains 3):=by rw [rulS,if_neg (by omega),if_neg (by omega),if_neg (by omega),if_pos h]
theorem rul5 (h:op=14∨op=15):rulS op l=(3,l.all (fitS · 3)):=by rw [rulS,if_neg (by omega),if_neg (by omega),if_neg (by omega),if_neg (by omega),if_pos h]
theorem rul6 (h:op=16):rulS op l=(eith (l.getD 1 0) (l.getD 2 0),fitS (l.getD 0 0) 3&&fitS (l.getD 1 0) (l.getD 2 0)):=by rw [rulS,if_neg (by omega),if_neg (by omega),if_neg (by omega),if_neg (by omega),if_neg (by omega)]
end
def KX (op:Int) (v:Val) (s:List UInt8):Ex := .mk op v s []
theorem xl_nil (h:View):XL h none 0 []:=⟨λ _=>[],SlC.nil (by simp [maxLen]),λ i y hi=>by simp at hi⟩
def upd (c:Nat→List Value) (k:Nat) (cs:List Value):Nat→List Value:=λ j=>if j=k then cs else c j
theorem RX.len {h:View} {cs:List Value} {x:Ex} (hx:RX h cs x):cs.length=6:=by
 obtain ⟨_,_,e,_⟩:=hx.inv
 rw [e]; rfl
def XV (z:Ex) (v:Value) (h:View):Prop:=∃ cs:List Value,v = .agg cs.toArray∧RX h cs z
theorem XV.mono {z:Ex} (v:Value):Mono (XV z v):=λ _ _ hle ⟨cs,e,hx⟩=>⟨cs,e,hx.mono hle⟩
theorem RX.one {h:View} {cs:List Value} {x:Ex} (hx:RX h cs x):allOne (cellsL [Value.agg cs.toArray])=true:=by
 obtain ⟨_,_,e,_⟩:=hx.inv
 rw [e]; rfl
theorem RX.of {h:View} {ad:Option Addr} {cap:Nat} {x:Ex} (ho:i64 x.op) (hv:valB x.v) (hx:XL h ad cap x.l):RX h (exC x.op x.v x.s (.slice ad x.l.length cap)) x:=by
 obtain ⟨c,h1,h2⟩:=hx
 cases x with
 | mk op v s l=>exact .mk op v s l ad cap c ⟨ho,hv⟩ (by simpa [Ex.l] using h1) h2
theorem fit_iff {a b:Int}:fitS a b=true↔a=b∨a=0∨b=0:=by simp [fitS]
theorem eith_spec (a b:Int):(a≠0∧eith a b=a)∨(a=0∧eith a b=b):=by
 unfold eith
 by_cases h:a=0
 ·right; rw [if_neg (by simpa using h)]; exact ⟨h,rfl⟩
 ·left; rw [if_pos h]; exact ⟨h,rfl⟩
theorem addK_spec (a b:Int):(addK a b=2∧eith a b=2)∨(addK a b=1∧eith a b≠2):=by
 unfold addK
 by_cases h:eith a b=2
 ·left; rw [if_pos h]; exact ⟨rfl,h⟩
 ·right; rw [if_neg h]; exact ⟨rfl,h⟩
theorem ofK_ok {r:Int×Bool} (h:(ofK r).2=0):r.2=true∧(ofK r).1=r.1:=by
 unfold ofK at h ⊢
 by_cases h2:r.2=true
 ·rw [if_pos h2]; exact ⟨h2,rfl⟩
 ·rw [if_neg h2] at h; cases h
theorem kindL_cases (cl:List Col) (l:List Ex):((∀ y∈l,(kindS cl y).2=0)∧kindL cl l=(l.map λ y=>(kindS cl y).1,none)) ∨
  ∃ k,k<l.length∧(∀ j,j<k→(kindS cl (l.getD j ex0)).2=0)∧(kindS cl (l.getD k ex0)).2≠0∧kindL cl l=([],some (kindS cl (l.getD k ex0)).2):=by
 by_cases h:∀ y∈l,(kindS cl y).2=0
 ·exact .inl ⟨h,kindL_ok cl l h⟩
 ·right
  have hex:∃ k,k<l.length∧(kindS cl (l.getD k ex0)).2≠0:=by
   rw [Classical.not_forall] at h
   obtain ⟨y,hy⟩:=h
   rw [Classical.not_imp] at hy
   obtain ⟨k,hk⟩:=List.mem_iff_getElem?.1 hy.1
   exact ⟨k,(List.getElem?_eq_some_iff.1 hk).1,by simpa [List.getD,hk] using hy.2⟩
  have key:∀ n,(∃ k,k<n∧k<l.length∧(kindS cl (l.getD k ex0)).2≠0)→∃ k,k<l.length∧(∀ j,j<k→(kindS cl (l.getD j ex0)).2=0)∧(kindS cl (l.getD k ex0)).2≠0:=by
   intro n
   induction n with
   | zero=>rintro ⟨k,h,_⟩; omega
   | succ n ih =>
    rintro ⟨k,hk,hkl,he⟩
    by_cases hlow:∃ k,k<n∧k<l.length∧(kindS cl (l.getD k ex0)).2≠0
    ·exact ih hlow
    ·refine ⟨k,hkl,λ j hj=>?_,he⟩
     by_cases hz:(kindS cl (l.getD j ex0)).2=0
     ·exact hz
     ·exact absurd ⟨j,by omega,by omega,hz⟩ hlow
  obtain ⟨k,hk,he⟩:=hex
  obtain ⟨k,h1,h2,h3⟩:=key (k+1) ⟨k,by omega,hk,he⟩
  exact ⟨k,h1,h2,h3,kindL_err cl l k h1 h2 h3⟩
end Go.Proofs.YtbmmnalndollkaaGreatDoor
namespace Go.Dx
open Go Go.RowKit
inductive TU where
 | int (k:IntKind) | str | bool
 | sl (e sz:Nat) | ar (n e sz:Nat) | st (fs:List (Nat×Nat×Bool)) | ot
structure TD where
 u:TU
 sz:Nat
 ag:Bool
 z:List Value
structure Tab where
 tys:List (Nat×TD)
 fs:List Nat
def lkA {β:Type}:List (Nat×β)→Nat→Option β
 | [],_=>none
 | (k,v)::r,i=>bif Nat.beq k i then some v else lkA r i
theorem lkA_eq {β:Type} (k:Nat) (v:β) (r:List (Nat×β)):lkA ((k,v)::r) k=some v:=by simp [lkA]
theorem beq_ne {d i:Nat} (h:d≠i):Nat.beq d i=false:=by
 cases hb:Nat.beq d i with
 | false=>rfl
 | true=>exact absurd (Nat.eq_of_beq_eq_true hb) h
theorem lkA_ne {β:Type} {k i:Nat} (h:k≠i) (v:β) (r:List (Nat×β)):lkA ((k,v)::r) i=lkA r i:=by simp [lkA,beq_ne h]
theorem lkA_mem {β:Type}:∀ {r:List (Nat×β)} {i:Nat} {v:β},lkA r i=some v→(i,v)∈r
 | [],i,v,h=>by simp [lkA] at h
 | (k,u)::r,i,v,h=>by
  by_cases hk:k=i
  ·subst hk; rw [lkA_eq] at h; cases h; simp
  ·rw [lkA_ne hk] at h; exact List.mem_cons_of_mem _ (lkA_mem h)
def fldsOf (P:Program):List Field→Option (List (Nat×Nat×Bool))
 | []=>some []
 | f::r=>match P.info? f.type,P.underlying f.type,fldsOf P r with
  | some i,some u,some l=>some ((f.offset,i.size,aggB u)::l)
  | _,_,_=>none
def tuOf (P:Program):TypeDesc→Option TU
 | .int k=>some (.int k)
 | .string=>some .str
 | .bool=>some .bool
 | .slice e=>(P.info? e).map λ i => .sl e i.size
 | .array n e=>(P.info? e).map λ i => .ar n e i.size
 | .struct fs=>(fldsOf P fs.toList).map .st
 | _=>some .ot
def tdOf (P:Program) (t:Nat):Option TD:=match P.underlying t,P.info? t with
 | some u,some i=>match tuOf P u,i.zero with
  | some tu,some z=>some ⟨tu,i.size,aggB u,z.cells.toList⟩
  | _,_=>none
 | _,_=>none
structure Tab.Ok (P:Program) (T:Tab):Prop where
 tys:T.tys.map (λ p=>tdOf P p.1)=T.tys.map (λ p=>some p.2)
 fs:T.fs.map (λ f=>(P.funcs[f]?).map (λ fn=>fn.name == "runtime.NumGoroutine" || fn.body.isNone))=T.fs.map (λ _=>some false)
 mix:P.follows .mixedOrders=true
theorem map_eq_mem {α β:Type} {f g:α→β}:∀ {l:List α},l.map f=l.map g→∀ x∈l,f x=g x
 | [],_,_,h=>by cases h
 | y::l,e,x,h=>by
  simp only [List.map_cons,List.cons.injEq] at e
  rcases List.mem_cons.1 h with rfl | h
  ·exact e.1
  ·exact map_eq_mem e.2 x h
theorem Tab.Ok.td {P:Program} {T:Tab} (h:T.Ok P) {t:Nat} {d:TD} (hd:lkA T.tys t=some d):tdOf P t=some d:=map_eq_mem h.tys _ (lkA_mem hd)
def memF:List Nat→Nat→Bool
 | [],_=>false
 | k::r,f=>bif Nat.beq k f then true else memF r f
theorem memF_mem:∀ {l:List Nat} {f:Nat},memF l f=true→f∈l
 | [],f,h=>by simp [memF] at h
 | k::r,f,h=>by
  by_cases hk:k=f
  ·subst hk; simp
  ·simp only [memF,beq_ne hk,cond_false] at h; exact List.mem_cons_of_mem _ (memF_mem h)
theorem Tab.Ok.call {P:Program} {T:Tab} (h:T.Ok P) {f:Nat} (hf:memF T.fs f=true):CallOk P f:=CallOk.of (map_eq_mem h.fs _ (memF_mem hf))
theorem tdOf_parts {P:Program} {t:Nat} {d:TD} (h:tdOf P t=some d):∃ u i z,P.underlying t=some u∧P.info? t=some i∧i.zero=some z∧tuOf P u=some d.u∧d.sz=i.size∧d.ag=aggB u∧d.z=z.cells.toList:=by
 unfold tdOf at h
 split at h
 ·rename_i u i hu hi
  split at h
  ·rename_i tu z ht hz
   cases h
   exact ⟨u,i,z,hu,hi,hz,ht,rfl,rfl,rfl⟩
  ·cases h
 ·cases h
section td
variable {P:Program} {t:Nat} {d:TD}
theorem td_int {k:IntKind} (h:tdOf P t=some d) (hu:d.u = .int k):P.underlying t=some (.int k):=by
 obtain ⟨u,i,z,h1,_,_,h2,_⟩:=tdOf_parts h
 rw [hu] at h2
 cases u <;> simp [tuOf] at h2
 subst h2; exact h1
theorem td_str (h:tdOf P t=some d) (hu:d.u = .str):P.underlying t=some .string:=by
 obtain ⟨u,i,z,h1,_,_,h2,_⟩:=tdOf_parts h
 rw [hu] at h2
 cases u <;> simp [tuOf] at h2
 exact h1
theorem td_bool (h:tdOf P t=some d) (hu:d.u = .bool):P.underlying t=some .bool:=by
 obtain ⟨u,i,z,h1,_,_,h2,_⟩:=tdOf_parts h
 rw [hu] at h2
 cases u <;> simp [tuOf] at h2
 exact h1
theorem td_sl {e sz:Nat} (h:tdOf P t=some d) (hu:d.u = .sl e sz):SlT P t e sz:=by
 obtain ⟨u,i,z,h1,_,_,h2,_⟩:=tdOf_parts h
 rw [hu] at h2
 cases u <;> simp [tuOf] at h2
 obtain ⟨i,hi,rfl,rfl⟩:=h2
 exact ⟨h1,i,hi,rfl⟩
theorem fldsOf_spec {P:Program}:∀ {l:List Field} {fs:List (Nat×Nat×Bool)},fldsOf P l=some fs→l.length=fs.length∧∀ (i off sz:Nat) (ag:Bool),fs[i]?=some (off,sz,ag)→∃ f:Field,l[i]?=some f∧f.offset=off∧SzIs P f.type sz∧(P.underlying f.type).map aggB=some ag
 | [],fs,h=>by simp [fldsOf] at h; subst h; simp
 | f::r,fs,h=>by
  unfold fldsOf at h
  split at h
  ·rename_i i u l hi hu hl
   cases h
   have ih:=fldsOf_spec hl
   refine ⟨by simp [ih.1],λ j off sz ag hj=>?_⟩
   cases j with
   | zero =>
    simp only [List.getElem?_cons_zero,Option.some.injEq,Prod.mk.injEq] at hj
    obtain ⟨rfl,rfl,rfl⟩:=hj
    exact ⟨f,rfl,rfl,⟨i,hi,rfl⟩,by rw [hu]; rfl⟩
   | succ j=>exact ih.2 j off sz ag (by simpa using hj)
  ·cases h
theorem td_fld {fs:List (Nat×Nat×Bool)} {i off sz:Nat} {ag:Bool} (h:tdOf P t=some d) (hu:d.u = .st fs) (hf:fs[i]?=some (off,sz,ag)) :
  ∃ (fa:Array Field) (f:Field),P.underlying t=some (.struct fa)∧fa[i]?=some f∧f.offset=off∧SzIs P f.type sz∧(P.underlying f.type).map aggB=some ag:=by
 obtain ⟨u,i,z,h1,_,_,h2,_⟩:=tdOf_parts h
 rw [hu] at h2
 obtain ⟨fa,rfl⟩:∃ fa,u = .struct fa:=by cases u <;> simp [tuOf] at h2 ⊢
 simp [tuOf] at h2
 obtain ⟨f,g1,g2,g3,g4⟩:=(fldsOf_spec h2).2 _ _ _ _ hf
 exact ⟨fa,f,h1,by simpa using g1,g2,g3,g4⟩
theorem td_strb {fs:List (Nat×Nat×Bool)} (h:tdOf P t=some d) (hu:d.u = .st fs):StrB P t (fs.map λ p=>(p.1,p.2.1)) d.z:=by
 obtain ⟨u,i,z,h1,hi,hz,h2,_,_,hdz⟩:=tdOf_parts h
 rw [hu] at h2
 obtain ⟨fa,rfl⟩:∃ fa,u = .struct fa:=by cases u <;> simp [tuOf] at h2 ⊢
 simp [tuOf] at h2
 refine ⟨i,z,fa,hi,hz,by rw [hdz],h1,?_⟩
 have hs:=fldsOf_spec h2
 apply List.ext_getElem?
 intro j
 simp only [List.getElem?_map]
 cases hj:fs[j]? with
 | none =>
  have:fa.toList[j]?=none:=by
   rw [List.getElem?_eq_none_iff] at hj ⊢; omega
  rw [this]; rfl
 | some p =>
  obtain ⟨off,sz,ag⟩:=p
  obtain ⟨f,g1,g2,⟨inf,g3,g4⟩,_⟩:=hs.2 _ _ _ _ hj
  rw [g1]; simp [g3,g2,g4]
theorem td_zero (h:tdOf P t=some d):∃ inf z,P.info? t=some inf∧inf.zero=some z∧z.cells=d.z.toArray:=by
 obtain ⟨u,i,z,h1,hi,hz,_,_,_,hdz⟩:=tdOf_parts h
 exact ⟨i,z,hi,hz,by rw [hdz]⟩
theorem td_sz (h:tdOf P t=some d):SzIs P t d.sz:=by
 obtain ⟨u,i,z,h1,hi,hz,_,hs,_⟩:=tdOf_parts h
 exact ⟨i,hi,hs.symm⟩
theorem td_one (h:tdOf P t=some d) (ha:d.ag=false):OneT P t:=by
 obtain ⟨u,i,z,h1,hi,hz,_,hs,hag,_⟩:=tdOf_parts h
 exact ⟨u,h1,by rw [← hag]; exact ha⟩
theorem td_agg (h:tdOf P t=some d) (ha:d.ag=true):AggT P t d.sz:=by
 obtain ⟨u,i,z,h1,hi,hz,_,hs,hag,_⟩:=tdOf_parts h
 exact ⟨⟨u,h1,by rw [← hag]; exact ha⟩,i,hi,hs.symm⟩
end td
inductive SV where
 | v (x:Value)
 | o (k off:Nat)
 | s (k off n cp:Nat)
 | r (e n:Nat) (cs:List Value)
 | u
structure IE where
 t:Nat
 c:Bool
 g:Bool
 s:SV
inductive OB where
 | c (b T:Nat) (cs:List Value)
 | k (g:Option Bool) (b o:Nat) (cs:List Value)
 | e (e:OE)
abbrev SL:=List (Nat×SV)
abbrev IL:=List (Nat×IE)
abbrev BL:=List (Nat×OB)
def dvO (B:BL):SV→Option Value
 | .v x=>some x
 | .o k f=>match lkA B k with
  | some (.c b _ _)=>some (.pointer (some ⟨b,f,none⟩))
  | some (.k _ b o _)=>some (.pointer (some ⟨b,o+f,none⟩))
  | _=>none
 | .s k f n cp=>match lkA B k with
  | some (.c b _ _)=>some (.slice (some ⟨b,f,none⟩) n cp)
  | _=>none
 | .r _ _ _=>none
 | .u=>none
def dv (B:BL) (s:SV):Value:=(dvO B s).getD undef
def kI (B:BL) (e:IE):Value:=bif e.g then dv B e.s else undef
def entS (B:BL) (s:SV):Ent:=match dvO B s with
 | some v => .val v
 | none => .prd λ _ _=>True
def fl (L:SL) (I:IL) (B:BL):FL:=I.map (λ p=>(p.1,.val (kI B p.2)))++L.map (λ p=>(p.1,entS B p.2))
theorem lk_app (A C:FL) (i:Nat):lk (A++C) i=match lk A i with
 | some e=>some e
 | none=>lk C i:=by
 induction A with
 | nil=>rfl
 | cons p r ih =>
  obtain ⟨k,e⟩:=p
  by_cases hk:k=i
  ·subst hk; rw [List.cons_append,lk_cons_eq,lk_cons_eq]
  ·rw [List.cons_append,lk_cons_ne hk,lk_cons_ne hk,ih]
theorem lk_mapI (B:BL) (I:IL) (i:Nat):lk (I.map (λ p=>(p.1,Ent.val (kI B p.2)))) i=(lkA I i).map λ e => .val (kI B e):=by
 induction I with
 | nil=>rfl
 | cons p r ih =>
  obtain ⟨k,e⟩:=p
  by_cases hk:k=i
  ·subst hk; rw [List.map_cons,lk_cons_eq,lkA_eq]; rfl
  ·rw [List.map_cons,lk_cons_ne hk,lkA_ne hk,ih]
theorem lk_mapL (B:BL) (L:SL) (i:Nat):lk (L.map (λ p=>(p.1,entS B p.2))) i=(lkA L i).map (entS B):=by
 induction L with
 | nil=>rfl
 | cons p r ih =>
  obtain ⟨k,e⟩:=p
  by_cases hk:k=i
  ·subst hk; rw [List.map_cons,lk_cons_eq,lkA_eq]; rfl
  ·rw [List.map_cons,lk_cons_ne hk,lkA_ne hk,ih]
def kv (L:SL) (I:IL) (B:BL) (t:Nat):Option Value:=match lkA I t with
 | some e=>some (kI B e)
 | none=>match lkA L t with
  | some s=>dvO B s
  | none=>none
theorem vl_fl (L:SL) (I:IL) (B:BL) (t:Nat):vl (lk (fl L I B) t)=kv L I B t:=by
 unfold fl kv
 rw [lk_app,lk_mapI,lk_mapL]
 cases lkA I t with
 | some e=>rfl
 | none =>
  cases lkA L t with
  | none=>rfl
  | some s =>
   show vl (some (entS B s))=dvO B s
   unfold entS
   cases dvO B s <;> rfl
def bq (c b:Bool):Bool:=match c with
 | true=>b
 | false => !b
theorem bq_eq {c b:Bool} (h:bq c b=true):c=b:=by cases c <;> cases b <;> simp_all [bq]
def gx (L:SL) (I:IL) (t:Nat) (c:Bool):Option Bool:=match lkA I t with
 | some e=>match e.s with
  | .v (.bool b)=>some (e.g&&bq c b)
  | _=>none
 | none=>match lkA L t with
  | some (.v (.bool b))=>some (bq c b)
  | _=>none
def Inv (L:SL) (I:IL):Prop:=∀ d e,lkA I d=some e→gx L I e.t e.c=some e.g
def usb (I:IL):Nat→Nat→Bool→Nat→Bool→Bool
 | 0,t0,c0,t1,c1=>Nat.beq t0 t1&&bq c0 c1
 | f+1,t0,c0,t1,c1=>(Nat.beq t0 t1&&bq c0 c1)||(match lkA I t0 with
  | some e=>usb I f e.t e.c t1 c1
  | none=>false)
theorem usb_sound {L:SL} {I:IL} (hI:Inv L I):∀ (f t0:Nat) (c0:Bool) (t1:Nat) (c1 g0:Bool),gx L I t0 c0=some g0→usb I f t0 c0 t1 c1=true→g0=true→gx L I t1 c1=some true:=by
 intro f
 induction f with
 | zero =>
  intro t0 c0 t1 c1 g0 h0 hu hg
  simp only [usb,Bool.and_eq_true] at hu
  obtain rfl:=Nat.eq_of_beq_eq_true hu.1
  obtain rfl:=bq_eq hu.2
  rw [h0,hg]
 | succ f ih =>
  intro t0 c0 t1 c1 g0 h0 hu hg
  simp only [usb,Bool.or_eq_true,Bool.and_eq_true] at hu
  rcases hu with hu | hu
  ·obtain rfl:=Nat.eq_of_beq_eq_true hu.1
   obtain rfl:=bq_eq hu.2
   rw [h0,hg]
  ·cases hl:lkA I t0 with
   | none=>rw [hl] at hu; cases hu
   | some e =>
    rw [hl] at hu
    have h1:=h0
    unfold gx at h1
    rw [hl] at h1
    simp only at h1
    have he:e.g=true:=by
     cases hs:e.s with
     | v x =>
      rw [hs] at h1
      cases x <;> simp at h1
      rw [hg] at h1
      simp only [Bool.and_eq_true] at h1
      exact h1.1
     | _=>rw [hs] at h1; cases h1
    exact ih _ _ _ _ _ (hI _ _ hl) hu he
def rdT (L:SL) (I:IL) (cx:Option (Nat×Bool)) (t:Nat):Option SV:=match lkA I t with
 | some e=>match cx with
  | none=>none
  | some (t0,c0)=>bif usb I 8 t0 c0 e.t e.c then some e.s else none
 | none=>lkA L t
def rdS (L:SL) (I:IL) (cx:Option (Nat×Bool)):Operand→Option SV
 | .tmp t=>match rdT L I cx t with
  | some .u=>none
  | r=>r
 | .const v=>some (.v v)
 | .global g=>some (.v (.pointer (some ⟨g,0,none⟩)))
 | .func f=>some (.v (.func (.func f) #[] #[]))
def cxOk (L:SL) (I:IL) (cx:Option (Nat×Bool)) (og:Option Bool):Prop:=match cx with
 | none=>og=none
 | some (t,c)=>∃ g,gx L I t c=some g∧og=some g
def yes (og:Option Bool):Prop:=∀ g,og=some g→g=true
def gc (og:Option Bool) (C:Prop):Prop:=match og with
 | none=>C
 | some g=>g=true→C
theorem gc_yes {og:Option Bool} {C:Prop} (h:gc og C) (hy:yes og):C:=by
 cases og with
 | none=>exact h
 | some g=>exact h (hy g rfl)
theorem dv_some {B:BL} {s:SV} {v:Value} (h:dvO B s=some v):dv B s=v:=by simp [dv,h]
theorem rdS_ev {L:SL} {I:IL} {B:BL} {cx:Option (Nat×Bool)} {og:Option Bool} (hI:Inv L I) (hc:cxOk L I cx og) (hy:yes og) {x:Operand} {s:SV} {v:Value} (h:rdS L I cx x=some s) (hv:dvO B s=some v) :
  ev (fl L I B) x=some v:=by
 cases x with
 | tmp t =>
  show vl (lk (fl L I B) t)=some v
  rw [vl_fl]
  have h1:rdT L I cx t=some s:=by
   simp only [rdS] at h
   split at h
   ·cases h
   ·exact h
  unfold rdT at h1
  unfold kv
  cases hl:lkA I t with
  | none =>
   rw [hl] at h1
   simp only at h1 ⊢
   rw [h1]; exact hv
  | some e =>
   rw [hl] at h1
   cases cx with
   | none=>cases h1
   | some p =>
    obtain ⟨t0,c0⟩:=p
    simp only at h1
    cases hu:usb I 8 t0 c0 e.t e.c with
    | false=>rw [hu] at h1; cases h1
    | true =>
     rw [hu] at h1
     have hs:e.s=s:=Option.some.inj h1
     obtain ⟨g,hg,hog⟩:=hc
     have:=usb_sound hI 8 t0 c0 e.t e.c g hg hu (hy g hog)
     rw [hI t e hl] at this
     have he:e.g=true:=Option.some.inj this
     simp only [kI,he,cond_true,hs,dv_some hv]
 | const c=>simp only [rdS,Option.some.injEq] at h; subst h; exact hv
 | global c=>simp only [rdS,Option.some.injEq] at h; subst h; exact hv
 | func c=>simp only [rdS,Option.some.injEq] at h; subst h; exact hv
def nthV {β:Type}:List β→Nat→Option β
 | [],_=>none
 | x::_,0=>some x
 | _::l,n+1=>nthV l n
theorem nthV_eq {β:Type}:∀ (l:List β) (n:Nat),nthV l n=l[n]?
 | [],n=>by simp [nthV]
 | x::l,0=>by simp [nthV]
 | x::l,n+1=>by simp [nthV,nthV_eq l n]
def takK:List Value→Nat→(List Value→Prop)→Prop
 | _,0,K=>K []
 | x::l,n+1,K=>takK l n λ r=>K (x::r)
 | [],_+1,_=>False
def subK:List Value→Nat→Nat→(List Value→Prop)→Prop
 | l,0,n,K=>takK l n K
 | _::l,o+1,n,K=>subK l o n K
 | [],_+1,_,_=>False
theorem takK_sound:∀ {l:List Value} {n:Nat} {K:List Value→Prop},takK l n K→K (l.take n)∧n≤l.length
 | l,0,K,h=>by cases l <;> exact ⟨h,Nat.zero_le _⟩
 | x::l,n+1,K,h=>by have:=takK_sound (l:=l) h; exact ⟨by simpa using this.1,by simpa using this.2⟩
 | [],_+1,_,h=>h.elim
theorem subK_sound:∀ {l:List Value} {o n:Nat} {K:List Value→Prop},subK l o n K→K ((l.drop o).take n)∧o+n≤l.length
 | l,0,n,K,h=>by
  have h':takK l n K:=by cases l <;> exact h
  have:=takK_sound h'; simpa using this
 | x::l,o+1,n,K,h=>by have:=subK_sound (l:=l) h; exact ⟨by simpa using this.1,by simp; omega⟩
 | [],_+1,_,_,h=>h.elim
def putK:List Value→List Value→(List Value→Prop)→Prop
 | l,[],K=>K l
 | _::l,c::cs,K=>putK l cs λ r=>K (c::r)
 | [],_::_,_=>False
def setK:List Value→Nat→List Value→(List Value→Prop)→Prop
 | l,0,cs,K=>putK l cs K
 | x::l,o+1,cs,K=>setK l o cs λ r=>K (x::r)
 | [],_+1,_,_=>False
theorem putK_sound:∀ {l cs:List Value} {K:List Value→Prop},putK l cs K→K (cs++l.drop cs.length)∧cs.length≤l.length
 | l,[],K,h=>by cases l <;> exact ⟨by simpa [putK] using h,Nat.zero_le _⟩
 | x::l,c::cs,K,h=>by have:=putK_sound (l:=l) (cs:=cs) h; exact ⟨by simpa using this.1,by simpa using this.2⟩
 | [],_::_,_,h=>h.elim
theorem setK_sound:∀ {l:List Value} {o:Nat} {cs:List Value} {K:List Value→Prop},setK l o cs K→K (spl l o cs)∧o+cs.length≤l.length
 | l,0,cs,K,h=>by
  have h':putK l cs K:=by cases l <;> exact h
  have:=putK_sound h'
  exact ⟨by simpa [spl] using this.1,by simpa using this.2⟩
 | x::l,o+1,cs,K,h=>by
  have:=setK_sound (l:=l) h
  refine ⟨?_,by simp; omega⟩
  have h1:=this.1
  simpa [spl,Nat.add_right_comm] using h1
 | [],_+1,_,_,h=>h.elim
def lenB:List Value→Nat→Bool
 | [],0=>true
 | _::l,n+1=>lenB l n
 | _,_=>false
theorem lenB_eq:∀ {l:List Value} {n:Nat},lenB l n=true→l.length=n
 | [],0,_=>rfl
 | _::l,n+1,h=>by simp [lenB_eq (l:=l) h]
 | [],_+1,h=>by cases h
 | _::_,0,h=>by cases h
def notAgg:Value→Bool
 | .agg _=>false
 | _=>true
def celK (B:BL) (s:SV) (K:List Value→Prop):Prop:=match s with
 | .v (.agg ⟨l⟩)=>K l
 | .v v=>bif notAgg v then K [v] else False
 | .o k f=>match dvO B (.o k f) with
  | some v=>K [v]
  | none=>False
 | .s k f n cp=>match dvO B (.s k f n cp) with
  | some v=>K [v]
  | none=>False
 | _=>False
theorem cells_one {v:Value} (h:notAgg v=true):v.cells=#[v]:=by cases v <;> first | rfl | (simp [notAgg] at h)
theorem celK_sound {B:BL} {s:SV} {K:List Value→Prop} (h:celK B s K):∃ cs v,K cs∧dvO B s=some v∧v.cells=cs.toArray:=by
 cases s with
 | v x =>
  by_cases hx:notAgg x=true
  ·have:K [x]:=by
    cases x <;> first | exact h | (simp [notAgg] at hx)
   exact ⟨[x],x,this,rfl,cells_one hx⟩
  ·cases x with
   | agg cs =>
    obtain ⟨l⟩:=cs
    exact ⟨l,_,h,rfl,rfl⟩
   | _=>exact absurd rfl hx
 | o k f =>
  simp only [celK] at h
  cases hd:dvO B (.o k f) with
  | none=>rw [hd] at h; exact h.elim
  | some v =>
   rw [hd] at h
   refine ⟨[v],v,h,rfl,cells_one ?_⟩
   simp only [dvO] at hd
   split at hd <;> cases hd <;> rfl
 | s k f n cp =>
  simp only [celK] at h
  cases hd:dvO B (.s k f n cp) with
  | none=>rw [hd] at h; exact h.elim
  | some v =>
   rw [hd] at h
   refine ⟨[v],v,h,rfl,cells_one ?_⟩
   simp only [dvO] at hd
   split at hd <;> cases hd <;> rfl
 | r e n cs=>exact h.elim
 | u=>exact h.elim
end Go.Dx
namespace Go.Dx
open Go Go.RowKit
def AggEq (P:Program) (t:Nat) (a b:List Value) (r:Bool):Prop :=
 P.eqGuardType P.depth t=false∧∀ w,(Op.equalIn 10000 t (.agg a.toArray) (.agg b.toArray)).run P w = .ok r w
theorem EqT.ag {P:Program} {t:Nat} {α:Type} [DecidableEq α] {f:α→List Value} (h:EqT P t f) (a b:α):AggEq P t (f a) (f b) (decide (a=b)):=⟨h.1,λ w=>h.2 w a b⟩
def ikb:IntKind→IntKind→Bool
 | .i8,.i8 | .i16,.i16 | .i32,.i32 | .i64,.i64 | .u8,.u8 | .u16,.u16 | .u32,.u32 | .u64,.u64=>true
 | _,_=>false
theorem ikb_eq {k l:IntKind} (h:ikb k l=true):k=l:=by cases k <;> cases l <;> first | rfl | cases h
def pvArith (og:Option Bool) (b:BinOp) (k:IntKind) (m n:Int) (K:SV→Prop):Prop:=match b with
 | .add=>∃ r,gc og (k.wrap (m+n)=r)∧K (.v (.int k r))
 | .sub=>∃ r,gc og (k.wrap (m - n)=r)∧K (.v (.int k r))
 | .mul=>∃ r,gc og (k.wrap (m*n)=r)∧K (.v (.int k r))
 | .quo=>∃ r,gc og (n≠0∧k.wrap (m.tdiv n)=r)∧K (.v (.int k r))
 | .rem=>∃ r,gc og (n≠0∧m.tmod n=r)∧K (.v (.int k r))
 | .and=>∃ r,gc og (k.wrap ((BitVec.ofInt k.bits m &&& BitVec.ofInt k.bits n).toNat:Int)=r)∧K (.v (.int k r))
 | .or=>∃ r,gc og (k.wrap ((BitVec.ofInt k.bits m ||| BitVec.ofInt k.bits n).toNat:Int)=r)∧K (.v (.int k r))
 | .xor=>∃ r,gc og (k.wrap ((BitVec.ofInt k.bits m ^^^ BitVec.ofInt k.bits n).toNat:Int)=r)∧K (.v (.int k r))
 | .andNot=>∃ r,gc og (k.wrap ((BitVec.ofInt k.bits m &&& ~~~ BitVec.ofInt k.bits n).toNat:Int)=r)∧K (.v (.int k r))
 | .eql=>K (.v (.bool (decide (m=n))))
 | .neq=>K (.v (.bool (!decide (m=n))))
 | .lss=>K (.v (.bool (decide (m<n))))
 | .leq=>K (.v (.bool (decide (m≤n))))
 | .gtr=>K (.v (.bool (decide (n<m))))
 | .geq=>K (.v (.bool (decide (n≤m))))
 | _=>False
def pvInt (og:Option Bool) (b:BinOp) (k:IntKind) (m:Int) (k2:IntKind) (n:Int) (K:SV→Prop):Prop:=match b with
 | .shl=>∃ r,gc og (0≤n∧k.wrap (m*2 ^ (min n.toNat k.bits))=r)∧K (.v (.int k r))
 | .shr=>∃ r,gc og (0≤n∧m.fdiv (2 ^ (min n.toNat k.bits))=r)∧K (.v (.int k r))
 | b=>bif ikb k k2 then pvArith og b k m n K else False
def pvStr (og:Option Bool) (b:BinOp) (l l':List UInt8) (K:SV→Prop):Prop:=match b with
 | .add=>gc og (l.length+l'.length≤9223372036854775807)∧K (.v (vs (l++l')))
 | .eql=>K (.v (.bool (decide (l=l'))))
 | .neq=>K (.v (.bool (!decide (l=l'))))
 | .lss=>K (.v (.bool (decide (Lib.compareBytes l l' = -1))))
 | _=>False
def ldK (td:TD) (cs:List Value) (f:Nat) (K:SV→Prop):Prop :=
 bif td.ag then (bif Nat.beq f 0&&lenB cs td.sz then K (.v (.agg cs.toArray)) else subK cs f td.sz λ l=>K (.v (.agg l.toArray)))
 else match nthV cs f with
  | some v=>K (.v v)
  | none=>False
def kg (og g:Option Bool) (X:Prop):Prop:=match g with
 | none=>X
 | some g1=>gc og (g1=true)∧X
def pvLoad (h0:View) (F:View→Prop) (B:BL) (og:Option Bool) (td:TD) (K:SV→Prop):SV→Prop
 | .o k f=>match lkA B k with
  | some (.c _ _ cs)=>ldK td cs f K
  | some (.k g _ _ cs)=>kg og g (ldK td cs f K)
  | _=>False
 | .v (.pointer (some ad))=>bif td.ag then (∃ cs:List Value,gc og (cs.length=td.sz∧∀ v w,VLe h0 v→F v→VLe v (Full w)→∀ j v,cs[j]?=some v→w.cell? (ad.add j)=some v)∧K (.v (.agg cs.toArray)))
  else ∃ v,gc og (∀ v' w,VLe h0 v'→F v'→VLe v' (Full w)→w.cell? ad=some v)∧K (.v v)
 | _=>False
def argK (ρ:Operand→Option SV) (B:BL):List Operand→(List Value→Prop)→Prop
 | [],K=>K []
 | x::r,K=>match ρ x with
  | some s=>match dvO B s with
   | some v=>argK ρ B r λ l=>K (v::l)
   | none=>False
  | none=>False
def bldK (ρ:Operand→Option SV) (B:BL) (fs:List (Nat×Nat×Bool)):List (Nat×Operand)→List Value→(List Value→Prop)→Prop
 | [],z,K=>K z
 | (i,x)::r,z,K=>match nthV fs i,ρ x with
  | some (off,sz,_),some s=>celK B s λ cs=>bif lenB cs sz then setK z off cs λ z'=>bldK ρ B fs r z' K else False
  | _,_=>False
def hasN (B:BL) (s:SV) (X:Prop):Prop:=match dvO B s with
 | some _=>X
 | none=>False
def pvSlice (og:Option Bool) (td:TD) (x:SV) (lo hi:Option SV) (K:SV→Prop):Prop:=match x with
 | .v (.string ⟨⟨l⟩⟩)=>match td.u,lo,hi with
  | .str,some (.v (.int _ i)),none=>∃ j:Nat,gc og (i=(j:Int)∧j≤l.length)∧K (.v (vs (l.drop j)))
  | .str,none,some (.v (.int _ i))=>∃ j:Nat,gc og (i=(j:Int)∧j≤l.length)∧K (.v (vs (l.take j)))
  | .str,some (.v (.int _ i)),some (.v (.int _ i2))=>∃ j j2:Nat,gc og (i=(j:Int)∧i2=(j2:Int)∧j≤j2∧j2≤l.length)∧K (.v (vs ((l.drop j).take (j2 - j))))
  | _,_,_=>False
 | .v (.slice ad n c)=>match td.u,lo,hi with
  | .sl _ sz,some (.v (.int _ i)),none=>∃ j:Nat,gc og (i=(j:Int)∧j≤n∧n≤c)∧K (.v (.slice (if c=j then ad else ad.map (·.add (j*sz))) (n - j) (c - j)))
  | .sl _ _,none,some (.v (.int _ i))=>∃ j:Nat,gc og (i=(j:Int)∧j≤c)∧K (.v (.slice ad j c))
  | .sl _ sz,some (.v (.int _ i)),some (.v (.int _ i2))=>∃ j j2:Nat,gc og (i=(j:Int)∧i2=(j2:Int)∧j≤j2∧j2≤c)∧K (.v (.slice (if c=j then ad else ad.map (·.add (j*sz))) (j2 - j) (c - j)))
  | _,_,_=>False
 | _=>False
def pvField (cs:List Value) (f:Option (Nat×Nat×Bool)) (K:SV→Prop):Prop:=match f with
 | some (off,_,false)=>match nthV cs off with
  | some v=>K (.v v)
  | none=>False
 | _=>False
def optR (ρ:Operand→Option SV) (x:Option Operand) (K:Option SV→Prop):Prop:=match x with
 | none=>K none
 | some y=>match ρ y with
  | some s=>K (some s)
  | none=>False
def pvBin (P:Program) (T:Tab) (og:Option Bool) (b:BinOp) (t:Nat) (x y:SV) (K:SV→Prop):Prop:=match x,y with
 | .v (.int k m),.v (.int k2 n)=>pvInt og b k m k2 n K
 | .v (.string ⟨⟨l⟩⟩),.v (.string ⟨⟨l'⟩⟩)=>pvStr og b l l' K
 | .v (.bool p),.v (.bool q)=>match lkA T.tys t with
  | some ⟨.bool,_,_,_⟩=>match b with
   | .eql=>K (.v (.bool (p == q)))
   | .neq=>K (.v (.bool (!(p == q))))
   | _=>False
  | _=>False
 | .v (.agg ⟨a⟩),.v (.agg ⟨c⟩)=>match b with
  | .eql=>∃ r,gc og (AggEq P t a c r)∧K (.v (.bool r))
  | .neq=>∃ r,gc og (AggEq P t a c r)∧K (.v (.bool (!r)))
  | _=>False
 | _,_=>False
def pvNil (B:BL) (x:SV) (K:SV→Prop):Prop:=match x with
 | .o k f=>hasN B (.o k f) (K (.o k f))
 | .v (.pointer (some ad))=>K (.v (.pointer (some ad)))
 | .v (.func (.func f) a c)=>K (.v (.func (.func f) a c))
 | _=>False
def pvUn (og:Option Bool) (o:UnOp) (x:SV) (K:SV→Prop):Prop:=match o,x with
 | .not,.v (.bool b)=>K (.v (.bool (!b)))
 | .neg,.v (.int k m)=>∃ r,gc og (k.wrap (0 - m)=r)∧K (.v (.int k r))
 | _,_=>False
def pvFA (B:BL) (f:Option (Nat×Nat×Bool)) (x:SV) (K:SV→Prop):Prop:=match f with
 | some (off,_+1,_)=>match x with
  | .o k o=>hasN B (.o k o) (K (.o k (o+off)))
  | .v (.pointer (some ⟨b,o,none⟩))=>K (.v (.pointer (some ⟨b,o+off,none⟩)))
  | _=>False
 | _=>False
def pvMM (og:Option Bool) (mx:Bool) (x y:SV) (K:SV→Prop):Prop:=match x,y with
 | .v (.int k m),.v (.int _ n)=>match mx with
  | true=>∃ r,gc og ((if m<n then n else m)=r)∧K (.v (.int k r))
  | false=>∃ r,gc og ((if n<m then n else m)=r)∧K (.v (.int k r))
 | _,_=>False
def pvLen (B:BL) (td:Option TD) (x:SV) (K:SV→Prop):Prop:=match td,x with
 | some ⟨.str,_,_,_⟩,.v (.string ⟨⟨l⟩⟩)=>K (.v (.int .i64 l.length))
 | some ⟨.sl _ _,_,_,_⟩,.v (.slice _ n _)=>K (.v (.int .i64 n))
 | some ⟨.sl _ _,_,_,_⟩,.s k f n cp=>hasN B (.s k f n cp) (K (.v (.int .i64 n)))
 | _,_=>False
def pvConv (og:Option Bool) (a b:Option TD) (x:SV) (K:SV→Prop):Prop:=match a,b,x with
 | some _,some ⟨.int k',_,_,_⟩,.v (.int _ m)=>∃ r,gc og (k'.wrap m=r)∧K (.v (.int k' r))
 | _,_,_=>False
def pvIdx (og:Option Bool) (td:Option TD) (x y:SV) (K:SV→Prop):Prop:=match td,x,y with
 | some ⟨.str,_,_,_⟩,.v (.string ⟨⟨l⟩⟩),.v (.int _ i)=>∃ j:Nat,gc og (i=(j:Int)∧j<l.length)∧K (.v (v8 (l.getD j 0)))
 | _,_,_=>False
def rd1 (ρ:Operand→Option SV) (x:Operand) (K:SV→Prop):Prop:=match ρ x with
 | some s=>K s
 | none=>False
def pv (P:Program) (T:Tab) (h0:View) (F:View→Prop) (B:BL) (og:Option Bool) (ρ:Operand→Option SV) (K:SV→Prop):Op→Prop
 | .move x=>rd1 ρ x λ s=>hasN B s (K s)
 | .assign x=>rd1 ρ x λ s=>hasN B s (K s)
 | .nilCheck x=>rd1 ρ x λ s=>pvNil B s K
 | .binOp b t x y _=>rd1 ρ x λ s=>rd1 ρ y λ s'=>pvBin P T og b t s s' K
 | .unOp o _ x=>rd1 ρ x λ s=>pvUn og o s K
 | .convert a b x=>rd1 ρ x λ s=>pvConv og (lkA T.tys a) (lkA T.tys b) s K
 | .extract x i=>rd1 ρ x λ s=>match s with
  | .v (.tuple ⟨l⟩)=>match nthV l i with
   | some v=>K (.v v)
   | none=>False
  | _=>False
 | .makeFunc fn ⟨[]⟩ ⟨cs⟩=>argK ρ B cs λ l=>K (.v (.func fn #[] l.toArray))
 | .fieldAddr t x i=>match lkA T.tys t with
  | some ⟨.st fs,_,_,_⟩=>rd1 ρ x λ s=>pvFA B (nthV fs i) s K
  | _=>False
 | .field t x i=>match lkA T.tys t with
  | some ⟨.st fs,_,_,_⟩=>rd1 ρ x λ s=>match s with
   | .v (.agg ⟨cs⟩)=>pvField cs (nthV fs i) K
   | _=>False
  | _=>False
 | .index t x y=>rd1 ρ x λ s=>rd1 ρ y λ s'=>pvIdx og (lkA T.tys t) s s' K
 | .slice t x lo hi none=>match lkA T.tys t with
  | some td=>rd1 ρ x λ s=>optR ρ lo λ a=>optR ρ hi λ b=>pvSlice og td s a b K
  | none=>False
 | .load t x=>match lkA T.tys t with
  | some td=>rd1 ρ x λ s=>pvLoad h0 F B og td K s
  | none=>False
 | .build t ⟨ps⟩=>match lkA T.tys t with
  | some ⟨.st fs,_,_,z⟩=>bldK ρ B fs ps z λ l=>K (.v (.agg l.toArray))
  | _=>False
 | .call ⟨.builtin .len,⟨[x]⟩,⟨t::_⟩⟩=>rd1 ρ x λ s=>pvLen B (lkA T.tys t) s K
 | .call ⟨.builtin .min,⟨[x,y]⟩,_⟩=>rd1 ρ x λ s=>rd1 ρ y λ s'=>pvMM og false s s' K
 | .call ⟨.builtin .max,⟨[x,y]⟩,_⟩=>rd1 ρ x λ s=>rd1 ρ y λ s'=>pvMM og true s s' K
 | _=>False
structure WOk (h0:View) (F:View→Prop) (B:BL) (w:World):Prop where
 vw:∃ v,VLe h0 v∧F v∧VLe v (Full w)
 own:∀ k b T cs,lkA B k=some (.c b T cs)→w.heap[b]?=some (.cells cs.toArray T (0,0))
def KnC (h0:View) (F:View→Prop) (b o:Nat) (cs:List Value):Prop:=∀ v w,VLe h0 v→F v→VLe v (Full w)→∀ j x,cs[j]?=some x→w.cell? ⟨b,o+j,none⟩=some x
def BOk (h0:View) (F:View→Prop) (B:BL):Prop:=∀ k g b o cs,(k,OB.k g b o cs)∈B→gc g (KnC h0 F b o cs)
def Good (P:Program) (B:BL) (L:FL) (h0:View) (F:View→Prop) (op:Op) (og:Option Bool) (K:SV→Prop):Prop :=
 ∃ s v,K s∧dvO B s=some v∧(yes og→∀ w,WOk h0 F B w→∀ d ty pos af g,Pu P L ⟨d,op,ty,pos,af,g⟩ w v)
section sound
variable {P:Program} {T:Tab} {h0:View} {F:View→Prop} {B:BL} {og:Option Bool} {ρ:Operand→Option SV} {K:SV→Prop} {L:FL} (hT:T.Ok P) (hB:BOk h0 F B)
 (hρ:yes og→∀ x s v,ρ x=some s→dvO B s=some v→ev L x=some v)
include hρ
theorem ev_v {x:Operand} {v:Value} (hy:yes og) (h:ρ x=some (.v v)):ev L x=some v:=hρ hy x _ v h rfl
theorem argK_sound:∀ {l:List Operand} {K:List Value→Prop},argK ρ B l K→∃ vsl,K vsl∧(yes og→evs L l=some vsl)
 | [],K,h=>⟨[],h,λ _=>rfl⟩
 | x::r,K,h=>by
  unfold argK at h
  split at h
  ·rename_i s hs
   split at h
   ·rename_i v hv
    obtain ⟨vsl,h1,h2⟩:=argK_sound h
    exact ⟨_,h1,λ hy=>by simp only [evs,hρ hy x s v hs hv,h2 hy]⟩
   ·exact h.elim
  ·exact h.elim
theorem bldK_sound {fs:List (Nat×Nat×Bool)}:∀ {ps:List (Nat×Operand)} {z:List Value} {K:List Value→Prop},bldK ρ B fs ps z K →
  ∃ cs vsl,K cs∧(yes og→evs L (ps.map (·.2))=some vsl)∧fillL (fs.map λ p=>(p.1,p.2.1)) z ((ps.map (·.1)).zip vsl)=some cs
 | [],z,K,h=>⟨z,[],h,λ _=>rfl,rfl⟩
 | (i,x)::r,z,K,h=>by
  unfold bldK at h
  split at h
  ·rename_i off sz ag s hf hs
   obtain ⟨cs,v,h1,hv,hc⟩:=celK_sound h
   cases hl:lenB cs sz with
   | false=>rw [hl] at h1; exact h1.elim
   | true =>
    rw [hl] at h1
    obtain ⟨h2,hle⟩:=setK_sound h1
    obtain ⟨cs',vsl,g1,g2,g3⟩:=bldK_sound h2
    refine ⟨cs',v::vsl,g1,λ hy=>by simp only [List.map_cons,evs,hρ hy x s v hs hv,g2 hy],?_⟩
    simp only [List.map_cons,List.zip_cons_cons]
    have hlen:=lenB_eq hl
    unfold fillL
    have hp:(fs.map λ p=>(p.1,p.2.1))[i]?=some (off,sz):=by
     rw [nthV_eq] at hf; simp [hf]
    simp only [hp,hc]
    rw [if_neg (by simp; omega)]
    exact g3
  ·exact h.elim
omit hρ in
theorem rd1_sound {x:Operand} {K:SV→Prop} (h:rd1 ρ x K):∃ s,ρ x=some s∧K s:=by
 unfold rd1 at h
 split at h
 ·exact ⟨_,by assumption,h⟩
 ·exact h.elim
omit hρ in
theorem gc_mk {og:Option Bool} {C:Prop} (h:yes og→C):gc og C:=by
 cases og with
 | none=>exact h (λ g hg=>by cases hg)
 | some g=>exact λ hg=>h λ g' hg'=>by cases hg'; exact hg
theorem pvArith_sound {b:BinOp} {k:IntKind} {m n:Int} {x y:Operand} {t t':Nat} (hx:ρ x=some (.v (.int k m))) (hy:ρ y=some (.v (.int k n))) (h:pvArith og b k m n K):Good P B L h0 F (.binOp b t x y t') og K:=by
 have ex:=λ hy=>ev_v hρ hy hx
 have ey:=λ hz=>ev_v hρ hz hy
 cases b <;> simp only [pvArith] at h <;> first | exact h.elim | skip
 case eql=>exact ⟨_,_,h,rfl,λ hz w _ d ty pos af g=>pu_ieq (ex hz) (ey hz)⟩
 case neq=>exact ⟨_,_,h,rfl,λ hz w _ d ty pos af g=>pu_ine (ex hz) (ey hz)⟩
 case lss=>exact ⟨_,_,h,rfl,λ hz w _ d ty pos af g=>pu_ilt (ex hz) (ey hz)⟩
 case leq=>exact ⟨_,_,h,rfl,λ hz w _ d ty pos af g=>pu_ile (ex hz) (ey hz)⟩
 case gtr=>exact ⟨_,_,h,rfl,λ hz w _ d ty pos af g=>pu_igt (ex hz) (ey hz)⟩
 case geq=>exact ⟨_,_,h,rfl,λ hz w _ d ty pos af g=>pu_ige (ex hz) (ey hz)⟩
 all_goals obtain ⟨r,hr,hk⟩:=h
 case add=>exact ⟨_,_,hk,rfl,λ hz w _ d ty pos af g=>pu_add (ex hz) (ey hz) (gc_yes hr hz)⟩
 case sub=>exact ⟨_,_,hk,rfl,λ hz w _ d ty pos af g=>pu_sub (ex hz) (ey hz) (gc_yes hr hz)⟩
 case mul=>exact ⟨_,_,hk,rfl,λ hz w _ d ty pos af g=>pu_mul (ex hz) (ey hz) (gc_yes hr hz)⟩
 case quo=>exact ⟨_,_,hk,rfl,λ hz w _ d ty pos af g=>pu_quo (ex hz) (ey hz) (gc_yes hr hz).1 (gc_yes hr hz).2⟩
 case rem=>exact ⟨_,_,hk,rfl,λ hz w _ d ty pos af g=>pu_rem (ex hz) (ey hz) (gc_yes hr hz).1 (gc_yes hr hz).2⟩
 case and=>exact ⟨_,_,hk,rfl,λ hz w _ d ty pos af g=>pu_and (ex hz) (ey hz) (gc_yes hr hz)⟩
 case or=>exact ⟨_,_,hk,rfl,λ hz w _ d ty pos af g=>pu_or (ex hz) (ey hz) (gc_yes hr hz)⟩
 case xor=>exact ⟨_,_,hk,rfl,λ hz w _ d ty pos af g=>pu_xor (ex hz) (ey hz) (gc_yes hr hz)⟩
 case andNot=>exact ⟨_,_,hk,rfl,λ hz w _ d ty pos af g=>pu_andnot (ex hz) (ey hz) (gc_yes hr hz)⟩
theorem pvInt_sound {b:BinOp} {k k2:IntKind} {m n:Int} {x y:Operand} {t t':Nat} (hx:ρ x=some (.v (.int k m))) (hy:ρ y=some (.v (.int k2 n))) (h:pvInt og b k m k2 n K):Good P B L h0 F (.binOp b t x y t') og K:=by
 have key:(bif ikb k k2 then pvArith og b k m n K else False)→Good P B L h0 F (.binOp b t x y t') og K:=by
  intro h1
  cases hk:ikb k k2 with
  | false=>rw [hk] at h1; exact h1.elim
  | true =>
   rw [hk] at h1
   obtain rfl:=ikb_eq hk
   exact pvArith_sound hρ hx hy h1
 cases b
 case shl =>
  obtain ⟨r,hr,hk⟩:=h
  exact ⟨_,_,hk,rfl,λ hz w _ d ty pos af g=>pu_shl (ev_v hρ hz hx) (ev_v hρ hz hy) (gc_yes hr hz).1 (gc_yes hr hz).2⟩
 case shr =>
  obtain ⟨r,hr,hk⟩:=h
  exact ⟨_,_,hk,rfl,λ hz w _ d ty pos af g=>pu_shr (ev_v hρ hz hx) (ev_v hρ hz hy) (gc_yes hr hz).1 (gc_yes hr hz).2⟩
 all_goals exact key h
theorem pvStr_sound {b:BinOp} {l l':List UInt8} {x y:Operand} {t t':Nat} (hx:ρ x=some (.v (vs l))) (hy:ρ y=some (.v (vs l'))) (h:pvStr og b l l' K):Good P B L h0 F (.binOp b t x y t') og K:=by
 have ex:=λ hy=>ev_v hρ hy hx
 have ey:=λ hz=>ev_v hρ hz hy
 cases b <;> simp only [pvStr] at h <;> first | exact h.elim | skip
 case eql=>exact ⟨_,_,h,rfl,λ hz w _ d ty pos af g=>pu_seq (ex hz) (ey hz)⟩
 case neq=>exact ⟨_,_,h,rfl,λ hz w _ d ty pos af g=>pu_sne (ex hz) (ey hz)⟩
 case lss=>exact ⟨_,_,h,rfl,λ hz w _ d ty pos af g=>pu_slt (ex hz) (ey hz)⟩
 case add=>exact ⟨_,_,h.2,rfl,λ hz w _ d ty pos af g=>pu_cat (ex hz) (ey hz) (gc_yes h.1 hz)⟩
include hT in
theorem pvBin_sound {b:BinOp} {x y:Operand} {s s':SV} {t t':Nat} (hx:ρ x=some s) (hy:ρ y=some s') (h:pvBin P T og b t s s' K):Good P B L h0 F (.binOp b t x y t') og K:=by
 unfold pvBin at h
 split at h
 ·exact pvInt_sound hρ hx hy h
 ·exact pvStr_sound hρ hx hy h
 ·split at h
  ·rename_i hl
   have ht:=td_bool (hT.td hl) rfl
   split at h
   ·exact ⟨_,_,h,rfl,λ hz w _ d ty pos af g=>pu_beq ht (ev_v hρ hz hx) (ev_v hρ hz hy)⟩
   ·exact ⟨_,_,h,rfl,λ hz w _ d ty pos af g=>pu_bne ht (ev_v hρ hz hx) (ev_v hρ hz hy)⟩
   ·exact h.elim
  ·exact h.elim
 ·split at h
  ·obtain ⟨r,hr,hk⟩:=h
   refine ⟨_,_,hk,rfl,λ hz w _ d ty pos af g=>?_⟩
   have ha:=gc_yes hr hz
   intro σ hσ
   simp only [execOp,hσ x (by simp [Op.operands]) _ (ev_v hρ hz hx),hσ y (by simp [Op.operands]) _ (ev_v hρ hz hy),Sem.run_bind,run_eqGuard_agg w _ _ _ _ _ _ ha.1,Result.andThen_ok,run_eql_struct,ha.2]
   rfl
  ·obtain ⟨r,hr,hk⟩:=h
   refine ⟨_,_,hk,rfl,λ hz w _ d ty pos af g=>?_⟩
   have ha:=gc_yes hr hz
   intro σ hσ
   simp only [execOp,hσ x (by simp [Op.operands]) _ (ev_v hρ hz hx),hσ y (by simp [Op.operands]) _ (ev_v hρ hz hy),Sem.run_bind,run_eqGuard_agg w _ _ _ _ _ _ ha.1,Result.andThen_ok,run_neq_struct,ha.2]
   rfl
  ·exact h.elim
 ·exact h.elim
omit hρ in
theorem hasN_sound {s:SV} {X:Prop} (h:hasN B s X):∃ v,dvO B s=some v∧X:=by
 unfold hasN at h
 split at h
 ·exact ⟨_,by assumption,h⟩
 ·exact h.elim
include hT hB in
theorem pvLoad_sound {x:Operand} {s:SV} {t:Nat} {td:TD} (ht:lkA T.tys t=some td) (hx:ρ x=some s) (h:pvLoad h0 F B og td K s):Good P B L h0 F (.load t x) og K:=by
 have ht:=hT.td ht
 have key:∀ (cs:List Value) (b o f:Nat),(yes og→ev L x=some (.pointer (some ⟨b,o+f,none⟩)))→(yes og→∀ w,WOk h0 F B w→∀ j v,cs[j]?=some v→w.cell? ⟨b,o+j,none⟩=some v)→ldK td cs f K→Good P B L h0 F (.load t x) og K:=by
  intro cs b o f hx hc h
  unfold ldK at h
  cases hag:td.ag with
  | true =>
   rw [hag] at h
   have hsub:∀ l:List Value,l.length=td.sz→(∀ j v,l[j]?=some v→cs[f+j]?=some v)→K (.v (.agg l.toArray))→Good P B L h0 F (.load t x) og K:=by
    intro l hl hj hk
    refine ⟨_,_,hk,rfl,λ hz w hw d ty pos af g=>pu_loadA (by rw [hl]; exact td_agg ht hag) (hx hz) λ j v hjv=>?_⟩
    rw [add_mk,Nat.add_assoc]
    exact hc hz w hw _ _ (hj j v hjv)
   simp only [cond_true] at h
   cases hw:(Nat.beq f 0&&lenB cs td.sz) with
   | true =>
    rw [hw] at h
    simp only [Bool.and_eq_true] at hw
    obtain rfl:=Nat.eq_of_beq_eq_true hw.1
    exact hsub cs (lenB_eq hw.2) (λ j v hjv=>by simpa using hjv) h
   | false =>
    rw [hw] at h
    obtain ⟨hk,hle⟩:=subK_sound h
    refine hsub _ (by simp; omega) (λ j v hjv=>?_) hk
    rw [List.getElem?_take] at hjv
    split at hjv
    ·simpa using hjv
    ·cases hjv
  | false =>
   rw [hag] at h
   simp only [cond_false] at h
   split at h
   ·rename_i v hv
    rw [nthV_eq] at hv
    exact ⟨_,_,h,rfl,λ hz w hw d ty pos af g=>pu_load1 (td_one ht hag) (hx hz) (hc hz w hw _ _ hv)⟩
   ·exact h.elim
 unfold pvLoad at h
 split at h
 ·rename_i k f
  split at h
  ·rename_i b T' cs hl
   refine key cs b 0 f (λ hz=>?_) (λ hz w hw j v hj=>?_) h
   ·have:=hρ hz x (.o k f) (.pointer (some ⟨b,f,none⟩)) hx (by simp [dvO,hl])
    rwa [Nat.zero_add]
   ·rw [cell_row (hw.own _ _ _ _ hl),Nat.zero_add]; exact hj
  ·rename_i g b o cs hl
   have hg:ldK td cs f K∧(yes og→yes g):=by
    unfold kg at h
    split at h
    ·exact ⟨h,λ _ g' hg'=>by cases hg'⟩
    ·rename_i g1; exact ⟨h.2,λ hz g' hg'=>by cases hg'; exact gc_yes h.1 hz⟩
   refine key cs b o f (λ hz=>?_) (λ hz w hw j v hj=>?_) hg.1
   ·exact hρ hz x (.o k f) (.pointer (some ⟨b,o+f,none⟩)) hx (by simp [dvO,hl])
   ·obtain ⟨v',q1,q2,q3⟩:=hw.vw
    exact gc_yes (hB _ _ _ _ _ (lkA_mem hl)) (hg.2 hz) v' w q1 q2 q3 j v hj
  ·exact h.elim
 ·rename_i ad
  cases hag:td.ag with
  | true =>
   rw [hag] at h
   obtain ⟨cs,hc,hk⟩:=h
   exact ⟨_,_,hk,rfl,λ hz w hw d ty pos af g=>pu_loadA (by rw [(gc_yes hc hz).1]; exact td_agg ht hag) (ev_v hρ hz hx) (let ⟨v',q1,q2,q3⟩:=hw.vw; (gc_yes hc hz).2 v' w q1 q2 q3)⟩
  | false =>
   rw [hag] at h
   obtain ⟨v,hc,hk⟩:=h
   exact ⟨_,_,hk,rfl,λ hz w hw d ty pos af g=>pu_load1 (td_one ht hag) (ev_v hρ hz hx) (let ⟨v',q1,q2,q3⟩:=hw.vw; gc_yes hc hz v' w q1 q2 q3)⟩
 ·exact h.elim
omit hρ in
theorem optR_sound {x:Option Operand} {K:Option SV→Prop} (h:optR ρ x K):(x=none∧K none)∨∃ y s,x=some y∧ρ y=some s∧K (some s):=by
 unfold optR at h
 split at h
 ·exact .inl ⟨rfl,h⟩
 ·split at h
  ·exact .inr ⟨_,_,rfl,by assumption,h⟩
  ·exact h.elim
include hT in
theorem pvSlice_sound {x:Operand} {lo hi:Option Operand} {s:SV} {t:Nat} {td:TD} (ht:lkA T.tys t=some td) (hx:ρ x=some s) (h:optR ρ lo λ a=>optR ρ hi λ b=>pvSlice og td s a b K):Good P B L h0 F (.slice t x lo hi none) og K:=by
 have ht:=hT.td ht
 rcases optR_sound h with ⟨rfl,h1⟩ | ⟨ya,sa,rfl,ha,h1⟩ <;> clear h <;> rcases optR_sound h1 with ⟨rfl,h⟩ | ⟨yb,sb,rfl,hb,h⟩ <;> clear h1 <;> unfold pvSlice at h
 ·split at h <;> (try exact h.elim) <;> split at h <;> first | exact h.elim | simp_all
 ·split at h
  ·split at h
   ·simp_all
   ·rename_i hu _ e
    cases e
    obtain ⟨j,hj,hk⟩:=h
    refine ⟨_,_,hk,rfl,λ hz w _ d ty pos af g=>?_⟩
    have:=pu_to (P:=P) (w:=w) (d:=d) (ty:=ty) (pos:=pos) (af:=af) (g:=g) (td_str ht hu) (ev_v hρ hz hx) (ev_v hρ hz hb) (by have:=gc_yes hj hz; omega) (by have:=gc_yes hj hz; omega)
    rw [(gc_yes hj hz).1] at this
    simpa using this
   ·simp_all
   ·exact h.elim
  ·split at h
   ·simp_all
   ·rename_i hu _ e
    cases e
    obtain ⟨j,hj,hk⟩:=h
    exact ⟨_,_,hk,rfl,λ hz w _ d ty pos af g=>pu_sl_ton (td_sl ht hu) (ev_v hρ hz hx) (ev_v hρ hz hb) (gc_yes hj hz).1 (gc_yes hj hz).2⟩
   ·simp_all
   ·exact h.elim
  ·exact h.elim
 ·split at h
  ·split at h
   ·rename_i hu e _
    cases e
    obtain ⟨j,hj,hk⟩:=h
    refine ⟨_,_,hk,rfl,λ hz w _ d ty pos af g=>?_⟩
    have:=pu_from (P:=P) (w:=w) (d:=d) (ty:=ty) (pos:=pos) (af:=af) (g:=g) (td_str ht hu) (ev_v hρ hz hx) (ev_v hρ hz ha) (by have:=gc_yes hj hz; omega) (by have:=gc_yes hj hz; omega)
    rw [(gc_yes hj hz).1] at this
    simpa using this
   ·simp_all
   ·simp_all
   ·exact h.elim
  ·split at h
   ·rename_i hu e _
    cases e
    obtain ⟨j,hj,hk⟩:=h
    exact ⟨_,_,hk,rfl,λ hz w _ d ty pos af g=>pu_sl_fromn (td_sl ht hu) (ev_v hρ hz hx) (ev_v hρ hz ha) (gc_yes hj hz).1 (gc_yes hj hz).2.1 (gc_yes hj hz).2.2⟩
   ·simp_all
   ·simp_all
   ·exact h.elim
  ·exact h.elim
 ·split at h
  ·split at h
   ·simp_all
   ·simp_all
   ·rename_i hu e e2
    cases e; cases e2
    obtain ⟨j,j2,hj,hk⟩:=h
    refine ⟨_,_,hk,rfl,λ hz w _ d ty pos af g=>?_⟩
    have:=pu_fromto (P:=P) (w:=w) (d:=d) (ty:=ty) (pos:=pos) (af:=af) (g:=g) (td_str ht hu) (ev_v hρ hz hx) (ev_v hρ hz ha) (ev_v hρ hz hb) (by have:=gc_yes hj hz; omega) (by have:=gc_yes hj hz; omega) (by have:=gc_yes hj hz; omega)
    rw [(gc_yes hj hz).1,(gc_yes hj hz).2.1] at this
    simpa using this
   ·exact h.elim
  ·split at h
   ·simp_all
   ·simp_all
   ·rename_i hu e e2
    cases e; cases e2
    obtain ⟨j,j2,hj,hk⟩:=h
    exact ⟨_,_,hk,rfl,λ hz w _ d ty pos af g=>pu_sl_fton (td_sl ht hu) (ev_v hρ hz hx) (ev_v hρ hz ha) (ev_v hρ hz hb) (gc_yes hj hz).1 (gc_yes hj hz).2.1 (gc_yes hj hz).2.2.1 (gc_yes hj hz).2.2.2 rfl⟩
   ·exact h.elim
  ·exact h.elim
theorem pvNil_sound {x:Operand} {s:SV} (hx:ρ x=some s) (h:pvNil B s K):Good P B L h0 F (.nilCheck x) og K:=by
 unfold pvNil at h
 split at h
 ·obtain ⟨v,hv,hk⟩:=hasN_sound h
  refine ⟨_,v,hk,hv,λ hz w _ d ty pos af g=>?_⟩
  have e:=hρ hz _ _ _ hx hv
  have:∃ ad,v = .pointer (some ad):=by
   simp only [dvO] at hv
   split at hv <;> cases hv <;> exact ⟨_,rfl⟩
  obtain ⟨ad,rfl⟩:=this
  exact pu_nil e
 ·exact ⟨_,_,h,rfl,λ hz w _ d ty pos af g=>pu_nil (ev_v hρ hz hx)⟩
 ·refine ⟨_,_,h,rfl,λ hz w _ d ty pos af g=>?_⟩
  intro σ hσ
  simp [execOp,hσ x (by simp [Op.operands]) _ (ev_v hρ hz hx)]
 ·exact h.elim
theorem pvUn_sound {x:Operand} {s:SV} {o:UnOp} {t:Nat} (hx:ρ x=some s) (h:pvUn og o s K):Good P B L h0 F (.unOp o t x) og K:=by
 unfold pvUn at h
 split at h
 ·exact ⟨_,_,h,rfl,λ hz w _ d ty pos af g=>pu_not (ev_v hρ hz hx)⟩
 ·obtain ⟨r,hr,hk⟩:=h
  exact ⟨_,_,hk,rfl,λ hz w _ d ty pos af g=>pu_neg (ev_v hρ hz hx) (gc_yes hr hz)⟩
 ·exact h.elim
include hT in
theorem pvConv_sound {x:Operand} {s:SV} {a b:Nat} (hx:ρ x=some s) (h:pvConv og (lkA T.tys a) (lkA T.tys b) s K):Good P B L h0 F (.convert a b x) og K:=by
 unfold pvConv at h
 split at h
 ·rename_i ha hb
  obtain ⟨r,hr,hk⟩:=h
  obtain ⟨u,_,_,hu,_⟩:=tdOf_parts (hT.td ha)
  exact ⟨_,_,hk,rfl,λ hz w _ d ty pos af g=>pu_conv (td_int (hT.td hb) rfl) ⟨u,hu⟩ (ev_v hρ hz hx) (gc_yes hr hz)⟩
 ·exact h.elim
include hT in
theorem pvFA_sound {x:Operand} {s:SV} {t i:Nat} {td:TD} {fs:List (Nat×Nat×Bool)} (ht:lkA T.tys t=some td) (hu:td.u = .st fs) (hx:ρ x=some s) (h:pvFA B (nthV fs i) s K):Good P B L h0 F (.fieldAddr t x i) og K:=by
 unfold pvFA at h
 split at h
 ·rename_i off sz ag hf
  rw [nthV_eq] at hf
  obtain ⟨fa,f,g1,g2,g3,g4,_⟩:=td_fld (hT.td ht) hu hf
  have hfld:FldAt P t i off:=⟨fa,f,sz+1,g1,g2,g4,by omega,g3⟩
  split at h
  ·rename_i k o
   obtain ⟨v,hv,hk⟩:=hasN_sound h
   have hv2:∃ b p,v = .pointer (some ⟨b,p,none⟩)∧dvO B (.o k (o+off))=some (.pointer (some ⟨b,p+off,none⟩)):=by
    simp only [dvO] at hv ⊢
    split at hv <;> cases hv
    ·exact ⟨_,_,rfl,rfl⟩
    ·exact ⟨_,_,rfl,by rw [Nat.add_assoc]⟩
   obtain ⟨b,p,rfl,hv2⟩:=hv2
   exact ⟨_,_,hk,hv2,λ hz w _ d ty pos af g=>pu_faddr hfld (hρ hz _ _ _ hx hv)⟩
  ·exact ⟨_,_,h,rfl,λ hz w _ d ty pos af g=>pu_faddr hfld (ev_v hρ hz hx)⟩
  ·exact h.elim
 ·exact h.elim
include hT in
theorem pvIdx_sound {x y:Operand} {s s':SV} {t:Nat} (hx:ρ x=some s) (hy:ρ y=some s') (h:pvIdx og (lkA T.tys t) s s' K):Good P B L h0 F (.index t x y) og K:=by
 unfold pvIdx at h
 split at h
 ·rename_i ht
  obtain ⟨j,hj,hk⟩:=h
  exact ⟨_,_,hk,rfl,λ hz w _ d ty pos af g=>pu_idxn (td_str (hT.td ht) rfl) (ev_v hρ hz hx) (ev_v hρ hz hy) (gc_yes hj hz).1 (gc_yes hj hz).2⟩
 ·exact h.elim
include hT in
theorem pvLen_sound {x:Operand} {s:SV} {t:Nat} {r:List TypeId} (hx:ρ x=some s) (h:pvLen B (lkA T.tys t) s K):Good P B L h0 F (.call ⟨.builtin .len,⟨[x]⟩,⟨t::r⟩⟩) og K:=by
 unfold pvLen at h
 split at h
 ·rename_i ht
  exact ⟨_,_,h,rfl,λ hz w _ d ty pos af g=>pu_len_s (td_str (hT.td ht) rfl) rfl (ev_v hρ hz hx)⟩
 ·rename_i ht
  exact ⟨_,_,h,rfl,λ hz w _ d ty pos af g=>pu_len_sl (td_sl (hT.td ht) rfl).1 rfl (ev_v hρ hz hx)⟩
 ·rename_i k f n cp ht
  obtain ⟨v,hv,hk⟩:=hasN_sound h
  have:∃ a,v = .slice a n cp:=by
   simp only [dvO] at hv
   split at hv <;> cases hv <;> exact ⟨_,rfl⟩
  obtain ⟨a,rfl⟩:=this
  exact ⟨_,_,hk,rfl,λ hz w _ d ty pos af g=>pu_len_sl (td_sl (hT.td ht) rfl).1 rfl (hρ hz _ _ _ hx hv)⟩
 ·exact h.elim
include hT hB in
theorem pv_sound {op:Op} (h:pv P T h0 F B og ρ K op):Good P B L h0 F op og K:=by
 unfold pv at h
 split at h
 ·obtain ⟨s,hx,h⟩:=rd1_sound h
  obtain ⟨v,hv,hk⟩:=hasN_sound h
  exact ⟨s,v,hk,hv,λ hz w _ d ty pos af g=>pu_move (hρ hz _ _ _ hx hv)⟩
 ·obtain ⟨s,hx,h⟩:=rd1_sound h
  obtain ⟨v,hv,hk⟩:=hasN_sound h
  exact ⟨s,v,hk,hv,λ hz w _ d ty pos af g=>pu_assign (hρ hz _ _ _ hx hv)⟩
 ·obtain ⟨s,hx,h⟩:=rd1_sound h
  exact pvNil_sound hρ hx h
 ·obtain ⟨s,hx,h⟩:=rd1_sound h
  obtain ⟨s',hy,h⟩:=rd1_sound h
  exact pvBin_sound hT hρ hx hy h
 ·obtain ⟨s,hx,h⟩:=rd1_sound h
  exact pvUn_sound hρ hx h
 ·obtain ⟨s,hx,h⟩:=rd1_sound h
  exact pvConv_sound hT hρ hx h
 ·obtain ⟨s,hx,h⟩:=rd1_sound h
  split at h
  ·split at h
   ·rename_i v hv
    rw [nthV_eq] at hv
    exact ⟨_,_,h,rfl,λ hz w _ d ty pos af g=>pu_extract (ev_v hρ hz hx) hv⟩
   ·exact h.elim
  ·exact h.elim
 ·obtain ⟨vsl,hk,hv⟩:=argK_sound hρ h
  exact ⟨_,_,hk,rfl,λ hz w _ d ty pos af g=>pu_mkfunc (hv hz)⟩
 ·split at h
  ·rename_i ht
   obtain ⟨s,hx,h⟩:=rd1_sound h
   exact pvFA_sound hT hρ ht rfl hx h
  ·exact h.elim
 ·split at h
  ·rename_i ht
   obtain ⟨s,hx,h⟩:=rd1_sound h
   split at h
   ·unfold pvField at h
    split at h
    ·rename_i hf
     rw [nthV_eq] at hf
     obtain ⟨fa,f,g1,g2,g3,g4,g5⟩:=td_fld (hT.td ht) rfl hf
     split at h
     ·rename_i v hv
      rw [nthV_eq] at hv
      exact ⟨_,_,h,rfl,λ hz w _ d ty pos af g=>pu_field ⟨fa,f,g1,g2,g3,g5⟩ (ev_v hρ hz hx) hv⟩
     ·exact h.elim
    ·exact h.elim
   ·exact h.elim
  ·exact h.elim
 ·obtain ⟨s,hx,h⟩:=rd1_sound h
  obtain ⟨s',hy,h⟩:=rd1_sound h
  exact pvIdx_sound hT hρ hx hy h
 ·split at h
  ·rename_i ht
   obtain ⟨s,hx,h⟩:=rd1_sound h
   exact pvSlice_sound hT hρ ht hx h
  ·exact h.elim
 ·split at h
  ·rename_i ht
   obtain ⟨s,hx,h⟩:=rd1_sound h
   exact pvLoad_sound hT hB hρ ht hx h
  ·exact h.elim
 ·split at h
  ·rename_i ht
   obtain ⟨cs,vsl,hk,hv,hf⟩:=bldK_sound hρ h
   exact ⟨_,_,hk,rfl,λ hz w _ d ty pos af g=>pu_build_st (td_strb (hT.td ht) rfl) (hv hz) hf⟩
  ·exact h.elim
 ·obtain ⟨s,hx,h⟩:=rd1_sound h
  exact pvLen_sound hT hρ hx h
 ·obtain ⟨s,hx,h⟩:=rd1_sound h
  obtain ⟨s',hy,h⟩:=rd1_sound h
  unfold pvMM at h
  split at h
  ·obtain ⟨r,hr,hk⟩:=h
   exact ⟨_,_,hk,rfl,λ hz w _ d ty pos af g=>pu_min (ev_v hρ hz hx) (ev_v hρ hz hy) (gc_yes hr hz)⟩
  ·exact h.elim
 ·obtain ⟨s,hx,h⟩:=rd1_sound h
  obtain ⟨s',hy,h⟩:=rd1_sound h
  unfold pvMM at h
  split at h
  ·obtain ⟨r,hr,hk⟩:=h
   exact ⟨_,_,hk,rfl,λ hz w _ d ty pos af g=>pu_max (ev_v hρ hz hx) (ev_v hρ hz hy) (gc_yes hr hz)⟩
  ·exact h.elim
 ·exact h.elim
end sound
end Go.Dx
