/- Laws of walks, and what functions of the program compute: part 6. Each with the conditions that it names. -/
import Derived.Test.YtbmmnalndollkaaGreatDoorSke
set_option linter.unusedSimpArgs false
set_option linter.unusedVariables false
set_option maxRecDepth 100000
namespace Go.Proofs.YtbmmnalndollkaaGreatDoor
open Go Go.Dx Go.RowKit
theorem line_cells {t:Tab} {r:List (List UInt8)×List (List UInt8)} (h:lineE t r=0):∀ k,k<r.1.length→cellE t k (r.1.getD k [])=0:=by
 unfold lineE at h
 split at h
 ·cases h
 split at h
 ·rename_i h2; exact absurd h h2
 ·rename_i h2
  have h2:firstE (λ k=>cellE t k (r.1.getD k [])) r.1.length=0:=by simpa using h2
  exact λ k hk=>fir_inv (f:=λ k=>cellE t k (r.1.getD k [])) h2 k hk
theorem cell_typ {t:Tab} {k:Nat} {s:List UInt8} (h:cellE t k s=0):typC (parseC s).1 (t.ins.getD k co0).1.kind (colsO t.ins)=0:=by
 unfold cellE at h
 split at h
 ·rename_i hh; exact absurd h hh
 ·exact h
theorem colsG_kind {l:List Col}:∀ (n i:Nat),l.length - i≤n→colsG l i=0→∀ j,i≤j→j<l.length→¬ badK (l.getD j c0).kind
 | 0,i,h,_,j,h1,h2=>by omega
 | n+1,i,h,hg,j,h1,h2=>by
  have hi:i<l.length:=by omega
  by_cases hn:badN l i
  ·rw [cg_name hi hn] at hg; exact absurd hg (by decide)
  by_cases hk:badK (l.getD i c0).kind
  ·rw [cg_kind hi hn hk] at hg; exact absurd hg (by decide)
  ·by_cases hj:j=i
   ·rw [hj]; exact hk
   ·rw [cg_next hi hn hk] at hg
    exact colsG_kind n (i+1) (by omega) hg j (by omega) h2
theorem cols_kind {l:List Col} (h:colsS l=0):∀ j,j<l.length→1≤(l.getD j c0).kind∧(l.getD j c0).kind≤3:=by
 intro j hj
 unfold colsS at h
 split at h
 ·exact absurd h (by decide)
 ·have:=colsG_kind l.length 0 (by omega) h j (Nat.zero_le _) hj
  unfold badK at this
  omega
theorem make_kd {t:Tab} (h:makeE t=0):∀ k,k<t.ins.length→1≤(t.ins.getD k co0).1.kind∧(t.ins.getD k co0).1.kind≤3:=by
 intro k hk
 have h1:=(col_ok (frame_inv (make_inv h).1).2.1).1
 have:=cols_kind h1 k (by rw [cols_len]; exact hk)
 rwa [colO_get] at this
theorem part_nm {x:Ex} (h:partX x=true):(nmS x).length≤531441:=by
 have:=part_r h
 exact Nat.le_trans (nm_deep 12 x this.1 this.2) (by decide)
theorem tst_nm {t:Tst} (h:soundT t=true):(nmS t.a).length≤531441∧(nmS t.b).length≤531441:=by
 obtain ⟨k1,k6,pa,pb,pc⟩:=sound_parts h
 refine ⟨part_nm pa,?_⟩
 by_cases h6:t.k=6
 ·exact part_nm (pb h6)
 ·rw [same_ex0 (pc h6).1]
  have:(nmS ex0).length=0:=by simp [ex0,nmS,nmL]
  omega
theorem exsT_len:∀ ts:List Tst,(exsT ts).length=2*ts.length
 | []=>rfl
 | t::ts=>by rw [exsT,List.length_cons,List.length_cons,exsT_len ts,List.length_cons]; omega
theorem exsT_inv {y:Ex}:∀ {ts:List Tst},y∈exsT ts→∃ t∈ts,y=t.a∨y=t.b
 | t::ts,h=>by
  rw [exsT] at h
  rcases List.mem_cons.1 h with rfl | h
  ·exact ⟨t,List.mem_cons_self ..,.inl rfl⟩
  rcases List.mem_cons.1 h with rfl | h
  ·exact ⟨t,List.mem_cons_self ..,.inr rfl⟩
  ·obtain ⟨u,hu,e⟩:=exsT_inv h
   exact ⟨u,List.mem_cons_of_mem _ hu,e⟩
theorem right_len31 {c:Cel} (h:rightC c=true):c.ts.length≤12:=by
 unfold rightC at h
 split at h
 ·simp only [Bool.and_eq_true,decide_eq_true_eq] at h; omega
 ·simp only [Bool.and_eq_true,decide_eq_true_eq] at h; exact h.1.2
theorem right_cb {c:Cel} (h:rightC c=true):CB c:=by
 have hl:=right_len31 h
 have hs:=right_sound h
 refine ⟨right_gt h,?_,by omega⟩
 have:=nmL_le (m:=531441) (exsT c.ts) λ y hy=>by
  obtain ⟨t,ht,e⟩:=exsT_inv hy
  have:=tst_nm (hs t ht)
  rcases e with rfl | rfl
  ·exact this.1
  ·exact this.2
 rw [exsT_len] at this
 have h2:2*c.ts.length*531441≤24*531441:=Nat.mul_le_mul_right _ (by omega)
 omega
theorem make_lines {t:Tab} (h:makeE t=0):∀ l∈(makeV t).ls,l.cs.length=t.ins.length∧(∀ c∈l.cs,rightC c=true)∧∀ k,k<t.ins.length→typC (l.cs.getD k cel0) (t.ins.getD k co0).1.kind (colsO t.ins)=0:=by
 intro l hl
 obtain ⟨r,hr,rfl⟩:=List.mem_map.1 hl
 have hE:=(make_inv h).2 r hr
 obtain ⟨k1,k2,k3,k4⟩:=line_inv hE
 refine ⟨by show (r.1.map _).length=_; rw [List.length_map]; exact k1,λ c hc=>?_,λ k hk=>?_⟩
 ·obtain ⟨s,hs,rfl⟩:=List.mem_map.1 hc
  exact parseC_right (k3 s hs)
 ·have:=cell_typ (line_cells hE k (by omega))
  have e:(lineV r).cs.getD k cel0=(parseC (r.1.getD k [])).1:=by
   show (r.1.map λ s=>(parseC s).1).getD k cel0=_
   simp [List.getD,show k<r.1.length by omega]
  rw [e]; exact this
theorem make_scK {t:Tab} (h:makeE t=0):ScK (makeV t):=by
 have hl:=make_lines h
 refine ⟨⟨make_rdyB h,λ l hm c hc=>right_cb ((hl l hm).2.1 c hc)⟩,make_kd h,?_,λ l hm c hc=>by have:=right_len31 ((hl l hm).2.1 c hc); omega⟩
 show (t.rules.map lineV).length≤_
 rw [List.length_map]
 have:=(frame_inv (make_inv h).1).2.2.2.2
 omega
theorem make_scM {t:Tab} (h:makeE t=0) {v:View} {a:TA} {x:AC} (hr:RdyH v (makeV t) a x):ScM (makeV t):=by
 have hl:=make_lines h
 exact ⟨λ l hm=>(hl l hm).1,λ l hm=>(hl l hm).2.2,make_kd h,λ k=>exs_okV hr (make_scK h).b k⟩
theorem poi_len {r:Rdy} (hb:ScK r) (k:Int):(poiS r k).1.length≤10000000:=by
 unfold poiS
 split
 ·exact Nat.zero_le _
 split
 ·exact Nat.zero_le _
 ·have h1:=exsI_len (k:=k.toNat) hb.t r.ls.length (Nat.le_refl _)
  rw [exsI_all] at h1
  have h2:=accP_len (kdK r k.toNat) (exsK r k.toNat)
  have hn:=hb.n
  show (accP (kdK r k.toNat) (exsK r k.toNat)).length≤_
  omega
theorem ixLv {α:Type} {T sz:Nat} {R:View→List Value→α→Prop} {c:Cx} {F:FV} {n:Nat} {ad:Option Addr} {cap:Nat} {l:List α} {i:Int} {X:Nat→List Value→Prop} {u:View} (H:LR T sz R u ad cap l) (hF:∀ v,F v→VLe u v) (j:Nat) (d:α) (k:∀ cs,R u cs (l.getD j d)→X j cs)
  (h:i=(j:Int)∧j<l.length:=by omega) (hn:n=l.length:=by rfl):∃ (j:Nat) (cs:List Value),(i=(j:Int)∧j<n∧ElC c.h0 F ad (j*sz) cs)∧X j cs:=by
 obtain ⟨g,off,cs,ha,h1,hc⟩:=H.at d h.2
 subst hn
 exact ⟨j,cs,⟨h.1,h.2,λ v hv hFv=>⟨by rw [ha]; rfl,λ w hw=>by rw [ha]; exact hc w ((hF v hFv).trans hw)⟩⟩,k cs h1⟩
abbrev AtV (r:Rdy) (a:TA) (x:AC) (u v:View):Prop:=VLe u v∧RdyH u r a x
theorem atV_m (r:Rdy) (a:TA) (x:AC) (u:View):Mono λ v=>AtV r a x u v:=λ _ _ hle hx=>⟨hx.1.trans hle,hx.2⟩
end Go.Proofs.YtbmmnalndollkaaGreatDoor
set_option maxRecDepth 100000
namespace Go.Proofs.YtbmmnalndollkaaGreatDoor
open Go Go.Dx Go.RowKit
theorem tabB_31 : TabB exT31 := by
  refine ⟨by show 1 ≤ 1000000; decide, ?_, ?_, ?_, by show 2 ≤ 1000000; decide⟩
  · intro q hq; have : q = (⟨[97], 1, none, 0, 0⟩, []) := by simpa [exT31] using hq
    subst this; show 1 ≤ 1000000; decide
  · intro q hq; have : q = (⟨[111], 1, none, 0, 0⟩, []) := by simpa [exT31] using hq
    subst this; show 1 ≤ 1000000; decide
  · intro r hr
    have : r = ([[60, 32, 53]], [[49]]) ∨ r = ([sIn], [[50]]) := by simpa [exT31] using hr
    rcases this with rfl | rfl
    · exact ⟨fun s hs => by have : s = [49] := by simpa using hs
                            subst this; decide, by decide, by decide⟩
    · exact ⟨fun s hs => by have : s = [50] := by simpa using hs
                            subst this; decide, by decide, by decide⟩
theorem scK_31:ScK exR31:=by rw [← make_v31]; exact make_scK make_e31
theorem tabH_31 {v:View} {b11 b13 b16 b17 b19 b20 b22:Nat} (s11:SlC 66 3 (flatR colC) v (.slice (some ⟨b11,0,none⟩) 1 1) [⟨[97],1,none,0,0⟩]) (s13:SlC 66 3 (flatR colC) v (.slice (some ⟨b13,0,none⟩) 1 1) [⟨[111],1,none,0,0⟩])
  (s16:TxL v (some ⟨b16,0,none⟩,1) [[60,32,53]]) (s17:TxL v (some ⟨b17,0,none⟩,1) [[49]]) (s19:TxL v (some ⟨b19,0,none⟩,1) [sIn]) (s20:TxL v (some ⟨b20,0,none⟩,1) [[50]])
  (s22:SlC 86 2 (flatR rqC) v (.slice (some ⟨b22,0,none⟩) 2 2) [((ruS [60,32,53] [49],(some ⟨b16,0,none⟩,1),(some ⟨b17,0,none⟩,1)):RuQ),(ruS sIn [50],(some ⟨b19,0,none⟩,1),(some ⟨b20,0,none⟩,1))]) :
  TabH v exT31 ⟨(some ⟨b11,0,none⟩,1),(some ⟨b13,0,none⟩,1),(some ⟨b22,0,none⟩,2)⟩:=by
 refine ⟨⟨s11,λ q hq=>?_⟩,⟨s13,λ q hq=>?_⟩,?_⟩
 ·have:q=(⟨[97],1,none,0,0⟩,[]):=by simpa [exT31] using hq
  subst this; exact ⟨rfl,SlC.nil (by simp [maxLen]),λ v h=>by cases h⟩
 ·have:q=(⟨[111],1,none,0,0⟩,[]):=by simpa [exT31] using hq
  subst this; exact ⟨rfl,SlC.nil (by simp [maxLen]),λ v h=>by cases h⟩
 ·refine LR.of_rows (R:=RuR) (g:=λ q:RuQ=>q.1) (d:=(ru0,(none,0),(none,0))) s22 rfl (λ q hq=>?_)
  have:q=(ruS [60,32,53] [49],(some ⟨b16,0,none⟩,1),(some ⟨b17,0,none⟩,1))∨q=(ruS sIn [50],(some ⟨b19,0,none⟩,1),(some ⟨b20,0,none⟩,1)):=by simpa using hq
  rcases this with rfl | rfl
  ·exact ⟨_,_,rfl,s16,s17⟩
  ·exact ⟨_,_,rfl,s19,s20⟩
theorem c_SamePairsT (l:List Pr) (x y:AC) (w0:World) (h0:View) (hv:VLe h0 (Full w0)) (hx:SlC 81 2 (flatR prC) h0 (.slice x.1 l.length x.2) l) (hy:SlC 81 2 (flatR prC) h0 (.slice y.1 l.length y.2) l) :
  Calls Tryz.prog 15 #[.slice x.1 l.length x.2,.slice y.1 l.length y.2] w0 (Ret w0 h0 λ u _=>u = .bool true):=by
 have:=c_SamePairs l l x y w0 h0 hv hx hy
 rw [decide_eq_true rfl] at this
 exact this
theorem c_RSameRowsT (l:List (List Val)) (a b:AC) (w0:World) (h0:View) (hv:VLe h0 (Full w0)) (hl:LR 49 1 RwR h0 a.1 a.2 l) (hm:LR 49 1 RwR h0 b.1 b.2 l) :
  Calls Tryz.prog 16 #[.slice a.1 l.length a.2,.slice b.1 l.length b.2] w0 (Ret w0 h0 λ u _=>u = .bool true):=by
 have:=c_RSameRows l l a b w0 h0 hv hl hm
 rw [decide_eq_true rfl] at this
 exact this
set_option maxHeartbeats 4000000 in
theorem c_lives31 (w0:World) (h0:View) (hv:VLe h0 (Full w0)):Calls Tryz.prog 9 #[] w0 (Ret w0 h0 λ u _=>u = .bool true):=by
 refine ent (args:=[]) TT_ok [24,53,55,68,2000048,2000049,2000052,2000053,2000054,2000055,2000058,2000059,2000062,2000063,2000064,2000065,2000066,2000067,2000068,2000071,2000072] [] Tryz.func9 rfl Tryz.ntmps9 rfl rfl hv ?_
 intro b13 b15 b16 b17 b19 b20 b22
 refine And.intro rfl ?_
 refine shutW 13 (row_sl (g:=colC) (l:=[⟨[97],1,none,0,0⟩]) (sz:=3) (n:=1) (cp:=1) rfl) ?_ Mono.slF
 refine shutW 15 (row_sl (g:=colC) (l:=[⟨[111],1,none,0,0⟩]) (sz:=3) (n:=1) (cp:=1) rfl) ?_ Mono.slF
 refine shutW 16 (row_sl (g:=λ s:List UInt8=>[vs s]) (l:=[[60,32,53]]) (sz:=1) (n:=1) (cp:=1) rfl) ?_ Mono.slF
 refine shutW 17 (row_sl (g:=λ s:List UInt8=>[vs s]) (l:=[[49]]) (sz:=1) (n:=1) (cp:=1) rfl) ?_ Mono.slF
 refine shutW 19 (row_sl (g:=λ s:List UInt8=>[vs s]) (l:=[sIn]) (sz:=1) (n:=1) (cp:=1) rfl) ?_ Mono.slF
 refine shutW 20 (row_sl (g:=λ s:List UInt8=>[vs s]) (l:=[[50]]) (sz:=1) (n:=1) (cp:=1) rfl) ?_ Mono.slF
 refine shutW 22 (row_sl (g:=rqC) (l:=[((ruS [60,32,53] [49],(some ⟨b16,0,none⟩,1),(some ⟨b17,0,none⟩,1)):RuQ),(ruS sIn [50],(some ⟨b19,0,none⟩,1),(some ⟨b20,0,none⟩,1))]) (sz:=2) (n:=2) (cp:=2) rfl) ?_ Mono.slF
 refine goW TT_ok ?_
 refine cA TT_ok (λ w v h1 h2 h3=>c_MakeK make_e31 make_v31 ⟨(some ⟨b13,0,none⟩,1),(some ⟨b15,0,none⟩,1),(some ⟨b22,0,none⟩,2)⟩ tabB_31 w v h3 (tabH_31 h2.1.1.1.1.1.1.2 h2.1.1.1.1.1.2 h2.1.1.1.1.2 h2.1.1.1.2 h2.1.1.2 h2.1.2 h2.2)) (λ z=>rdy_m _ _ _) (λ z=>?_)
 intro b1
 have hP:=λ w v h3 hr=>c_Points exR31 ⟨(some ⟨b13,0,none⟩,1),(some ⟨b15,0,none⟩,1),(some ⟨b22,0,none⟩,2)⟩ z 0 scK_31.b scK_31.n scK_31.t w v h3 hr
 have hO:=λ w v h3 hr=>c_Overlaps exR31 ⟨(some ⟨b13,0,none⟩,1),(some ⟨b15,0,none⟩,1),(some ⟨b22,0,none⟩,2)⟩ z scK_31 w v h3 hr
 have hG:=λ w v h3 hr=>c_Gaps exR31 ⟨(some ⟨b13,0,none⟩,1),(some ⟨b15,0,none⟩,1),(some ⟨b22,0,none⟩,2)⟩ z 9 scK_31 w v h3 hr
 rw [poi_31] at hP
 rw [ov_31] at hO
 rw [gp_31] at hG
 refine cA TT_ok (λ w v h1 h2 h3=>hP w v h3 h2.2) (λ _=>Mono.slF) (λ p1=>?_)
 refine cA TT_ok (λ w v h1 h2 h3=>hO w v h3 h2.1.2) (λ _=>Mono.slF) (λ o1=>?_)
 refine cA TT_ok (λ w v h1 h2 h3=>hG w v h3 h2.1.1.2) (λ y=>LR.m (R:=RwR) rwR_m y _) (λ g1=>?_)
 clear hP hO hG
 refine And.intro (by rfl) ?_
 refine And.intro (by rfl) ?_
 refine And.intro (by rfl) ?_
 refine And.intro (by rfl) ?_
 refine goPu TT_ok (.agg [.int .i64 (0:Int),.int .i64 (1:Int)].toArray) (λ w hS=>pu_build_ar (places:=[(0,1),(1,1)]) (zero:=[.int .i64 0,.int .i64 0]) arB (by rfl) (by rfl)) ?_
 refine And.intro (by rfl) ?_
 intro b54
 refine And.intro (by rfl) (And.intro (by rfl) ?_)
 refine shutW 54 (row_sl (g:=prC) (l:=[mkP 0 1]) (sz:=2) (n:=1) (cp:=1) rfl) ?_ Mono.slF
 refine goW TT_ok ?_
 refine cf (λ w v h1 h2 h3=>c_SamePairsT [mkP 0 1] o1 (some ⟨b54,0,none⟩,1) w v h3 h2.1.1.2 h2.2) ?_
 refine And.intro (by rfl) ?_
 refine And.intro (by rfl) ?_
 refine And.intro (by rfl) ?_
 refine And.intro (by rfl) ?_
 refine And.intro (by rfl) ?_
 intro b64
 refine And.intro (by rfl) ?_
 refine And.intro (by rfl) ?_
 intro b66
 refine And.intro (by rfl) ?_
 intro b67
 refine And.intro (by rfl) (And.intro (by rfl) ?_)
 refine shutW 64 (row_sl (g:=valC) (l:=[v0]) (sz:=3) (n:=1) (cp:=1) rfl) ?_ Mono.slF
 refine shutW 66 (row_sl (g:=valC) (l:=[⟨1,10,[]⟩]) (sz:=3) (n:=1) (cp:=1) rfl) ?_ Mono.slF
 refine shutW 67 (row_sl (g:=rwC) (l:=[(([v0],some ⟨b64,0,none⟩,1):RwQ),([⟨1,10,[]⟩],some ⟨b66,0,none⟩,1)]) (sz:=1) (n:=2) (cp:=2) rfl) ?_ Mono.slF
 refine goW TT_ok ?_
 refine cf (λ w v h1 h2 h3=>c_RSameRowsT [[v0],[⟨1,10,[]⟩]] g1 (some ⟨b67,0,none⟩,2) w v h3 h2.1.1.1.1.2 (rows_two h2.1.1.2 h2.1.2 h2.2)) ?_
 refine And.intro (by rfl) ?_
 refine And.intro (by rfl) ?_
 exact rfl
end Go.Proofs.YtbmmnalndollkaaGreatDoor
set_option maxRecDepth 100000
namespace Go.Proofs.YtbmmnalndollkaaGreatDoor
open Go Go.Dx Go.RowKit
set_option maxHeartbeats 8000000 in
theorem c_ScanLike (t:Tab) (a:TA) (ad:Option Addr) (cap:Nat) (row:List Val) (hvv:∀ v∈row,valB v∧v.s.length≤9223372036854775807) (w0:World) (h0:View) (hv:VLe h0 (Full w0)) (hc:TabH h0 t a) (hrow:SlC 52 3 (flatR valC) h0 (.slice ad row.length cap) row) :
  Calls Tryz.prog 5 #[.agg (tabC t a).toArray,.slice ad row.length cap] w0 (Ret w0 h0 λ u _=>u = .bool true):=by
 have hci:=cols_len t.ins
 have hlm:=slc_lm hrow
 refine ent (args:=[.agg (tabC t a).toArray,.slice ad row.length cap]) TT_ok [] [] Tryz.func5 rfl Tryz.ntmps5 rfl rfl hv ?_
 intro b2
 refine cb (λ w hw=>c_TSmall t a w h0 hw hc) ?_
 refine cbg (λ _ w hw=>c_RowFew ad cap row w h0 hw hrow) ?_
 refine cnd (λ h=>?_) (λ h=>?_)
 ·refine cb (λ w hw=>c_lives31 w h0 hw) ?_
  exact rfl
 have hsm:smallT t=true:=by simpa using h.1
 have htb:=small_tabB hsm
 clear h hsm
 by_cases he:makeE t=0
 ·refine cA TT_ok (λ w v h1 h2 h3=>c_MakeK (r:=makeV t) he rfl a htb w v h3 (tab_m _ _ _ _ h1 hc)) (λ z=>rdy_m _ _ _) (λ z1=>?_)
  intro b5
  refine cnd (λ h=>?_) (λ h=>?_)
  ·refine cb (λ w hw=>c_lives31 w h0 hw) ?_
   exact rfl
  have hlen:row.length=t.ins.length:=by have:=h.2; omega
  clear h
  refine exfC (Φ:=λ u v=>AtV (makeV t) a z1 u v) (atV_m _ _ _) (λ v _ hF=>⟨v,VLe.refl v,hF.2⟩) (λ u=>?_)
  refine pureC (X:=RdyH u (makeV t) a z1) (λ v _ hF=>hF.2.2) (λ hr=>?_)
  have hb:=make_scK he
  have hM:=make_scM he hr
  have hrt:(makeV t).t=t:=rfl
  generalize makeV t=r at hb hM hr hrt ⊢
  refine w_loop TT_ok (λ k:Nat=>[(9,.v (.int .i64 k))]) 0 (λ k=>k≤row.length) (λ k=>row.length - k) ?_
  refine And.intro ⟨Nat.zero_le _,gs⟩ ?_
  intro k hk
  refine cnd (λ h=>?_) (λ h=>?_)
  ·have hkl:k<row.length:=by omega
   refine cA TT_ok (λ w v h1 h2 h3=>c_Points r a z1 (k:Nat) hb.b hb.n hb.t w v h3 h2.1.2) (λ _=>Mono.slF) (λ p1=>?_)
   refine And.intro (by kernel_rfl) ?_
   refine ixsg hrow k v0 (kg1 ?_)
   refine clg (λ _=>c_VCheck (row.getD k v0) (hvv _ (getD_mem row k v0 hkl)).1) ?_
   refine ixsg hrow k v0 (kg1 ?_)
   refine ixsg hc.i.1 k c0 (kg1 ?_)
   refine clg (λ _=>c_Fits _ _) ?_
   refine cnd (λ h2=>?_) (λ h2=>?_)
   ·refine cb (λ w hw=>c_lives31 w h0 hw) ?_
    exact rfl
   have hp0:(poiS r (k:Nat)).2=0:=by simpa using h2.1.1
   have hok:okV (row.getD k v0):=⟨by have:=h2.1.2; simpa using this,(hvv _ (getD_mem row k v0 hkl)).1⟩
   have hkd:=hM.kd k (by rw [hrt]; omega)
   have hfit:(row.getD k v0).k=kdK r k∨(row.getD k v0).k=0:=by
    have:=fit_iff.1 h2.2
    rw [colO_get] at this
    have e:kdK r k=(t.ins.getD k co0).1.kind:=by unfold kdK; rw [hrt]
    omega
   clear h2
   have hpl:=poi_len hb (k:Nat)
   have hcell:=λ (l:Lin) (hl:l∈r.ls)=>cell_like hM hp0 hl hok hfit
   have hlf:=lik_facts (pts_g hkd (hM.ok k)) hok hfit
   have huv:okV (likV (ptsS r k) (row.getD k v0)):=((pts_g hkd (hM.ok k)).ok _ hlf.1).1
   rw [← (poi_inv hp0).2.2.2] at hcell huv
   have hcn:=λ (l:Lin) (hl:l∈r.ls)=>(hb.b.b.l l hl).1
   have hgt:=λ (l:Lin) (hl:l∈r.ls)=>(hb.b.b.l l hl).2.2.1
   have hkr:k<r.t.ins.length:=by rw [hrt]; omega
   have hln:=hb.n
   refine ixs hrow k v0 ?_
   refine cf (λ w vw h1 h2 h3=>c_Like (poiS r (k:Nat)).1 p1 (row.getD k v0) hpl w vw h3 h2.2) ?_
   intro b12
   generalize likV (poiS r (k:Nat)).1 (row.getD k v0)=uu at hcell huv ⊢
   refine w_loop TT_ok (λ i:Nat=>[(13,.v (.int .i64 i))]) 0 (λ i=>i≤r.ls.length) (λ i=>r.ls.length - i) ?_
   refine And.intro ⟨Nat.zero_le _,gs⟩ ?_
   intro i hi
   refine cnd (λ h5=>?_) (λ h5=>?_)
   ·have hil:i<r.ls.length:=by omega
    have hlm2:=getD_mem r.ls i lin0 hil
    have hck:=hcn _ hlm2
    have hg:=hgt _ hlm2 _ (getD_mem (r.ls.getD i lin0).cs k cel0 (by omega))
    have hcl:=hcell _ hlm2
    refine And.intro (by kernel_rfl) ?_
    refine ixLv (R:=LinR) hr.l (λ v hF=>hF.1.2.1) i lin0 (λ cs hcs=>?_)
    obtain ⟨pa,pb,rfl,hla⟩:=hcs
    refine ixLv (R:=CelR) hla.1 (λ v hF=>hF.1.2.1) k cel0 (λ cs hcs=>?_)
    obtain ⟨xa,rfl,hxa⟩:=hcs
    refine ixs hrow k v0 ?_
    refine cf (λ w vw h1 h2 h3=>c_CHolds ((r.ls.getD i lin0).cs.getD k cel0) xa.1 xa.2 (row.getD k v0) none 0 [] none 0 [] hg hok.2 (by decide) (λ _ h=>absurd h List.not_mem_nil) w vw h3 (hxa.mono h2.1.2.1) (SlC.nil (by simp [maxLen])) (SlC.nil (by simp [maxLen]))) ?_
    refine And.intro (by kernel_rfl) ?_
    refine ixLv (R:=LinR) hr.l (λ v hF=>hF.1.2.1) i lin0 (λ cs hcs=>?_)
    obtain ⟨pa2,pb2,rfl,hla2⟩:=hcs
    refine ixLv (R:=CelR) hla2.1 (λ v hF=>hF.1.2.1) k cel0 (λ cs hcs=>?_)
    obtain ⟨xa2,rfl,hxa2⟩:=hcs
    refine cf (λ w vw h1 h2 h3=>c_CHolds ((r.ls.getD i lin0).cs.getD k cel0) xa2.1 xa2.2 uu none 0 [] none 0 [] hg huv.2 (by decide) (λ _ h=>absurd h List.not_mem_nil) w vw h3 (hxa2.mono h2.1.2.1) (SlC.nil (by simp [maxLen])) (SlC.nil (by simp [maxLen]))) ?_
    refine cnd (λ h6=>?_) (λ h6=>?_)
    ·exfalso
     have e1:=hcl.1
     rw [← hcl.2] at h6
     rcases h6 with (h6 | h6) | h6
     ·simp at h6
     ·exact h6 e1
     ·exact h6 e1
    ·refine wi ?_
     exact ⟨i+1,⟨by omega,by omega⟩,gs⟩
   ·refine wi ?_
    exact ⟨k+1,⟨by omega,by omega⟩,gs rfl rfl (λ _ h=>h.1) (.inr rfl)⟩
  ·refine cb (λ w hw=>c_lives31 w h0 hw) ?_
   exact rfl
 ·refine cA TT_ok (λ w v h1 h2 h3=>c_MakeN (t:=t) rfl he a htb w v h3 (tab_m _ _ _ _ h1 hc)) (λ _=>Mono.tru) (λ z1=>?_)
  intro b5
  refine cnd (λ _=>?_) (λ h=>?_)
  ·refine cb (λ w hw=>c_lives31 w h0 hw) ?_
   exact rfl
  ·exact absurd he (by simpa using h.1)
end Go.Proofs.YtbmmnalndollkaaGreatDoor
