/- Laws of walks, and what functions of the program compute: part 4. Each with the conditions that it names. -/
import Derived.Lib.LaidU8
import Derived.Test.YtbmmnalndollkaaGreatDoorRows
import Derived.Test.YtbmmnalndollkaaGreatDoorProg
import Derived.Shelf.Small.Utf8
import Derived.Shelf.Small.Bits
import Derived.Shelf.Small.Strs
import Derived.Shelf.Small.Wraps
import Derived.Shelf.Strconv.Itoa0
import Derived.Shelf.Strings.Search1
import Derived.Shelf.Strings.Runes
import Derived.Shelf.Strings.AsciiSet
import Derived.Shelf.Bits.Mul64
import Derived.Shelf.Unicode.DecodeSlow
import Derived.Lib.AppendIntMem
import Derived.Lib.LaidTab
import Derived.Lib.ItoaLen
import Derived.Sort.Grow
import Derived.Test.YtbmmnalndollkaaGreatDoorSdc
set_option linter.unusedSimpArgs false
set_option linter.unusedVariables false
namespace Go.Proofs.YtbmmnalndollkaaGreatDoor
open Go Go.Dx Go.RowKit Go.ChangeShapes Go.WideShapes Go.ChangeAt
section
variable {H:Type} {enc:TypeId×Value→H} {W:World}
theorem sl_map {α:Type} {T sz:Nat} {h:View} {v:Value} {n:Nat} {c:Nat→List Value} {f:α→List Value} {g:Nat→α} (hs:SlC T sz (flatR c) h v (List.range n)) (hc:∀ i,i<n→c i=f (g i)):SlC T sz (flatR f) h v ((List.range n).map g):=by
 obtain ⟨a,cap,hv,h1,h2,h3⟩:=hs
 refine ⟨a,cap,by simpa using hv,by simpa using h1,h2,λ hne=>?_⟩
 obtain ⟨gb,off,arr,fz,ha,hg,hx⟩:=h3 (by intro e; rw [e] at hne; exact hne rfl)
 refine ⟨gb,off,arr,fz,ha,hg,λ i x hi=>?_⟩
 have hin:i<n:=by have:=(List.getElem?_eq_some_iff.1 hi).1; simpa using this
 have hxe:x=g i:=by simp [hin] at hi; exact hi.symm
 obtain ⟨cs,c1,c2,c3⟩:=hx i i (by simp [hin])
 have c2':cs=c i:=c2
 exact ⟨cs,c1,by show cs=f x; rw [c2',hxe,hc i hin],c3⟩
end
noncomputable def laidWorld (os:Os):World :=
 let w0:=World.doorLaid Tryz.prog 400 os
 { w0 with heap:=w0.heap.modify 1 fun
  | .cells _ t fz => .cells (Lib.firstTab.map λ z=>Value.int .u8 z).toArray t fz
  | o=>o }
def laidL:List (String×DataW Unit):=[("unicode/utf8.acceptRanges",Rows.laid_unicode_utf8_acceptRanges),("unicode/utf8.first",Rows.laid_unicode_utf8_first)]
theorem door_met (os:Os) (args:Array Value):laidMetH Tryz.prog laidL ((laidWorld os).forCall (λ _ _=>0) ⟨#[],args,[]⟩).memory :=
 laidMetH_of_parts3 (fuel:=8) (laidMet_of_run' 8 (by kernel_rfl) (by kernel_rfl)) (by kernel_rfl) (by kernel_rfl)
end Go.Proofs.YtbmmnalndollkaaGreatDoor
namespace Go.Proofs.YtbmmnalndollkaaGreatDoor
open Go Go.Dx Go.RowKit Go.ChangeShapes Go.WideShapes Go.ChangeAt
section
variable {H:Type} {enc:TypeId×Value→H} {W:World}
theorem open_valC {fuel:Nat} {cs:List Value} {x:DataW H×List MemPlace} (h:DataW.trod enc Tryz.prog W 0 (λ _=>true) true fuel 52 cs=some x):∃ v:Val,cs=valC v∧valB v∧v.s.length≤9223372036854775807:=by
 obtain ⟨hl,n0,y0,_,h0⟩:=trod_at (FldIs.of (P:=Tryz.prog) (t:=52) (i:=0) (off:=0) (ty:=50) (sz:=1) (by kernel_rfl)) h
 obtain ⟨_,n1,y1,_,h1⟩:=trod_at (FldIs.of (P:=Tryz.prog) (t:=52) (i:=1) (off:=1) (ty:=3) (sz:=1) (by kernel_rfl)) h
 obtain ⟨_,n2,y2,_,h2⟩:=trod_at (FldIs.of (P:=Tryz.prog) (t:=52) (i:=2) (off:=2) (ty:=9) (sz:=1) (by kernel_rfl)) h
 have hl':cs.length=3:=hl.trans (by kernel_rfl)
 match cs,hl' with
 | [a,b,c],_ =>
  obtain ⟨k,e0,b0⟩:=trod_i (by kernel_rfl) h0
  obtain ⟨m,e1,b1⟩:=trod_i (by kernel_rfl) h1
  obtain ⟨s,e2,l2⟩:=trod_s (by kernel_rfl) h2
  simp at e0 e1 e2
  subst e0 e1 e2
  exact ⟨⟨k,m,s⟩,rfl,⟨b0,b1⟩,l2⟩
set_option maxRecDepth 100000 in
theorem open_vals {v:Value} {d:DataW H} {ps:List MemPlace} {b0:Nat} (hok:Value.okWide Tryz.prog W .any b0 49 v) (h:DataW.Trod enc Tryz.prog W 0 (λ _=>true) true 49 v d ps) :
  ∃ (ad:Option Addr) (cap:Nat) (l:List Val),v = .slice ad l.length cap∧SlC 52 3 (flatR valC) (Full W) (.slice ad l.length cap) l∧∀ x∈l,valB x∧x.s.length≤9223372036854775807:=by
 have hu:Tryz.prog.underlying 49=some (.slice 52):=by kernel_rfl
 obtain ⟨a0,n0,p0,rfl⟩:=okWide_slice hu hok
 obtain ⟨fuel,hf⟩:=h
 obtain ⟨ad,cap,n,cc,e,hs,hk⟩:=open_sl (sz:=3) (t:=49) (e:=52) (by kernel_rfl) (by kernel_rfl) (by decide) (show DataW.trod enc Tryz.prog W 0 (λ _=>true) true fuel 49 [.slice a0 n0 p0]=some (d,ps) from hf)
 cases e
 have:Inhabited Val:=⟨v0⟩
 obtain ⟨g,hg⟩:=Go.Deep.choose_lt (λ i hi=>by
  obtain ⟨m,z,_,hz⟩:=hk i hi
  exact open_valC hz:∀ i,i<n0→∃ x:Val,cc i=valC x∧valB x∧x.s.length≤9223372036854775807)
 have h1:=sl_map hs (λ i hi=>(hg i hi).1)
 refine ⟨a0,p0,(List.range n0).map g,by simp,?_,λ x hx=>?_⟩
 ·simp only [List.length_range,List.length_map] at h1 ⊢
  exact h1
 ·obtain ⟨i,hi,rfl⟩:=List.mem_map.1 hx
  exact (hg i (List.mem_range.1 hi)).2
end
end Go.Proofs.YtbmmnalndollkaaGreatDoor
set_option maxRecDepth 100000
namespace Go.Proofs.YtbmmnalndollkaaGreatDoor
open Go Go.Dx Go.RowKit
def TT:Go.Dx.Tab:=⟨[(3,⟨.int .i64,1,false,[.int .i64 0]⟩),
 (4,⟨.bool,1,false,[.bool false]⟩),
 (5,⟨.int .u8,1,false,[.int .u8 0]⟩),
 (9,⟨.str,1,false,[vs []]⟩),
 (20,⟨.ot,1,false,[.nilIface]⟩),
 (21,⟨.int .i32,1,false,[.int .i32 0]⟩),
 (22,⟨.sl 66 3,1,false,[.slice none 0 0]⟩),
 (23,⟨.int .i64,1,false,[.int .i64 0]⟩),
 (24,⟨.int .i64,1,false,[.int .i64 0]⟩),
 (25,⟨.sl 86 2,1,false,[.slice none 0 0]⟩),
 (27,⟨.st [(0,1,false),(1,1,false),(2,1,false),(3,1,false),(4,1,false),(5,1,false)],6,true,[vs [],.slice none 0 0,.slice none 0 0,.int .i64 0,.int .i64 0,.slice none 0 0]⟩),
 (28,⟨.st [(0,1,false),(1,1,false),(2,1,false),(3,1,false),(4,1,false),(5,1,false)],6,true,[vs [],.slice none 0 0,.slice none 0 0,.int .i64 0,.int .i64 0,.slice none 0 0]⟩),
 (30,⟨.sl 75 2,1,false,[.slice none 0 0]⟩),
 (32,⟨.st [(0,6,true),(6,1,false)],7,true,[vs [],.slice none 0 0,.slice none 0 0,.int .i64 0,.int .i64 0,.slice none 0 0,.slice none 0 0]⟩),
 (35,⟨.sl 81 2,1,false,[.slice none 0 0]⟩),
 (36,⟨.int .i64,1,false,[.int .i64 0]⟩),
 (41,⟨.sl 49 1,1,false,[.slice none 0 0]⟩),
 (49,⟨.sl 52 3,1,false,[.slice none 0 0]⟩),
 (50,⟨.int .i64,1,false,[.int .i64 0]⟩),
 (52,⟨.st [(0,1,false),(1,1,false),(2,1,false)],3,true,[.int .i64 0,.int .i64 0,vs []]⟩),
 (53,⟨.sl 52 3,1,false,[.slice none 0 0]⟩),
 (59,⟨.ot,1,false,[.nilFunc]⟩),
 (66,⟨.st [(0,1,false),(1,1,false),(2,1,false)],3,true,[vs [],.int .i64 0,.slice none 0 0]⟩),
 (69,⟨.sl 116 15,1,false,[.slice none 0 0]⟩),
 (71,⟨.st [(0,1,false),(1,1,false),(2,1,false)],3,true,[.bool false,.bool false,.slice none 0 0]⟩),
 (72,⟨.sl 71 3,1,false,[.slice none 0 0]⟩),
 (73,⟨.sl 114 6,1,false,[.slice none 0 0]⟩),
 (75,⟨.st [(0,1,false),(1,1,false)],2,true,[.slice none 0 0,.slice none 0 0]⟩),
 (78,⟨.sl 3 1,1,false,[.slice none 0 0]⟩),
 (81,⟨.ar 2 3 1,2,true,[.int .i64 0,.int .i64 0]⟩),
 (84,⟨.sl 9 1,1,false,[.slice none 0 0]⟩),
 (86,⟨.st [(0,1,false),(1,1,false)],2,true,[.slice none 0 0,.slice none 0 0]⟩),
 (91,⟨.st [(0,7,true),(7,1,false)],8,true,[vs [],.slice none 0 0,.slice none 0 0,.int .i64 0,.int .i64 0,.slice none 0 0,.slice none 0 0,.slice none 0 0]⟩),
 (96,⟨.ot,1,false,[.nilFunc]⟩),
 (108,⟨.ot,1,false,[.nilFunc]⟩),
 (111,⟨.int .i64,1,false,[.int .i64 0]⟩),
 (112,⟨.int .i64,1,false,[.int .i64 0]⟩),
 (114,⟨.st [(0,1,false),(1,3,true),(4,1,false),(5,1,false)],6,true,[.int .i64 0,.int .i64 0,.int .i64 0,vs [],vs [],.slice none 0 0]⟩),
 (116,⟨.st [(0,1,false),(1,6,true),(7,6,true),(13,1,false),(14,1,false)],15,true,[.int .i64 0,.int .i64 0,.int .i64 0,.int .i64 0,vs [],vs [],.slice none 0 0,.int .i64 0,.int .i64 0,.int .i64 0,vs [],vs [],.slice none 0 0,.bool false,.bool false]⟩),
 (119,⟨.ot,1,false,[.nilFunc]⟩),
 (124,⟨.sl 66 3,1,false,[.slice none 0 0]⟩),
 (138,⟨.int .u64,1,false,[.int .u64 0]⟩),
 (144,⟨.ot,1,false,[.nilFunc]⟩),
 (149,⟨.sl 5 1,1,false,[.slice none 0 0]⟩),
 (155,⟨.ot,1,false,[.nilFunc]⟩),
 (156,⟨.ot,1,false,[.pointer none]⟩),
 (158,⟨.st [(0,1,false),(1,1,false),(2,1,false)],3,true,[.slice none 0 0,.slice none 0 0,.int .i64 0]⟩),
 (167,⟨.sl 175 4,1,false,[.slice none 0 0]⟩),
 (170,⟨.ot,1,false,[.pointer none]⟩),
 (172,⟨.st [(0,1,false),(1,1,false),(2,1,false)],3,true,[.slice none 0 0,.int .i64 0,.bool false]⟩),
 (173,⟨.int .i64,1,false,[.int .i64 0]⟩),
 (175,⟨.st [(0,1,false),(1,1,false),(2,1,false),(3,1,false)],4,true,[.int .i64 0,vs [],.int .i64 0,.int .i64 0]⟩),
 (182,⟨.int .i64,1,false,[.int .i64 0]⟩),
 (190,⟨.int .u32,1,false,[.int .u32 0]⟩),
 (192,⟨.int .u64,1,false,[.int .u64 0]⟩),
 (196,⟨.ot,1,false,[.nilFunc]⟩),
 (198,⟨.ar 2 114 6,12,true,[.int .i64 0,.int .i64 0,.int .i64 0,vs [],vs [],.slice none 0 0,.int .i64 0,.int .i64 0,.int .i64 0,vs [],vs [],.slice none 0 0]⟩),
 (203,⟨.st [(0,1,false),(1,1,false)],2,true,[.slice none 0 0,.slice none 0 0]⟩),
 (210,⟨.ot,1,false,[.pointer none]⟩),
 (225,⟨.ot,1,false,[.nilFunc]⟩),
 (227,⟨.ot,1,false,[.nilFunc]⟩),
 (232,⟨.ot,1,false,[.pointer none]⟩),
 (234,⟨.st [(0,1,false),(1,1,false),(2,1,false)],3,true,[.slice none 0 0,.int .i64 0,.bool false]⟩),
 (236,⟨.sl 50 1,1,false,[.slice none 0 0]⟩),
 (238,⟨.int .u64,1,false,[.int .u64 0]⟩),
 (242,⟨.ot,1,false,[.pointer none]⟩),
 (263,⟨.ot,1,false,[.nilFunc]⟩),
 (265,⟨.st [(0,1,false),(1,1,false)],2,true,[.bool false,.bool false]⟩),
 (285,⟨.st [(0,1,false),(1,1,false),(2,1,false)],3,true,[.int .i64 0,vs [],.int .i64 0]⟩),
 (291,⟨.sl 285 3,1,false,[.slice none 0 0]⟩),
 (298,⟨.st [(0,1,false),(1,1,false)],2,true,[.int .u8 0,.int .u8 0]⟩),
 (299,⟨.ar 16 298 2,32,true,[.int .u8 0,.int .u8 0,.int .u8 0,.int .u8 0,.int .u8 0,.int .u8 0,.int .u8 0,.int .u8 0,.int .u8 0,.int .u8 0,.int .u8 0,.int .u8 0,.int .u8 0,.int .u8 0,.int .u8 0,.int .u8 0,.int .u8 0,.int .u8 0,.int .u8 0,.int .u8 0,.int .u8 0,.int .u8 0,.int .u8 0,.int .u8 0,.int .u8 0,.int .u8 0,.int .u8 0,.int .u8 0,.int .u8 0,.int .u8 0,.int .u8 0,.int .u8 0]⟩)],[8,9,10,11,12,13,14,15,16,17,18,19,20,21,22,23,24,25,26,27,28,29,30,31,32,33,34,35,36,37,38,39,40,41,42,43,44,45,46,47,48,49,50,51,52,53,54,55,56,57,58,59,60,61,62,63,64,65,66,67,68,69,70,71,72,73,74,75,76,77,78,79,80,81,82,83,84,85,86,87,88,89,90,91,92,93,94,95,96,97,98,99,100,101,102,103,104,105,106,107,108,109,110,111,112,113,114,115,116,117,118,119,120,121,122,123,124,125,126,127,128,129,130,131,132,133,134,135,136,137,138,139,140,141,142,143,144,145,146,147,148,149,150,151,152,153,154,155,156,157,158,159,160,161,162,163,164,165,166,167,168,169,170,171,172,173,174,175,176,177,178,179,180,181,182,183,184,185,186,187,188,189,190,192,193,194,195,196,197,198,199,200,201,202,203,204,205,206,207,208,209,210,211,212,213,214,215,216,217,218,219,220,221,222,223,224,225,226,227,228,229,230,231,232,233,234,235,236,237,238,239,240,241,242,244,245,246,247,248,249,250,251,252,253]⟩
theorem TT_ok:Go.Dx.Tab.Ok Tryz.prog TT:=⟨by kernel_rfl,by kernel_rfl,by kernel_rfl⟩
theorem pow_fol:Tryz.prog.follows .mixedOrders=true:=by kernel_rfl
end Go.Proofs.YtbmmnalndollkaaGreatDoor
set_option maxRecDepth 100000
namespace Go.Proofs.YtbmmnalndollkaaGreatDoor
open Go Go.Dx Go.RowKit
theorem c_letter (b:UInt8) (w0:World) (h0:View) (hv:VLe h0 (Full w0)):Calls Tryz.prog 245 #[v8 b] w0 (Ret w0 h0 λ u _=>u = .bool (isLet b)):=by
 refine ent (args:=[v8 b]) TT_ok [] [] Tryz.func245 rfl Tryz.ntmps245 rfl rfl hv ?_
 refine ew (low b) rfl ?_
 refine ew (low b) (λ _=>rfl) ?_
 exact rfl
theorem c_digit (b:UInt8) (w0:World) (h0:View) (hv:VLe h0 (Full w0)):Calls Tryz.prog 248 #[v8 b] w0 (Ret w0 h0 λ u _=>u = .bool (isDig b)):=by
 refine ent (args:=[v8 b]) TT_ok [] [] Tryz.func248 rfl Tryz.ntmps248 rfl rfl hv ?_
 exact rfl
set_option maxRecDepth 100000 in
theorem c_Rletter' (b:UInt8) (w0:World) (h0:View) (hv:VLe h0 (Full w0)):Calls Tryz.prog 159 #[v8 b] w0 (Ret w0 h0 λ u _=>u = .bool (decide (97≤(b.toNat:Int))&&decide ((b.toNat:Int)≤122)||decide (65≤(b.toNat:Int))&&decide ((b.toNat:Int)≤90)||decide ((b.toNat:Int)=95))):=by
 refine ent (args:=[v8 b]) TT_ok [] [] Tryz.func159 rfl Tryz.ntmps159 rfl rfl hv ?_
 exact rfl
theorem c_Rletter (b:UInt8) (w0:World) (h0:View) (hv:VLe h0 (Full w0)):Calls Tryz.prog 159 #[v8 b] w0 (Ret w0 h0 λ u _=>u = .bool (isLet b)):=by
 have:=c_Rletter' b w0 h0 hv
 rw [← isLet_ref] at this
 exact this
theorem c_Rdigit (b:UInt8) (w0:World) (h0:View) (hv:VLe h0 (Full w0)):Calls Tryz.prog 160 #[v8 b] w0 (Ret w0 h0 λ u _=>u = .bool (isDig b)):=by
 refine ent (args:=[v8 b]) TT_ok [] [] Tryz.func160 rfl Tryz.ntmps160 rfl rfl hv ?_
 exact rfl
theorem c_word1 (b:UInt8) (w0:World) (h0:View) (hv:VLe h0 (Full w0)):Calls Tryz.prog 247 #[v8 b] w0 (Ret w0 h0 λ u _=>u = .bool (isWord b)):=by
 refine ent (args:=[v8 b]) TT_ok [] [] Tryz.func247 rfl Tryz.ntmps247 rfl rfl hv ?_
 refine cl (c_letter b) ?_
 refine clg (λ _=>c_digit b) ?_
 exact rfl
theorem all_snocW {p:UInt8→Bool} {s:List UInt8} {k:Nat} (hk:k<s.length) (ha:(s.take k).all p=true) (h:p (s.getD k 0)=true):(s.take (k+1)).all p=true:=by
 rw [take_snocD s k 0 hk,List.all_append,ha]; simp only [List.all_cons,h,List.all_nil,Bool.and_self]
theorem c_runW (s:List UInt8) (hs:s.length≤1000000) (w0:World) (h0:View) (hv:VLe h0 (Full w0)):Calls Tryz.prog 246 #[vs s,.func (.func 247) #[] #[]] w0 (Ret w0 h0 λ u _=>u = .int .i64 ((s.takeWhile isWord).length:Nat)):=by
 refine ent (args:=[vs s,.func (.func 247) #[] #[]]) TT_ok [] [] Tryz.func246 rfl Tryz.ntmps246 rfl rfl hv ?_
 refine w_loop TT_ok (λ k:Nat=>[(8,.v (.int .i64 k))]) 0 (λ k=>k≤s.length∧(s.take k).all isWord=true) (λ k=>s.length - k) ?_
 refine And.intro ⟨⟨Nat.zero_le _,by simp⟩,gs⟩ ?_
 intro k ⟨hk,ha⟩
 refine cnd (λ h=>?_) (λ h=>?_)
 ·refine ix k ?_
  refine cl (c_word1 (s.getD k 0)) ?_
  refine cnd (λ h1=>?_) (λ h1=>?_)
  ·show Value.int .i64 (k:Int)=_
   rw [tw_len isWord s k ha hk (.inr h1)]
  ·refine wi ?_
   exact ⟨k+1,⟨⟨by omega,all_snocW (by omega) ha h1⟩,by omega⟩,gs⟩
 ·show Value.int .i64 (s.length:Int)=_
  rw [tw_len isWord s k ha hk (.inl (by omega))]
  rw [show k=s.length by omega]
theorem c_word (s:List UInt8) (hs:s.length≤1000000) (w0:World) (h0:View) (hv:VLe h0 (Full w0)):Calls Tryz.prog 233 #[vs s] w0 (Ret w0 h0 λ u _=>u = .int .i64 (wordN s:Nat)):=by
 refine ent (args:=[vs s]) TT_ok [] [] Tryz.func233 rfl Tryz.ntmps233 rfl rfl hv ?_
 refine ixg 0 ?_ (λ h=>⟨rfl,by rcases s with _ | ⟨b,s⟩ <;> simp_all⟩)
 refine clg (λ _=>c_letter (s.getD 0 0)) ?_
 refine cnd (λ h=>?_) (λ h=>?_)
 ·show Value.int .i64 0=_
  rw [wordN_zero s h]; rfl
 ·refine cl (c_runW s hs) ?_
  show Value.int .i64 _=_
  rw [wordN_pos s h.1 h.2]
theorem c_reserved (s:List UInt8) (w0:World) (h0:View) (hv:VLe h0 (Full w0)):Calls Tryz.prog 234 #[vs s] w0 (Ret w0 h0 λ u _=>u = .bool (resS s)):=by
 refine ent (args:=[vs s]) TT_ok [] [11] Tryz.func234 rfl Tryz.ntmps234 rfl rfl hv ?_
 refine w_cut TT_ok (λ _:Unit=>[(4,.v (.bool (resS s)))]) (λ _=>True) ?_
 refine And.intro ?_ ?_
 ·repeat (refine cnd (λ h=>⟨(),trivial,gs (by subst h; rfl)⟩) (λ h=>?_))
  exact ⟨(),trivial,gs (by rw [show resS s=decide (s=[110,117,108,108]) by simp_all [resS,resvL]]; rfl)⟩
 ·intro _ _
  refine cnd (λ h=>?_) (λ h=>?_)
  ·exact congrArg Value.bool h.symm
  ·exact congrArg Value.bool h.symm
theorem c_Name (s:List UInt8) (hs:s.length≤1000000) (w0:World) (h0:View) (hv:VLe h0 (Full w0)):Calls Tryz.prog 217 #[vs s] w0 (Ret w0 h0 λ u _=>u = .bool (nameOk s)):=by
 refine ent (args:=[vs s]) TT_ok [] [] Tryz.func217 rfl Tryz.ntmps217 rfl rfl hv ?_
 refine clg (λ _=>c_word s hs) ?_
 refine clg (λ _=>c_reserved s) ?_
 show Value.bool _=_
 simp only [nameOk,Bool.and_assoc]
theorem c_Rword (s:List UInt8) (hs:s.length≤1000000) (w0:World) (h0:View) (hv:VLe h0 (Full w0)):Calls Tryz.prog 97 #[vs s] w0 (Ret w0 h0 λ u _=>u = .int .i64 (wordN s:Nat)):=by
 refine ent (args:=[vs s]) TT_ok [] [] Tryz.func97 rfl Tryz.ntmps97 rfl rfl hv ?_
 refine w_loop TT_ok (λ k:Nat=>[(3,.v (.int .i64 k))]) 0 (λ k=>k≤s.length∧(s.take k).all isWord=true∧(k=0∨isLet (s.getD 0 0)=true)) (λ k=>s.length - k) ?_
 refine And.intro ⟨⟨Nat.zero_le _,by simp,.inl rfl⟩,gs⟩ ?_
 intro k ⟨hk,ha,h0⟩
 refine ixg k ?_
 refine clg (λ _=>c_Rletter (s.getD k 0)) ?_
 refine ixg k ?_
 refine clg (λ _=>c_Rdigit (s.getD k 0)) ?_
 refine cnd (λ h=>?_) (λ h=>?_)
 ·refine wi ?_
  refine ⟨k+1,⟨⟨by omega,all_snocW (by omega) ha ?_,?_⟩,by omega⟩,gs⟩
  ·rcases h.2 with h1 | h1
   ·rw [isWord,h1,Bool.true_or]
   ·rw [isWord,h1.2,Bool.or_true]
  ·rcases h0 with rfl | h0
   ·rcases h.2 with h1 | h1
    ·exact .inr h1
    ·exfalso; omega
   ·exact .inr h0
 ·show Value.int .i64 (k:Int)=_
  rw [word_end s k hk ha h0 (by
   rcases h with h1 | h1
   ·exact .inl (by omega)
   ·exact .inr ⟨h1.1,by rcases h1.2 with h2 | h2; exact .inl (by omega); exact .inr h2⟩)]
theorem c_RReserved (s:List UInt8) (w0:World) (h0:View) (hv:VLe h0 (Full w0)):Calls Tryz.prog 98 #[vs s] w0 (Ret w0 h0 λ u _=>u = .bool (resS s)):=by
 refine ent (args:=[vs s]) TT_ok [] [] Tryz.func98 rfl Tryz.ntmps98 rfl rfl hv ?_
 intro b
 refine shutC 5 (row_sl (g:=λ s=>[vs s]) (l:=resvL) (sz:=1) (n:=9) (cp:=9) rfl) ?_ Mono.slF
 refine w_loop TT_ok (λ k:Nat=>[(4,.v (.int .i64 k))]) 0 (λ k=>k≤9∧∀ j,j<k→¬ resvL.getD j []=s) (λ k=>9 - k) ?_
 refine And.intro ⟨⟨Nat.zero_le _,λ j hj=>absurd hj (Nat.not_lt_zero j)⟩,gs⟩ ?_
 intro k ⟨hk,hn⟩
 have hlen:resvL.length=9:=rfl
 refine cnd (λ h=>?_) (λ h=>?_)
 ·refine ixf (l:=resvL) (λ v hF=>hF.2) k [] ?_ (by omega)
  refine cnd (λ h1=>?_) (λ h1=>?_)
  ·show Value.bool true=_
   rw [show resS s=true by rw [resS,← h1]; exact List.contains_iff_mem.2 (getD_mem resvL k [] (by omega))]
  ·refine wi ?_
   refine ⟨k+1,⟨⟨by omega,λ j hj=>?_⟩,by omega⟩,gs⟩
   rcases Nat.lt_or_ge j k with h2 | h2
   ·exact hn j h2
   ·rw [show j=k by omega]; exact h1
 ·show Value.bool false=_
  rw [show resS s=false by
   rw [resS,Bool.eq_false_iff]
   intro hc
   obtain ⟨j,hj⟩:=List.mem_iff_getElem?.1 (List.contains_iff_mem.1 hc)
   have hj9:j<9:=by have:=(List.getElem?_eq_some_iff.1 hj).1; omega
   exact hn j (by omega) (by simp [List.getD,hj])]
set_option maxRecDepth 100000 in
theorem c_RName (s:List UInt8) (hs:s.length≤1000000) (w0:World) (h0:View) (hv:VLe h0 (Full w0)):Calls Tryz.prog 63 #[vs s] w0 (Ret w0 h0 λ u _=>u = .bool (nameOk s)):=by
 refine ent (args:=[vs s]) TT_ok [] [] Tryz.func63 rfl Tryz.ntmps63 rfl rfl hv ?_
 refine clg (λ _=>c_Rword s hs) ?_
 refine clg (λ _=>c_RReserved s) ?_
 show Value.bool _=_
 simp only [nameOk,Bool.and_assoc]
end Go.Proofs.YtbmmnalndollkaaGreatDoor
set_option maxRecDepth 100000
namespace Go.Proofs.YtbmmnalndollkaaGreatDoor
open Go Go.Dx Go.RowKit
end Go.Proofs.YtbmmnalndollkaaGreatDoor
set_option maxRecDepth 100000
namespace Go.Proofs.YtbmmnalndollkaaGreatDoor
open Go Go.Dx Go.RowKit
end Go.Proofs.YtbmmnalndollkaaGreatDoor
set_option maxRecDepth 100000
namespace Go.Proofs.YtbmmnalndollkaaGreatDoor
open Go Go.Dx Go.RowKit
theorem c_binaries (w0:World) (h0:View) (hv:VLe h0 (Full w0)):Calls Tryz.prog 244 #[] w0 (Ret w0 h0 λ u h=>∃ b:Nat,u = .slice (some ⟨b,0,none⟩) 12 12∧SlC 285 3 (flatR binC) h (.slice (some ⟨b,0,none⟩) 12 12) binL):=by
 refine entA (args:=[]) TT_ok [0] [] Tryz.func244 rfl Tryz.ntmps244 rfl rfl hv (λ _=>Mono.slF) ?_
 refine ⟨rfl,goW TT_ok ?_⟩
 intro b
 refine shutG TT_ok 13 rfl (row_sl (g:=binC) (l:=binL) (sz:=3) (n:=12) (cp:=12) rfl) ?_ Mono.slF
 exact ⟨b,rfl,λ v _ hF=>hF.2⟩
theorem c_find (op:Int) (w0:World) (h0:View) (hv:VLe h0 (Full w0)):Calls Tryz.prog 232 #[.int .i64 op] w0 (Ret w0 h0 λ u _=>u = .agg (binC (findS op)).toArray):=by
 refine ent (args:=[.int .i64 op]) TT_ok [] [] Tryz.func232 rfl Tryz.ntmps232 rfl rfl hv ?_
 intro b2
 refine cA TT_ok (λ w v h1 h2 h3=>c_binaries w v h3) (λ _=>Mono.slF) (λ mb=>?_)
 refine w_loop TT_ok (λ k:Nat=>[(7,.v (.int .i64 k))]) 0 (λ k=>k≤12∧∀ j,j<k→¬ (binL.getD j (0,[],0)).1=op) (λ k=>12 - k) ?_
 refine And.intro ⟨⟨Nat.zero_le _,λ j hj=>absurd hj (Nat.not_lt_zero j)⟩,gs⟩ ?_
 intro k ⟨hk,hn⟩
 have hlen:binL.length=12:=rfl
 refine cnd (λ h=>?_) (λ h=>?_)
 ·refine ixf (λ v hF=>hF.2) k (0,[],0) ?_ (by omega)
  intro b4
  refine cnd (λ h1=>?_) (λ h1=>?_)
  ·show _=Value.agg (binC (findS op)).toArray
   rw [find_hit op k (by omega) hn h1]; rfl
  ·refine wi ?_
   exact ⟨k+1,⟨⟨by omega,upto_snoc hn h1⟩,by omega⟩,gs⟩
 ·show _=Value.agg (binC (findS op)).toArray
  rw [find_none op (λ j hj=>hn j (by omega))]; rfl
theorem c_count (op:Int) (w0:World) (h0:View) (hv:VLe h0 (Full w0)):Calls Tryz.prog 216 #[.int .i64 op] w0 (Ret w0 h0 λ u _=>u = .int .i64 (cntS op)):=by
 refine ent (args:=[.int .i64 op]) TT_ok [] [] Tryz.func216 rfl Tryz.ntmps216 rfl rfl hv ?_
 refine cnd (λ h=>?_) (λ h=>?_)
 ·exact congrArg (Value.int .i64) (by rw [cntS,if_pos h])
 refine cnd (λ h2=>?_) (λ h2=>?_)
 ·exact congrArg (Value.int .i64) (by rw [cntS,if_neg (by omega),if_pos h2])
 refine cnd (λ h3=>?_) (λ h3=>?_)
 ·exact congrArg (Value.int .i64) (by rw [cntS,if_neg (by omega),if_neg h2,if_pos h3])
 refine cl (c_find op) ?_
 refine cnd (λ h4=>?_) (λ h4=>?_)
 ·have:=(find_lev op).1 h4
  exact congrArg (Value.int .i64) (by rw [cntS,if_neg (by omega),if_neg h2,if_neg h3,if_pos this])
 ·have:¬ (4≤op∧op≤15):=λ hh=>h4 ((find_lev op).2 hh)
  exact congrArg (Value.int .i64) (by rw [cntS,if_neg (by omega),if_neg h2,if_neg h3,if_neg this])
theorem c_sign (op:Int) (w0:World) (h0:View) (hv:VLe h0 (Full w0)):Calls Tryz.prog 192 #[.int .i64 op] w0 (Ret w0 h0 λ u _=>u=vs (findS op).2.1):=by
 refine ent (args:=[.int .i64 op]) TT_ok [] [] Tryz.func192 rfl Tryz.ntmps192 rfl rfl hv ?_
 iterate 12 (refine cnd (λ h=>by subst h; exact rfl) (λ h=>?_))
 show vs []=vs (findS op).2.1
 rw [find_none op (λ j hj=>bin_other op (by omega) j hj)]
theorem c_Rcount (op:Int) (w0:World) (h0:View) (hv:VLe h0 (Full w0)):Calls Tryz.prog 147 #[.int .i64 op] w0 (Ret w0 h0 λ u _=>u = .int .i64 (cntS op)):=by
 refine ent (args:=[.int .i64 op]) TT_ok [] [] Tryz.func147 rfl Tryz.ntmps147 rfl rfl hv ?_
 refine cnd (λ h=>?_) (λ h=>?_)
 ·exact congrArg (Value.int .i64) (by rw [cntS,if_pos h])
 refine cnd (λ h2=>?_) (λ h2=>?_)
 ·exact congrArg (Value.int .i64) (by rw [cntS,if_neg (by omega),if_pos h2])
 refine cnd (λ h3=>?_) (λ h3=>?_)
 ·exact congrArg (Value.int .i64) (by rw [cntS,if_neg (by omega),if_neg h2,if_pos h3])
 refine cl (c_sign op) ?_
 refine cnd (λ h4=>?_) (λ h4=>?_)
 ·have:4≤op∧op≤15:=Decidable.byContradiction λ hh=>h4 ((find_sgn op).2 hh)
  exact congrArg (Value.int .i64) (by rw [cntS,if_neg (by omega),if_neg h2,if_neg h3,if_pos this])
 ·have:¬ (4≤op∧op≤15):=(find_sgn op).1 h4
  exact congrArg (Value.int .i64) (by rw [cntS,if_neg (by omega),if_neg h2,if_neg h3,if_neg this])
end Go.Proofs.YtbmmnalndollkaaGreatDoor
set_option maxRecDepth 100000
namespace Go.Proofs.YtbmmnalndollkaaGreatDoor
open Go Go.Dx Go.RowKit
end Go.Proofs.YtbmmnalndollkaaGreatDoor
set_option maxRecDepth 100000
namespace Go.Proofs.YtbmmnalndollkaaGreatDoor
open Go Go.Dx Go.RowKit
def exV (e:Ex) (x:Option Addr×Nat):Value := .agg (exC e.op e.v e.s (.slice x.1 e.l.length x.2)).toArray
theorem xl_m (x:Option Addr×Nat) (l:List Ex):Mono λ h=>XL h x.1 x.2 l:=λ _ _ hle hx=>XL.mono hle hx
def rowC (es:List (Ex×Option Addr×Nat)) (i:Nat):List Value:=exC (es.getD i (ex0,none,0)).1.op (es.getD i (ex0,none,0)).1.v (es.getD i (ex0,none,0)).1.s (.slice (es.getD i (ex0,none,0)).2.1 (es.getD i (ex0,none,0)).1.l.length (es.getD i (ex0,none,0)).2.2)
theorem rowC_len (es:List (Ex×Option Addr×Nat)) (l:List Nat):∀ x∈l,(rowC es x).length=6:=λ _ _=>rfl
theorem rowC_xl (es:List (Ex×Option Addr×Nat)) {h:View} {ad:Option Addr} {cap:Nat} (hs:SlC 114 6 (flatR (rowC es)) h (.slice ad es.length cap) (List.range es.length)) (hc:∀ (i:Nat) (p:Ex×Option Addr×Nat),es[i]?=some p→RX h (exC p.1.op p.1.v p.1.s (.slice p.2.1 p.1.l.length p.2.2)) p.1):XL h ad cap (es.map (·.1)):=by
 refine ⟨rowC es,by simpa using hs,λ i y hi=>?_⟩
 rw [List.getElem?_map] at hi
 cases he:es[i]? with
 | none=>rw [he] at hi; cases hi
 | some p =>
  rw [he] at hi
  cases hi
  have e:es.getD i (ex0,none,0)=p:=by simp [List.getD,he]
  have:=hc i p he
  unfold rowC
  rw [e]; exact this
section rd
variable (b:Nat) (ad:Option Addr) (cap:Nat) (l:List Tok)
variable {b ad cap l}
theorem need_pos (l:List Tok) {lev i:Nat} (h:lev≤7):2≤needS l lev i:=by unfold needS; omega
end rd
end Go.Proofs.YtbmmnalndollkaaGreatDoor
set_option maxRecDepth 100000
namespace Go.Proofs.YtbmmnalndollkaaGreatDoor
open Go Go.Dx Go.RowKit
theorem slc_lm {α:Type} {T sz n cp:Nat} {f:View→List Value→α→Prop} {h:View} {ad:Option Addr} {l:List α} (hs:SlC T sz f h (.slice ad n cp) l):l.length≤9223372036854775807:=by
 obtain ⟨_,_,_,h1,h2⟩:=hs.parts
 simp only [maxLen] at h2
 omega
theorem c_plain (s:List UInt8) (w0:World) (h0:View) (hv:VLe h0 (Full w0)):Calls Tryz.prog 57 #[vs s] w0 (Ret w0 h0 λ u _=>u = .bool (plainS s)):=by
 refine ent (args:=[vs s]) TT_ok [] [] Tryz.func57 rfl Tryz.ntmps57 rfl rfl hv ?_
 refine cnd (λ h0=>?_) (λ h0=>?_)
 ·exact congrArg Value.bool (plain_long (by omega)).symm
 refine rgS TT_ok 900 (λ b=>?_)
 refine w_loopB TT_ok (λ _:Nat=>[]) (λ k=>[(900,.e (some b,IterC s k))]) 0 (λ k=>k≤s.length∧∀ j,j<k→plB (s.getD j 0)=true) (λ k=>s.length - k) ?_
 refine And.intro ⟨⟨Nat.zero_le _,λ j hj=>absurd hj (Nat.not_lt_zero j)⟩,gs⟩ ?_
 intro k ⟨hk,hn⟩
 refine nxS TT_ok 900 (λ h=>?_) (λ h=>?_)
 ·refine cndT rfl ?_
  refine cnd (λ h1=>?_) (λ h1=>?_)
  ·exact congrArg Value.bool (plain_not (k:=k) h (dec_bad h h1)).symm
  ·obtain ⟨e1,e2⟩:=dec_plain (s:=s) (k:=k) h h1.1 h1.2
   refine ⟨k+1,⟨⟨by omega,λ j hj=>?_⟩,by omega⟩,gs (bl:=by rw [e2]; rfl)⟩
   rcases Nat.lt_or_ge j k with h2 | h2
   ·exact hn j h2
   ·rw [show j=k by omega]; exact e1
 ·refine cndF rfl ?_
  exact congrArg Value.bool (plain_all (by omega) (λ j hj=>hn j (by omega))).symm
theorem eqV:EqT Tryz.prog 52 valC:=EqT.of [(0,.i .i64),(1,.i .i64),(2,.s)] (by kernel_rfl) (by kernel_rfl) (by kernel_rfl) (by kernel_rfl)
 (λ a b s hs=>by
  simp only [List.mem_cons,List.mem_nil_iff,or_false] at hs
  rcases hs with rfl | rfl | rfl
  ·exact ⟨_,_,rfl,rfl,⟨_,rfl⟩,⟨_,rfl⟩⟩
  ·exact ⟨_,_,rfl,rfl,⟨_,rfl⟩,⟨_,rfl⟩⟩
  ·exact ⟨_,_,rfl,rfl,⟨_,rfl⟩,⟨_,rfl⟩⟩)
 (λ a b=>by
  obtain ⟨k,n,s⟩:=a
  obtain ⟨k',n',s'⟩:=b
  simp [valC,eqC,vs,Bool.and_assoc])
theorem c_VCheck (v:Val) (hvb:valB v) (w0:World) (h0:View) (hv:VLe h0 (Full w0)):Calls Tryz.prog 25 #[.agg (valC v).toArray] w0 (Ret w0 h0 λ u _=>u = .int .i64 (if valOk v then 0 else 2)):=by
 refine ent (args:=[.agg (valC v).toArray]) TT_ok [] [11] Tryz.func25 rfl Tryz.ntmps25 rfl rfl hv ?_
 intro b1
 refine w_cut TT_ok (λ _:Unit=>[(3,.v (.bool (valOk v)))]) (λ _=>True) ?_
 refine And.intro ?_ ?_
 ·refine cnd (λ h=>?_) (λ h=>?_)
  ·refine aq eqV v v0 ?_
   exact ⟨(),trivial,gs (by rw [show valOk v=decide (v=v0) by obtain ⟨vk,vn,vt⟩:=v; simp at h; simp [valOk,v0,h]]; rfl)⟩
  refine cnd (λ h2=>?_) (λ h2=>?_)
  ·exact ⟨(),trivial,gs (by rw [show valOk v=decide (v.s=[]) by simp [valOk,h2]]; rfl)⟩
  refine cnd (λ h3=>?_) (λ h3=>?_)
  ·refine clg (λ _=>c_plain v.s) ?_
   exact ⟨(),trivial,gs (by rw [show valOk v=(decide (v.n=0)&&plainS v.s) by simp [valOk,h3]]; rfl)⟩
  refine cnd (λ h4=>?_) (λ h4=>?_)
  ·refine ew _ (λ _=>rfl) ?_
   have e:=andnot1 (h:=hvb.2) (hr:=rfl)
   have e4:valOk v=(decide (v.s=[])&&decide (IntKind.i64.wrap ((BitVec.ofInt IntKind.i64.bits v.n &&& ~~~ BitVec.ofInt IntKind.i64.bits 1).toNat:Int)=0)):=by
    rw [show decide (IntKind.i64.wrap ((BitVec.ofInt IntKind.i64.bits v.n &&& ~~~ BitVec.ofInt IntKind.i64.bits 1).toNat:Int)=0)=decide (v.n=0∨v.n=1) from decide_eq_decide.2 e]
    simp [valOk,h4]
   exact ⟨(),trivial,gs (by rw [e4]; rfl)⟩
  ·exact ⟨(),trivial,gs (by rw [show valOk v=false by simp [valOk,h,h2,h3,h4]]; rfl)⟩
 ·intro _ _
  refine cnd (λ h=>?_) (λ h=>?_)
  ·show Value.int .i64 2=_
   rw [if_neg (by rw [h]; decide)]
  ·show Value.int .i64 0=_
   rw [if_pos h]
theorem c_RPlain (s:List UInt8) (hs:s.length≤9223372036854775807) (w0:World) (h0:View) (hv:VLe h0 (Full w0)):Calls Tryz.prog 55 #[vs s] w0 (Ret w0 h0 λ u _=>u = .bool (plainS s)):=by
 refine ent (args:=[vs s]) TT_ok [] [] Tryz.func55 rfl Tryz.ntmps55 rfl rfl hv ?_
 refine w_loop TT_ok (λ k:Nat=>[(3,.v (.int .i64 k))]) 0 (λ k=>k≤s.length∧∀ j,j<k→plB (s.getD j 0)=true) (λ k=>s.length - k) ?_
 refine And.intro ⟨⟨Nat.zero_le _,λ j hj=>absurd hj (Nat.not_lt_zero j)⟩,gs⟩ ?_
 intro k ⟨hk,hn⟩
 refine cnd (λ h=>?_) (λ h=>?_)
 ·refine ix k ?_
  refine ixg k ?_
  refine cnd (λ h1=>?_) (λ h1=>?_)
  ·exact congrArg Value.bool (plain_no (k:=k) (by omega) (by omega)).symm
  ·refine wi ?_
   refine ⟨k+1,⟨⟨by omega,λ j hj=>?_⟩,by omega⟩,gs⟩
   rcases Nat.lt_or_ge j k with h2 | h2
   ·exact hn j h2
   ·rw [show j=k by omega]; exact pl_yes (by omega) (by omega)
 ·exact congrArg Value.bool (plain_len s (λ j hj=>hn j (by omega)))
theorem c_RRight (v:Val) (hs:v.s.length≤9223372036854775807) (w0:World) (h0:View) (hv:VLe h0 (Full w0)):Calls Tryz.prog 21 #[.agg (valC v).toArray] w0 (Ret w0 h0 λ u _=>u = .bool (valOk v)):=by
 refine ent (args:=[.agg (valC v).toArray]) TT_ok [] [] Tryz.func21 rfl Tryz.ntmps21 rfl rfl hv ?_
 intro b1
 refine cnd (λ h=>?_) (λ h=>?_)
 ·exact congrArg Value.bool (by simp [valOk,h])
 refine cnd (λ h2=>?_) (λ h2=>?_)
 ·exact congrArg Value.bool (by simp [valOk,h2])
 refine cnd (λ h3=>?_) (λ h3=>?_)
 ·refine clg (λ _=>c_RPlain v.s hs) ?_
  exact congrArg Value.bool (by simp [valOk,h3])
 refine cnd (λ h4=>?_) (λ h4=>?_)
 ·exact congrArg Value.bool (by simp [valOk,h4])
 ·exact congrArg Value.bool (by simp [valOk,h,h2,h3,h4])
end Go.Proofs.YtbmmnalndollkaaGreatDoor
set_option maxRecDepth 100000
namespace Go.Proofs.YtbmmnalndollkaaGreatDoor
open Go Go.Dx Go.RowKit
theorem ixE {c:Cx} {F:FV} {n:Nat} {ad:Option Addr} {cap:Nat} {l:List Ex} {i:Int} {X:Nat→List Value→Prop} (H:XL c.h0 ad cap l) (j:Nat)
  (k:∀ a2 c2,XL c.h0 a2 c2 (l.getD j ex0).l→i64 (l.getD j ex0).op→valB (l.getD j ex0).v→X j (exC (l.getD j ex0).op (l.getD j ex0).v (l.getD j ex0).s (.slice a2 (l.getD j ex0).l.length c2)))
  (h:i=(j:Int)∧j<l.length:=by omega) (hn:n=l.length:=by rfl):∃ (j:Nat) (cs:List Value),(i=(j:Int)∧j<n∧ElC c.h0 F ad (j*6) cs)∧X j cs:=by
 obtain ⟨g,off,a2,c2,ha,h1,h2,h3,hc⟩:=H.at2 h.2
 subst hn
 exact ⟨j,_,⟨h.1,h.2,λ v hv _=>⟨by rw [ha]; rfl,λ w hw=>by rw [ha]; exact hc w (hv.trans hw)⟩⟩,k a2 c2 h1 h2 h3⟩
theorem c_IndexX (ad:Option Addr) (cap:Nat) (l:List Ex) (p:Ex→Bool) (w0:World) (h0:View) (hv:VLe h0 (Full w0)) (hx:XL h0 ad cap l)
  (hp:∀ j,j<l.length→∀ a2 c2,XL h0 a2 c2 (l.getD j ex0).l→i64 (l.getD j ex0).op→valB (l.getD j ex0).v→∀ w,VLe h0 (Full w)→Calls Tryz.prog 219 #[.agg (exC (l.getD j ex0).op (l.getD j ex0).v (l.getD j ex0).s (.slice a2 (l.getD j ex0).l.length c2)).toArray] w (Ret w h0 λ u _=>u = .bool (p (l.getD j ex0)))) :
  Calls Tryz.prog 235 #[.slice ad l.length cap,.func (.func 219) #[] #[]] w0 (Ret w0 h0 λ u _=>u = .int .i64 (idxS p l)):=by
 have hlm:=hx.lm
 refine ent (args:=[.slice ad l.length cap,.func (.func 219) #[] #[]]) TT_ok [] [] Tryz.func235 rfl Tryz.ntmps235 rfl rfl hv ?_
 refine w_loop TT_ok (λ k:Nat=>[(8,.v (.int .i64 k))]) 0 (λ k=>k≤l.length∧∀ j,j<k→p (l.getD j ex0)=false) (λ k=>l.length - k) ?_
 refine And.intro ⟨⟨Nat.zero_le _,λ j hj=>absurd hj (Nat.not_lt_zero j)⟩,gs⟩ ?_
 intro k ⟨hk,hn⟩
 refine cnd (λ h=>?_) (λ h=>?_)
 ·refine ixE hx k (λ a2 c2 h1 h2 h3=>?_)
  refine cb (λ w hw=>hp k (by omega) a2 c2 h1 h2 h3 w hw) ?_
  refine cnd (λ h4=>?_) (λ h4=>?_)
  ·exact congrArg (Value.int .i64) (idx_hit ex0 (by omega) hn h4).symm
  ·refine wi ?_
   exact ⟨k+1,⟨⟨by omega,upto_snoc hn h4⟩,by omega⟩,gs⟩
 ·exact congrArg (Value.int .i64) (idx_none ex0 (λ j hj=>hn j (by omega))).symm
theorem c_ContainsX (ad:Option Addr) (cap:Nat) (l:List Ex) (p:Ex→Bool) (w0:World) (h0:View) (hv:VLe h0 (Full w0)) (hx:XL h0 ad cap l)
  (hp:∀ j,j<l.length→∀ a2 c2,XL h0 a2 c2 (l.getD j ex0).l→i64 (l.getD j ex0).op→valB (l.getD j ex0).v→∀ w,VLe h0 (Full w)→Calls Tryz.prog 219 #[.agg (exC (l.getD j ex0).op (l.getD j ex0).v (l.getD j ex0).s (.slice a2 (l.getD j ex0).l.length c2)).toArray] w (Ret w h0 λ u _=>u = .bool (p (l.getD j ex0)))) :
  Calls Tryz.prog 218 #[.slice ad l.length cap,.func (.func 219) #[] #[]] w0 (Ret w0 h0 λ u _=>u = .bool (l.any p)):=by
 refine ent (args:=[.slice ad l.length cap,.func (.func 219) #[] #[]]) TT_ok [] [] Tryz.func218 rfl Tryz.ntmps218 rfl rfl hv ?_
 refine cb (λ w hw=>c_IndexX ad cap l p w h0 hw hx hp) ?_
 exact congrArg Value.bool (idx_any (p:=p) (l:=l))
theorem any_right (l:List Ex):(!(l.any λ y => !rightS y))=l.all rightS:=any_all rightS l
set_option maxHeartbeats 1000000 in
theorem c_right:∀ (k:Nat) (x:Ex) (ad:Option Addr) (cap:Nat),SizeOf.sizeOf x<k→∀ (w0:World) (h0:View),VLe h0 (Full w0)→GX h0 ad cap x→Calls Tryz.prog 176 #[.agg (exC x.op x.v x.s (.slice ad x.l.length cap)).toArray] w0 (Ret w0 h0 λ u _=>u = .bool (rightS x)):=by
 intro k
 induction k with
 | zero=>intro x ad cap h; omega
 | succ k ih =>
  intro x ad cap hk w0 h0 hv hx
  have hsm:=hx.sm.parts
  have hp:∀ j,j<x.l.length→∀ a2 c2,XL h0 a2 c2 (x.l.getD j ex0).l→i64 (x.l.getD j ex0).op→valB (x.l.getD j ex0).v→∀ w,VLe h0 (Full w)→Calls Tryz.prog 219 #[.agg (exC (x.l.getD j ex0).op (x.l.getD j ex0).v (x.l.getD j ex0).s (.slice a2 (x.l.getD j ex0).l.length c2)).toArray] w (Ret w h0 λ u _=>u = .bool (!rightS (x.l.getD j ex0))):=by
   intro j hj a2 c2 g1 g2 g3 w hw
   refine ent (args:=[.agg (exC (x.l.getD j ex0).op (x.l.getD j ex0).v (x.l.getD j ex0).s (.slice a2 (x.l.getD j ex0).l.length c2)).toArray]) TT_ok [] [] Tryz.func219 rfl Tryz.ntmps219 rfl rfl hw ?_
   intro b
   refine cb (λ w hw=>ih _ a2 c2 (by have:=Ex.lt (getD_mem x.l j ex0 hj); omega) w h0 hw ⟨g1,g2,g3,hsm.2.2.2 _ (getD_mem x.l j ex0 hj)⟩) ?_
   exact rfl
  refine ent (args:=[.agg (exC x.op x.v x.s (.slice ad x.l.length cap)).toArray]) TT_ok [] [] Tryz.func176 rfl Tryz.ntmps176 rfl rfl hv ?_
  intro b1
  refine And.intro (by kernel_rfl) ?_
  refine cl (c_count x.op) ?_
  refine cnd (λ h=>?_) (λ h=>?_)
  ·exact congrArg Value.bool (by rw [right_eq,decide_eq_false h,Bool.false_and])
  refine cnd (λ h1=>?_) (λ h1=>?_)
  ·refine clg (λ _=>c_VCheck x.v hx.v) ?_
   exact congrArg Value.bool (by rw [right_eq,decide_eq_true h,if_pos h1]; simp [Bool.and_assoc])
  refine cnd (λ h2=>?_) (λ h2=>?_)
  ·refine aq eqV x.v v0 ?_
   refine clg (λ _=>c_Name x.s (by omega)) ?_
   exact congrArg Value.bool (by rw [right_eq,decide_eq_true h,if_neg h1,if_pos h2]; simp)
  ·refine aq eqV x.v v0 ?_
   refine cbg (λ _ w hw=>c_ContainsX ad cap x.l (λ y => !rightS y) w h0 hw hx.xl hp) ?_
   exact congrArg Value.bool (by rw [right_eq,decide_eq_true h,if_neg h1,if_neg h2,any_right]; simp)
theorem c_Check (x:Ex) (ad:Option Addr) (cap:Nat) (w0:World) (h0:View) (hv:VLe h0 (Full w0)) (hx:GX h0 ad cap x):Calls Tryz.prog 128 #[.agg (exC x.op x.v x.s (.slice ad x.l.length cap)).toArray] w0 (Ret w0 h0 λ u _=>u = .int .i64 (if rightS x then 0 else 2)):=by
 refine ent (args:=[.agg (exC x.op x.v x.s (.slice ad x.l.length cap)).toArray]) TT_ok [] [] Tryz.func128 rfl Tryz.ntmps128 rfl rfl hv ?_
 intro b1
 refine cb (λ w hw=>c_right _ x ad cap (Nat.lt_succ_self _) w h0 hw hx) ?_
 refine cnd (λ h=>?_) (λ h=>?_)
 ·exact congrArg (Value.int .i64) (by rw [if_neg (by rw [h]; decide)])
 ·exact congrArg (Value.int .i64) (by rw [if_pos h])
set_option maxHeartbeats 1000000 in
theorem c_RRightX:∀ (k:Nat) (x:Ex) (ad:Option Addr) (cap:Nat),SizeOf.sizeOf x<k→∀ (w0:World) (h0:View),VLe h0 (Full w0)→GX h0 ad cap x→Calls Tryz.prog 91 #[.agg (exC x.op x.v x.s (.slice ad x.l.length cap)).toArray] w0 (Ret w0 h0 λ u _=>u = .bool (rightS x)):=by
 intro k
 induction k with
 | zero=>intro x ad cap h; omega
 | succ k ih =>
  intro x ad cap hk w0 h0 hv hx
  have hsm:=hx.sm.parts
  have hlm:=hx.xl.lm
  refine ent (args:=[.agg (exC x.op x.v x.s (.slice ad x.l.length cap)).toArray]) TT_ok [] [] Tryz.func91 rfl Tryz.ntmps91 rfl rfl hv ?_
  intro b1
  refine And.intro (by kernel_rfl) ?_
  refine cl (c_Rcount x.op) ?_
  refine cnd (λ h=>?_) (λ h=>?_)
  ·exact congrArg Value.bool (by rw [right_eq,decide_eq_false h,Bool.false_and])
  refine cnd (λ h1=>?_) (λ h1=>?_)
  ·refine clg (λ _=>c_RRight x.v (by omega)) ?_
   exact congrArg Value.bool (by rw [right_eq,decide_eq_true h,if_pos h1]; simp [Bool.and_assoc])
  refine cnd (λ h2=>?_) (λ h2=>?_)
  ·refine aq eqV x.v v0 ?_
   refine clg (λ _=>c_RName x.s (by omega)) ?_
   exact congrArg Value.bool (by rw [right_eq,decide_eq_true h,if_neg h1,if_pos h2]; simp)
  ·refine w_loop TT_ok (λ k:Nat=>[(3,.v (.int .i64 k))]) 0 (λ k=>k≤x.l.length∧∀ j,j<k→rightS (x.l.getD j ex0)=true) (λ k=>x.l.length - k) ?_
   refine And.intro ⟨⟨Nat.zero_le _,λ j hj=>absurd hj (Nat.not_lt_zero j)⟩,gs⟩ ?_
   intro i ⟨hi,hn⟩
   refine cnd (λ h3=>?_) (λ h3=>?_)
   ·refine ixE hx.xl i (λ a2 c2 g1 g2 g3=>?_)
    refine cb (λ w hw=>ih _ a2 c2 (by have:=Ex.lt (getD_mem x.l i ex0 (by omega)); omega) w h0 hw ⟨g1,g2,g3,hsm.2.2.2 _ (getD_mem x.l i ex0 (by omega))⟩) ?_
    refine cnd (λ h4=>?_) (λ h4=>?_)
    ·exact congrArg Value.bool (by rw [right_eq,all_not ex0 (k:=i) (by omega) h4,if_neg h1,if_neg h2]; simp)
    ·refine wi ?_
     exact ⟨i+1,⟨⟨by omega,upto_snoc hn h4⟩,by omega⟩,gs⟩
   ·refine aq eqV x.v v0 ?_
    exact congrArg Value.bool (by rw [right_eq,decide_eq_true h,if_neg h1,if_neg h2,all_upto ex0 (p:=rightS) (λ j hj=>hn j (by omega))]; simp)
end Go.Proofs.YtbmmnalndollkaaGreatDoor
set_option maxRecDepth 100000
namespace Go.Proofs.YtbmmnalndollkaaGreatDoor
open Go Go.Dx Go.RowKit
theorem mk_int (n m:Nat):(if (n:Int)<m then (m:Int) else n)=((max n m:Nat):Int):=by
 rw [Nat.max_def]; split <;> split <;> omega
theorem c_Deep:∀ (k:Nat) (x:Ex) (ad:Option Addr) (cap:Nat),SizeOf.sizeOf x<k→deepS x≤1000000000→∀ (w0:World) (h0:View),VLe h0 (Full w0)→XL h0 ad cap x.l→Calls Tryz.prog 229 #[.agg (exC x.op x.v x.s (.slice ad x.l.length cap)).toArray] w0 (Ret w0 h0 λ u _=>u = .int .i64 (deepS x:Nat)):=by
 intro k
 induction k with
 | zero=>intro x ad cap h; omega
 | succ k ih =>
  intro x ad cap hk hd w0 h0 hv hx
  have hlm:=hx.lm
  refine ent (args:=[.agg (exC x.op x.v x.s (.slice ad x.l.length cap)).toArray]) TT_ok [] [] Tryz.func229 rfl Tryz.ntmps229 rfl rfl hv ?_
  intro b1
  refine w_loop TT_ok (λ k:Nat=>[(9,.v (.int .i64 k)),(3,.v (.int .i64 (deepL 0 (x.l.take k):Nat)))]) 0 (λ k=>k≤x.l.length) (λ k=>x.l.length - k) ?_
  refine And.intro ⟨Nat.zero_le _,gs⟩ ?_
  intro k hkl
  refine cnd (λ h=>?_) (λ h=>?_)
  ·have hin:=getD_mem x.l k ex0 (by omega)
   have hsub:=deep_sub hin
   refine ixE hx k (λ a2 c2 h1 h2 h3=>?_)
   intro b5
   refine cb (λ w hw=>ih (x.l.getD k ex0) a2 c2 (by have:=Ex.lt hin; omega) (by omega) w h0 hw h1) ?_
   refine ew ((max (deepL 0 (x.l.take k)) (deepS (x.l.getD k ex0)):Nat):Int) (mk_int _ _) ?_
   refine wi ?_
   refine ⟨k+1,⟨by omega,by omega⟩,gs (sl := ?_)⟩
   rw [deepL_take x.l k (by omega)]
   rfl
  ·have e:k=x.l.length:=by omega
   subst e
   have hd2:=deep_eq x
   rw [List.take_length]
   refine wi ?_
   exact congrArg (Value.int .i64) (by rw [deep_eq]; omega)
end Go.Proofs.YtbmmnalndollkaaGreatDoor
set_option maxRecDepth 100000
namespace Go.Proofs.YtbmmnalndollkaaGreatDoor
open Go Go.Dx Go.RowKit
structure Bld where
 used:Bool
 a:Option Addr
 n:Nat
 cp:Nat
 bs:List UInt8
 fz:Bool
def bldC (b:Nat) (s:Bld):List Value:=[.pointer (if s.used then some ⟨b,0,none⟩ else none),.slice s.a s.n s.cp]
end Go.Proofs.YtbmmnalndollkaaGreatDoor
namespace Go.Proofs
open Go.Shelf
def Tryz.lays106_ren:Go.Shelf.Ren:=⟨λ | 106=>89 | 213=>145 | 265=>191 | n=>n,λ | 9=>9 | 3=>3 | n=>n,λ | n=>n⟩
theorem Tryz.lays106:Go.Proofs.Lays.n106 Tryz.prog Tryz.lays106_ren:={
 mixed:=by kernel_rfl
 f106:=Tryz.func89.trans (congrArg some (by kernel_rfl))
 f213:=Tryz.func145.trans (congrArg some (by kernel_rfl))
 f265:=Tryz.func191.trans (congrArg some (by kernel_rfl))
 t3:=Tryz.underlying3
 a3:=Tryz.isAgg3
 z3:=Tryz.sizeOf3
 v3:=Tryz.zeroValue3
 t9:=Tryz.underlying9
 a9:=Tryz.isAgg9
 z9:=Tryz.sizeOf9
 v9:=Tryz.zeroValue9 }
open Go.RowKit in
theorem Tryz.strings_Compare (a b:ByteArray) (w:World) :
  Calls Tryz.prog 89 #[.string a,.string b] w λ e w'=>e = .returned (.int .i64 (Lib.compareBytes a.data.toList b.data.toList))∧w'=w:=Any.strings_Compare Tryz.lays106 a b w
def Tryz.lays212_ren:Go.Shelf.Ren:=⟨λ | 212=>249 | 263=>252 | 264=>253 | n=>n,λ | 46=>138 | 51=>190 | 146=>300 | 53=>192 | 148=>302 | n=>n,λ | n=>n⟩
theorem Tryz.lays212:Go.Proofs.Lays.n212 Tryz.prog Tryz.lays212_ren:={
 mixed:=by kernel_rfl
 f212:=Tryz.func249.trans (congrArg some (by kernel_rfl))
 f263:=Tryz.func252.trans (congrArg some (by kernel_rfl))
 f264:=Tryz.func253.trans (congrArg some (by kernel_rfl))
 t46:=Tryz.underlying138
 a46:=Tryz.isAgg138
 z46:=Tryz.sizeOf138
 v46:=Tryz.zeroValue138
 t51:=Tryz.underlying190
 a51:=Tryz.isAgg190
 z51:=Tryz.sizeOf190
 v51:=Tryz.zeroValue190
 t53:=Tryz.underlying192
 a53:=Tryz.isAgg192
 z53:=Tryz.sizeOf192
 v53:=Tryz.zeroValue192
 t146:=Tryz.underlying300
 a146:=Tryz.isAgg300
 z146:=Tryz.sizeOf300
 v146:=Tryz.zeroValue300
 t148:=Tryz.underlying302
 a148:=Tryz.isAgg302
 z148:=Tryz.sizeOf302
 v148:=Tryz.zeroValue302 }
open Go.RowKit Go.Lib in
theorem Tryz.bits_Mul (x y:Nat) (hx:x<18446744073709551616) (hy:y<18446744073709551616) (w:World) :
  Calls Tryz.prog 249 #[.int .u64 x,.int .u64 y] w λ e w'=>e = .returned (.tuple #[.int .u64 ((x*y / 18446744073709551616:Nat):Int),.int .u64 ((x*y % 18446744073709551616:Nat):Int)])∧w'=w:=Any.bits_Mul Tryz.lays212 x y hx hy w
end Go.Proofs
set_option maxRecDepth 100000
namespace Go.Proofs.YtbmmnalndollkaaGreatDoor
open Go Go.Dx Go.RowKit
def bldK (k T b:Nat) (s:Bld):BL:=[(k,.c b T (bldC b s)),(901,.e (bif s.fz then (s.a.map (·.block),λ _=>True) else bufE 5 1 (.slice s.a s.n s.cp) (s.bs.map v8)))]
end Go.Proofs.YtbmmnalndollkaaGreatDoor
set_option maxRecDepth 100000
namespace Go.Proofs.YtbmmnalndollkaaGreatDoor
open Go Go.Dx Go.RowKit
end Go.Proofs.YtbmmnalndollkaaGreatDoor
set_option maxRecDepth 100000
namespace Go.Proofs.YtbmmnalndollkaaGreatDoor
open Go Go.Dx Go.RowKit
theorem c_RDeep:∀ (k:Nat) (x:Ex) (ad:Option Addr) (cap:Nat),SizeOf.sizeOf x<k→deepS x≤1000000000→∀ (w0:World) (h0:View),VLe h0 (Full w0)→XL h0 ad cap x.l→Calls Tryz.prog 108 #[.agg (exC x.op x.v x.s (.slice ad x.l.length cap)).toArray] w0 (Ret w0 h0 λ u _=>u = .int .i64 (deepS x:Nat)):=by
 intro k
 induction k with
 | zero=>intro x ad cap h; omega
 | succ k ih =>
  intro x ad cap hk hd w0 h0 hv hx
  have hlm:=hx.lm
  refine ent (args:=[.agg (exC x.op x.v x.s (.slice ad x.l.length cap)).toArray]) TT_ok [] [] Tryz.func108 rfl Tryz.ntmps108 rfl rfl hv ?_
  intro b1
  refine w_loop TT_ok (λ k:Nat=>[(4,.v (.int .i64 k)),(3,.v (.int .i64 (deepL 0 (x.l.take k):Nat)))]) 0 (λ k=>k≤x.l.length) (λ k=>x.l.length - k) ?_
  refine And.intro ⟨Nat.zero_le _,gs⟩ ?_
  intro k hkl
  refine cnd (λ h=>?_) (λ h=>?_)
  ·have hin:=getD_mem x.l k ex0 (by omega)
   have hsub:=deep_sub hin
   refine ixE hx k (λ a2 c2 h1 h2 h3=>?_)
   refine cb (λ w hw=>ih (x.l.getD k ex0) a2 c2 (by have:=Ex.lt hin; omega) (by omega) w h0 hw h1) ?_
   refine cnd (λ h4=>?_) (λ h4=>?_)
   ·refine wi ?_
    refine ⟨k+1,⟨by omega,by omega⟩,gs (sl := ?_)⟩
    rw [deepL_take x.l k (by omega),Nat.max_eq_right (by omega)]
    rfl
   ·refine wi ?_
    refine ⟨k+1,⟨by omega,by omega⟩,gs (sl := ?_)⟩
    rw [deepL_take x.l k (by omega),Nat.max_eq_left (by omega)]
    rfl
  ·have e:k=x.l.length:=by omega
   subst e
   have hd2:=deep_eq x
   rw [List.take_length]
   refine wi ?_
   exact congrArg (Value.int .i64) (by rw [deep_eq]; omega)
end Go.Proofs.YtbmmnalndollkaaGreatDoor
set_option maxRecDepth 100000
namespace Go.Proofs.YtbmmnalndollkaaGreatDoor
open Go Go.Dx Go.RowKit
end Go.Proofs.YtbmmnalndollkaaGreatDoor
set_option maxRecDepth 100000
namespace Go.Proofs.YtbmmnalndollkaaGreatDoor
open Go Go.Dx Go.RowKit
theorem c_Few (adc:Option Addr) (capc:Nat) (cl:List Col) (w0:World) (h0:View) (hv:VLe h0 (Full w0)) (hcl:SlC 66 3 (flatR colC) h0 (.slice adc cl.length capc) cl):Calls Tryz.prog 62 #[.slice adc cl.length capc] w0 (Ret w0 h0 λ u _=>u = .bool (fewS cl)):=by
 have hlm:=slc_lm hcl
 refine ent (args:=[.slice adc cl.length capc]) TT_ok [] [] Tryz.func62 rfl Tryz.ntmps62 rfl rfl hv ?_
 refine cnd (λ h=>?_) (λ h=>?_)
 ·exact congrArg Value.bool (by rw [fewS,decide_eq_false (by omega),Bool.false_and])
 refine w_loop TT_ok (λ k:Nat=>[(3,.v (.int .i64 k))]) 0 (λ k=>k≤cl.length∧∀ j,j<k→(cl.getD j c0).name.length≤300) (λ k=>cl.length - k) ?_
 refine And.intro ⟨⟨Nat.zero_le _,λ j hj=>absurd hj (Nat.not_lt_zero j)⟩,gs⟩ ?_
 intro k ⟨hk,hn⟩
 refine cnd (λ h1=>?_) (λ h1=>?_)
 ·refine ixs hcl k c0 ?_
  refine cnd (λ h2=>?_) (λ h2=>?_)
  ·exact congrArg Value.bool (by rw [fewS,all_not c0 (k:=k) (p:=λ c=>decide (c.name.length≤300)) (by omega) (by simp only [decide_eq_false_iff_not]; omega),Bool.and_false])
  ·refine wi ?_
   exact ⟨k+1,⟨⟨by omega,upto_snoc hn (by omega)⟩,by omega⟩,gs⟩
 ·exact congrArg Value.bool (by rw [fewS,all_upto c0 (p:=λ c=>decide (c.name.length≤300)) (λ j hj=>decide_eq_true (hn j (by omega))),Bool.and_true,decide_eq_true (by omega)])
def fewR (l:List Val):Bool:=decide (l.length≤12)&&l.all λ v=>decide (v.s.length≤300)
theorem c_RowFew (ad:Option Addr) (cap:Nat) (l:List Val) (w0:World) (h0:View) (hv:VLe h0 (Full w0)) (hb:SlC 52 3 (flatR valC) h0 (.slice ad l.length cap) l):Calls Tryz.prog 17 #[.slice ad l.length cap] w0 (Ret w0 h0 λ u _=>u = .bool (fewR l)):=by
 have hlm:=slc_lm hb
 refine ent (args:=[.slice ad l.length cap]) TT_ok [] [] Tryz.func17 rfl Tryz.ntmps17 rfl rfl hv ?_
 refine cnd (λ h=>?_) (λ h=>?_)
 ·exact congrArg Value.bool (by rw [fewR,decide_eq_false (by omega),Bool.false_and])
 refine w_loop TT_ok (λ k:Nat=>[(3,.v (.int .i64 k))]) 0 (λ k=>k≤l.length∧∀ j,j<k→(l.getD j v0).s.length≤300) (λ k=>l.length - k) ?_
 refine And.intro ⟨⟨Nat.zero_le _,λ j hj=>absurd hj (Nat.not_lt_zero j)⟩,gs⟩ ?_
 intro k ⟨hk,hn⟩
 refine cnd (λ h1=>?_) (λ h1=>?_)
 ·refine ixs hb k v0 ?_
  refine cnd (λ h2=>?_) (λ h2=>?_)
  ·exact congrArg Value.bool (by rw [fewR,all_not v0 (k:=k) (p:=λ v=>decide (v.s.length≤300)) (by omega) (by simp only [decide_eq_false_iff_not]; omega),Bool.and_false])
  ·refine wi ?_
   exact ⟨k+1,⟨⟨by omega,upto_snoc hn (by omega)⟩,by omega⟩,gs⟩
 ·exact congrArg Value.bool (by rw [fewR,all_upto v0 (p:=λ v=>decide (v.s.length≤300)) (λ j hj=>decide_eq_true (hn j (by omega))),Bool.and_true,decide_eq_true (by omega)])
end Go.Proofs.YtbmmnalndollkaaGreatDoor
set_option maxRecDepth 100000
namespace Go.Proofs.YtbmmnalndollkaaGreatDoor
open Go Go.Dx Go.RowKit
theorem parse_nd (s:List UInt8):Nd (parseT s).1:=by
 obtain ⟨f1,_⟩:=lex_facts s
 have h:=rd_nd f1 (needS (lexS s).1 0 0) 0 0 false
 unfold parseT
 split
 ·exact nd0
 split
 ·exact nd0
 split
 ·exact nd0
 split
 ·exact nd0
 ·show Nd (readT (lexS s).1 0 0).1
  unfold readT
  split
  ·exact nd0
  ·exact h
end Go.Proofs.YtbmmnalndollkaaGreatDoor
set_option maxRecDepth 100000
namespace Go.Proofs.YtbmmnalndollkaaGreatDoor
open Go Go.Dx Go.RowKit
def levD (op:Int):Int:=if op=15 then 1 else if op=14 then 2 else if 8≤op∧op≤13 then 3 else if op=4∨op=5 then 4 else if op=6∨op=7 then 5 else if op=3 then 6 else if op=1∨op=2 then 7 else 0
theorem c_Level (op:Int) (w0:World) (h0:View) (hv:VLe h0 (Full w0)):Calls Tryz.prog 231 #[.int .i64 op] w0 (Ret w0 h0 λ u _=>u = .int .i64 (levD op)):=by
 refine ent (args:=[.int .i64 op]) TT_ok [] [] Tryz.func231 rfl Tryz.ntmps231 rfl rfl hv ?_
 have hc:(op<1∨15<op)∨op=1∨op=2∨op=3∨op=4∨op=5∨op=6∨op=7∨op=8∨op=9∨op=10∨op=11∨op=12∨op=13∨op=14∨op=15:=by omega
 rcases hc with hc | hc
 ·have e:levD op=0:=by
   unfold levD
   rw [if_neg (by omega),if_neg (by omega),if_neg (by omega),if_neg (by omega),if_neg (by omega),if_neg (by omega),if_neg (by omega)]
  rw [e]
  repeat refine cndF (decide_eq_false (by omega)) ?_
  exact rfl
 ·rcases hc with rfl | rfl | rfl | rfl | rfl | rfl | rfl | rfl | rfl | rfl | rfl | rfl | rfl | rfl | rfl
  all_goals
   repeat (first | refine cndF (by decide) ?_ | refine cndT (by decide) ?_)
   exact rfl
end Go.Proofs.YtbmmnalndollkaaGreatDoor
set_option maxRecDepth 100000
namespace Go.Proofs.YtbmmnalndollkaaGreatDoor
open Go Go.Dx Go.RowKit
end Go.Proofs.YtbmmnalndollkaaGreatDoor
set_option maxRecDepth 100000
namespace Go.Proofs.YtbmmnalndollkaaGreatDoor
open Go Go.Dx Go.RowKit
theorem contains_idxT (l:List (List UInt8)) (v:List UInt8):decide (idxS (λ x=>decide (v=x)) l≥0)=l.contains v:=by
 have:=idx_any (p:=λ x=>decide (v=x)) (l:=l)
 rw [show decide (idxS (λ x=>decide (v=x)) l≥0)=decide (0≤idxS (λ x=>decide (v=x)) l) from rfl,this,List.contains_eq_any_beq]
 congr 1
 funext x
 by_cases h:v=x <;> simp [h]
theorem c_IndexT (ad:Option Addr) (cap:Nat) (l:List (List UInt8)) (v:List UInt8) (w0:World) (h0:View) (hv:VLe h0 (Full w0)) (hb:SlC 9 1 (flatR λ s=>[vs s]) h0 (.slice ad l.length cap) l):Calls Tryz.prog 175 #[.slice ad l.length cap,vs v] w0 (Ret w0 h0 λ u _=>u = .int .i64 (idxS (λ x=>decide (v=x)) l)):=by
 have hlm:=slc_lm hb
 refine ent (args:=[.slice ad l.length cap,vs v]) TT_ok [] [] Tryz.func175 rfl Tryz.ntmps175 rfl rfl hv ?_
 refine w_loop TT_ok (λ k:Nat=>[(8,.v (.int .i64 k))]) 0 (λ k=>k≤l.length∧∀ j,j<k→decide (v=l.getD j [])=false) (λ k=>l.length - k) ?_
 refine And.intro ⟨⟨Nat.zero_le _,λ j hj=>absurd hj (Nat.not_lt_zero j)⟩,gs⟩ ?_
 intro k ⟨hk,hn⟩
 refine cnd (λ h=>?_) (λ h=>?_)
 ·refine ixs hb k [] ?_
  refine cnd (λ h1=>?_) (λ h1=>?_)
  ·exact congrArg (Value.int .i64) (idx_hit [] (by omega) hn (decide_eq_true h1)).symm
  ·refine wi ?_
   exact ⟨k+1,⟨⟨by omega,upto_snoc hn (decide_eq_false h1)⟩,by omega⟩,gs⟩
 ·exact congrArg (Value.int .i64) (idx_none [] (λ j hj=>hn j (by omega))).symm
theorem c_ContainsT (ad:Option Addr) (cap:Nat) (l:List (List UInt8)) (v:List UInt8) (w0:World) (h0:View) (hv:VLe h0 (Full w0)) (hb:SlC 9 1 (flatR λ s=>[vs s]) h0 (.slice ad l.length cap) l):Calls Tryz.prog 127 #[.slice ad l.length cap,vs v] w0 (Ret w0 h0 λ u _=>u = .bool (l.contains v)):=by
 refine ent (args:=[.slice ad l.length cap,vs v]) TT_ok [] [] Tryz.func127 rfl Tryz.ntmps127 rfl rfl hv ?_
 refine cb (λ w hw=>c_IndexT ad cap l v w h0 hw hb) ?_
 exact congrArg Value.bool (contains_idxT l v)
structure NmG where
 a:Option Addr
 n:Nat
 cp:Nat
 l:List (List UInt8)
def nmR (bc:Nat) (s:NmG) (k:Nat:=900):BL:=[(k,.c bc 84 [.slice s.a s.n s.cp]),(901,.e (bufE 9 1 (.slice s.a s.n s.cp) (s.l.map λ s=>[vs s]).flatten))]
def nmJ (bc l:Nat) (rec:Loop) (s:NmG):BL:=nmR bc s++[(902,.e (some l,LoopC rec))]
theorem c_names (bc l:Nat) (rec:Loop) (h00:View) (hy:∀ (x:List UInt8) (s:NmG),s.n=s.l.length→s.l.length+1≤20000000→∀ w v,VLe h00 v→VLe v (Full w)→(∀ b∈ids (oes (nmJ bc l rec s)),v b=none)→OwnJ w (oes (nmJ bc l rec s)) →
  YC Tryz.prog (nmJ bc l rec) s l [vs x] w λ u s'=>u = .bool true∧(s'.l=addS s.l x∧s'.n=s'.l.length)) :
  ∀ (k:Nat) (x:Ex) (ad:Option Addr) (cap:Nat),SizeOf.sizeOf x<k→∀ (s:NmG),s.n=s.l.length→s.l.length+(nmS x).length≤20000000→∀ (w0:World) (h0:View),VLe h00 h0→VLe h0 (Full w0)→(∀ b∈ids (oes (nmJ bc l rec s)),h0 b=none)→OwnJ w0 (oes (nmJ bc l rec s))→XL h0 ad cap x.l →
  Calls Tryz.prog 215 #[.agg (exC x.op x.v x.s (.slice ad x.l.length cap)).toArray,.func (.yield l) #[] #[]] w0 (RetJ (nmJ bc l rec) s w0 λ u s'=>u = .bool true∧(s'.l=(nmS x).foldl addS s.l∧s'.n=s'.l.length)):=by
 intro k
 induction k with
 | zero=>intro x _ _ h; omega
 | succ k ih =>
 intro x ad cap hk s hn hlen w0 h0 hle hv hno ho hx
 have hlm:=hx.lm
 have hne:=nm_eq x
 refine entJR (nmJ bc l rec) s (g:=λ _ => .bool true) (args:=[.agg (exC x.op x.v x.s (.slice ad x.l.length cap)).toArray,.func (.yield l) #[] #[]]) TT_ok [4000014] [3] [.v (.agg (exC x.op x.v x.s (.slice ad x.l.length cap)).toArray),.v (.func (.yield l) #[] #[])] Tryz.func215 rfl Tryz.ntmps215 rfl rfl hv hno ho rfl ?_
 intro b2
 refine w_cutB TT_ok (λ _:NmG=>[]) (λ y=>nmJ bc l rec y++[(2,.c b2 114 (exC x.op x.v x.s (.slice ad x.l.length cap)))]) (λ y=>y.l=(if x.op=2 then [x.s] else []).foldl addS s.l∧y.n=y.l.length) ?_
 refine And.intro ?_ ?_
 ·refine cnd (λ h=>?_) (λ h=>?_)
  ·have h:x.op=2:=by simpa using h
   rw [if_pos h] at hne
   have hl1:s.l.length+1≤20000000:=by rw [hne] at hlen; simp only [List.length_append,List.length_cons,List.length_nil] at hlen; omega
   refine yJ TT_ok (nmJ bc l rec) s (g:=λ _ => .bool true) (λ w v h1 h2 h3 h4 h5=>hy x.s s hn hl1 w v (hle.trans h1) h3 h4 h5) ?_ (hl:=⟨rfl,rfl,rfl,trivial⟩)
   rintro y ⟨g1,g2⟩
   refine cndF (by rw [decide_eq_true h]; rfl) ?_
   exact ⟨y,⟨by rw [if_pos h]; exact g1,g2⟩,gsJ ⟨rfl,rfl,rfl,rfl,trivial⟩⟩
  ·have h:¬ x.op=2:=by simpa using h
   refine ⟨.bool false,?_⟩
   refine cndF (by rw [decide_eq_false h]; rfl) ?_
   exact ⟨s,⟨by rw [if_neg h]; rfl,hn⟩,gsJ ⟨rfl,rfl,rfl,rfl,trivial⟩⟩
 ·rintro s1 ⟨e1,n1⟩
  have hl1:s1.l.length+(nmL x.l).length≤20000000:=by
   have:=adds_len (if x.op=2 then [x.s] else []) s.l
   rw [hne,List.length_append] at hlen
   rw [e1]; omega
  refine w_loopB TT_ok (λ z:Nat×NmG=>[(20,.v (.int .i64 z.1))]) (λ z=>nmJ bc l rec z.2++[(2,.c b2 114 (exC x.op x.v x.s (.slice ad x.l.length cap)))]) (0,s1) (λ z=>z.1≤x.l.length∧z.2.l=(nmL (x.l.take z.1)).foldl addS s1.l∧z.2.n=z.2.l.length) (λ z=>x.l.length - z.1) ?_
  refine And.intro ⟨⟨Nat.zero_le _,rfl,n1⟩,gsJ ⟨rfl,rfl,rfl,rfl,trivial⟩⟩ ?_
  rintro ⟨j,y⟩ ⟨hj,hy1,hy2⟩
  have hj:j≤x.l.length:=hj
  have hy1:y.l=(nmL (x.l.take j)).foldl addS s1.l:=hy1
  refine cnd (λ h=>?_) (λ h=>?_)
  ·have hj2:j<x.l.length:=by have:(j:Int)<x.l.length:=h; omega
   have hin:=getD_mem x.l j ex0 hj2
   refine ixE hx j (λ a2 c2 g1 g2 g3=>?_)
   intro b6
   have hroom:y.l.length+(nmS (x.l.getD j ex0)).length≤20000000:=by
    have h1:=nmL_take x.l j hj2
    have h2:=nmL_drop x.l (j+1)
    rw [h1,List.length_append] at h2
    have h3:=adds_len (nmL (x.l.take j)) s1.l
    rw [hy1]; omega
   refine cJ TT_ok (nmJ bc l rec) y (g:=λ _ => .bool true) (λ w v h1 _ h3 h4 h5=>ih (x.l.getD j ex0) a2 c2 (by have:=Ex.lt hin; omega) y hy2 hroom w v (hle.trans h1) h3 h4 h5 (g1.mono h1)) ?_ (hl:=⟨rfl,rfl,rfl,trivial⟩)
   rintro z ⟨z1,z2⟩
   refine cndF rfl ?_
   refine wi ?_
   exact ⟨(j+1,z),⟨⟨by show j+1≤_; omega,by rw [nmL_take x.l j hj2,List.foldl_append,← hy1]; exact z1,z2⟩,by show x.l.length - (j+1)<x.l.length - j; omega⟩,gsJ ⟨rfl,rfl,rfl,rfl,trivial⟩⟩
  ·have hj2:j=x.l.length:=by have:¬ (j:Int)<x.l.length:=h; omega
   refine ⟨y,rfl,⟨?_,hy2⟩,rfl,rfl,rfl,rfl,trivial⟩
   rw [hy1,hj2,List.take_length,e1,← List.foldl_append,← hne]
theorem fl1 (l:List (List UInt8)):(l.map λ t=>[vs t]).flatten.length=l.length:=by
 induction l <;> simp_all
theorem c_each1 (bc l : Nat) (rec : Loop) (h00 : View) (hy : ∀ (x : List UInt8) (s : NmG), s.n = s.l.length → s.l.length + 1 ≤ 20000000 → ∀ w v, VLe h00 v → VLe v (Full w) → (∀ b ∈ ids (oes (nmJ bc l rec s)), v b = none) → OwnJ w (oes (nmJ bc l rec s)) →
      YC Tryz.prog (nmJ bc l rec) s l [vs x] w fun u s' => u = .bool true ∧ (s'.l = addS s.l x ∧ s'.n = s'.l.length))
    (x : Ex) (ad : Option Addr) (cap b : Nat) (s : NmG) (hn : s.n = s.l.length) (hlen : s.l.length + (nmS x).length ≤ 20000000) (w0 : World) (h0 : View) (hle : VLe h00 h0) (hv : VLe h0 (Full w0)) (hno : ∀ b ∈ ids (oes (nmJ bc l rec s)), h0 b = none) (ho : OwnJ w0 (oes (nmJ bc l rec s))) (hx : XL h0 ad cap x.l)
    (hb : h0 b = some (.cells (exC x.op x.v x.s (.slice ad x.l.length cap)).toArray 114 (0, 0))) :
    Calls Tryz.prog 214 #[.func (.yield l) #[] #[], .pointer (some ⟨b, 0, none⟩)] w0 (RetJ (nmJ bc l rec) s w0 fun u s' => u = .tuple #[] ∧ (s'.l = (nmS x).foldl addS s.l ∧ s'.n = s'.l.length)) := by
  refine entJR (nmJ bc l rec) s (g := fun _ => .tuple #[]) (args := [.func (.yield l) #[] #[], .pointer (some ⟨b, 0, none⟩)]) TT_ok [] [] [.v (.func (.yield l) #[] #[]), .v (.pointer (some ⟨b, 0, none⟩))] Tryz.func214 rfl Tryz.ntmps214 rfl rfl hv hno ho rfl ?_
  refine ⟨exC x.op x.v x.s (.slice ad x.l.length cap), ⟨rfl, fun v w g1 _ g3 j u hj => by rw [add_mk, cell_row (g3 _ _ (g1 _ _ hb)), Nat.zero_add]; exact hj⟩, ?_⟩
  refine cJ TT_ok (nmJ bc l rec) s (g := fun _ => .bool true) (fun w v h1 _ h3 h4 h5 => c_names bc l rec h00 hy _ x ad cap (Nat.lt_succ_self _) s hn hlen w v (hle.trans h1) h3 h4 h5 (hx.mono h1)) ?_ (hl := ⟨rfl, rfl, rfl, trivial⟩)
  rintro y ⟨g1, g2⟩
  exact ⟨y, rfl, ⟨g1, g2⟩, rfl, rfl, rfl, rfl, trivial⟩
theorem c_each (x:Ex) (ad:Option Addr) (cap:Nat) (w0:World) (h0:View) (hv:VLe h0 (Full w0)):Calls Tryz.prog 174 #[.agg (exC x.op x.v x.s (.slice ad x.l.length cap)).toArray] w0 (Ret w0 h0 λ u hh=>∃ b:Nat,u = .func (.func 214) #[] #[.pointer (some ⟨b,0,none⟩)]∧hh b=some (.cells (exC x.op x.v x.s (.slice ad x.l.length cap)).toArray 114 (0,0))):=by
 refine entA (args:=[.agg (exC x.op x.v x.s (.slice ad x.l.length cap)).toArray]) TT_ok [3] [] Tryz.func174 rfl Tryz.ntmps174 rfl rfl hv (λ _ _ _ hle hx=>hle _ _ hx) ?_
 intro b1
 refine shutG TT_ok (Φ:=λ h=>h b1=some (.cells (exC x.op x.v x.s (.slice ad x.l.length cap)).toArray 114 (0,0))) 1 rfl (λ hh _ _ hb=>hb) ?_ (λ _ _ hle hx=>hle _ _ hx)
 exact ⟨b1,rfl,λ v _ hF=>hF.2⟩
theorem c_Names (x:Ex) (ad:Option Addr) (cap:Nat) (hlen:(nmS x).length≤20000000) (w0:World) (h0:View) (hv:VLe h0 (Full w0)) (hx:XL h0 ad cap x.l):Calls Tryz.prog 126 #[.agg (exC x.op x.v x.s (.slice ad x.l.length cap)).toArray] w0 (Ret w0 h0 λ u hh=>∃ a:Option Addr×Nat,u = .slice a.1 (namesS x).length a.2∧SlC 9 1 (flatR λ t=>[vs t]) hh (.slice a.1 (namesS x).length a.2) (namesS x)):=by
 refine entDM (E:=λ B F us=>∃ a:Option Addr×Nat,tupV us = .slice a.1 (namesS x).length a.2∧∀ v,F v→SlC 9 1 (flatR λ t=>[vs t]) v (.slice a.1 (namesS x).length a.2) (namesS x)) (args:=[.agg (exC x.op x.v x.s (.slice ad x.l.length cap)).toArray]) TT_ok [] [] 2 Tryz.func126 rfl Tryz.ntmps126 rfl rfl hv ?_ ?_
 ·rintro B F us w ⟨a,h1,h2⟩ hS
  rw [h1]
  exact hS.st.ret (λ _ _ hle ⟨b,e,hs⟩=>⟨b,e,hs.monoF hle⟩) λ hh hF=>⟨a,rfl,h2 hh hF⟩
 intro b1 b3
 intro a w hD hS
 refine c_seq (c_seq (hand (c:=⟨Tryz.prog,TT,.wp,17,w0,h0,[],λ _=>False,[],[]⟩) TT_ok hD hS ?_ (λ _ _ _ h _ _=>h.elim)))
 refine cA TT_ok (λ w v h1 h2 h3=>c_each x ad cap w v h3) (λ _ _ _ hle hx=>hle _ _ hx) (λ be=>?_)
 intro a w hD hS
 refine n_then (c_block ?_)
 have hS:=nil_sx (T:=9) (sz:=1) (k:=901) hS
 have hD:=nil_dn 901 (bufE 9 1 (.slice none 0 0) []) hD
 have e6:a.eval (.tmp 6) = .func (.func 214) #[] #[.pointer (some ⟨be,0,none⟩)]:=hD.fr.kv (t:=6) rfl
 have e3:a.tmps.getD 3 undef = .pointer (some ⟨b3,0,none⟩):=hD.fr.kv (t:=3) rfl
 have hsz:=hD.fr.sz
 have hdf:=hD.fr.df
 refine rangeJ TT_ok (λ s=>nmR b3 s 3) ⟨none,0,0,[]⟩ 902 903 (Ψ:=λ s'=>s'.l=namesS x∧s'.n=s'.l.length) (lb:=[.pointer (some ⟨be,0,none⟩)]) hD hS e6 (TT_ok.call rfl) ⟨rfl,rfl,trivial⟩ rfl (λ _ _=>rfl) (λ _=>rfl) (λ _=>rfl) ?_ ?_
 ·intro rec l hr1 hr2 hr3 hr4 hr5 hr6 w1 v g1 g2 g3 g4 g5
  refine (c_each1 b3 l rec v ?_ x ad cap be ⟨none,0,0,[]⟩ rfl (by simpa using hlen) w1 v (λ _ _ h=>h) g3 g4 g5 (hx.mono g1) g2.2).mono ?_
  ·intro y s hn hl w2 v2 q1 q3 q4 q5
   have hl2:w2.heap[l]?=some (.loop rec):=q5.own (some l,LoopC rec) (by unfold nmJ; rw [oes_app]; exact List.mem_append_right _ (List.mem_singleton.2 rfl))
   refine ⟨_,_,_,_,run_yield1 hl2 hr4,?_⟩
   obtain ⟨t7,tx⟩:=set_tmp (v:=vs y) hsz (show 7<17 by decide)
   refine roundJ TT_ok (nmR b3) 902 (Ψ:=λ s'=>s'.l=addS s.l y∧s'.n=s'.l.length) hr1 hr2 s [] [] [(7,.v (vs y)),(3,.o 900 0)] (n:=17) q3 q4 q5 (by rw [Array.size_setIfInBounds,hr3]; exact hsz) ?_ ?_
   ·intro t u hu
    rw [hr3]
    by_cases h7:t=7
    ·subst h7
     rw [t7]; exact Option.some.inj hu
    ·rw [tx t h7]
     by_cases h3:t=3
     ·subst h3
      rw [e3]; exact Option.some.inj hu
     ·have hn:lkA [(7,SV.v (vs y)),(3,SV.o 900 0)] t=none:=by rw [lkA_ne (Ne.symm h7),lkA_ne (Ne.symm h3)]; rfl
      rw [kv_none hn] at hu; cases hu
   ·generalize LoopC { rec with state := .busy }=LC
    rw [hr5]
    refine ⟨rfl,?_⟩
    show vcC _ rec.body _ _ _ _ _ _
    rw [hr6]
    refine co (x := .bool (s.l.contains y)) ?_ ?_
    ·intro w hS
     have h1:=own_sl (T:=9) (sz:=1) (g:=λ t=>[vs t]) (k:=901) (a0:=s.a) (nn:=s.n) (cp:=s.cp) (l:=s.l) rfl hn (by intros; rfl) hS
     rw [hn] at h1 ⊢
     exact c_ContainsT s.a s.cp s.l y w (Full w) (VLe.refl _) h1
    refine cnd (λ h=>?_) (λ h=>?_)
    ·have h:s.l.contains y=false:=by simpa using h
     intro b14
     refine ap TT_ok 901 (AppT.of (bytes:=16) (sz:=0) (by kernel_rfl) (by kernel_rfl) (by kernel_rfl)) rfl rfl rfl rfl rfl rfl rfl (by rw [fl1]; show (s.l.length+1)*17≤140737488355328; omega) (λ a0 nn cp' hnn=>?_)
     rw [fl1] at hnn
     have hnn:nn*1=s.l.length+1:=hnn
     refine ⟨⟨a0,nn,cp',s.l++[y]⟩,⟨by rw [addS,if_neg (by rw [h]; decide)],by show nn=(s.l++[y]).length; rw [List.length_append]; show nn=s.l.length+1; omega⟩,rfl,rfl,?_,rfl,trivial⟩
     exact congrArg some (by rw [show ((s.l++[y]).map λ t=>[vs t]).flatten=(s.l.map λ t=>[vs t]).flatten++[vs y] by simp]; rfl)
    ·have h:s.l.contains y=true:=by simpa using h
     exact ⟨s,⟨by rw [addS,if_pos h],hn⟩,rfl,rfl,rfl,rfl,trivial⟩
  ·rintro e w2 ⟨u,s',rfl,⟨_,h1,h2⟩,h3⟩
   exact ⟨u,s',rfl,⟨h1,h2⟩,h3⟩
 ·rintro s' D w2 ⟨hl,hn⟩ hD2 hS2
  show codeM Md.wp Tryz.prog _ _ _ _
  rw [hdf]
  generalize hds:[(⟨.collected D,#[]⟩:Deferred)]=ds
  refine c_seq (regM TT_ok rfl (K:=λ L B F=>∀ a w,Dn _ L [] B a→Sx _ B F w→_) hD2 hS2 (λ o ho=>?_) ?_ (λ _ _ _ a w hk hD hS=>hk a w hD hS) (λ _ _ _ h _ _=>h.elim))
  ·simp only [List.mem_cons,List.not_mem_nil,or_false] at ho
   rcases ho with rfl | rfl
   all_goals exact nodef_quiet rfl
  intro a3 w3 hD3 hS3
  refine n_then (c_ret ?_)
  show LeavesInM Fence.wide 1 Tryz.prog _ a3.tmps _ ds .returning w3
  rw [← hds]
  refine retM TT_ok (rs:=[.tmp 2]) (E:=λ B F us=>(∃ s':NmG,tupV us = .slice s'.a s'.n s'.cp∧s'.l=namesS x∧s'.n=s'.l.length∧lkA B 901=some (.e (bufE 9 1 (.slice s'.a s'.n s'.cp) (s'.l.map λ t=>[vs t]).flatten)))∧delE B 901 λ _=>True) 903 rfl rfl ?_ hD3 hS3 ?_
  ·exact ⟨⟨s',rfl,hl,hn,rfl⟩,trivial⟩
  ·rintro B F us w ⟨⟨s2,h1,h2,h3,h4⟩,h5⟩ hS
   obtain ⟨B',_,_,hs⟩:=seal_sx (c:=⟨Tryz.prog,TT,.wp,17,w0,h0,[],λ _=>False,[],[]⟩) (g:=λ t=>[vs t]) rfl h4 h3 (by intros; rfl) h5
   have hS':=hs w hS
   rw [h1]
   refine hS'.st.ret (λ _ _ hle ⟨b,e,hs⟩=>⟨b,e,hs.monoF hle⟩) λ hh hF=>⟨(s2.a,s2.cp),?_,?_⟩
   ·rw [h3,h2]
   ·have:=hF.2
    rw [h3,h2] at this
    exact this
end Go.Proofs.YtbmmnalndollkaaGreatDoor
set_option maxRecDepth 100000
namespace Go.Proofs.YtbmmnalndollkaaGreatDoor
open Go Go.Dx Go.RowKit
theorem c_EqualF2 (l m:List Ex) (ad ad2:Option Addr) (cap cap2:Nat) (w0:World) (h0:View) (hv:VLe h0 (Full w0)) (hx:XL h0 ad cap l) (hy:XL h0 ad2 cap2 m)
  (hp:∀ j,j<l.length→∀ a2 c2 a3 c3,XL h0 a2 c2 (l.getD j ex0).l→XL h0 a3 c3 (m.getD j ex0).l→∀ w,VLe h0 (Full w)→Calls Tryz.prog 199 #[.agg (exC (l.getD j ex0).op (l.getD j ex0).v (l.getD j ex0).s (.slice a2 (l.getD j ex0).l.length c2)).toArray,.agg (exC (m.getD j ex0).op (m.getD j ex0).v (m.getD j ex0).s (.slice a3 (m.getD j ex0).l.length c3)).toArray] w (Ret w h0 λ u _=>u = .bool (sameX (l.getD j ex0) (m.getD j ex0)))) :
  Calls Tryz.prog 230 #[.slice ad l.length cap,.slice ad2 m.length cap2,.func (.func 199) #[] #[]] w0 (Ret w0 h0 λ u _=>u = .bool (sameXL l m)):=by
 have hlm:=hx.lm
 refine ent (args:=[.slice ad l.length cap,.slice ad2 m.length cap2,.func (.func 199) #[] #[]]) TT_ok [] [] Tryz.func230 rfl Tryz.ntmps230 rfl rfl hv ?_
 refine cnd (λ h=>?_) (λ h=>?_)
 ·exact congrArg Value.bool (sameL_len (by omega)).symm
 have hle:l.length=m.length:=by omega
 refine w_loop TT_ok (λ k:Nat=>[(17,.v (.int .i64 k))]) 0 (λ k=>k≤l.length∧∀ j,j<k→sameX (l.getD j ex0) (m.getD j ex0)=true) (λ k=>l.length - k) ?_
 refine And.intro ⟨⟨Nat.zero_le _,λ j hj=>absurd hj (Nat.not_lt_zero j)⟩,gs⟩ ?_
 intro k ⟨hk,hn⟩
 refine cnd (λ h=>?_) (λ h=>?_)
 ·refine ixE hx k (λ a2 c2 h1 _ _=>?_)
  intro b8
  refine ixE hy k (λ a3 c3 h2 _ _=>?_)
  intro b9
  refine cb (λ w hw=>hp k (by omega) a2 c2 a3 c3 h1 h2 w hw) ?_
  refine cnd (λ h3=>?_) (λ h3=>?_)
  ·exact congrArg Value.bool (sameL_no (k:=k) (by omega) (by simpa using h3)).symm
  refine wi ?_
  exact ⟨k+1,⟨⟨by omega,λ j hj=>by
   by_cases hjk:j=k
   ·subst hjk; simpa using h3
   ·exact hn j (by omega)⟩,by omega⟩,gs⟩
 ·exact congrArg Value.bool (sameL_all hle (λ j hj=>hn j (by omega))).symm
set_option maxHeartbeats 1000000 in
theorem c_Same2:∀ (k:Nat) (x y:Ex) (ad ad2:Option Addr) (cap cap2:Nat),SizeOf.sizeOf x<k→∀ (w0:World) (h0:View),VLe h0 (Full w0)→XL h0 ad cap x.l→XL h0 ad2 cap2 y.l→Calls Tryz.prog 199 #[.agg (exC x.op x.v x.s (.slice ad x.l.length cap)).toArray,.agg (exC y.op y.v y.s (.slice ad2 y.l.length cap2)).toArray] w0 (Ret w0 h0 λ u _=>u = .bool (sameX x y)):=by
 intro k
 induction k with
 | zero=>intro x _ _ _ _ _ h; omega
 | succ k ih =>
  intro x y ad ad2 cap cap2 hk w0 h0 hv hx hy
  have hlm:=hx.lm
  refine ent (args:=[.agg (exC x.op x.v x.s (.slice ad x.l.length cap)).toArray,.agg (exC y.op y.v y.s (.slice ad2 y.l.length cap2)).toArray]) TT_ok [] [] Tryz.func199 rfl Tryz.ntmps199 rfl rfl hv ?_
  intro b2 b3
  refine aqg eqV x.v y.v ?_
  refine cbg (λ _ w hw=>c_EqualF2 x.l y.l ad ad2 cap cap2 w h0 hw hx hy (λ j hj a2 c2 a3 c3 g1 g2 w hw=>ih _ _ a2 a3 c2 c3 (by have:=Ex.lt (getD_mem x.l j ex0 hj); omega) w h0 hw g1 g2)) ?_
  exact congrArg Value.bool (by rw [same_eq])
set_option maxHeartbeats 1000000 in
theorem c_RSame2:∀ (k:Nat) (x y:Ex) (ad ad2:Option Addr) (cap cap2:Nat),SizeOf.sizeOf x<k→∀ (w0:World) (h0:View),VLe h0 (Full w0)→XL h0 ad cap x.l→XL h0 ad2 cap2 y.l→Calls Tryz.prog 207 #[.agg (exC x.op x.v x.s (.slice ad x.l.length cap)).toArray,.agg (exC y.op y.v y.s (.slice ad2 y.l.length cap2)).toArray] w0 (Ret w0 h0 λ u _=>u = .bool (sameX x y)):=by
 intro k
 induction k with
 | zero=>intro x _ _ _ _ _ h; omega
 | succ k ih =>
  intro x y ad ad2 cap cap2 hk w0 h0 hv hx hy
  have hlm:=hx.lm
  refine ent (args:=[.agg (exC x.op x.v x.s (.slice ad x.l.length cap)).toArray,.agg (exC y.op y.v y.s (.slice ad2 y.l.length cap2)).toArray]) TT_ok [] [] Tryz.func207 rfl Tryz.ntmps207 rfl rfl hv ?_
  intro b2 b3
  refine aqg eqV x.v y.v ?_
  refine cnd (λ h=>?_) (λ h=>?_)
  ·refine congrArg Value.bool ?_
   rw [same_eq]
   have hs:¬ (x.op=y.op∧x.v=y.v∧x.s=y.s∧x.l.length=y.l.length):=by
    rintro ⟨h1,h2,h3,h4⟩
    rw [h1,h2,h3,h4] at h
    simp at h
   by_cases h1:x.op=y.op
   ·by_cases h2:x.v=y.v
    ·by_cases h3:x.s=y.s
     ·rw [sameL_len (λ h4=>hs ⟨h1,h2,h3,h4⟩),Bool.and_false]
     ·rw [decide_eq_false h3]; simp
    ·rw [decide_eq_false h2]; simp
   ·rw [decide_eq_false h1]; simp
  obtain ⟨h1,h2,h3,h4⟩:x.op=y.op∧x.v=y.v∧x.s=y.s∧x.l.length=y.l.length:=by
   exact ⟨h.1.1.1,h.1.1.2,h.1.2,by have:=h.2; omega⟩
  have hsx:sameX x y=sameXL x.l y.l:=by
   rw [same_eq,decide_eq_true h1,decide_eq_true h2,decide_eq_true h3]; simp
  refine w_loop TT_ok (λ k:Nat=>[(5,.v (.int .i64 k))]) 0 (λ k=>k≤x.l.length∧∀ j,j<k→sameX (x.l.getD j ex0) (y.l.getD j ex0)=true) (λ k=>x.l.length - k) ?_
  refine And.intro ⟨⟨Nat.zero_le _,λ j hj=>absurd hj (Nat.not_lt_zero j)⟩,gs⟩ ?_
  intro j ⟨hj,hn⟩
  refine cnd (λ h=>?_) (λ h=>?_)
  ·refine And.intro (by kernel_rfl) ?_
   refine ixE hx j (λ a2 c2 g1 _ _=>?_)
   refine ixE hy j (λ a3 c3 g2 _ _=>?_)
   refine cb (λ w hw=>ih _ _ a2 a3 c2 c3 (by have:=Ex.lt (getD_mem x.l j ex0 (by omega)); omega) w h0 hw g1 g2) ?_
   refine cnd (λ h5=>?_) (λ h5=>?_)
   ·exact congrArg Value.bool (by rw [hsx]; exact (sameL_no (k:=j) (by omega) (by simpa using h5)).symm)
   refine wi ?_
   exact ⟨j+1,⟨⟨by omega,λ i hi=>by
    by_cases hij:i=j
    ·subst hij; simpa using h5
    ·exact hn i (by omega)⟩,by omega⟩,gs⟩
  ·exact congrArg Value.bool (by rw [hsx]; exact (sameL_all h4 (λ i hi=>hn i (by omega))).symm)
end Go.Proofs.YtbmmnalndollkaaGreatDoor
set_option maxRecDepth 100000
namespace Go.Proofs.YtbmmnalndollkaaGreatDoor
open Go Go.Dx Go.RowKit
theorem c_Fits (p q:Int) (w0:World) (h0:View) (hv:VLe h0 (Full w0)):Calls Tryz.prog 26 #[.int .i64 p,.int .i64 q] w0 (Ret w0 h0 λ u _=>u = .bool (fitS p q)):=by
 refine ent (args:=[.int .i64 p,.int .i64 q]) TT_ok [] [] Tryz.func26 rfl Tryz.ntmps26 rfl rfl hv ?_
 exact congrArg Value.bool (by rw [fitS,Bool.or_assoc])
theorem c_RFits (p q:Int) (w0:World) (h0:View) (hv:VLe h0 (Full w0)):Calls Tryz.prog 70 #[.int .i64 p,.int .i64 q] w0 (Ret w0 h0 λ u _=>u = .bool (fitS p q)):=by
 refine ent (args:=[.int .i64 p,.int .i64 q]) TT_ok [] [] Tryz.func70 rfl Tryz.ntmps70 rfl rfl hv ?_
 exact congrArg Value.bool (by rw [fitS,Bool.or_assoc])
def intC (n:Int):List Value:=[.int .i64 n]
theorem c_RAt (adc:Option Addr) (capc:Nat) (cl:List Col) (s:List UInt8) (w0:World) (h0:View) (hv:VLe h0 (Full w0)) (hcl:SlC 66 3 (flatR colC) h0 (.slice adc cl.length capc) cl):Calls Tryz.prog 148 #[.slice adc cl.length capc,vs s] w0 (Ret w0 h0 λ u _=>u = .int .i64 (atS cl s)):=by
 have hlm:=slc_lm hcl
 refine ent (args:=[.slice adc cl.length capc,vs s]) TT_ok [] [] Tryz.func148 rfl Tryz.ntmps148 rfl rfl hv ?_
 refine w_loop TT_ok (λ k:Nat=>[(5,.v (.int .i64 k))]) 0 (λ k=>k≤cl.length∧∀ j,j<k→(λ c:Col=>decide (c.name=s)) (cl.getD j c0)=false) (λ k=>cl.length - k) ?_
 refine And.intro ⟨⟨Nat.zero_le _,λ j hj=>absurd hj (Nat.not_lt_zero j)⟩,gs⟩ ?_
 intro k ⟨hk,hn⟩
 refine cnd (λ h=>?_) (λ h=>?_)
 ·refine ixs hcl k c0 ?_
  refine cnd (λ h4=>?_) (λ h4=>?_)
  ·exact congrArg (Value.int .i64) (idx_hit (p:=λ c:Col=>decide (c.name=s)) c0 (by omega) hn (decide_eq_true h4)).symm
  ·refine wi ?_
   exact ⟨k+1,⟨⟨by omega,upto_snoc hn (decide_eq_false h4)⟩,by omega⟩,gs⟩
 ·exact congrArg (Value.int .i64) (idx_none (p:=λ c:Col=>decide (c.name=s)) c0 (λ j hj=>hn j (by omega))).symm
end Go.Proofs.YtbmmnalndollkaaGreatDoor
set_option maxRecDepth 100000
namespace Go.Proofs.YtbmmnalndollkaaGreatDoor
open Go Go.Dx Go.RowKit
def kiR (p:Int×Int):Value := .tuple #[.int .i64 p.1,.int .i64 p.2]
theorem flatI (l:List Int):(l.map intC).flatten.length=l.length:=flat1_len l
end Go.Proofs.YtbmmnalndollkaaGreatDoor
set_option maxRecDepth 100000
namespace Go.Proofs.YtbmmnalndollkaaGreatDoor
open Go Go.Dx Go.RowKit
def tstC (t:Tst) (aa:Option Addr) (ca:Nat) (ab:Option Addr) (cb:Nat):List Value :=
 .int .i64 t.k::(exC t.a.op t.a.v t.a.s (.slice aa t.a.l.length ca)++(exC t.b.op t.b.v t.b.s (.slice ab t.b.l.length cb)++[.bool t.lo,.bool t.hi]))
def celC (c:Cel) (ad:Option Addr) (cap:Nat):List Value:=[.bool c.any,.bool c.neg,.slice ad c.ts.length cap]
def EX (h:View) (ad:Option Addr) (cap:Nat) (x:Ex):Prop:=XL h ad cap x.l∧i64 x.op∧valB x.v
theorem EX.mono {h h':View} (hle:VLe h h') {ad:Option Addr} {cap:Nat} {x:Ex} (hx:EX h ad cap x):EX h' ad cap x:=⟨hx.1.mono hle,hx.2⟩
theorem EX.gx {h:View} {ad:Option Addr} {cap:Nat} {x:Ex} (hx:EX h ad cap x) (hs:SmX x):GX h ad cap x:=⟨hx.1,hx.2.1,hx.2.2,hs⟩
def RT (h:View) (cs:List Value) (t:Tst):Prop:=∃ aa ca ab cb,cs=tstC t aa ca ab cb∧EX h aa ca t.a∧EX h ab cb t.b∧i64 t.k
theorem RT.mono {h h':View} (hle:VLe h h') {cs:List Value} {t:Tst} (hx:RT h cs t):RT h' cs t:=by
 obtain ⟨aa,ca,ab,cb,e,h1,h2,h3⟩:=hx
 exact ⟨aa,ca,ab,cb,e,h1.mono hle,h2.mono hle,h3⟩
def TL (h:View) (ad:Option Addr) (cap:Nat) (l:List Tst):Prop:=∃ c:Nat→List Value,SlC 116 15 (flatR c) h (.slice ad l.length cap) (List.range l.length)∧∀ i t,l[i]?=some t→RT h (c i) t
theorem TL.mono {h h':View} (hle:VLe h h') {ad:Option Addr} {cap:Nat} {l:List Tst} (hx:TL h ad cap l):TL h' ad cap l:=by
 obtain ⟨c,h1,h2⟩:=hx
 exact ⟨c,h1.monoF hle,λ i t hi=>(h2 i t hi).mono hle⟩
theorem tl_m (a:Option Addr×Nat) (l:List Tst):Mono λ h=>TL h a.1 a.2 l:=λ _ _ hle hx=>hx.mono hle
theorem TL.lm {h:View} {ad:Option Addr} {cap:Nat} {l:List Tst} (hx:TL h ad cap l):l.length≤9223372036854775807:=by
 obtain ⟨c,h1,_⟩:=hx
 have:=slc_lm h1
 simpa using this
theorem getDT (l:List Tst) (i:Nat) (h:i<l.length):l.getD i tst0=l[i]:=by simp [List.getD,h]
theorem getT_mem (l:List Tst) (i:Nat) (h:i<l.length):l.getD i tst0∈l:=by rw [getDT l i h]; exact List.getElem_mem h
theorem TL.at {h:View} {ad:Option Addr} {cap:Nat} {l:List Tst} (hx:TL h ad cap l) {i:Nat} (hi:i<l.length):∃ g off aa ca ab cb,ad=some ⟨g,off,none⟩∧EX h aa ca (l.getD i tst0).a∧EX h ab cb (l.getD i tst0).b∧i64 (l.getD i tst0).k ∧
  ∀ w,VLe h (Full w)→∀ j v,(tstC (l.getD i tst0) aa ca ab cb)[j]?=some v→w.cell? ⟨g,off+i*15+j,none⟩=some v:=by
 obtain ⟨c,h1,h2⟩:=hx
 obtain ⟨g,off,ha,H⟩:=h1.at (i:=i) (x:=i) (by simp [hi])
 have hg:l[i]?=some (l.getD i tst0):=by rw [getDT l i hi]; exact List.getElem?_eq_getElem hi
 obtain ⟨aa,ca,ab,cb,e,q1,q2,q3⟩:=h2 i _ hg
 refine ⟨g,off,aa,ca,ab,cb,ha,q1,q2,q3,?_⟩
 rw [← e]; exact H
theorem ixT {c:Cx} {F:FV} {n:Nat} {ad:Option Addr} {cap:Nat} {l:List Tst} {i:Int} {X:Nat→List Value→Prop} (H:TL c.h0 ad cap l) (j:Nat)
  (k:∀ aa ca ab cb,EX c.h0 aa ca (l.getD j tst0).a→EX c.h0 ab cb (l.getD j tst0).b→i64 (l.getD j tst0).k→X j (tstC (l.getD j tst0) aa ca ab cb))
  (h:i=(j:Int)∧j<l.length:=by omega) (hn:n=l.length:=by rfl):∃ (j:Nat) (cs:List Value),(i=(j:Int)∧j<n∧ElC c.h0 F ad (j*15) cs)∧X j cs:=by
 obtain ⟨g,off,aa,ca,ab,cb,ha,h1,h2,h3,hc⟩:=H.at h.2
 subst hn
 exact ⟨j,_,⟨h.1,h.2,λ v hv _=>⟨by rw [ha]; rfl,λ w hw=>by rw [ha]; exact hc w (hv.trans hw)⟩⟩,k aa ca ab cb h1 h2 h3⟩
def SmT (t:Tst):Prop:=SmX t.a∧SmX t.b
theorem c_cof (t:Tst) (aa:Option Addr) (ca:Nat) (ab:Option Addr) (cb:Nat) (w0:World) (h0:View) (hv:VLe h0 (Full w0)):Calls Tryz.prog 200 #[.agg (tstC t aa ca ab cb).toArray] w0 (Ret w0 h0 λ u _=>u = .agg #[.bool t.lo,.bool t.hi]):=by
 refine ent (args:=[.agg (tstC t aa ca ab cb).toArray]) TT_ok [] [] Tryz.func200 rfl Tryz.ntmps200 rfl rfl hv ?_
 intro b1 b2
 exact rfl
theorem c_part (x:Ex) (ad:Option Addr) (cap:Nat) (hd:deepS x≤1000000000) (w0:World) (h0:View) (hv:VLe h0 (Full w0)) (hx:GX h0 ad cap x):Calls Tryz.prog 198 #[.agg (exC x.op x.v x.s (.slice ad x.l.length cap)).toArray] w0 (Ret w0 h0 λ u _=>u = .bool (partX x)):=by
 refine ent (args:=[.agg (exC x.op x.v x.s (.slice ad x.l.length cap)).toArray]) TT_ok [] [] Tryz.func198 rfl Tryz.ntmps198 rfl rfl hv ?_
 intro b1
 refine cb (λ w hw=>c_Check x ad cap w h0 hw hx) ?_
 refine cbg (λ _ w hw=>c_Deep _ x ad cap (Nat.lt_succ_self _) hd w h0 hw hx.xl) ?_
 refine congrArg Value.bool ?_
 unfold partX
 cases rightS x <;> simp
 omega
def enC (e:Bool×Bool):List Value:=[.bool e.1,.bool e.2]
theorem eqE:EqT Tryz.prog 265 enC:=EqT.of [(0,.b),(1,.b)] (by kernel_rfl) (by kernel_rfl) (by kernel_rfl) (by kernel_rfl)
 (λ a b s hs=>by
  simp only [List.mem_cons,List.mem_nil_iff,or_false] at hs
  rcases hs with rfl | rfl
  ·exact ⟨_,_,rfl,rfl,⟨_,rfl⟩,⟨_,rfl⟩⟩
  ·exact ⟨_,_,rfl,rfl,⟨_,rfl⟩,⟨_,rfl⟩⟩)
 (λ a b=>by
  obtain ⟨k,n⟩:=a
  obtain ⟨k',n'⟩:=b
  simp [enC,eqC])
theorem c_sound (t:Tst) (aa:Option Addr) (ca:Nat) (ab:Option Addr) (cb':Nat) (hd:deepS t.a≤1000000000∧deepS t.b≤1000000000) (hs:SmT t) (w0:World) (h0:View) (hv:VLe h0 (Full w0)) (ha:EX h0 aa ca t.a) (hb:EX h0 ab cb' t.b):Calls Tryz.prog 157 #[.agg (tstC t aa ca ab cb').toArray] w0 (Ret w0 h0 λ u _=>u = .bool (soundT t)):=by
 refine ent (args:=[.agg (tstC t aa ca ab cb').toArray]) TT_ok [] [] Tryz.func157 rfl Tryz.ntmps157 rfl rfl hv ?_
 intro b1
 refine cnd (λ h=>?_) (λ h=>?_)
 ·refine cb (λ w hw=>c_part t.a aa ca hd.1 w h0 hw (ha.gx hs.1)) ?_
  refine cbg (λ _ w hw=>c_part t.b ab cb' hd.2 w h0 hw (hb.gx hs.2)) ?_
  exact congrArg Value.bool (by rw [soundT,if_pos h])
 refine cnd (λ h1=>?_) (λ h1=>?_)
 ·exact congrArg Value.bool (by rw [soundT,if_neg h,if_pos h1])
 refine cb (λ w hw=>c_part t.a aa ca hd.1 w h0 hw (ha.gx hs.1)) ?_
 refine cbg (λ _ w hw=>c_Same2 _ t.b ex0 ab none cb' 0 (Nat.lt_succ_self _) w h0 hw hb.1 (xl_nil h0)) ?_
 refine clg (λ _=>c_cof t aa ca ab cb') ?_
 refine aqg eqE (t.lo,t.hi) (false,false) ?_
 refine congrArg Value.bool ?_
 rw [soundT,if_neg h,if_neg (by omega)]
 cases t.lo <;> cases t.hi <;> simp [Bool.and_assoc]
end Go.Proofs.YtbmmnalndollkaaGreatDoor
set_option maxRecDepth 100000
namespace Go.Proofs.YtbmmnalndollkaaGreatDoor
open Go Go.Dx Go.RowKit
def GT (t:Tst):Prop:=SmX t.a∧SmX t.b∧deepS t.a≤1000000000∧deepS t.b≤1000000000
theorem c_Check1 (t:Tst) (aa:Option Addr) (ca:Nat) (ab:Option Addr) (cb':Nat) (hg:GT t) (w0:World) (h0:View) (hv:VLe h0 (Full w0)) (ha:EX h0 aa ca t.a) (hb:EX h0 ab cb' t.b):Calls Tryz.prog 156 #[.agg (tstC t aa ca ab cb').toArray] w0 (Ret w0 h0 λ u _=>u = .bool (!soundT t)):=by
 refine ent (args:=[.agg (tstC t aa ca ab cb').toArray]) TT_ok [] [] Tryz.func156 rfl Tryz.ntmps156 rfl rfl hv ?_
 intro b1
 refine cb (λ w hw=>c_sound t aa ca ab cb' ⟨hg.2.2.1,hg.2.2.2⟩ ⟨hg.1,hg.2.1⟩ w h0 hw ha hb) ?_
 exact rfl
theorem c_IndexFT (ad:Option Addr) (cap:Nat) (l:List Tst) (hg:∀ t∈l,GT t) (w0:World) (h0:View) (hv:VLe h0 (Full w0)) (hx:TL h0 ad cap l) :
  Calls Tryz.prog 197 #[.slice ad l.length cap,.func (.func 156) #[] #[]] w0 (Ret w0 h0 λ u _=>u = .int .i64 (idxS (λ t => !soundT t) l)):=by
 have hlm:=hx.lm
 refine ent (args:=[.slice ad l.length cap,.func (.func 156) #[] #[]]) TT_ok [] [] Tryz.func197 rfl Tryz.ntmps197 rfl rfl hv ?_
 refine w_loop TT_ok (λ k:Nat=>[(8,.v (.int .i64 k))]) 0 (λ k=>k≤l.length∧∀ j,j<k→(!soundT (l.getD j tst0))=false) (λ k=>l.length - k) ?_
 refine And.intro ⟨⟨Nat.zero_le _,λ j hj=>absurd hj (Nat.not_lt_zero j)⟩,gs⟩ ?_
 intro k ⟨hk,hn⟩
 refine cnd (λ h=>?_) (λ h=>?_)
 ·refine ixT hx k (λ aa ca ab cb' h1 h2 h3=>?_)
  refine cb (λ w hw=>c_Check1 _ aa ca ab cb' (hg _ (getT_mem l k (by omega))) w h0 hw h1 h2) ?_
  refine cnd (λ h4=>?_) (λ h4=>?_)
  ·exact congrArg (Value.int .i64) (idx_hit tst0 (p:=λ t => !soundT t) (by omega) hn (by rw [h4]; rfl)).symm
  ·refine wi ?_
   exact ⟨k+1,⟨⟨by omega,upto_snoc hn (by rw [h4]; rfl)⟩,by omega⟩,gs⟩
 ·exact congrArg (Value.int .i64) (idx_none tst0 (p:=λ t => !soundT t) (λ j hj=>hn j (by omega))).symm
theorem c_ContainsFT (ad:Option Addr) (cap:Nat) (l:List Tst) (hg:∀ t∈l,GT t) (w0:World) (h0:View) (hv:VLe h0 (Full w0)) (hx:TL h0 ad cap l) :
  Calls Tryz.prog 155 #[.slice ad l.length cap,.func (.func 156) #[] #[]] w0 (Ret w0 h0 λ u _=>u = .bool (l.any λ t => !soundT t)):=by
 refine ent (args:=[.slice ad l.length cap,.func (.func 156) #[] #[]]) TT_ok [] [] Tryz.func155 rfl Tryz.ntmps155 rfl rfl hv ?_
 refine cb (λ w hw=>c_IndexFT ad cap l hg w h0 hw hx) ?_
 exact congrArg Value.bool (idx_any (p:=λ t => !soundT t) (l:=l))
theorem any_sound (l:List Tst):(l.any λ t => !soundT t) = !l.all soundT:=by
 induction l with
 | nil=>rfl
 | cons t l ih=>rw [List.any_cons,List.all_cons,ih]; cases soundT t <;> rfl
theorem c_CCheck (c:Cel) (ad:Option Addr) (cap:Nat) (hg:∀ t∈c.ts,GT t) (w0:World) (h0:View) (hv:VLe h0 (Full w0)) (hx:TL h0 ad cap c.ts):Calls Tryz.prog 93 #[.agg (celC c ad cap).toArray] w0 (Ret w0 h0 λ u _=>u = .int .i64 (if rightC c=true then 0 else 2)):=by
 refine ent (args:=[.agg (celC c ad cap).toArray]) TT_ok [] [] Tryz.func93 rfl Tryz.ntmps93 rfl rfl hv ?_
 intro b1
 refine cnd (λ h=>?_) (λ h=>?_)
 ·exact congrArg (Value.int .i64) (by rw [rightC,if_pos h.1.1,if_pos (by rw [h.1.2,decide_eq_true (by omega)]; rfl)])
 refine cnd (λ h1=>?_) (λ h1=>?_)
 ·refine congrArg (Value.int .i64) ?_
  rw [if_neg]
  intro hr
  rw [rightC] at hr
  split at hr
  ·rename_i ha
   have hr:c.neg=false∧c.ts.length=0:=by simpa using hr
   rcases h with h | h
   ·rcases h with h | h
    ·rw [ha] at h; cases h
    ·rw [hr.1] at h; cases h
   ·omega
  ·rename_i ha
   simp only [Bool.and_eq_true,decide_eq_true_eq] at hr
   rcases h1 with h1 | h1
   ·rcases h1 with h1 | h1
    ·exact ha h1
    ·omega
   ·omega
 have h2:c.any=false:=by
  rcases Bool.eq_false_or_eq_true c.any with e | e
  ·rw [e] at h1; exact absurd h1.1.1 (by decide)
  ·exact e
 refine cb (λ w hw=>c_ContainsFT ad cap c.ts hg w h0 hw hx) ?_
 rw [any_sound]
 have hrc:rightC c=c.ts.all soundT:=by
  rw [rightC,if_neg (by rw [h2]; decide),decide_eq_true (show 1≤c.ts.length by omega),decide_eq_true (show c.ts.length≤12 by omega)]; rfl
 refine cnd (λ h3=>?_) (λ h3=>?_)
 ·exact congrArg (Value.int .i64) (by rw [hrc,if_neg (by rw [h3]; decide)])
 ·exact congrArg (Value.int .i64) (by rw [hrc,if_pos h3])
theorem c_RPart (x:Ex) (ad:Option Addr) (cap:Nat) (hd:deepS x≤1000000000) (w0:World) (h0:View) (hv:VLe h0 (Full w0)) (hx:GX h0 ad cap x):Calls Tryz.prog 206 #[.agg (exC x.op x.v x.s (.slice ad x.l.length cap)).toArray] w0 (Ret w0 h0 λ u _=>u = .bool (partX x)):=by
 refine ent (args:=[.agg (exC x.op x.v x.s (.slice ad x.l.length cap)).toArray]) TT_ok [] [] Tryz.func206 rfl Tryz.ntmps206 rfl rfl hv ?_
 intro b1
 refine cb (λ w hw=>c_RRightX _ x ad cap (Nat.lt_succ_self _) w h0 hw hx) ?_
 refine cbg (λ _ w hw=>c_RDeep _ x ad cap (Nat.lt_succ_self _) hd w h0 hw hx.xl) ?_
 refine congrArg Value.bool ?_
 unfold partX
 cases rightS x <;> simp
 omega
theorem c_RTest (t:Tst) (aa:Option Addr) (ca:Nat) (ab:Option Addr) (cb':Nat) (hg:GT t) (w0:World) (h0:View) (hv:VLe h0 (Full w0)) (ha:EX h0 aa ca t.a) (hb:EX h0 ab cb' t.b):Calls Tryz.prog 164 #[.agg (tstC t aa ca ab cb').toArray] w0 (Ret w0 h0 λ u _=>u = .bool (soundT t)):=by
 refine ent (args:=[.agg (tstC t aa ca ab cb').toArray]) TT_ok [] [] Tryz.func164 rfl Tryz.ntmps164 rfl rfl hv ?_
 intro b1
 refine cnd (λ h=>?_) (λ h=>?_)
 ·refine cb (λ w hw=>c_RPart t.a aa ca hg.2.2.1 w h0 hw (ha.gx hg.1)) ?_
  refine cbg (λ _ w hw=>c_RPart t.b ab cb' hg.2.2.2 w h0 hw (hb.gx hg.2.1)) ?_
  exact congrArg Value.bool (by rw [soundT,if_pos h])
 refine cbg (λ _ w hw=>c_RPart t.a aa ca hg.2.2.1 w h0 hw (ha.gx hg.1)) ?_
 refine cbg (λ _ w hw=>c_RSame2 _ t.b ex0 ab none cb' 0 (Nat.lt_succ_self _) w h0 hw hb.1 (xl_nil h0)) ?_
 refine congrArg Value.bool ?_
 rw [soundT,if_neg h]
 by_cases h1:t.k<1∨6<t.k
 ·rw [if_pos h1]
  rcases h1 with h1 | h1
  ·rw [decide_eq_false (show ¬ 1≤t.k by omega)]; rfl
  ·rw [decide_eq_false (show ¬ t.k≤5 by omega),Bool.and_false]; rfl
 ·rw [if_neg h1,decide_eq_true (show 1≤t.k by omega),decide_eq_true (show t.k≤5 by omega)]
  simp [Bool.and_assoc]
theorem all_noT {p:Tst→Bool} {l:List Tst} {k:Nat} (hk:k<l.length) (h:p (l.getD k tst0)=false):l.all p=false:=by
 rw [List.all_eq_false]
 exact ⟨_,getT_mem l k hk,by rw [h]; decide⟩
theorem all_upT {p:Tst→Bool} {l:List Tst} (h:∀ j,j<l.length→p (l.getD j tst0)=true):l.all p=true:=by
 rw [List.all_eq_true]
 intro t ht
 obtain ⟨j,hj,rfl⟩:=List.mem_iff_getElem.1 ht
 rw [← getDT l j hj]; exact h j hj
theorem c_RRightC (c:Cel) (ad:Option Addr) (cap:Nat) (hg:∀ t∈c.ts,GT t) (w0:World) (h0:View) (hv:VLe h0 (Full w0)) (hx:TL h0 ad cap c.ts):Calls Tryz.prog 105 #[.agg (celC c ad cap).toArray] w0 (Ret w0 h0 λ u _=>u = .bool (rightC c)):=by
 have hlm:=hx.lm
 refine ent (args:=[.agg (celC c ad cap).toArray]) TT_ok [] [] Tryz.func105 rfl Tryz.ntmps105 rfl rfl hv ?_
 intro b1
 refine cnd (λ h=>?_) (λ h=>?_)
 ·refine congrArg Value.bool ?_
  rw [rightC,if_pos h]
  congr 1
  exact decide_eq_decide.2 (by omega)
 have hrc:rightC c=(decide (1≤c.ts.length)&&decide (c.ts.length≤12)&&c.ts.all soundT):=by rw [rightC,if_neg (by rw [h]; decide)]
 refine w_loop TT_ok (λ k:Nat=>[(3,.v (.int .i64 k))]) 0 (λ k=>k≤c.ts.length∧∀ j,j<k→soundT (c.ts.getD j tst0)=true) (λ k=>c.ts.length - k) ?_
 refine And.intro ⟨⟨Nat.zero_le _,λ j hj=>absurd hj (Nat.not_lt_zero j)⟩,gs⟩ ?_
 intro k ⟨hk,hn⟩
 refine cnd (λ h1=>?_) (λ h1=>?_)
 ·refine ixT hx k (λ aa ca ab cb' h1 h2 h3=>?_)
  refine cb (λ w hw=>c_RTest _ aa ca ab cb' (hg _ (getT_mem c.ts k (by omega))) w h0 hw h1 h2) ?_
  refine cnd (λ h4=>?_) (λ h4=>?_)
  ·exact congrArg Value.bool (by rw [hrc,all_noT (k:=k) (by omega) h4,Bool.and_false])
  ·refine wi ?_
   exact ⟨k+1,⟨⟨by omega,upto_snoc hn h4⟩,by omega⟩,gs⟩
 ·refine congrArg Value.bool ?_
  rw [hrc,all_upT (p:=soundT) (λ j hj=>hn j (by omega)),Bool.and_true]
  congr 1
  ·exact decide_eq_decide.2 (by omega)
  ·exact decide_eq_decide.2 (by omega)
theorem c_fits (t:Tst) (aa:Option Addr) (ca:Nat) (ab:Option Addr) (cb':Nat) (p q:Int) (w0:World) (h0:View) (hv:VLe h0 (Full w0)):Calls Tryz.prog 95 #[.agg (tstC t aa ca ab cb').toArray,.int .i64 p,.int .i64 q] w0 (Ret w0 h0 λ u _=>u = .bool (fitT t p q)):=by
 refine ent (args:=[.agg (tstC t aa ca ab cb').toArray,.int .i64 p,.int .i64 q]) TT_ok [] [] Tryz.func95 rfl Tryz.ntmps95 rfl rfl hv ?_
 intro b3
 refine cl (c_Fits p q) ?_
 exact rfl
theorem c_Rfits (t:Tst) (aa:Option Addr) (ca:Nat) (ab:Option Addr) (cb':Nat) (p q:Int) (w0:World) (h0:View) (hv:VLe h0 (Full w0)):Calls Tryz.prog 106 #[.agg (tstC t aa ca ab cb').toArray,.int .i64 p,.int .i64 q] w0 (Ret w0 h0 λ u _=>u = .bool (fitT t p q)):=by
 refine ent (args:=[.agg (tstC t aa ca ab cb').toArray,.int .i64 p,.int .i64 q]) TT_ok [] [] Tryz.func106 rfl Tryz.ntmps106 rfl rfl hv ?_
 intro b3
 refine cl (c_RFits p q) ?_
 exact rfl
end Go.Proofs.YtbmmnalndollkaaGreatDoor
set_option maxRecDepth 100000
namespace Go.Proofs.YtbmmnalndollkaaGreatDoor
open Go Go.Dx Go.RowKit
def ech (e:Int):List PanicEntry:=[{ v := .iface 36 (.int .i64 e),recovered:=false }]
theorem c_raise0 (w0:World) (h0:View) (hv:VLe h0 (Full w0)):Calls Tryz.prog 220 #[.int .i64 0] w0 (Ret w0 h0 λ u _=>u = .tuple #[]):=by
 refine ent (args:=[.int .i64 0]) TT_ok [] [] Tryz.func220 rfl Tryz.ntmps220 rfl rfl hv ?_
 refine cnd (λ h=>absurd rfl h) (λ h=>?_)
 exact rfl
theorem c_raiseX (e:Int) (he:¬ e=0) (w0:World):Calls Tryz.prog 220 #[.int .i64 e] w0 (Pan (ech e) w0):=by
 refine entR (args:=[.int .i64 e]) (h0:=λ _=>none) (kp:=λ ch=>ch=ech e) TT_ok [] [] Tryz.func220 rfl Tryz.ntmps220 rfl rfl (λ _ _ h=>by cases h) (λ ch w hk hw=>⟨by rw [hk],hw⟩) ?_
 refine cnd (λ h=>?_) (λ h=>absurd (by simpa using h) he)
 refine mI TT_ok (u := .int .i64) (by kernel_rfl) rfl rfl rfl ?_
 exact pn rfl rfl rfl
theorem c_catch (b6 b7:Nat) (xs:List Value) (e0:Value) (e:Int) (older:List PanicEntry) (hne:b6≠b7) (w:World) (h6:w.heap[b6]?=some (.cells xs.toArray 52 (0,0))) (hcs:xs.length=3) (h7:w.heap[b7]?=some (.cells #[e0] 36 (0,0))) :
  CallsD Tryz.prog 129 #[.pointer (some ⟨b6,0,none⟩),.pointer (some ⟨b7,0,none⟩)] (.panicking ({ v := .iface 36 (.int .i64 e),recovered:=false }::older)) w λ en u' w' =>
   en = .returned (.tuple #[])∧u' = .panicking ({ v := .iface 36 (.int .i64 e),recovered:=true }::older)∧Keep [b6,b7] w w'∧w'.heap[b6]?=some (.cells (valC v0).toArray 52 (0,0))∧w'.heap[b7]?=some (.cells #[.int .i64 e] 36 (0,0)):=by
 refine callsD_of_wpS Tryz.func129 rfl λ c₀ cs hu=>?_
 apply wpS_seq
 apply wpS_region
 simp [wpOpsS,go_sem,recoverD,hu,Tryz.ntmps129,Exit.thenS]
 apply wpS_seq
 apply wpS_region
 simp [wpOpsS,go_sem,Tryz.ntmps129,Exit.thenS]
 refine wpS_cond (t:=true) (by simp [Act.eval,Array.replicate]) ?_
 simp only [if_true]
 refine wpS_of_wp ?_
 have hlt6:=(Array.getElem?_eq_some_iff.1 h6).1
 have hlt7:=(Array.getElem?_eq_some_iff.1 h7).1
 have hS:=St.initL w (λ _=>none) (λ _ _ h=>by cases h) [(some b6,CellsC 52 xs),(some b7,CellsC 36 [e0])] (λ x hx=>by
  simp only [List.mem_cons,List.not_mem_nil,or_false] at hx
  rcases hx with rfl | rfl
  ·exact h6
  ·exact h7) (λ b hb=>by
  have hb:b=b6∨b=b7:=by simpa [ids] using hb
  rcases hb with rfl | rfl
  ·exact ⟨hlt6,rfl⟩
  ·exact ⟨hlt7,rfl⟩) (by simp [ids,hne])
 generalize hac:({ tmps:=_,defers:=[] }:Act)=ac
 have hF:Fr ac 9 [(0,.val (.pointer (some ⟨b6,0,none⟩))),(1,.val (.pointer (some ⟨b7,0,none⟩))),(2,.val (.iface 36 (.int .i64 e)))]:=by
  subst hac
  refine ⟨rfl,by simp,λ i v hi=>?_⟩
  match i with
  | 0=>simpa using Option.some.inj (show some (Value.pointer (some ⟨b6,0,none⟩))=some v from hi)
  | 1=>simpa using Option.some.inj (show some (Value.pointer (some ⟨b7,0,none⟩))=some v from hi)
  | 2=>simpa using Option.some.inj (show some (Value.iface 36 (.int .i64 e))=some v from hi)
  | i+3=>cases (show none=some v from hi)
 show codeM .wp Tryz.prog _ _ ac w
 refine region_sto (i:=0) (b:=b6) (T:=52) (cs:=xs) (valC v0) 4 hF hS rfl (allV_ne rfl) pow_fol (by kernel_rfl) λ hbw Γ hG=>?_
 refine t_pu (v := .agg (valC v0).toArray) hG (λ w1 _=>?_) λ Γ hG=>?_
 ·exact pu_build_st (parts:=[]) (vsl:=[]) (StrB.of (places:=[(0,1),(1,1),(2,1)]) (zero:=valC v0) (by kernel_rfl) (by kernel_rfl)) rfl rfl
 refine t_pu hG (λ w1 _=>pu_move rfl) λ Γ hG=>?_
 refine t_pu (v := .int .i64 e) hG (λ w1 _=>?_) λ Γ hG=>?_
 ·intro ρ hρ
  have e1:ρ (.tmp 7) = .iface 36 (.int .i64 e):=hρ _ (by simp [Op.operands]) _ rfl
  have hu:Tryz.prog.underlying 36=some (.int .i64):=by kernel_rfl
  simp [execOp,Instr.typeAssert,e1,run_underlying hu]
 refine t_store (i:=0) hbw hG rfl rfl rfl rfl (SzIs.of (by kernel_rfl)) rfl (by rw [hcs]; exact Nat.le_refl _) ?_ ?_
 ·unfold spl; rw [List.take_zero,List.drop_of_length_le (by rw [hcs]; exact Nat.le_refl _)]; rfl
 intro Γ hG
 refine t_end hG λ a' w' hC hE hF' _=>?_
 have hS':=hC.st.tight (i:=0) rfl hE.1
 refine s_store hF' hS' (i:=1) rfl rfl rfl rfl (SzIs.of (by kernel_rfl)) rfl (Nat.le_refl _) λ w2 a2 hS2 hF2=>?_
 refine c_nil ?_
 have k6:=hS2.own (some b6,CellsC 52 (valC v0)) (by simp)
 have k7:=hS2.own (some b7,CellsC 36 [.int .i64 e]) (by simp [spl])
 refine ⟨hF2.df,_,rfl,.tuple #[],?_,rfl,rfl,hS2.keep,k6,k7⟩
 simp [results,Tryz.results129]
theorem c_idle (b6 b7:Nat) (w:World):CallsD Tryz.prog 129 #[.pointer (some ⟨b6,0,none⟩),.pointer (some ⟨b7,0,none⟩)] .returning w λ en u' w'=>en = .returned (.tuple #[])∧u' = .returning∧w'=w:=by
 refine callsD_of_wpS Tryz.func129 rfl λ c₀ cs hu=>?_
 apply wpS_seq
 apply wpS_region
 simp [wpOpsS,go_sem,recoverD,hu,Tryz.ntmps129,Exit.thenS]
 apply wpS_seq
 apply wpS_region
 simp [wpOpsS,go_sem,Tryz.ntmps129,Exit.thenS]
 refine wpS_cond (t:=false) (by simp [Act.eval,Array.replicate]) ?_
 simp only [Bool.false_eq_true,if_false]
 refine wpS_of_wp (wp_skip ?_)
 cases c₀
 simp_all [bodyPostS,results,Tryz.results129]
end Go.Proofs.YtbmmnalndollkaaGreatDoor
set_option maxRecDepth 100000
namespace Go.Proofs.YtbmmnalndollkaaGreatDoor
open Go Go.Dx Go.RowKit
theorem dd {p q:Prop} [Decidable p] [Decidable q] (h:p↔q):(!(decide p == decide q))=false:=by
 have e:decide p=decide q:=decide_eq_decide.2 h
 rw [e]
 cases decide q <;> rfl
theorem dn {p q:Prop} [Decidable p] [Decidable q] (h:p↔¬ q):(!(decide p == decide q))=true:=by
 by_cases hq:q
 ·rw [decide_eq_true hq,decide_eq_false (p:=p) (λ hp=>(h.1 hp) hq)]; rfl
 ·rw [decide_eq_false hq,decide_eq_true (h.2 hq)]; rfl
theorem c_EAdd (a b:Int) (ha:I64 a) (hb:I64 b) (w0:World) (h0:View) (hv:VLe h0 (Full w0)):Calls Tryz.prog 236 #[.int .i64 a,.int .i64 b] w0 (Ret w0 h0 λ u _=>u=niV (ovr (a+b))):=by
 have ha1:=ha.1; have ha2:=ha.2; have hb1:=hb.1; have hb2:=hb.2
 refine ent (args:=[.int .i64 a,.int .i64 b]) TT_ok [] [] Tryz.func236 rfl Tryz.ntmps236 rfl rfl hv ?_
 rcases Int.lt_or_le (a+b) (-9223372036854775808) with h1 | h1
 ·refine ew _ (wrap_lo h1 (by omega)) ?_
  rw [ovr_out (.inl h1)]
  refine cndT (by rw [dn (by omega),decide_eq_false (p:=b=0) (by omega)]; rfl) ?_
  exact rfl
 ·rcases Int.lt_or_le 9223372036854775807 (a+b) with h2 | h2
  ·refine ew _ (wrap_hi h2 (by omega)) ?_
   rw [ovr_out (.inr h2)]
   refine cndT (by rw [dn (by omega),decide_eq_false (p:=b=0) (by omega)]; rfl) ?_
   exact rfl
  ·refine wi ?_
   rw [ovr_in ⟨h1,h2⟩]
   refine cndF (by rw [dd (by omega)]; rfl) ?_
   exact rfl
theorem c_ESub (a b:Int) (ha:I64 a) (hb:I64 b) (w0:World) (h0:View) (hv:VLe h0 (Full w0)):Calls Tryz.prog 180 #[.int .i64 a,.int .i64 b] w0 (Ret w0 h0 λ u _=>u=niV (ovr (a - b))):=by
 have ha1:=ha.1; have ha2:=ha.2; have hb1:=hb.1; have hb2:=hb.2
 refine ent (args:=[.int .i64 a,.int .i64 b]) TT_ok [] [] Tryz.func180 rfl Tryz.ntmps180 rfl rfl hv ?_
 rcases Int.lt_or_le (a - b) (-9223372036854775808) with h1 | h1
 ·refine ew _ (wrap_lo h1 (by omega)) ?_
  rw [ovr_out (.inl h1)]
  refine cndT (by rw [dn (by omega),decide_eq_false (p:=b=0) (by omega)]; rfl) ?_
  exact rfl
 ·rcases Int.lt_or_le 9223372036854775807 (a - b) with h2 | h2
  ·refine ew _ (wrap_hi h2 (by omega)) ?_
   rw [ovr_out (.inr h2)]
   refine cndT (by rw [dn (by omega),decide_eq_false (p:=b=0) (by omega)]; rfl) ?_
   exact rfl
  ·refine wi ?_
   rw [ovr_in ⟨h1,h2⟩]
   refine cndF (by rw [dd (by omega)]; rfl) ?_
   exact rfl
theorem wrap_u64_neg {n:Int} (h : -9223372036854775808≤n) (h2:n<0):IntKind.u64.wrap n=n+18446744073709551616:=by
 have e:=wrap_u64 (n:=n+18446744073709551616) (by omega) (by omega)
 rw [← e]
 simp [IntKind.wrap,IntKind.bits]
theorem c_size (a:Int) (ha:I64 a) (w0:World) (h0:View) (hv:VLe h0 (Full w0)):Calls Tryz.prog 250 #[.int .i64 a] w0 (Ret w0 h0 λ u _=>u = .int .u64 ((a.natAbs:Nat):Int)):=by
 have ha1:=ha.1; have ha2:=ha.2
 refine ent (args:=[.int .i64 a]) TT_ok [] [] Tryz.func250 rfl Tryz.ntmps250 rfl rfl hv ?_
 refine cnd (λ h=>?_) (λ h=>?_)
 ·refine ew _ (wrap_u64_neg ha1 h) ?_
  refine ew (a.natAbs:Int) ?_ ?_
  ·show IntKind.u64.wrap (0 - (a+18446744073709551616))=((a.natAbs:Nat):Int)
   have:(0:Int) - (a+18446744073709551616)=(a.natAbs:Int) - 18446744073709551616:=by omega
   rw [this]
   simp only [IntKind.wrap,IntKind.bits,IntKind.signed,Bool.false_and,Bool.false_eq_true,if_false]
   omega
  exact rfl
 ·refine ew (a.natAbs:Int) (by rw [show a=(a.natAbs:Int) by omega]; exact wrap_u64 (by omega) (by omega)) ?_
  exact rfl
theorem c_EDiv (a b:Int) (ha:I64 a) (hb:I64 b) (w0:World) (h0:View) (hv:VLe h0 (Full w0)):Calls Tryz.prog 238 #[.int .i64 a,.int .i64 b] w0 (Ret w0 h0 λ u _=>u=niV (divR a b)):=by
 have ha1:=ha.1; have ha2:=ha.2; have hb1:=hb.1; have hb2:=hb.2
 refine ent (args:=[.int .i64 a,.int .i64 b]) TT_ok [] [] Tryz.func238 rfl Tryz.ntmps238 rfl rfl hv ?_
 refine cnd (λ h=>?_) (λ h=>?_)
 ·rw [divR,if_pos h]; exact rfl
 ·refine cnd (λ h2=>?_) (λ h2=>?_)
  ·rw [divR,if_neg h,h2.1,h2.2,ovr_out (.inr (by decide))]; exact rfl
  ·have hq:=tdiv_in a b ha hb h h2
   refine qu h ?_ hq
   rw [divR,if_neg h,ovr_in hq]; exact rfl
theorem c_Mul (x y:Nat) (hx:x<18446744073709551616) (hy:y<18446744073709551616) (w0:World) (h0:View) (hv:VLe h0 (Full w0)):Calls Tryz.prog 249 #[.int .u64 (x:Int),.int .u64 (y:Int)] w0 (Ret w0 h0 λ u _=>u = .tuple #[.int .u64 ((x*y / 18446744073709551616:Nat):Int),.int .u64 ((x*y % 18446744073709551616:Nat):Int)]) :=
 calls_same (h:=h0) (Tryz.bits_Mul x y hx hy w0)
theorem sg_neg {a b:Int} (h:(decide (a<0) == decide (b<0))=false):a*b≤0:=by
 by_cases h1:a<0 <;> by_cases h2:b<0
 ·simp [h1,h2] at h
 ·have:=Int.mul_nonneg (a := -a) (b:=b) (by omega) (by omega)
  rw [Int.neg_mul] at this; omega
 ·have:=Int.mul_nonneg (a:=a) (b := -b) (by omega) (by omega)
  rw [Int.mul_neg] at this; omega
 ·simp [h1,h2] at h
theorem sg_pos {a b:Int} (h:(decide (a<0) == decide (b<0))=true):0≤a*b:=by
 by_cases h1:a<0 <;> by_cases h2:b<0
 ·have:=Int.mul_nonneg (a := -a) (b := -b) (by omega) (by omega)
  rwa [Int.neg_mul_neg] at this
 ·simp [h1,h2] at h
 ·simp [h1,h2] at h
 ·exact Int.mul_nonneg (by omega) (by omega)
set_option maxHeartbeats 1000000 in
theorem c_EMul (a b:Int) (ha:I64 a) (hb:I64 b) (w0:World) (h0:View) (hv:VLe h0 (Full w0)):Calls Tryz.prog 237 #[.int .i64 a,.int .i64 b] w0 (Ret w0 h0 λ u _=>u=niV (ovr (a*b))):=by
 have ha1:=ha.1; have ha2:=ha.2; have hb1:=hb.1; have hb2:=hb.2
 have sa:=natAbs_sz ha
 have sb:=natAbs_sz hb
 have hab:(a*b).natAbs=a.natAbs*b.natAbs:=Int.natAbs_mul a b
 have hmx:a.natAbs*b.natAbs≤9223372036854775808*9223372036854775808:=Nat.mul_le_mul sa sb
 refine ent (args:=[.int .i64 a,.int .i64 b]) TT_ok [] [6,10] Tryz.func237 rfl Tryz.ntmps237 rfl rfl hv ?_
 refine cl (c_size a ha) ?_
 refine cl (c_size b hb) ?_
 refine cl (c_Mul a.natAbs b.natAbs (by omega) (by omega)) ?_
 generalize hm:a.natAbs*b.natAbs=m at hab hmx ⊢
 generalize hn:a*b=n at hab ⊢
 have hsn:(decide (a<0) == decide (b<0))=false→n≤0:=λ h=>hn ▸ sg_neg h
 have hsp:(decide (a<0) == decide (b<0))=true→0≤n:=λ h=>hn ▸ sg_pos h
 refine w_cut TT_ok (λ _:Unit=>[(8,.v (.int .u64 (if (decide (a<0) == decide (b<0))=false then 9223372036854775808 else 9223372036854775807)))]) (λ _=>True) ?_
 refine And.intro ?_ ?_
 ·refine cnd (λ h=>?_) (λ h=>?_)
  ·refine ew 9223372036854775808 (wrap_u64 (by decide) (by decide)) ?_
   exact ⟨(),trivial,gs (by rw [if_pos h]; rfl)⟩
  ·exact ⟨(),trivial,gs (by rw [if_neg (by rw [h]; decide)]; rfl)⟩
 ·intro _ _
  refine cnd (λ h=>?_) (λ h=>?_)
  ·rw [ovr_out (by
    cases hs:(decide (a<0) == decide (b<0))
    ·rw [hs] at h; simp only [if_true] at h
     have:=hsn hs; omega
    ·rw [hs] at h; simp only [Bool.true_eq_false,if_false] at h
     have:=hsp hs; omega)]
   exact rfl
  ·refine w_cut TT_ok (λ _:Unit=>[(7,.v (.int .u64 (if (decide (a<0) == decide (b<0))=false then IntKind.u64.wrap (0 - ((m % 18446744073709551616:Nat):Int)) else ((m % 18446744073709551616:Nat):Int))))]) (λ _=>True) ?_
   refine And.intro ?_ ?_
   ·refine cnd (λ h2=>?_) (λ h2=>?_)
    ·refine ew _ rfl ?_
     exact ⟨(),trivial,gs (by rw [if_pos h2,if_pos h2]; rfl)⟩
    ·have h3:¬ (decide (a<0) == decide (b<0))=false:=by rw [h2]; decide
     exact ⟨(),trivial,gs (by rw [if_neg h3,if_neg h3]; rfl)⟩
   ·intro _ _
    have hin : -9223372036854775808≤n∧n≤9223372036854775807:=by
     cases hs:(decide (a<0) == decide (b<0))
     ·rw [hs] at h; simp only [if_true] at h
      have:=hsn hs; omega
     ·rw [hs] at h; simp only [Bool.true_eq_false,if_false] at h
      have:=hsp hs; omega
    refine ew n ?_ ?_
    ·show IntKind.i64.wrap _=n
     cases hs:(decide (a<0) == decide (b<0))
     ·rw [if_pos rfl]
      have hn0:=hsn hs
      rw [hs] at h; simp only [if_true] at h
      have e1:((m % 18446744073709551616:Nat):Int)=(m:Int):=by omega
      have hm2:(m:Int)≤9223372036854775808:=by omega
      rw [e1]
      by_cases hz:m=0
      ·have:n=0:=by omega
       rw [hz,this]; decide +kernel
      ·rw [wrap_u64_neg (by omega) (by omega),wrap_hi (by omega) (by omega)]; omega
     ·rw [if_neg (by decide)]
      have:=hsp hs
      have e:=wrap_i64 hin.1 hin.2
      rw [show ((m % 18446744073709551616:Nat):Int)=n by omega]; exact e
    rw [ovr_in hin]; exact rfl
end Go.Proofs.YtbmmnalndollkaaGreatDoor
set_option maxRecDepth 100000
namespace Go.Proofs.YtbmmnalndollkaaGreatDoor
open Go Go.Dx Go.RowKit
abbrev RetE (w0:World) (h0:View) (r:EV):Ending→World→Prop:=RetX ech (λ v:Val => .agg (valC v).toArray) w0 h0 r
theorem c_truth (b:Bool) (w0:World) (h0:View) (hv:VLe h0 (Full w0)):Calls Tryz.prog 181 #[.bool b] w0 (Ret w0 h0 λ u _=>u = .agg (valC (truV b)).toArray):=by
 refine ent (args:=[.bool b]) TT_ok [] [] Tryz.func181 rfl Tryz.ntmps181 rfl rfl hv ?_
 intro b2 b3
 cases b
 ·refine cnd (λ h=>h.elim) (λ _=>?_)
  exact rfl
 ·refine cnd (λ _=>?_) (λ h=>h.elim)
  exact rfl
theorem c_evNumber (n e:Int) (w0:World) (h0:View) (hv:VLe h0 (Full w0)):Calls Tryz.prog 179 #[.int .i64 n,.int .i64 e] w0 (RetE w0 h0 (numR (n,e))):=by
 by_cases he:e=0
 ·rw [show numR (n,e) = .ok ⟨1,n,[]⟩ by rw [numR,if_pos he]]
  subst he
  refine ent (args:=[.int .i64 n,.int .i64 0]) TT_ok [] [] Tryz.func179 rfl Tryz.ntmps179 rfl rfl hv ?_
  intro b
  refine cl c_raise0 ?_
  exact rfl
 ·rw [show numR (n,e) = .error e by rw [numR,if_neg he]]
  refine entR (args:=[.int .i64 n,.int .i64 e]) (h0:=h0) (kp:=λ ch=>ch=ech e) TT_ok [] [] Tryz.func179 rfl Tryz.ntmps179 rfl rfl hv (λ ch w hk hw=>⟨by rw [hk],hw⟩) ?_
  intro b
  exact cP TT_ok (λ w _=>c_raiseX e he w)
theorem c_join (s t:List UInt8) (hs:s.length≤1000000) (ht:t.length≤1000000) (w0:World) (h0:View) (hv:VLe h0 (Full w0)):Calls Tryz.prog 221 #[vs s,vs t] w0 (RetE w0 h0 (joinE s t)):=by
 by_cases he:40<s.length+t.length
 ·rw [show joinE s t = .error 5 by rw [joinE,if_pos he]]
  refine entR (args:=[vs s,vs t]) (h0:=h0) (kp:=λ ch=>ch=ech 5) TT_ok [] [] Tryz.func221 rfl Tryz.ntmps221 rfl rfl hv (λ ch w hk hw=>⟨by rw [hk],hw⟩) ?_
  intro b
  refine wi ?_
  refine cnd (λ h=>?_) (λ h=>by exfalso; omega)
  exact cP TT_ok (λ w _=>c_raiseX 5 (by decide) w)
 ·rw [show joinE s t = .ok ⟨2,0,s++t⟩ by rw [joinE,if_neg he]]
  refine ent (args:=[vs s,vs t]) TT_ok [] [] Tryz.func221 rfl Tryz.ntmps221 rfl rfl hv ?_
  intro b
  refine wi ?_
  refine cnd (λ h=>by exfalso; omega) (λ h=>?_)
  refine ct ?_
  exact rfl
theorem RetE.ok {w0:World} {h0:View} {r:EV} {v:Val} {P:Program} {f:FuncId} {args:Array Value} (h:Calls P f args w0 (RetE w0 h0 r)) (e:r = .ok v):Calls P f args w0 (Ret w0 h0 λ u _=>u = .agg (valC v).toArray):=by subst e; exact h
theorem RetE.err {w0:World} {h0:View} {r:EV} {x:Int} {P:Program} {f:FuncId} {args:Array Value} (h:Calls P f args w0 (RetE w0 h0 r)) (e:r = .error x):Calls P f args w0 (Pan (ech x) w0):=by subst e; exact h
set_option maxHeartbeats 1000000 in
theorem c_reckon (op a b:Int) (ha:I64 a) (hb:I64 b) (w0:World) (h0:View) (hv:VLe h0 (Full w0)):Calls Tryz.prog 222 #[.int .i64 op,.int .i64 a,.int .i64 b] w0 (RetE w0 h0 (reckE op a b)):=by
 cases hr:reckE op a b with
 | ok v =>
  refine ent (args:=[.int .i64 op,.int .i64 a,.int .i64 b]) TT_ok [] [] Tryz.func222 rfl Tryz.ntmps222 rfl rfl hv ?_
  intro bb
  refine cnd (λ h=>?_) (λ h=>?_)
  ·refine cl (c_EAdd a b ha hb) ?_
   refine cl (λ w hh hv=>RetE.ok (c_evNumber _ _ w hh hv) (by rw [← hr,reckE,reckR,if_pos h])) ?_
   exact rfl
  ·refine cnd (λ h2=>?_) (λ h2=>?_)
   ·refine cl (c_ESub a b ha hb) ?_
    refine cl (λ w hh hv=>RetE.ok (c_evNumber _ _ w hh hv) (by rw [← hr,reckE,reckR,if_neg h,if_pos h2])) ?_
    exact rfl
   ·refine cnd (λ h3=>?_) (λ h3=>?_)
    ·refine cl (c_EMul a b ha hb) ?_
     refine cl (λ w hh hv=>RetE.ok (c_evNumber _ _ w hh hv) (by rw [← hr,reckE,reckR,if_neg h,if_neg h2,if_pos h3])) ?_
     exact rfl
    ·refine cl (c_EDiv a b ha hb) ?_
     refine cl (λ w hh hv=>RetE.ok (c_evNumber _ _ w hh hv) (by rw [← hr,reckE,reckR,if_neg h,if_neg h2,if_neg h3])) ?_
     exact rfl
 | error x =>
  refine entR (args:=[.int .i64 op,.int .i64 a,.int .i64 b]) (h0:=h0) (kp:=λ ch=>ch=ech x) TT_ok [] [] Tryz.func222 rfl Tryz.ntmps222 rfl rfl hv (λ ch w hk hw=>⟨by rw [hk],hw⟩) ?_
  intro bb
  refine cnd (λ h=>?_) (λ h=>?_)
  ·refine cl (c_EAdd a b ha hb) ?_
   exact cP TT_ok (λ w _=>RetE.err (c_evNumber _ _ w _ (VLe.refl _)) (by rw [← hr,reckE,reckR,if_pos h]))
  ·refine cnd (λ h2=>?_) (λ h2=>?_)
   ·refine cl (c_ESub a b ha hb) ?_
    exact cP TT_ok (λ w _=>RetE.err (c_evNumber _ _ w _ (VLe.refl _)) (by rw [← hr,reckE,reckR,if_neg h,if_pos h2]))
   ·refine cnd (λ h3=>?_) (λ h3=>?_)
    ·refine cl (c_EMul a b ha hb) ?_
     exact cP TT_ok (λ w _=>RetE.err (c_evNumber _ _ w _ (VLe.refl _)) (by rw [← hr,reckE,reckR,if_neg h,if_neg h2,if_pos h3]))
    ·refine cl (c_EDiv a b ha hb) ?_
     exact cP TT_ok (λ w _=>RetE.err (c_evNumber _ _ w _ (VLe.refl _)) (by rw [← hr,reckE,reckR,if_neg h,if_neg h2,if_neg h3]))
theorem c_of_ok (k:Int) (ad:Option Addr) (cap:Nat) (l:List Val) (nl:Bool) (hr:ofG k l false = .ok nl) (hl:l.length≤1000000) (w0:World) (h0:View) (hv:VLe h0 (Full w0)) (hb:SlC 52 3 (flatR valC) h0 (.slice ad l.length cap) l) :
  Calls Tryz.prog 178 #[.int .i64 k,.slice ad l.length cap] w0 (Ret w0 h0 λ u _=>u = .bool nl):=by
 refine ent (args:=[.int .i64 k,.slice ad l.length cap]) TT_ok [] [] Tryz.func178 rfl Tryz.ntmps178 rfl rfl hv ?_
 refine w_loop TT_ok (λ x:Nat×Bool=>[(9,.v (.int .i64 x.1)),(4,.v (.bool x.2))]) (0,false) (λ x=>x.1≤l.length∧ofG k (l.drop x.1) x.2 = .ok nl) (λ x=>l.length - x.1) ?_
 refine And.intro ⟨⟨Nat.zero_le _,hr⟩,gs⟩ ?_
 rintro ⟨i,b⟩ ⟨hi,hg⟩
 dsimp only at hi hg ⊢
 refine cnd (λ h=>?_) (λ h=>?_)
 ·have hi':i<l.length:=by omega
  refine ixs hb i v0 ?_
  intro b6
  refine cnd (λ h1=>?_) (λ h1=>?_)
  ·refine wi ?_
   rw [of_here hi' h1] at hg
   exact ⟨(i+1,b),⟨⟨hi',hg⟩,(by show l.length - (i+1)<l.length - i; omega)⟩,gs⟩
  ·refine cnd (λ h2=>?_) (λ h2=>?_)
   ·refine wi ?_
    rw [of_null hi' h1 h2] at hg
    exact ⟨(i+1,true),⟨⟨hi',hg⟩,(by show l.length - (i+1)<l.length - i; omega)⟩,gs⟩
   ·rw [of_bad hi' h1 h2] at hg; cases hg
 ·have hi':¬ i<l.length:=by omega
  rw [of_end hi'] at hg
  cases hg; exact rfl
theorem c_of_err (k:Int) (ad:Option Addr) (cap:Nat) (l:List Val) (x:Int) (hr:ofG k l false = .error x) (hl:l.length≤1000000) (w0:World) (h0:View) (hv:VLe h0 (Full w0)) (hb:SlC 52 3 (flatR valC) h0 (.slice ad l.length cap) l) :
  Calls Tryz.prog 178 #[.int .i64 k,.slice ad l.length cap] w0 (Pan (ech x) w0):=by
 refine entR (args:=[.int .i64 k,.slice ad l.length cap]) (h0:=h0) (kp:=λ ch=>ch=ech x) TT_ok [] [] Tryz.func178 rfl Tryz.ntmps178 rfl rfl hv (λ ch w hk hw=>⟨by rw [hk],hw⟩) ?_
 refine w_loop TT_ok (λ x:Nat×Bool=>[(9,.v (.int .i64 x.1)),(4,.v (.bool x.2))]) (0,false) (λ y=>y.1≤l.length∧ofG k (l.drop y.1) y.2 = .error x) (λ x=>l.length - x.1) ?_
 refine And.intro ⟨⟨Nat.zero_le _,hr⟩,gs⟩ ?_
 rintro ⟨i,b⟩ ⟨hi,hg⟩
 dsimp only at hi hg ⊢
 refine cnd (λ h=>?_) (λ h=>?_)
 ·have hi':i<l.length:=by omega
  refine ixs hb i v0 ?_
  intro b6
  refine cnd (λ h1=>?_) (λ h1=>?_)
  ·refine wi ?_
   rw [of_here hi' h1] at hg
   exact ⟨(i+1,b),⟨⟨hi',hg⟩,(by show l.length - (i+1)<l.length - i; omega)⟩,gs⟩
  ·refine cnd (λ h2=>?_) (λ h2=>?_)
   ·refine wi ?_
    rw [of_null hi' h1 h2] at hg
    exact ⟨(i+1,true),⟨⟨hi',hg⟩,(by show l.length - (i+1)<l.length - i; omega)⟩,gs⟩
   ·have hx:=of_err hg
    subst hx
    exact cP TT_ok (λ w _=>c_raiseX 14 (by decide) w)
 ·have hi':¬ i<l.length:=by omega
  rw [of_end hi'] at hg
  cases hg
theorem c_of (k:Int) (ad:Option Addr) (cap:Nat) (l:List Val) (hl:l.length≤1000000) (w0:World) (h0:View) (hv:VLe h0 (Full w0)) (hb:SlC 52 3 (flatR valC) h0 (.slice ad l.length cap) l) :
  Calls Tryz.prog 178 #[.int .i64 k,.slice ad l.length cap] w0 (RetX ech (λ b:Bool => .bool b) w0 h0 (ofG k l false)):=by
 cases hr:ofG k l false with
 | ok nl=>exact c_of_ok k ad cap l nl hr hl w0 h0 hv hb
 | error x=>exact c_of_err k ad cap l x hr hl w0 h0 hv hb
end Go.Proofs.YtbmmnalndollkaaGreatDoor
set_option maxRecDepth 100000
namespace Go.Proofs.YtbmmnalndollkaaGreatDoor
open Go Go.Dx Go.RowKit
theorem c_kin_ok (a b:Val) (nl:Bool) (hr:ofG (kinK a b) [a,b] false = .ok nl) (w0:World) (h0:View) (hv:VLe h0 (Full w0)) :
  Calls Tryz.prog 223 #[.agg (valC a).toArray,.agg (valC b).toArray] w0 (Ret w0 h0 λ u _=>u = .int .i64 (kinK a b)):=by
 refine ent (args:=[.agg (valC a).toArray,.agg (valC b).toArray]) TT_ok [] [4] Tryz.func223 rfl Tryz.ntmps223 rfl rfl hv ?_
 intro b1 b2
 refine w_cut TT_ok (λ _:Unit=>[(5,.v (.int .i64 (kinK a b)))]) (λ _=>True) ?_
 refine And.intro ?_ ?_
 ·refine cnd (λ h=>?_) (λ h=>?_)
  ·exact ⟨(),trivial,gs (by rw [kinK,if_pos h]; rfl)⟩
  ·exact ⟨(),trivial,gs (by rw [kinK,if_neg h]; rfl)⟩
 ·intro _ _
  intro b3
  refine co (λ w hS=>c_of_ok (kinK a b) _ 2 [a,b] nl hr (by simp) w (Full w) (VLe.refl _) (hS.row (k:=15) (l:=[a,b]) (g:=valC) (hk:=rfl) (hcs:=rfl) (hc:=Nat.le_refl 2))) ?_
  exact rfl
theorem c_kin_err (a b:Val) (x:Int) (hr:ofG (kinK a b) [a,b] false = .error x) (w0:World) (h0:View) (hv:VLe h0 (Full w0)) :
  Calls Tryz.prog 223 #[.agg (valC a).toArray,.agg (valC b).toArray] w0 (Pan (ech x) w0):=by
 refine entR (args:=[.agg (valC a).toArray,.agg (valC b).toArray]) (h0:=h0) (kp:=λ ch=>ch=ech x) TT_ok [] [4] Tryz.func223 rfl Tryz.ntmps223 rfl rfl hv (λ ch w hk hw=>⟨by rw [hk],hw⟩) ?_
 intro b1 b2
 refine w_cut TT_ok (λ _:Unit=>[(5,.v (.int .i64 (kinK a b)))]) (λ _=>True) ?_
 refine And.intro ?_ ?_
 ·refine cnd (λ h=>?_) (λ h=>?_)
  ·exact ⟨(),trivial,gs (by rw [kinK,if_pos h]; rfl)⟩
  ·exact ⟨(),trivial,gs (by rw [kinK,if_neg h]; rfl)⟩
 ·intro _ _
  intro b3
  exact cPo TT_ok (λ w hS=>c_of_err (kinK a b) _ 2 [a,b] x hr (by simp) w (Full w) (VLe.refl _) (hS.row (k:=15) (l:=[a,b]) (g:=valC) (hk:=rfl) (hcs:=rfl) (hc:=Nat.le_refl 2)))
set_option maxHeartbeats 1000000 in
theorem c_sums (op:Int) (a b:Val) (ha:I64 a.n) (hb:I64 b.n) (hsa:a.s.length≤1000000) (hsb:b.s.length≤1000000) (w0:World) (h0:View) (hv:VLe h0 (Full w0)) :
  Calls Tryz.prog 182 #[.int .i64 op,.agg (valC a).toArray,.agg (valC b).toArray] w0 (RetE w0 h0 (sumsE op a b)):=by
 cases hr:sumsE op a b with
 | ok v =>
  refine ent (args:=[.int .i64 op,.agg (valC a).toArray,.agg (valC b).toArray]) TT_ok [] [5] Tryz.func182 rfl Tryz.ntmps182 rfl rfl hv ?_
  intro b1 b2 b3
  refine w_cut TT_ok (λ _:Unit=>[(8,.v (.int .i64 (sumK op a b))),(7,.v (.bool (txtQ op a b)))]) (λ _=>True) ?_
  refine And.intro ?_ ?_
  ·refine cnd (λ h=>?_) (λ h=>?_)
   ·have hq:txtQ op a b=true:=by simp only [txtQ,Bool.and_eq_true,Bool.or_eq_true,decide_eq_true_eq]; exact h
    exact ⟨(),trivial,gs (by rw [sumK,if_pos hq]; rfl)⟩
   ·have hq:¬ txtQ op a b=true:=by simp only [txtQ,Bool.and_eq_true,Bool.or_eq_true,decide_eq_true_eq]; omega
    exact ⟨(),trivial,gs (by rw [sumK,if_neg hq]; rfl)⟩
  ·intro _ _
   intro b4
   cases hof:ofG (sumK op a b) [a,b] false with
   | error x=>rw [sumsE,hof] at hr; cases hr
   | ok nl =>
    refine co (λ w hS=>c_of_ok (sumK op a b) _ 2 [a,b] nl hof (by simp) w (Full w) (VLe.refl _) (hS.row (k:=26) (l:=[a,b]) (g:=valC) (hk:=rfl) (hcs:=rfl) (hc:=Nat.le_refl 2))) ?_
    rw [sumsE,hof] at hr
    cases nl
    ·refine cnd (λ h=>h.elim) (λ _=>?_)
     simp only at hr
     refine cnd (λ h=>?_) (λ h=>?_)
     ·rw [if_pos h] at hr
      refine cl (λ w hh hv=>RetE.ok (c_join a.s b.s hsa hsb w hh hv) hr) ?_
      exact rfl
     ·rw [if_neg (by rw [h]; decide)] at hr
      refine cl (λ w hh hv=>RetE.ok (c_reckon op a.n b.n ha hb w hh hv) hr) ?_
      exact rfl
    ·refine cnd (λ _=>?_) (λ h=>h.elim)
     cases hr; exact rfl
 | error x =>
  refine entR (args:=[.int .i64 op,.agg (valC a).toArray,.agg (valC b).toArray]) (h0:=h0) (kp:=λ ch=>ch=ech x) TT_ok [] [5] Tryz.func182 rfl Tryz.ntmps182 rfl rfl hv (λ ch w hk hw=>⟨by rw [hk],hw⟩) ?_
  intro b1 b2 b3
  refine w_cut TT_ok (λ _:Unit=>[(8,.v (.int .i64 (sumK op a b))),(7,.v (.bool (txtQ op a b)))]) (λ _=>True) ?_
  refine And.intro ?_ ?_
  ·refine cnd (λ h=>?_) (λ h=>?_)
   ·have hq:txtQ op a b=true:=by simp only [txtQ,Bool.and_eq_true,Bool.or_eq_true,decide_eq_true_eq]; exact h
    exact ⟨(),trivial,gs (by rw [sumK,if_pos hq]; rfl)⟩
   ·have hq:¬ txtQ op a b=true:=by simp only [txtQ,Bool.and_eq_true,Bool.or_eq_true,decide_eq_true_eq]; omega
    exact ⟨(),trivial,gs (by rw [sumK,if_neg hq]; rfl)⟩
  ·intro _ _
   intro b4
   cases hof:ofG (sumK op a b) [a,b] false with
   | error y =>
    rw [sumsE,hof] at hr
    cases hr
    exact cPo TT_ok (λ w hS=>c_of_err (sumK op a b) _ 2 [a,b] x hof (by simp) w (Full w) (VLe.refl _) (hS.row (k:=26) (l:=[a,b]) (g:=valC) (hk:=rfl) (hcs:=rfl) (hc:=Nat.le_refl 2)))
   | ok nl =>
    refine co (λ w hS=>c_of_ok (sumK op a b) _ 2 [a,b] nl hof (by simp) w (Full w) (VLe.refl _) (hS.row (k:=26) (l:=[a,b]) (g:=valC) (hk:=rfl) (hcs:=rfl) (hc:=Nat.le_refl 2))) ?_
    rw [sumsE,hof] at hr
    cases nl
    ·refine cnd (λ h=>h.elim) (λ _=>?_)
     simp only at hr
     refine cnd (λ h=>?_) (λ h=>?_)
     ·rw [if_pos h] at hr
      exact cP TT_ok (λ w _=>RetE.err (c_join a.s b.s hsa hsb w _ (VLe.refl _)) hr)
     ·rw [if_neg (by rw [h]; decide)] at hr
      exact cP TT_ok (λ w _=>RetE.err (c_reckon op a.n b.n ha hb w _ (VLe.refl _)) hr)
    ·cases hr
theorem c_truths_ok (op:Int) (a b v:Val) (hr:trusE op a b = .ok v) (w0:World) (h0:View) (hv:VLe h0 (Full w0)) :
  Calls Tryz.prog 183 #[.int .i64 op,.agg (valC a).toArray,.agg (valC b).toArray] w0 (Ret w0 h0 λ u _=>u = .agg (valC v).toArray):=by
 refine ent (args:=[.int .i64 op,.agg (valC a).toArray,.agg (valC b).toArray]) TT_ok [] [] Tryz.func183 rfl Tryz.ntmps183 rfl rfl hv ?_
 intro b1 b2 b3 b4
 cases hof:ofG 3 [a,b] false with
 | error x=>rw [trusE,hof] at hr; cases hr
 | ok nl =>
  rw [trusE,hof] at hr
  simp only at hr
  refine co (λ w hS=>c_of_ok 3 _ 2 [a,b] nl hof (by simp) w (Full w) (VLe.refl _) (hS.row (k:=11) (l:=[a,b]) (g:=valC) (hk:=rfl) (hcs:=rfl) (hc:=Nat.le_refl 2))) ?_
  refine cl (c_truth (decide (op=15))) ?_
  intro b5
  refine aq eqV a (truV (decide (op=15))) ?_
  refine aqg eqV b (truV (decide (op=15))) ?_
  refine cnd (λ h=>?_) (λ h=>?_)
  ·rw [if_pos h] at hr
   cases hr; exact rfl
  ·rw [if_neg (λ hh=>hh.elim h.1 h.2)] at hr
   refine cnd (λ h2=>?_) (λ h2=>?_)
   ·rw [if_pos h2] at hr
    cases hr; exact rfl
   ·rw [if_neg (by rw [h2]; decide)] at hr
    refine cl (c_truth (decide (op=14))) ?_
    cases hr; exact rfl
theorem c_truths_err (op:Int) (a b:Val) (x:Int) (hr:trusE op a b = .error x) (w0:World) (h0:View) (hv:VLe h0 (Full w0)) :
  Calls Tryz.prog 183 #[.int .i64 op,.agg (valC a).toArray,.agg (valC b).toArray] w0 (Pan (ech x) w0):=by
 refine entR (args:=[.int .i64 op,.agg (valC a).toArray,.agg (valC b).toArray]) (h0:=h0) (kp:=λ ch=>ch=ech x) TT_ok [] [] Tryz.func183 rfl Tryz.ntmps183 rfl rfl hv (λ ch w hk hw=>⟨by rw [hk],hw⟩) ?_
 intro b1 b2 b3 b4
 cases hof:ofG 3 [a,b] false with
 | error y =>
  rw [trusE,hof] at hr
  cases hr
  exact cPo TT_ok (λ w hS=>c_of_err 3 _ 2 [a,b] x hof (by simp) w (Full w) (VLe.refl _) (hS.row (k:=11) (l:=[a,b]) (g:=valC) (hk:=rfl) (hcs:=rfl) (hc:=Nat.le_refl 2)))
 | ok nl =>
  rw [trusE,hof] at hr
  simp only at hr
  split at hr
  ·cases hr
  ·split at hr <;> cases hr
end Go.Proofs.YtbmmnalndollkaaGreatDoor
set_option maxRecDepth 100000
namespace Go.Proofs.YtbmmnalndollkaaGreatDoor
open Go Go.Dx Go.RowKit
theorem c_NaNK (x:Int) (w0:World) (h0:View) (hv:VLe h0 (Full w0)):Calls Tryz.prog 143 #[.int .i64 x] w0 (Ret w0 h0 λ u _=>u = .bool false):=by
 refine ent (args:=[.int .i64 x]) TT_ok [] [] Tryz.func143 rfl Tryz.ntmps143 rfl rfl hv ?_
 show Value.bool _=_
 simp
theorem c_NaNI (x:Int) (w0:World) (h0:View) (hv:VLe h0 (Full w0)):Calls Tryz.prog 144 #[.int .i64 x] w0 (Ret w0 h0 λ u _=>u = .bool false):=by
 refine ent (args:=[.int .i64 x]) TT_ok [] [] Tryz.func144 rfl Tryz.ntmps144 rfl rfl hv ?_
 show Value.bool _=_
 simp
theorem c_CmpK (x y:Int) (w0:World) (h0:View) (hv:VLe h0 (Full w0)):Calls Tryz.prog 87 #[.int .i64 x,.int .i64 y] w0 (Ret w0 h0 λ u _=>u = .int .i64 (cmpI x y)):=by
 refine ent (args:=[.int .i64 x,.int .i64 y]) TT_ok [] [] Tryz.func87 rfl Tryz.ntmps87 rfl rfl hv ?_
 refine cl (c_NaNK x) ?_
 refine cl (c_NaNK y) ?_
 refine cndF rfl ?_
 refine cndF rfl ?_
 refine cnd (λ h=>?_) (λ h=>?_)
 ·rw [cmpI,if_pos h]; exact rfl
 ·refine cnd (λ h2=>?_) (λ h2=>?_)
  ·rw [cmpI,if_neg h,if_pos h2]; exact rfl
  ·rw [cmpI,if_neg h,if_neg h2]; exact rfl
theorem c_CmpI (x y:Int) (w0:World) (h0:View) (hv:VLe h0 (Full w0)):Calls Tryz.prog 88 #[.int .i64 x,.int .i64 y] w0 (Ret w0 h0 λ u _=>u = .int .i64 (cmpI x y)):=by
 refine ent (args:=[.int .i64 x,.int .i64 y]) TT_ok [] [] Tryz.func88 rfl Tryz.ntmps88 rfl rfl hv ?_
 refine cl (c_NaNI x) ?_
 refine cl (c_NaNI y) ?_
 refine cndF rfl ?_
 refine cndF rfl ?_
 refine cnd (λ h=>?_) (λ h=>?_)
 ·rw [cmpI,if_pos h]; exact rfl
 ·refine cnd (λ h2=>?_) (λ h2=>?_)
  ·rw [cmpI,if_neg h,if_pos h2]; exact rfl
  ·rw [cmpI,if_neg h,if_neg h2]; exact rfl
theorem c_Or (ad:Option Addr) (cap:Nat) (l:List Int) (hl:l.length≤1000000) (w0:World) (h0:View) (hv:VLe h0 (Full w0)) (hb:SlC 3 1 (flatR λ n=>[Value.int .i64 n]) h0 (.slice ad l.length cap) l) :
  Calls Tryz.prog 86 #[.slice ad l.length cap] w0 (Ret w0 h0 λ u _=>u = .int .i64 (orI l)):=by
 refine ent (args:=[.slice ad l.length cap]) TT_ok [] [] Tryz.func86 rfl Tryz.ntmps86 rfl rfl hv ?_
 refine w_loop TT_ok (λ k:Nat=>[(8,.v (.int .i64 k))]) 0 (λ k=>k≤l.length∧∀ j,j<k→l.getD j 0=0) (λ k=>l.length - k) ?_
 refine And.intro ⟨⟨Nat.zero_le _,λ j h=>absurd h (Nat.not_lt_zero _)⟩,gs⟩ ?_
 intro k ⟨hk,hz⟩
 refine cnd (λ h=>?_) (λ h=>?_)
 ·have hk':k<l.length:=by omega
  refine ixs hb k 0 ?_
  refine cnd (λ h1=>?_) (λ h1=>?_)
  ·rw [orI_hit l k hk' hz h1]; exact rfl
  ·refine wi ?_
   exact ⟨k+1,⟨⟨hk',upto_snoc hz (by omega)⟩,by omega⟩,gs⟩
 ·rw [orI_none l (λ j hj=>hz j (by omega))]; exact rfl
theorem c_sCmp (s t:List UInt8) (w0:World) (h0:View) (hv:VLe h0 (Full w0)):Calls Tryz.prog 89 #[vs s,vs t] w0 (Ret w0 h0 λ u _=>u = .int .i64 (Lib.compareBytes s t)):=by
 have:=calls_same (h:=h0) (Tryz.strings_Compare ⟨s.toArray⟩ ⟨t.toArray⟩ w0)
 simpa using this
theorem c_OrRow (b:Nat) (x y z:Int) (w:World) (hb:w.heap[b]?=some (.cells #[.int .i64 x,.int .i64 y,.int .i64 z] 3 (0,0))) :
  Calls Tryz.prog 86 #[.slice (some ⟨b,0,none⟩) 3 3] w (Ret w (Full w) λ u _=>u = .int .i64 (orI [x,y,z])) :=
 c_Or _ _ [x,y,z] (by simp) w (Full w) (VLe.refl _) (SlC.ofRow (f:=λ n=>[Value.int .i64 n]) (λ _ _=>rfl) (h:=Full w) hb rfl (Nat.le_refl 3) (by decide) rfl)
theorem c_VCompare (a b:Val) (w0:World) (h0:View) (hv:VLe h0 (Full w0)):Calls Tryz.prog 49 #[.agg (valC a).toArray,.agg (valC b).toArray] w0 (Ret w0 h0 λ u _=>u = .int .i64 (cmpV a b)):=by
 refine ent (args:=[.agg (valC a).toArray,.agg (valC b).toArray]) TT_ok [] [] Tryz.func49 rfl Tryz.ntmps49 rfl rfl hv ?_
 intro b1 b2
 refine And.intro (by kernel_rfl) ?_
 refine cl (c_CmpK a.k b.k) ?_
 refine cl (c_CmpI a.n b.n) ?_
 refine cl (c_sCmp a.s b.s) ?_
 refine ⟨_,λ w b hS hb=>⟨Full w,c_OrRow b _ _ _ w hb⟩,?_⟩
 rw [orI_three]; exact rfl
end Go.Proofs.YtbmmnalndollkaaGreatDoor
set_option maxRecDepth 100000
namespace Go.Proofs.YtbmmnalndollkaaGreatDoor
open Go Go.Dx Go.RowKit
set_option maxHeartbeats 1000000 in
theorem c_compares_ok (op:Int) (a b v:Val) (hr:cmpE op a b = .ok v) (w0:World) (h0:View) (hv:VLe h0 (Full w0)) :
  Calls Tryz.prog 184 #[.int .i64 op,.agg (valC a).toArray,.agg (valC b).toArray] w0 (Ret w0 h0 λ u _=>u = .agg (valC v).toArray):=by
 cases hof:ofG (kinK a b) [a,b] false with
 | error x=>rw [cmpE,hof] at hr; cases hr
 | ok nl =>
  rw [cmpE,hof] at hr
  simp only at hr
  refine ent (args:=[.int .i64 op,.agg (valC a).toArray,.agg (valC b).toArray]) TT_ok [] [] Tryz.func184 rfl Tryz.ntmps184 rfl rfl hv ?_
  intro b1 b2 b3
  refine cl (c_kin_ok a b nl hof) ?_
  refine cnd (λ h=>?_) (λ h=>?_)
  ·rw [if_pos h] at hr
   refine aq eqV a b ?_
   refine cl (c_truth (decide (a=b))) ?_
   cases hr; exact rfl
  ·rw [if_neg h] at hr
   refine cnd (λ h2=>?_) (λ h2=>?_)
   ·rw [if_pos h2] at hr
    refine aq eqV a b ?_
    refine cl (c_truth (!decide (a=b))) ?_
    cases hr; exact rfl
   ·rw [if_neg h2] at hr
    refine cnd (λ h3=>?_) (λ h3=>?_)
    ·rw [if_pos h3] at hr; cases hr
    ·rw [if_neg h3] at hr
     refine cnd (λ h4=>?_) (λ h4=>?_)
     ·rw [if_pos h4] at hr; cases hr; exact rfl
     ·rw [if_neg (λ hh=>hh.elim h4.1 h4.2)] at hr
      refine cl (c_VCompare a b) ?_
      refine cnd (λ h5=>?_) (λ h5=>?_)
      ·rw [if_pos h5] at hr
       refine cl (c_truth (decide (cmpV a b<0))) ?_
       cases hr; exact rfl
      ·rw [if_neg h5] at hr
       refine cnd (λ h6=>?_) (λ h6=>?_)
       ·rw [if_pos h6] at hr
        refine cl (c_truth (decide (cmpV a b≤0))) ?_
        cases hr; exact rfl
       ·rw [if_neg h6] at hr
        refine cnd (λ h7=>?_) (λ h7=>?_)
        ·rw [if_pos h7] at hr
         refine cl (c_truth (decide (0<cmpV a b))) ?_
         cases hr; exact rfl
        ·rw [if_neg h7] at hr
         refine cl (c_truth (decide (0≤cmpV a b))) ?_
         cases hr; exact rfl
set_option maxHeartbeats 1000000 in
theorem c_compares_err (op:Int) (a b:Val) (x:Int) (hr:cmpE op a b = .error x) (w0:World) (h0:View) (hv:VLe h0 (Full w0)) :
  Calls Tryz.prog 184 #[.int .i64 op,.agg (valC a).toArray,.agg (valC b).toArray] w0 (Pan (ech x) w0):=by
 refine entR (args:=[.int .i64 op,.agg (valC a).toArray,.agg (valC b).toArray]) (h0:=h0) (kp:=λ ch=>ch=ech x) TT_ok [] [] Tryz.func184 rfl Tryz.ntmps184 rfl rfl hv (λ ch w hk hw=>⟨by rw [hk],hw⟩) ?_
 intro b1 b2 b3
 cases hof:ofG (kinK a b) [a,b] false with
 | error y =>
  rw [cmpE,hof] at hr
  cases hr
  exact cP TT_ok (λ w _=>c_kin_err a b x hof w _ (VLe.refl _))
 | ok nl =>
  rw [cmpE,hof] at hr
  simp only at hr
  refine cl (c_kin_ok a b nl hof) ?_
  refine cnd (λ h=>?_) (λ h=>?_)
  ·rw [if_pos h] at hr; cases hr
  ·rw [if_neg h] at hr
   refine cnd (λ h2=>?_) (λ h2=>?_)
   ·rw [if_pos h2] at hr; cases hr
   ·rw [if_neg h2] at hr
    refine cnd (λ h3=>?_) (λ h3=>?_)
    ·rw [if_pos h3] at hr
     cases hr
     exact cP TT_ok (λ w _=>c_raiseX 14 (by decide) w)
    ·rw [if_neg h3] at hr
     exfalso
     split at hr
     ·cases hr
     ·split at hr
      ·cases hr
      ·split at hr
       ·cases hr
       ·split at hr <;> cases hr
end Go.Proofs.YtbmmnalndollkaaGreatDoor
set_option maxRecDepth 100000
namespace Go.Proofs.YtbmmnalndollkaaGreatDoor
open Go Go.Dx Go.RowKit
theorem name_here {s:List UInt8} {l:List Col} {row:List Val} {i:Nat} (h:i<l.length) (h2:i<row.length) (h1:(l.getD i c0).name=s):nameG s (l.drop i) (row.drop i) = .ok (row.getD i v0):=by
 rw [List.drop_eq_getElem_cons h,List.drop_eq_getElem_cons h2,← getD_lt l i c0 h,← getD_lt row i v0 h2,nameG,if_pos h1]
theorem name_next {s:List UInt8} {l:List Col} {row:List Val} {i:Nat} (h:i<l.length) (h2:i<row.length) (h1:¬ (l.getD i c0).name=s):nameG s (l.drop i) (row.drop i)=nameG s (l.drop (i+1)) (row.drop (i+1)):=by
 rw [List.drop_eq_getElem_cons h,List.drop_eq_getElem_cons h2,← getD_lt l i c0 h,nameG,if_neg h1]
theorem name_end {s:List UInt8} {l:List Col} {row:List Val} {i:Nat} (h:¬ i<l.length):nameG s (l.drop i) (row.drop i) = .error 13:=by
 rw [List.drop_of_length_le (l:=l) (by omega)]; cases row.drop i <;> rfl
def scC (ad:Option Addr) (n cap:Nat) (ad2:Option Addr) (n2 cap2:Nat):List Value:=[.slice ad n cap,.slice ad2 n2 cap2]
theorem c_name_ok (ad:Option Addr) (cap:Nat) (l:List Col) (ad2:Option Addr) (cap2:Nat) (row:List Val) (s:List UInt8) (v:Val) (hlr:l.length=row.length) (hr:nameG s l row = .ok v) (hl:l.length≤1000000) (w0:World) (h0:View) (hv:VLe h0 (Full w0))
  (hb:SlC 66 3 (flatR colC) h0 (.slice ad l.length cap) l) (hb2:SlC 52 3 (flatR valC) h0 (.slice ad2 row.length cap2) row) :
  Calls Tryz.prog 177 #[.agg (scC ad l.length cap ad2 row.length cap2).toArray,vs s] w0 (Ret w0 h0 λ u _=>u = .agg (valC v).toArray):=by
 refine ent (args:=[.agg (scC ad l.length cap ad2 row.length cap2).toArray,vs s]) TT_ok [] [] Tryz.func177 rfl Tryz.ntmps177 rfl rfl hv ?_
 intro b1 b2
 refine w_loop TT_ok (λ k:Nat=>[(10,.v (.int .i64 k))]) 0 (λ k=>k≤l.length∧nameG s (l.drop k) (row.drop k) = .ok v) (λ k=>l.length - k) ?_
 refine And.intro ⟨⟨Nat.zero_le _,hr⟩,gs⟩ ?_
 intro k ⟨hk,hg⟩
 refine cnd (λ h=>?_) (λ h=>?_)
 ·have hk':k<l.length:=by omega
  refine ixs hb k c0 ?_
  intro b3
  refine cnd (λ h1=>?_) (λ h1=>?_)
  ·rw [name_here hk' (by omega) h1] at hg
   refine ixs hb2 k v0 ?_
   cases hg; exact rfl
  ·rw [name_next hk' (by omega) h1] at hg
   refine wi ?_
   exact ⟨k+1,⟨⟨hk',hg⟩,by omega⟩,gs⟩
 ·rw [name_end (by omega)] at hg; cases hg
theorem c_name_err (ad:Option Addr) (cap:Nat) (l:List Col) (ad2:Option Addr) (cap2:Nat) (row:List Val) (s:List UInt8) (x:Int) (hlr:l.length=row.length) (hr:nameG s l row = .error x) (hl:l.length≤1000000) (w0:World) (h0:View) (hv:VLe h0 (Full w0))
  (hb:SlC 66 3 (flatR colC) h0 (.slice ad l.length cap) l) (hb2:SlC 52 3 (flatR valC) h0 (.slice ad2 row.length cap2) row) :
  Calls Tryz.prog 177 #[.agg (scC ad l.length cap ad2 row.length cap2).toArray,vs s] w0 (Pan (ech x) w0):=by
 refine entR (args:=[.agg (scC ad l.length cap ad2 row.length cap2).toArray,vs s]) (h0:=h0) (kp:=λ ch=>ch=ech x) TT_ok [] [] Tryz.func177 rfl Tryz.ntmps177 rfl rfl hv (λ ch w hk hw=>⟨by rw [hk],hw⟩) ?_
 intro b1 b2
 refine w_loop TT_ok (λ k:Nat=>[(10,.v (.int .i64 k))]) 0 (λ k=>k≤l.length∧nameG s (l.drop k) (row.drop k) = .error x) (λ k=>l.length - k) ?_
 refine And.intro ⟨⟨Nat.zero_le _,hr⟩,gs⟩ ?_
 intro k ⟨hk,hg⟩
 refine cnd (λ h=>?_) (λ h=>?_)
 ·have hk':k<l.length:=by omega
  refine ixs hb k c0 ?_
  intro b3
  refine cnd (λ h1=>?_) (λ h1=>?_)
  ·rw [name_here hk' (by omega) h1] at hg; cases hg
  ·rw [name_next hk' (by omega) h1] at hg
   refine wi ?_
   exact ⟨k+1,⟨⟨hk',hg⟩,by omega⟩,gs⟩
 ·rw [name_end (by omega)] at hg
  cases hg
  exact cP TT_ok (λ w _=>c_raiseX 13 (by decide) w)
end Go.Proofs.YtbmmnalndollkaaGreatDoor
set_option maxRecDepth 100000
namespace Go.Proofs.YtbmmnalndollkaaGreatDoor
open Go Go.Dx Go.RowKit
theorem vs_inj {a b:List UInt8} (h:vs a=vs b):a=b:=by simpa [vs] using h
theorem RX.xl {h:View} {op:Int} {v:Val} {s:List UInt8} {ad:Option Addr} {n cap:Nat} {x:Ex} (hx:RX h (exC op v s (.slice ad n cap)) x):op=x.op∧v=x.v∧s=x.s∧n=x.l.length∧i64 x.op∧valB x.v∧XL h ad cap x.l:=by
 obtain ⟨ad',cap',e,h1,h2,h3⟩:=hx.inv
 simp only [exC,List.cons.injEq,Value.int.injEq,Value.slice.injEq,true_and,and_true] at e
 obtain ⟨e1,e2,e3,e4,e5,e6,e7,e8⟩:=e
 subst e6; subst e8
 refine ⟨e1,?_,vs_inj e5,e7,h1,h2,h3⟩
 have:=vs_inj e4
 cases v; cases hv:x.v
 rw [hv] at e2 e3 this
 simp only at e2 e3 this
 rw [e2,e3,this]
theorem ixx {c:Cx} {F:FV} {n:Nat} {ad:Option Addr} {cap:Nat} {l:List Ex} {i:Int} {X:Nat→List Value→Prop} (H:XL c.h0 ad cap l) (j:Nat)
  (k:∀ a2 c2,RX c.h0 (exC (l.getD j ex0).op (l.getD j ex0).v (l.getD j ex0).s (.slice a2 (l.getD j ex0).l.length c2)) (l.getD j ex0)→X j (exC (l.getD j ex0).op (l.getD j ex0).v (l.getD j ex0).s (.slice a2 (l.getD j ex0).l.length c2)))
  (h:i=(j:Int)∧j<l.length:=by omega) (hn:n=l.length:=by rfl):∃ (j:Nat) (cs:List Value),(i=(j:Int)∧j<n∧ElC c.h0 F ad (j*6) cs)∧X j cs:=by
 obtain ⟨g,off,cs,ha,hr,_,hc⟩:=H.at h.2
 obtain ⟨a2,c2,rfl,_⟩:=hr.inv
 subst hn
 exact ⟨j,_,⟨h.1,h.2,λ v hv _=>⟨by rw [ha]; rfl,λ w hw=>by rw [ha]; exact hc w (hv.trans hw)⟩⟩,k a2 c2 hr⟩
theorem c_name (ad:Option Addr) (cap:Nat) (l:List Col) (ad2:Option Addr) (cap2:Nat) (row:List Val) (s:List UInt8) (hlr:l.length=row.length) (hl:l.length≤1000000) (w0:World) (h0:View) (hv:VLe h0 (Full w0))
  (hb:SlC 66 3 (flatR colC) h0 (.slice ad l.length cap) l) (hb2:SlC 52 3 (flatR valC) h0 (.slice ad2 row.length cap2) row) :
  Calls Tryz.prog 177 #[.agg (scC ad l.length cap ad2 row.length cap2).toArray,vs s] w0 (RetE w0 h0 (nameG s l row)):=by
 cases hr:nameG s l row with
 | ok v=>exact c_name_ok ad cap l ad2 cap2 row s v hlr hr hl w0 h0 hv hb hb2
 | error x=>exact c_name_err ad cap l ad2 cap2 row s x hlr hr hl w0 h0 hv hb hb2
theorem c_truths (op:Int) (a b:Val) (w0:World) (h0:View) (hv:VLe h0 (Full w0)):Calls Tryz.prog 183 #[.int .i64 op,.agg (valC a).toArray,.agg (valC b).toArray] w0 (RetE w0 h0 (trusE op a b)):=by
 cases hr:trusE op a b with
 | ok v=>exact c_truths_ok op a b v hr w0 h0 hv
 | error x=>exact c_truths_err op a b x hr w0 h0 hv
theorem c_compares (op:Int) (a b:Val) (w0:World) (h0:View) (hv:VLe h0 (Full w0)):Calls Tryz.prog 184 #[.int .i64 op,.agg (valC a).toArray,.agg (valC b).toArray] w0 (RetE w0 h0 (cmpE op a b)):=by
 cases hr:cmpE op a b with
 | ok v=>exact c_compares_ok op a b v hr w0 h0 hv
 | error x=>exact c_compares_err op a b x hr w0 h0 hv
set_option maxHeartbeats 2000000 in
theorem c_eval (ad:Option Addr) (cap:Nat) (l:List Col) (ad2:Option Addr) (cap2:Nat) (row:List Val) (hlr:l.length=row.length) (hl:l.length≤1000000) (hrow:∀ v∈row,okV v) (h0:View)
  (hb:SlC 66 3 (flatR colC) h0 (.slice ad l.length cap) l) (hb2:SlC 52 3 (flatR valC) h0 (.slice ad2 row.length cap2) row):∀ (k:Nat) (x:Ex) (ax:Option Addr) (cx:Nat),
  RX h0 (exC x.op x.v x.s (.slice ax x.l.length cx)) x→rightS x=true→SizeOf.sizeOf x<k→∀ w0:World,VLe h0 (Full w0) →
  Calls Tryz.prog 130 #[.agg (scC ad l.length cap ad2 row.length cap2).toArray,.agg (exC x.op x.v x.s (.slice ax x.l.length cx)).toArray] w0 (RetE w0 h0 (evX l row k x)):=by
 intro k
 induction k with
 | zero=>intro x ax cx hx hr hk; omega
 | succ k ih =>
  intro x ax cx hx hr hk w0 hv
  obtain ⟨_,_,_,_,ho,hvb,hxl⟩:=hx.xl
  refine entX (r:=evX l row (k+1) x) (args:=[.agg (scC ad l.length cap ad2 row.length cap2).toArray,.agg (exC x.op x.v x.s (.slice ax x.l.length cx)).toArray]) TT_ok [1000006,1000015,1000016,1000017] [] Tryz.func130 rfl Tryz.ntmps130 rfl rfl hv ?_
  intro b2 b3 b4
  refine cnd (λ h1=>?_) (λ h1=>?_)
  ·exact ⟨x.v,by rw [evX,if_pos h1],rfl⟩
  refine cnd (λ h2=>?_) (λ h2=>?_)
  ·refine cX TT_ok (λ w hw=>c_name ad cap l ad2 cap2 row x.s hlr hl w h0 hw hb hb2) (λ y hy=>⟨y,by rw [evX,if_neg h1,if_pos h2,hy],rfl⟩) (λ v hy=>?_)
   exact ⟨v,by rw [evX,if_neg h1,if_pos h2,hy],rfl⟩
  obtain ⟨hop,hlen,hch⟩:=right_sub hr h1 h2
  have hc:=cnt_pos hop
  have IH:∀ i,i<x.l.length→∀ a2 c2,RX h0 (exC (x.l.getD i ex0).op (x.l.getD i ex0).v (x.l.getD i ex0).s (.slice a2 (x.l.getD i ex0).l.length c2)) (x.l.getD i ex0)→∀ w,VLe h0 (Full w) →
    Calls Tryz.prog 130 #[.agg (scC ad l.length cap ad2 row.length cap2).toArray,.agg (exC (x.l.getD i ex0).op (x.l.getD i ex0).v (x.l.getD i ex0).s (.slice a2 (x.l.getD i ex0).l.length c2)).toArray] w (RetE w h0 (evX l row k (x.l.getD i ex0))):=λ i hi a2 c2 hx2 w hw =>
   ih _ a2 c2 hx2 (hch _ (getD_mem x.l i ex0 hi)) (by have:=Ex.lt (getD_mem x.l i ex0 hi); omega) w hw
  have good:∀ i,i<x.l.length→∀ v,evX l row k (x.l.getD i ex0) = .ok v→okV v:=λ i hi v e=>by
   obtain ⟨_,_,cs',_,hx',_⟩:=hxl.at hi
   exact evX_good hrow k _ cs' v hx' (hch _ (getD_mem x.l i ex0 hi)) e
  have ev1:evX l row (k+1) x=match evX l row k (x.l.getD 0 ex0) with
   | .error e => .error e
   | .ok a =>
    if x.op=3 then (match ofG 1 [a] false with
     | .error e => .error e
     | .ok true => .ok a
     | .ok false=>numR (ovr (0 - a.n)))
    else if x.op=16 then (match ofG 3 [a] false with
     | .error e => .error e
     | .ok _=>if a=truV true then evX l row k (x.l.getD 1 ex0) else evX l row k (x.l.getD 2 ex0))
    else match evX l row k (x.l.getD 1 ex0) with
     | .error e => .error e
     | .ok b =>
      if x.op=4∨x.op=5∨x.op=6∨x.op=7 then sumsE x.op a b
      else if x.op=14∨x.op=15 then trusE x.op a b
      else cmpE x.op a b:=by rw [evX,if_neg h1,if_neg h2]; rfl
  cases ha:evX l row k (x.l.getD 0 ex0) with
  | error y =>
   rw [ha] at ev1
   refine regPA TT_ok 5 (ch:=ech y) ⟨y,ev1,rfl⟩ ?_
   refine ixx hxl 0 (λ a2 c2 hx2=>?_)
   exact ⟨_,rfl,λ w hS=>RetE.err (IH 0 (by omega) a2 c2 hx2 w hS.st.base) ha⟩
  | ok a =>
   rw [ha] at ev1
   have ga:=good 0 (by omega) a ha
   simp only at ev1
   refine regA TT_ok 6 ?_
   refine ixx hxl 0 (λ a2 c2 hx2=>?_)
   refine cb (λ w hw=>RetE.ok (IH 0 (by omega) a2 c2 hx2 w hw) ha) ?_
   intro b5
   refine cnd (λ h3=>?_) (λ h3=>?_)
   ·rw [if_pos h3] at ev1
    intro b30
    refine cXo TT_ok (r:=ofG 1 [a] false) (λ w hS=>⟨_,c_of 1 _ 1 [a] (by simp) w (Full w) (VLe.refl _) (hS.row (k:=30) (l:=[a]) (g:=valC) (hk:=rfl) (hcs:=rfl) (hc:=Nat.le_refl 1))⟩) (λ y hy=>⟨y,by rw [ev1,hy],rfl⟩) (λ nl hy=>?_)
    rw [hy] at ev1
    refine cnd (λ h4=>?_) (λ h4=>?_)
    ·subst h4
     exact ⟨a,ev1,rfl⟩
    ·subst h4
     refine cl (c_ESub 0 a.n ⟨by decide,by decide⟩ ga.2.2) ?_
     refine cX TT_ok (λ w hw=>c_evNumber _ _ w h0 hw) (λ y hy=>⟨y,by rw [ev1]; exact hy,rfl⟩) (λ v hy=>?_)
     exact ⟨v,by rw [ev1]; exact hy,rfl⟩
   rw [if_neg h3] at ev1
   refine cnd (λ h4=>?_) (λ h4=>?_)
   ·rw [if_pos h4] at ev1
    have hl3:=hc.2.2.2 h4
    intro b42
    refine cXo TT_ok (r:=ofG 3 [a] false) (λ w hS=>⟨_,c_of 3 _ 1 [a] (by simp) w (Full w) (VLe.refl _) (hS.row (k:=42) (l:=[a]) (g:=valC) (hk:=rfl) (hcs:=rfl) (hc:=Nat.le_refl 1))⟩) (λ y hy=>⟨y,by rw [ev1,hy],rfl⟩) (λ nl hy=>?_)
    rw [hy] at ev1
    simp only at ev1
    refine And.intro (by kernel_rfl) ?_
    refine cl (c_truth true) ?_
    refine aq eqV a (truV true) ?_
    refine cnd (A:=CP _ _ _ _ _ _ _ _) (C:=CP _ _ _ _ _ _ _ _) (λ h5=>?_) (λ h5=>?_)
    ·rw [if_pos h5] at ev1
     cases hb1:evX l row k (x.l.getD 1 ex0) with
     | error y =>
      refine regP TT_ok 5 (ch:=ech y) ⟨y,by rw [ev1,hb1],rfl⟩ ?_
      refine ixx hxl 1 (λ a2 c2 hx2=>?_)
      exact ⟨_,rfl,λ w hS=>RetE.err (IH 1 (by omega) a2 c2 hx2 w hS.st.base) hb1⟩
     | ok b =>
      refine regD TT_ok ?_
      refine And.intro (by kernel_rfl) ?_
      refine ixx hxl 1 (λ a2 c2 hx2=>?_)
      refine cb (λ w hw=>RetE.ok (IH 1 (by omega) a2 c2 hx2 w hw) hb1) ?_
      exact ⟨b,by rw [ev1,hb1],rfl⟩
    ·rw [if_neg h5] at ev1
     cases hb1:evX l row k (x.l.getD 2 ex0) with
     | error y =>
      refine regP TT_ok 5 (ch:=ech y) ⟨y,by rw [ev1,hb1],rfl⟩ ?_
      refine ixx hxl 2 (λ a2 c2 hx2=>?_)
      exact ⟨_,rfl,λ w hS=>RetE.err (IH 2 (by omega) a2 c2 hx2 w hS.st.base) hb1⟩
     | ok b =>
      refine regD TT_ok ?_
      refine And.intro (by kernel_rfl) ?_
      refine ixx hxl 2 (λ a2 c2 hx2=>?_)
      refine cb (λ w hw=>RetE.ok (IH 2 (by omega) a2 c2 hx2 w hw) hb1) ?_
      exact ⟨b,by rw [ev1,hb1],rfl⟩
   rw [if_neg h4] at ev1
   have hl2:=hc.2.2.1 (by omega)
   cases hb1:evX l row k (x.l.getD 1 ex0) with
   | error y =>
    rw [hb1] at ev1
    refine regPA TT_ok 5 (ch:=ech y) ⟨y,ev1,rfl⟩ ?_
    refine ixx hxl 1 (λ a2 c2 hx2=>?_)
    exact ⟨_,rfl,λ w hS=>RetE.err (IH 1 (by omega) a2 c2 hx2 w hS.st.base) hb1⟩
   | ok b =>
    rw [hb1] at ev1
    have gb:=good 1 (by omega) b hb1
    simp only at ev1
    refine regA TT_ok 6 ?_
    refine ixx hxl 1 (λ a2 c2 hx2=>?_)
    refine cb (λ w hw=>RetE.ok (IH 1 (by omega) a2 c2 hx2 w hw) hb1) ?_
    intro b6
    refine cnd (λ h5=>?_) (λ h5=>?_)
    ·refine cndT (decide_eq_true h5) ?_
     refine cX TT_ok (λ w hw=>c_sums x.op a b ga.2.2 gb.2.2 (by have:=len_of ga; omega) (by have:=len_of gb; omega) w h0 hw) (λ y hy=>⟨y,by rw [ev1,if_pos (by omega)]; exact hy,rfl⟩) (λ v hy=>?_)
     exact ⟨v,by rw [ev1,if_pos (by omega)]; exact hy,rfl⟩
    refine cnd (λ h6=>?_) (λ h6=>?_)
    ·refine cndT (decide_eq_true h6) ?_
     refine cX TT_ok (λ w hw=>c_sums x.op a b ga.2.2 gb.2.2 (by have:=len_of ga; omega) (by have:=len_of gb; omega) w h0 hw) (λ y hy=>⟨y,by rw [ev1,if_pos (by omega)]; exact hy,rfl⟩) (λ v hy=>?_)
     exact ⟨v,by rw [ev1,if_pos (by omega)]; exact hy,rfl⟩
    refine cnd (λ h7=>?_) (λ h7=>?_)
    ·refine cndT (decide_eq_true h7) ?_
     refine cX TT_ok (λ w hw=>c_sums x.op a b ga.2.2 gb.2.2 (by have:=len_of ga; omega) (by have:=len_of gb; omega) w h0 hw) (λ y hy=>⟨y,by rw [ev1,if_pos (by omega)]; exact hy,rfl⟩) (λ v hy=>?_)
     exact ⟨v,by rw [ev1,if_pos (by omega)]; exact hy,rfl⟩
    refine cnd (λ h8=>?_) (λ h8=>?_)
    ·refine cX TT_ok (λ w hw=>c_sums x.op a b ga.2.2 gb.2.2 (by have:=len_of ga; omega) (by have:=len_of gb; omega) w h0 hw) (λ y hy=>⟨y,by rw [ev1,if_pos (by omega)]; exact hy,rfl⟩) (λ v hy=>?_)
     exact ⟨v,by rw [ev1,if_pos (by omega)]; exact hy,rfl⟩
    refine cnd (λ h9=>?_) (λ h9=>?_)
    ·refine cndT (decide_eq_true h9) ?_
     refine cX TT_ok (λ w hw=>c_truths x.op a b w h0 hw) (λ y hy=>⟨y,by rw [ev1,if_neg (by omega),if_pos (by omega)]; exact hy,rfl⟩) (λ v hy=>?_)
     exact ⟨v,by rw [ev1,if_neg (by omega),if_pos (by omega)]; exact hy,rfl⟩
    refine cnd (λ h10=>?_) (λ h10=>?_)
    ·refine cX TT_ok (λ w hw=>c_truths x.op a b w h0 hw) (λ y hy=>⟨y,by rw [ev1,if_neg (by omega),if_pos (by omega)]; exact hy,rfl⟩) (λ v hy=>?_)
     exact ⟨v,by rw [ev1,if_neg (by omega),if_pos (by omega)]; exact hy,rfl⟩
    refine cX TT_ok (λ w hw=>c_compares x.op a b w h0 hw) (λ y hy=>⟨y,by rw [ev1,if_neg (by omega),if_neg (by omega)]; exact hy,rfl⟩) (λ v hy=>?_)
    exact ⟨v,by rw [ev1,if_neg (by omega),if_neg (by omega)]; exact hy,rfl⟩
end Go.Proofs.YtbmmnalndollkaaGreatDoor
set_option maxRecDepth 100000
namespace Go.Proofs.YtbmmnalndollkaaGreatDoor
open Go Go.Dx Go.RowKit
noncomputable def evalS (l:List Col) (row:List Val) (x:Ex):Val×Int :=
 if rightS x=true∧l.length=row.length∧row.all valOk=true then (match evX l row (SizeOf.sizeOf x+1) x with
  | .ok v=>(v,0)
  | .error e=>(v0,e)) else (v0,2)
def evR (p:Val×Int):Value := .tuple #[.agg (valC p.1).toArray,.int .i64 p.2]
theorem evalS_not {l:List Col} {row:List Val} {x:Ex} (h:¬ (rightS x=true∧l.length=row.length∧row.all valOk=true)):evalS l row x=(v0,2):=if_neg h
theorem res2 {fn:Func} {tmps:Array Value} {b6 b7 t6 t7 ty6 ty7:Nat} {cs:List Value} {u:Value} {w:World} (hr:fn.results=#[.cell t6 ty6,.cell t7 ty7]) (h6:tmps.getD t6 undef = .pointer (some ⟨b6,0,none⟩)) (h7:tmps.getD t7 undef = .pointer (some ⟨b7,0,none⟩))
  (hne:t6≠t7) (c6:w.heap[b6]?=some (.cells cs.toArray ty6 (0,0))) (c7:w.heap[b7]?=some (.cells #[u] ty7 (0,0))) (a6:AggT Tryz.prog ty6 cs.length) (o7:OneT Tryz.prog ty7):(results fn tmps).run Tryz.prog w = .ok (.tuple #[.agg cs.toArray,u]) w:=by
 have e6:(loadVar ty6 ⟨b6,0,none⟩).run Tryz.prog w = .ok (.agg cs.toArray) w:=run_loadA a6 λ j v hj=>by rw [add_mk,cell_row c6,Nat.zero_add]; exact hj
 have e7:(loadVar ty7 ⟨b7,0,none⟩).run Tryz.prog w = .ok u w:=run_load1 o7 (by rw [cell_row (cs:=[u]) c7]; rfl)
 have hF:Fr ({ tmps:=tmps,defers:=[] }:Act) tmps.size [(t6,.val (.pointer (some ⟨b6,0,none⟩))),(t7,.val (.pointer (some ⟨b7,0,none⟩)))]:=by
  refine ⟨rfl,rfl,λ i v hi=>?_⟩
  by_cases h1:t6=i
  ·subst h1; rw [lk_cons_eq] at hi; cases hi; exact h6
  ·rw [lk_cons_ne h1] at hi
   by_cases h2:t7=i
   ·subst h2; rw [lk_cons_eq] at hi; cases hi; exact h7
   ·rw [lk_cons_ne h2] at hi; cases hi
 exact rvs_run (rs:=[.cell t6 ty6,.cell t7 ty7]) hF hr (.cell (ad:=⟨b6,0,none⟩) (by rw [lk_cons_eq]; rfl) e6 (.cell (ad:=⟨b7,0,none⟩) (by rw [lk_cons_ne hne,lk_cons_eq]; rfl) e7 .nil))
set_option maxHeartbeats 1000000 in
theorem c_Eval (x:Ex) (ax:Option Addr) (cx:Nat) (ad:Option Addr) (cap:Nat) (l:List Col) (ad2:Option Addr) (cap2:Nat) (row:List Val) (hl:l.length≤1000000) (hvb:∀ v∈row,valB v) (w0:World) (h0:View) (hv:VLe h0 (Full w0)) (hx:GX h0 ax cx x)
  (hb:SlC 66 3 (flatR colC) h0 (.slice ad l.length cap) l) (hb2:SlC 52 3 (flatR valC) h0 (.slice ad2 row.length cap2) row) :
  Calls Tryz.prog 83 #[.agg (exC x.op x.v x.s (.slice ax x.l.length cx)).toArray,.slice ad l.length cap,.slice ad2 row.length cap2] w0 (Ret w0 h0 λ u _=>u=evR (evalS l row x)):=by
 have hlm:=slc_lm hb2
 refine entD (E:=λ _ _ vs=>tupV vs=evR (evalS l row x)) (args:=[.agg (exC x.op x.v x.s (.slice ax x.l.length cx)).toArray,.slice ad l.length cap,.slice ad2 row.length cap2]) TT_ok [] [] 3 Tryz.func83 rfl Tryz.ntmps83 rfl rfl hv (λ B F vs w hq hS=>hS.st.retv hq) ?_
 intro b3 b6 b7
 refine cb (λ w hw=>c_Check x ax cx w h0 hw hx) ?_
 refine cnd (λ h=>?_) (λ h=>?_)
 ·show _=evR (evalS l row x)
  rw [evalS_not (λ hh=>by
   rcases h with h | h
   ·rw [if_pos hh.1] at h; omega
   ·omega)]
  rfl
 have hr:rightS x=true:=by
  rcases Bool.eq_false_or_eq_true (rightS x) with e | e
  ·exact e
  ·have:=h.1; rw [e] at this; simp at this
 have hlr:l.length=row.length:=by omega
 refine w_loop TT_ok (λ k:Nat=>[(23,.v (.int .i64 k))]) 0 (λ k=>k≤row.length∧∀ j,j<k→valOk (row.getD j v0)=true) (λ k=>row.length - k) ?_
 refine And.intro ⟨⟨Nat.zero_le _,λ j hj=>absurd hj (Nat.not_lt_zero j)⟩,gs⟩ ?_
 intro k ⟨hk,hn⟩
 refine cnd (λ h1=>?_) (λ h1=>?_)
 ·refine ixs hb2 k v0 ?_
  intro b9
  refine cl (c_VCheck (row.getD k v0) (hvb _ (getD_mem row k v0 (by omega)))) ?_
  refine cnd (λ h2=>?_) (λ h2=>?_)
  ·show _=evR (evalS l row x)
   rw [evalS_not (λ hh=>by
    have:=List.all_eq_true.1 hh.2.2 _ (getD_mem row k v0 (by omega))
    rw [if_pos this] at h2; omega)]
   rfl
  ·refine wi ?_
   refine ⟨k+1,⟨⟨by omega,upto_snoc hn ?_⟩,by omega⟩,gs⟩
   rcases Bool.eq_false_or_eq_true (valOk (row.getD k v0)) with e | e
   ·exact e
   ·rw [e] at h2; simp at h2
 have hall:row.all valOk=true:=all_upto v0 (λ j hj=>hn j (by omega))
 have hrow:∀ v∈row,okV v:=λ v hv=>⟨List.all_eq_true.1 hall v hv,hvb v hv⟩
 have hes:evalS l row x=match evX l row (SizeOf.sizeOf x+1) x with
  | .ok v=>(v,0)
  | .error e=>(v0,e):=if_pos ⟨hr,hlr,hall⟩
 intro a w hD hS
 have s1:=hD.fr.kv (t:=1) (v := .slice ad l.length cap) rfl
 have s2:=hD.fr.kv (t:=2) (v := .slice ad2 row.length cap2) rfl
 have s3:=hD.fr.kv (t:=3) (v := .pointer (some ⟨b3,0,none⟩)) rfl
 have s6:=hD.fr.kv (t:=6) (v := .pointer (some ⟨b6,0,none⟩)) rfl
 have s7:=hD.fr.kv (t:=7) (v := .pointer (some ⟨b7,0,none⟩)) rfl
 have c3:=hS.wok.own 3 _ _ _ rfl
 have c6:=hS.wok.own 6 _ _ _ rfl
 have c7:=hS.wok.own 7 _ _ _ rfl
 have hsz:=hD.fr.sz
 have hdf:=hD.fr.df
 have hne:b6≠b7:=λ e=>two_ids (k:=6) (k':=7) rfl (by rw [e]; rfl) (by decide) hS.st.nd
 have f6:=hS.st.fresh b6 (List.mem_filterMap.2 ⟨_,oes_mem (k:=6) rfl rfl,rfl⟩)
 have f7:=hS.st.fresh b7 (List.mem_filterMap.2 ⟨_,oes_mem (k:=7) rfl rfl,rfl⟩)
 have g6:w0.heap.size≤b6:=f6.1.resolve_right (by simp)
 have g7:w0.heap.size≤b7:=f7.1.resolve_right (by simp)
 -- the closure is made,and put off
 refine c_seq (c_reg ?_)
 refine w_mkdefer (vsl:=[.pointer (some ⟨b6,0,none⟩),.pointer (some ⟨b7,0,none⟩)]) (by show [a.tmps.getD 6 undef,a.tmps.getD 7 undef]=_; rw [s6,s7]) hsz rfl ?_
 rw [hdf]
 generalize hfv:Value.func (.func 129) #[] [Value.pointer (some ⟨b6,0,none⟩),Value.pointer (some ⟨b7,0,none⟩)].toArray=fv
 show codeM Md.wp Tryz.prog _ _ _ _
 refine c_seq (c_reg ?_)
 generalize hds:[(⟨.fn (.func 129) [Value.pointer (some ⟨b6,0,none⟩),Value.pointer (some ⟨b7,0,none⟩)].toArray,#[]⟩:Deferred)]=ds
 refine wpList_df (ds:=ds) _ (a.put (some 32) fv) w (λ o ho=>?_) ?_
 ·simp only [List.mem_cons,List.not_mem_nil,or_false] at ho
  rcases ho with rfl | rfl | rfl | rfl | rfl | rfl | rfl
  all_goals first | exact nodef_quiet rfl | exact nodef_call (TT_ok.call rfl)
 have hDp:=Dn.part (L0:=[(1,.v (.slice ad l.length cap)),(2,.v (.slice ad2 row.length cap2)),(3,.o 3 0),(6,.o 6 0),(7,.o 7 0)]) (d:=32) (v:=fv) hD rfl rfl
 have fin:∀ (tm:Array Value) (cs:List Value) (e:Int) (w2:World) (hk:Keep [] w0 w2) (t6:tm.getD 6 undef = .pointer (some ⟨b6,0,none⟩)) (t7:tm.getD 7 undef = .pointer (some ⟨b7,0,none⟩)) (h6:w2.heap[b6]?=some (.cells cs.toArray 52 (0,0))) (h7:w2.heap[b7]?=some (.cells #[.int .i64 e] 36 (0,0))) (hcs:cs.length=3)
   (hres:Value.tuple #[.agg cs.toArray,.int .i64 e]=evR (evalS l row x)),Leaves Tryz.prog Tryz.f83 tm (Ret w0 h0 λ u _=>u=evR (evalS l row x)) [] .returning w2:=by
  intro tm cs e w2 hk t6 t7 h6 h7 hcs hres
  refine ⟨_,res2 (t6:=6) (t7:=7) (ty6:=52) (ty7:=36) Tryz.results83 t6 t7 (by decide) h6 h7 (by rw [hcs]; exact AggT.of (by kernel_rfl) (by kernel_rfl)) (OneT.of (by kernel_rfl)),?_⟩
  exact ⟨_,rfl,hk,hres⟩
 cases hev:evX l row (SizeOf.sizeOf x+1) x with
 | ok v =>
  rw [hev] at hes
  refine runs_wp (c:=⟨Tryz.prog,TT,.wp,38,w0,h0,[],λ _=>False,[],[]⟩) (K:=λ L I B F=>I=[]∧kv L [] B 6=some (.pointer (some ⟨b6,0,none⟩))∧kv L [] B 7=some (.pointer (some ⟨b7,0,none⟩))∧lkA B 6=some (.c b6 52 (valC v))∧lkA B 7=some (.c b7 36 [.int .i64 0])) TT_ok ?_ ?_ (λ _ _ _ h _ _=>h.elim) hDp hS
  ·refine cb (λ w hw=>RetE.ok (c_eval ad cap l ad2 cap2 row hlr hl hrow h0 hb hb2 _ x ax cx (RX.of hx.op hx.v hx.xl) hr (Nat.lt_succ_self _) w hw) hev) ?_
   exact ⟨rfl,rfl,rfl,rfl,rfl⟩
  ·rintro L I B F a2 w2 ⟨rfl,k6,k7,l6,l7⟩ hD2 hS2
   show codeM Md.wp Tryz.prog Code.ret _ _ _
   refine c_ret ?_
   show Leaves Tryz.prog _ a2.tmps _ ds .returning w2
   rw [← hds]
   refine leaves_cons (by simp) (run_invoke (TT_ok.call rfl) _ _ w2) ((c_idle b6 b7 w2).mono ?_)
   rintro en u' w' ⟨rfl,rfl,hw'⟩
   rw [hw']
   exact fin a2.tmps (valC v) 0 w2 hS2.st.keep (hD2.fr.kv k6) (hD2.fr.kv k7) (hS2.wok.own _ _ _ _ l6) (hS2.wok.own _ _ _ _ l7) rfl (by rw [hes]; rfl)
 | error y =>
  rw [hev] at hes
  refine wpList_at 4 ?_
  refine runs_wp (c:=⟨Tryz.prog,TT,.wp,38,w0,h0,[],λ _=>False,[],[]⟩) (K:=λ L I B F=>I=[]∧kv L [] B 6=some (.pointer (some ⟨b6,0,none⟩))∧kv L [] B 7=some (.pointer (some ⟨b7,0,none⟩))∧kv L [] B 35=some (.agg (scC ad l.length cap ad2 row.length cap2).toArray)∧kv L [] B 36=some (.agg (exC x.op x.v x.s (.slice ax x.l.length cx)).toArray) ∧
   lkA B 6=some (.c b6 52 (valC v0))∧lkA B 7=some (.c b7 36 [.int .i64 0])) TT_ok ?_ ?_ (λ _ _ _ h _ _=>h.elim) hDp hS
  ·exact ⟨rfl,rfl,rfl,rfl,rfl,rfl,rfl⟩
  ·rintro L I B F a2 w2 ⟨rfl,k6,k7,k35,k36,l6,l7⟩ hD2 hS2
   have hc:=RetE.err (c_eval ad cap l ad2 cap2 row hlr hl hrow h0 hb hb2 _ x ax cx (RX.of hx.op hx.v hx.xl) hr (Nat.lt_succ_self _) w2 hS2.st.base) hev
   show wpList Tryz.prog _ _ _ a2 w2
   refine wpList_op rfl ?_
   unfold Oper.wp
   have hev2:evs (fl L [] B) [.tmp 35,.tmp 36]=some [.agg (scC ad l.length cap ad2 row.length cap2).toArray,.agg (exC x.op x.v x.s (.slice ax x.l.length cx)).toArray]:=by
    have e35:ev (fl L [] B) (.tmp 35)=some (.agg (scC ad l.length cap ad2 row.length cap2).toArray):=(vl_fl L [] B 35).trans k35
    have e36:ev (fl L [] B) (.tmp 36)=some (.agg (exC x.op x.v x.s (.slice ax x.l.length cx)).toArray):=(vl_fl L [] B 36).trans k36
    simp only [evs,e35,e36]
   rw [run_callf (L:=fl L [] B) (args:=[.tmp 35,.tmp 36]) (TT_ok.call rfl) hev2 (λ z hz u hu=>hD2.fr.ev hu) w2]
   rw [Oper.upon_enter]
   refine hc.mono ?_
   rintro e w3 ⟨rfl,hk3⟩
   show Leaves Tryz.prog _ a2.tmps _ ds (.panicking (ech y)) w3
   rw [← hds]
   have m6:=hS2.wok.own _ _ _ _ l6
   have m7:=hS2.wok.own _ _ _ _ l7
   have n6:w3.heap[b6]?=some (.cells (valC v0).toArray 52 (0,0)):=by rw [hk3.block b6 (Array.getElem?_eq_some_iff.1 m6).1 (by simp)]; exact m6
   have n7:w3.heap[b7]?=some (.cells #[.int .i64 0] 36 (0,0)):=by rw [hk3.block b7 (Array.getElem?_eq_some_iff.1 m7).1 (by simp)]; exact m7
   refine leaves_cons (by simp) (run_invoke (TT_ok.call rfl) _ _ w3) ((c_catch b6 b7 (valC v0) (.int .i64 0) y [] hne w3 n6 rfl n7).mono ?_)
   rintro en u' w4 ⟨rfl,rfl,hk4,h6,h7⟩
   refine fin a2.tmps (valC v0) y w4 ((hS2.st.keep.trans hk3).transIn hk4 λ b hb=>?_) (hD2.fr.kv k6) (hD2.fr.kv k7) h6 h7 rfl (by rw [hes]; rfl)
   rcases List.mem_cons.1 hb with rfl | hb
   ·exact .inl g6
   ·rcases List.mem_cons.1 hb with rfl | hb
    ·exact .inl g7
    ·cases hb
end Go.Proofs.YtbmmnalndollkaaGreatDoor
set_option maxRecDepth 100000
namespace Go.Proofs.YtbmmnalndollkaaGreatDoor
open Go Go.Dx Go.RowKit
theorem c_EvalK {p:Val×Int} (x:Ex) (ax:Option Addr) (cx:Nat) (ad:Option Addr) (cap:Nat) (l:List Col) (ad2:Option Addr) (cap2:Nat) (row:List Val) (hp:evalS l row x=p) (hl:l.length≤1000000) (hvb:∀ v∈row,valB v) (w0:World) (h0:View) (hv:VLe h0 (Full w0)) (hx:GX h0 ax cx x)
  (hb:SlC 66 3 (flatR colC) h0 (.slice ad l.length cap) l) (hb2:SlC 52 3 (flatR valC) h0 (.slice ad2 row.length cap2) row) :
  Calls Tryz.prog 83 #[.agg (exC x.op x.v x.s (.slice ax x.l.length cx)).toArray,.slice ad l.length cap,.slice ad2 row.length cap2] w0 (Ret w0 h0 λ u _=>u=evR p):=by
 subst hp
 exact c_Eval x ax cx ad cap l ad2 cap2 row hl hvb w0 h0 hv hx hb hb2
end Go.Proofs.YtbmmnalndollkaaGreatDoor
set_option maxRecDepth 100000
namespace Go.Proofs.YtbmmnalndollkaaGreatDoor
open Go Go.Dx Go.RowKit
end Go.Proofs.YtbmmnalndollkaaGreatDoor
set_option maxRecDepth 100000
namespace Go.Proofs.YtbmmnalndollkaaGreatDoor
open Go Go.Dx Go.RowKit
end Go.Proofs.YtbmmnalndollkaaGreatDoor
set_option maxRecDepth 100000
namespace Go.Proofs.YtbmmnalndollkaaGreatDoor
open Go Go.Dx Go.RowKit
theorem c_Ror (p q:Int) (w0:World) (h0:View) (hv:VLe h0 (Full w0)):Calls Tryz.prog 212 #[.int .i64 p,.int .i64 q] w0 (Ret w0 h0 λ u _=>u = .int .i64 (eith p q)):=by
 refine ent (args:=[.int .i64 p,.int .i64 q]) TT_ok [] [] Tryz.func212 rfl Tryz.ntmps212 rfl rfl hv ?_
 refine cnd (λ h=>?_) (λ h=>?_)
 ·exact congrArg (Value.int .i64) (by rw [eith,if_neg (by simpa using h)])
 ·exact congrArg (Value.int .i64) (by rw [eith,if_pos h])
set_option maxRecDepth 100000 in
set_option maxHeartbeats 2000000 in
theorem c_Rof (op:Int) (ad:Option Addr) (cap:Nat) (l:List Int) (hop:3≤op∧op≤16) (hlen:(l.length:Int)=cntS op) (w0:World) (h0:View) (hv:VLe h0 (Full w0)) (hb:SlC 50 1 (flatR intC) h0 (.slice ad l.length cap) l):Calls Tryz.prog 166 #[.int .i64 op,.slice ad l.length cap] w0 (Ret w0 h0 λ u _=>u=kiR (ofK (rulS op l))):=by
 have hc:=cnt_pos hop
 have hl1:op=3→l.length=1:=λ h=>by have:=hc.2.1 h; omega
 have hl2:4≤op∧op≤15→l.length=2:=λ h=>by have:=hc.2.2.1 h; omega
 have hl3:op=16→l.length=3:=λ h=>by have:=hc.2.2.2 h; omega
 refine ent (args:=[.int .i64 op,.slice ad l.length cap]) TT_ok [] [17,32] Tryz.func166 rfl Tryz.ntmps166 rfl rfl hv ?_
 refine w_cut TT_ok (λ _:Unit=>[(6,.v (.bool (rulS op l).2)),(7,.v (.int .i64 (rulS op l).1))]) (λ _=>True) ?_
 refine And.intro ?_ ?_
 ·refine cnd (λ h1=>?_) (λ h1=>?_)
  ·have:=hl1 h1
   refine ixs hb 0 0 ?_
   refine cl (c_RFits (l.getD 0 0) 1) ?_
   exact ⟨(),trivial,gs (by rw [rul1 (by omega),all_1 this]; rfl)⟩
  have two:op=5∨op=6∨op=7→rulS op l=(1,fitS (l.getD 0 0) 1&&fitS (l.getD 1 0) 1):=λ h=>by rw [rul1 (by omega),all_2 (hl2 (by omega))]
  refine cnd (λ h2=>?_) (λ h2=>?_)
  ·have:=hl2 (by omega)
   refine cndT (decide_eq_true h2) ?_
   refine ixs hb 0 0 ?_
   refine cl (c_RFits (l.getD 0 0) 1) ?_
   refine ixsg hb 1 0 ?_ (λ _=>by omega)
   refine kg1 ?_
   refine clg (λ _=>c_RFits (l.getD 1 0) 1) ?_
   exact ⟨(),trivial,gs (by rw [two (by omega)]; rfl)⟩
  refine cnd (λ h3=>?_) (λ h3=>?_)
  ·have:=hl2 (by omega)
   refine cndT (decide_eq_true h3) ?_
   refine ixs hb 0 0 ?_
   refine cl (c_RFits (l.getD 0 0) 1) ?_
   refine ixsg hb 1 0 ?_ (λ _=>by omega)
   refine kg1 ?_
   refine clg (λ _=>c_RFits (l.getD 1 0) 1) ?_
   exact ⟨(),trivial,gs (by rw [two (by omega)]; rfl)⟩
  refine cnd (λ h4=>?_) (λ h4=>?_)
  ·have:=hl2 (by omega)
   refine ixs hb 0 0 ?_
   refine cl (c_RFits (l.getD 0 0) 1) ?_
   refine ixsg hb 1 0 ?_ (λ _=>by omega)
   refine kg1 ?_
   refine clg (λ _=>c_RFits (l.getD 1 0) 1) ?_
   exact ⟨(),trivial,gs (by rw [two (by omega)]; rfl)⟩
  refine cnd (λ h5=>?_) (λ h5=>?_)
  ·have:=hl2 (by omega)
   refine w_cut TT_ok (λ _:Unit=>[(7,.v (.int .i64 (addK (l.getD 0 0) (l.getD 1 0))))]) (λ _=>True) ?_
   refine And.intro ?_ ?_
   ·refine And.intro (by kernel_rfl) ?_
    refine ixs hb 0 0 ?_
    refine ixs hb 1 0 ?_
    refine cl (c_Ror (l.getD 0 0) (l.getD 1 0)) ?_
    refine cnd (λ h=>?_) (λ h=>?_)
    ·exact ⟨(),trivial,gs (by rw [addK,if_pos h]; rfl)⟩
    ·exact ⟨(),trivial,gs (by rw [addK,if_neg h]; rfl)⟩
   ·intro _ _
    refine ixs hb 0 0 ?_
    refine cl (c_RFits (l.getD 0 0) (addK (l.getD 0 0) (l.getD 1 0))) ?_
    refine ixsg hb 1 0 ?_ (λ _=>by omega)
    refine kg1 ?_
    refine clg (λ _=>c_RFits (l.getD 1 0) (addK (l.getD 0 0) (l.getD 1 0))) ?_
    exact ⟨(),trivial,gs (by rw [rul2 h5,all_2 this]; rfl)⟩
  refine cnd (λ h6=>?_) (λ h6=>?_)
  ·have:=hl2 (by omega)
   refine cndT (decide_eq_true h6) ?_
   refine And.intro (by kernel_rfl) ?_
   refine ixs hb 0 0 ?_
   refine ixs hb 1 0 ?_
   refine cl (c_RFits (l.getD 0 0) (l.getD 1 0)) ?_
   exact ⟨(),trivial,gs (by rw [rul3 (by omega)]; rfl)⟩
  refine cnd (λ h7=>?_) (λ h7=>?_)
  ·have:=hl2 (by omega)
   refine And.intro (by kernel_rfl) ?_
   refine ixs hb 0 0 ?_
   refine ixs hb 1 0 ?_
   refine cl (c_RFits (l.getD 0 0) (l.getD 1 0)) ?_
   exact ⟨(),trivial,gs (by rw [rul3 (by omega)]; rfl)⟩
  have four:10≤op∧op≤13→rulS op l=(3,fitS (l.getD 0 0) (l.getD 1 0)&&(!decide (l.getD 0 0=3) && !decide (l.getD 1 0=3))):=λ h=>by rw [rul4 h,con_2 (hl2 (by omega))]
  refine cnd (λ h8=>?_) (λ h8=>?_)
  ·have:=hl2 (by omega)
   refine cndT (decide_eq_true h8) ?_
   refine And.intro (by kernel_rfl) ?_
   refine ixs hb 0 0 ?_
   refine ixs hb 1 0 ?_
   refine cl (c_RFits (l.getD 0 0) (l.getD 1 0)) ?_
   refine ixsg hb 0 0 ?_ (λ _=>by omega)
   refine kg1 ?_
   refine ixsg hb 1 0 ?_ (λ _=>by omega)
   refine kg1 ?_
   exact ⟨(),trivial,gs (by rw [four (by omega)]; simp only [Bool.and_assoc]; rfl)⟩
  refine cnd (λ h9=>?_) (λ h9=>?_)
  ·have:=hl2 (by omega)
   refine cndT (decide_eq_true h9) ?_
   refine And.intro (by kernel_rfl) ?_
   refine ixs hb 0 0 ?_
   refine ixs hb 1 0 ?_
   refine cl (c_RFits (l.getD 0 0) (l.getD 1 0)) ?_
   refine ixsg hb 0 0 ?_ (λ _=>by omega)
   refine kg1 ?_
   refine ixsg hb 1 0 ?_ (λ _=>by omega)
   refine kg1 ?_
   exact ⟨(),trivial,gs (by rw [four (by omega)]; simp only [Bool.and_assoc]; rfl)⟩
  refine cnd (λ h10=>?_) (λ h10=>?_)
  ·have:=hl2 (by omega)
   refine cndT (decide_eq_true h10) ?_
   refine And.intro (by kernel_rfl) ?_
   refine ixs hb 0 0 ?_
   refine ixs hb 1 0 ?_
   refine cl (c_RFits (l.getD 0 0) (l.getD 1 0)) ?_
   refine ixsg hb 0 0 ?_ (λ _=>by omega)
   refine kg1 ?_
   refine ixsg hb 1 0 ?_ (λ _=>by omega)
   refine kg1 ?_
   exact ⟨(),trivial,gs (by rw [four (by omega)]; simp only [Bool.and_assoc]; rfl)⟩
  refine cnd (λ h11=>?_) (λ h11=>?_)
  ·have:=hl2 (by omega)
   refine And.intro (by kernel_rfl) ?_
   refine ixs hb 0 0 ?_
   refine ixs hb 1 0 ?_
   refine cl (c_RFits (l.getD 0 0) (l.getD 1 0)) ?_
   refine ixsg hb 0 0 ?_ (λ _=>by omega)
   refine kg1 ?_
   refine ixsg hb 1 0 ?_ (λ _=>by omega)
   refine kg1 ?_
   exact ⟨(),trivial,gs (by rw [four (by omega)]; simp only [Bool.and_assoc]; rfl)⟩
  refine cnd (λ h12=>?_) (λ h12=>?_)
  ·have:=hl2 (by omega)
   refine cndT (decide_eq_true h12) ?_
   refine ixs hb 0 0 ?_
   refine cl (c_RFits (l.getD 0 0) 3) ?_
   refine ixsg hb 1 0 ?_ (λ _=>by omega)
   refine kg1 ?_
   refine clg (λ _=>c_RFits (l.getD 1 0) 3) ?_
   exact ⟨(),trivial,gs (by rw [rul5 (by omega),all_2 this]; rfl)⟩
  refine cnd (λ h13=>?_) (λ h13=>?_)
  ·have:=hl2 (by omega)
   refine ixs hb 0 0 ?_
   refine cl (c_RFits (l.getD 0 0) 3) ?_
   refine ixsg hb 1 0 ?_ (λ _=>by omega)
   refine kg1 ?_
   refine clg (λ _=>c_RFits (l.getD 1 0) 3) ?_
   exact ⟨(),trivial,gs (by rw [rul5 (by omega),all_2 this]; rfl)⟩
  have h16:op=16:=by omega
  have:=hl3 h16
  refine cndT (decide_eq_true h16) ?_
  refine And.intro (by kernel_rfl) ?_
  refine ixs hb 0 0 ?_
  refine cl (c_RFits (l.getD 0 0) 3) ?_
  refine ixsg hb 1 0 ?_ (λ _=>by omega)
  refine kg1 ?_
  refine ixsg hb 2 0 ?_ (λ _=>by omega)
  refine kg1 ?_
  refine clg (λ _=>c_RFits (l.getD 1 0) (l.getD 2 0)) ?_
  refine And.intro (by kernel_rfl) ?_
  refine ixs hb 1 0 ?_
  refine ixs hb 2 0 ?_
  refine cl (c_Ror (l.getD 1 0) (l.getD 2 0)) ?_
  exact ⟨(),trivial,gs (by rw [rul6 (by omega)]; rfl)⟩
 ·intro _ _
  refine cnd (λ h1=>?_) (λ h1=>?_)
  ·rw [ofK,if_neg (by rw [h1]; decide)]; exact rfl
  ·rw [ofK,if_pos h1]; exact rfl
set_option maxRecDepth 100000 in
set_option maxHeartbeats 2000000 in
theorem c_Rkind (adc:Option Addr) (capc:Nat) (cl:List Col) (h0:View) (hcl:SlC 66 3 (flatR colC) h0 (.slice adc cl.length capc) cl):∀ (n:Nat) (x:Ex) (ad:Option Addr) (cap:Nat),SizeOf.sizeOf x<n→rightS x=true→GX h0 ad cap x→∀ w0:World,VLe h0 (Full w0) →
  Calls Tryz.prog 109 #[.agg (exC x.op x.v x.s (.slice ad x.l.length cap)).toArray,.slice adc cl.length capc] w0 (Ret w0 h0 λ u _=>u=kiR (kindS cl x)):=by
 intro n
 induction n with
 | zero=>intro x ad cap h; omega
 | succ n ih =>
  intro x ad cap hk hr hx w0 hv
  have hsm:=hx.sm.parts
  refine ent (args:=[.agg (exC x.op x.v x.s (.slice ad x.l.length cap)).toArray,.slice adc cl.length capc]) TT_ok [55] [] Tryz.func109 rfl Tryz.ntmps109 rfl rfl hv ?_
  intro b2
  refine cnd (λ h1=>?_) (λ h1=>?_)
  ·rw [kind_eq,if_pos h1]; exact rfl
  refine cnd (λ h2=>?_) (λ h2=>?_)
  ·rw [kind_eq,if_neg h1,if_pos h2]
   refine cb (λ w hw=>c_RAt adc capc cl x.s w h0 hw hcl) ?_
   refine cnd (λ h3=>?_) (λ h3=>?_)
   ·rw [if_pos h3]; exact rfl
   ·rw [if_neg h3]
    obtain ⟨m,hm,hml⟩:=at_get h3
    refine ixs hcl m c0 ?_ (by omega)
    rw [hm]; exact rfl
  obtain ⟨hop,hlen,hch⟩:=right_sub hr h1 h2
  refine nilC 900 50 1 ?_
  refine w_loopB TT_ok (λ z:Option Addr×Nat×Nat=>[(7,.v (.slice z.1 z.2.1 z.2.2)),(8,.v (.int .i64 z.2.1))]) (λ z=>[(900,.e (bufE 50 1 (.slice z.1 z.2.1 z.2.2) (((x.l.take z.2.1).map λ y=>(kindS cl y).1).map intC).flatten)),(2,.c b2 114 (exC x.op x.v x.s (.slice ad x.l.length cap)))]) (none,0,0)
   (λ z=>z.2.1≤x.l.length∧∀ j,j<z.2.1→(kindS cl (x.l.getD j ex0)).2=0) (λ z=>x.l.length - z.2.1) ?_
  refine And.intro ⟨⟨Nat.zero_le _,λ j h=>absurd h (Nat.not_lt_zero _)⟩,gs⟩ ?_
  rintro ⟨a0,k,cp⟩ ⟨hkl,hz⟩
  dsimp only at hkl hz ⊢
  refine cnd (λ h3=>?_) (λ h3=>?_)
  ·have hk':k<x.l.length:=by omega
   have hm:=getD_mem x.l k ex0 hk'
   refine ixE hx.xl k (λ a2 c2 g1 g2 g3=>?_)
   refine cb (λ w hw=>ih _ a2 c2 (by have:=Ex.lt hm; omega) (hch _ hm) ⟨g1,g2,g3,hsm.2.2.2 _ hm⟩ w hw) ?_
   refine cnd (λ h4=>?_) (λ h4=>?_)
   ·rw [kind_er h1 h2 hk' hz h4]; exact rfl
   ·intro b53
    refine ap TT_ok 900 (AppT.of (bytes:=8) (sz:=0) (by kernel_rfl) (by kernel_rfl) (by kernel_rfl)) rfl rfl rfl rfl rfl rfl rfl (by rw [flatI,List.length_map,List.length_take]; show (_+1)*9≤_; omega) (λ a1 n1 c1 e1=>?_)
    refine wi ?_
    have hn1:n1=k+1:=by
     rw [flatI,List.length_map,List.length_take] at e1
     have e1:n1*1=min k x.l.length+1:=e1
     omega
    subst hn1
    refine ⟨(a1,k+1,c1),⟨⟨hk',upto_snoc hz h4⟩,?_⟩,?_⟩
    ·show x.l.length - (k+1)<x.l.length - k; omega
    ·refine gs rfl ?_
     show [(900,OB.e (bufE 50 1 (.slice a1 (k+1) c1) _)),_]=[(900,OB.e (bufE 50 1 (.slice a1 (k+1) c1) _)),_]
     rw [take_snocD x.l k ex0 hk',List.map_append,List.map_append,List.flatten_append]; rfl
  ·have hkk:k=x.l.length:=by omega
   subst hkk
   have hks:=kind_ok (cl:=cl) h1 h2 hz
   refine And.intro rfl ?_
   refine sealW (g:=intC) (l:=x.l.map λ y=>(kindS cl y).1) 900 (by rw [List.take_length]; rfl) (by rw [List.length_map]) ?_
   refine goW TT_ok ?_
   refine cf (x:=kiR (ofK (rulS x.op (x.l.map λ y=>(kindS cl y).1)))) (λ w v g1 g2 g3=>by
    have:=c_Rof x.op a0 cp (x.l.map λ y=>(kindS cl y).1) hop (by rw [List.length_map]; exact hlen) w v g3 (by rw [List.length_map]; exact g2.2)
    rw [List.length_map] at this
    exact this) ?_
   rw [hks]
   exact rfl
theorem c_RKind (adc:Option Addr) (capc:Nat) (cl:List Col) (x:Ex) (ad:Option Addr) (cap:Nat) (w0:World) (h0:View) (hv:VLe h0 (Full w0)) (hx:GX h0 ad cap x) (hcl:SlC 66 3 (flatR colC) h0 (.slice adc cl.length capc) cl) :
  Calls Tryz.prog 69 #[.agg (exC x.op x.v x.s (.slice ad x.l.length cap)).toArray,.slice adc cl.length capc] w0 (Ret w0 h0 λ u _=>u=kiR (kindT cl x)):=by
 refine ent (args:=[.agg (exC x.op x.v x.s (.slice ad x.l.length cap)).toArray,.slice adc cl.length capc]) TT_ok [] [] Tryz.func69 rfl Tryz.ntmps69 rfl rfl hv ?_
 intro b2
 refine cb (λ w hw=>c_RRightX _ x ad cap (Nat.lt_succ_self _) w h0 hw hx) ?_
 refine cnd (λ h=>?_) (λ h=>?_)
 ·have e:kindT cl x=(0,2):=by rw [kindT,if_neg (by rw [h]; decide)]
  rw [e]; exact rfl
 ·have e:kindT cl x=kindS cl x:=by rw [kindT,if_pos h]
  rw [e]
  refine cb (x := .tuple #[.int .i64 (kindS cl x).1,.int .i64 (kindS cl x).2]) (λ w hw=>c_Rkind adc capc cl h0 hcl _ x ad cap (Nat.lt_succ_self _) h hx w hw) ?_
  show tupV _=_
  rfl
end Go.Proofs.YtbmmnalndollkaaGreatDoor
set_option maxRecDepth 100000
namespace Go.Proofs.YtbmmnalndollkaaGreatDoor
open Go Go.Dx Go.RowKit
def parE (t:Tst) (aa:Option Addr) (ca:Nat) (ab:Option Addr) (cb:Nat):List (Ex×Option Addr×Nat):=if t.k=6 then [(t.a,aa,ca),(t.b,ab,cb)] else [(t.a,aa,ca)]
def parT (t:Tst):List Ex:=if t.k=6 then [t.a,t.b] else [t.a]
theorem parE_map (t:Tst) (aa:Option Addr) (ca:Nat) (ab:Option Addr) (cb:Nat):(parE t aa ca ab cb).map (·.1)=parT t:=by
 unfold parE parT; split <;> rfl
theorem parE_le (t:Tst) (aa:Option Addr) (ca:Nat) (ab:Option Addr) (cb:Nat):(parE t aa ca ab cb).length≤2:=by
 unfold parE; split <;> simp
theorem parE_ex {h:View} {t:Tst} {aa:Option Addr} {ca:Nat} {ab:Option Addr} {cb:Nat} (ha:EX h aa ca t.a) (hb:EX h ab cb t.b) (hg:GT t):∀ p∈parE t aa ca ab cb,GX h p.2.1 p.2.2 p.1:=by
 intro p hp
 unfold parE at hp
 split at hp
 ·simp only [List.mem_cons,List.mem_nil_iff,or_false] at hp
  rcases hp with rfl | rfl
  ·exact ha.gx hg.1
  ·exact hb.gx hg.2.1
 ·simp only [List.mem_cons,List.mem_nil_iff,or_false] at hp
  subst hp
  exact ha.gx hg.1
abbrev xe0:Ex×Option Addr×Nat:=(ex0,none,0)
theorem c_parts (t:Tst) (aa:Option Addr) (ca:Nat) (ab:Option Addr) (cb':Nat) (w0:World) (h0:View) (hv:VLe h0 (Full w0)):Calls Tryz.prog 94 #[.agg (tstC t aa ca ab cb').toArray] w0
  (Ret w0 h0 λ u hh=>∃ x:Option Addr×Nat,u = .slice x.1 (parE t aa ca ab cb').length x.2∧SlC 114 6 (flatR (rowC (parE t aa ca ab cb'))) hh (.slice x.1 (parE t aa ca ab cb').length x.2) (List.range (parE t aa ca ab cb').length)):=by
 refine entA (args:=[.agg (tstC t aa ca ab cb').toArray]) TT_ok [2] [] Tryz.func94 rfl Tryz.ntmps94 rfl rfl hv (λ _=>Mono.slF) ?_
 intro b1
 refine And.intro rfl (goW TT_ok ?_)
 refine cnd (λ h=>?_) (λ h=>?_)
 ·have e:parE t aa ca ab cb'=[(t.a,aa,ca),(t.b,ab,cb')]:=if_pos h
  rw [e]
  intro b10
  refine shutG TT_ok 10 rfl (row_sl (g:=rowC [(t.a,aa,ca),(t.b,ab,cb')]) (l:=List.range 2) (sz:=6) (n:=2) (cp:=2) rfl ?_) ?_ Mono.slF
  ·exact rowC_len _ _
  exact ⟨(some ⟨b10,0,none⟩,2),rfl,λ v _ hF=>hF.2⟩
 ·have e:parE t aa ca ab cb'=[(t.a,aa,ca)]:=if_neg h
  rw [e]
  intro b13
  refine shutG TT_ok 13 rfl (row_sl (g:=rowC [(t.a,aa,ca)]) (l:=List.range 1) (sz:=6) (n:=1) (cp:=1) rfl ?_) ?_ Mono.slF
  ·exact rowC_len _ _
  exact ⟨(some ⟨b13,0,none⟩,1),rfl,λ v _ hF=>hF.2⟩
theorem c_IndexV (ad:Option Addr) (cap:Nat) (l:List Val) (v:Val) (w0:World) (h0:View) (hv:VLe h0 (Full w0)) (hb:SlC 52 3 (flatR valC) h0 (.slice ad l.length cap) l):Calls Tryz.prog 201 #[.slice ad l.length cap,.agg (valC v).toArray] w0 (Ret w0 h0 λ u _=>u = .int .i64 (idxS (λ x=>decide (v=x)) l)):=by
 have hlm:=slc_lm hb
 refine ent (args:=[.slice ad l.length cap,.agg (valC v).toArray]) TT_ok [] [] Tryz.func201 rfl Tryz.ntmps201 rfl rfl hv ?_
 intro b3
 refine w_loop TT_ok (λ k:Nat=>[(8,.v (.int .i64 k))]) 0 (λ k=>k≤l.length∧∀ j,j<k→(λ x=>decide (v=x)) (l.getD j v0)=false) (λ k=>l.length - k) ?_
 refine And.intro ⟨⟨Nat.zero_le _,λ j hj=>absurd hj (Nat.not_lt_zero j)⟩,gs⟩ ?_
 intro k ⟨hk,hn⟩
 refine cnd (λ h=>?_) (λ h=>?_)
 ·refine And.intro (by kernel_rfl) ?_
  refine ixs hb k v0 ?_
  refine aq eqV v (l.getD k v0) ?_
  refine cnd (λ h4=>?_) (λ h4=>?_)
  ·exact congrArg (Value.int .i64) (idx_hit (p:=λ x=>decide (v=x)) v0 (by omega) hn (decide_eq_true h4)).symm
  ·refine wi ?_
   exact ⟨k+1,⟨⟨by omega,upto_snoc hn (decide_eq_false h4)⟩,by omega⟩,gs⟩
 ·exact congrArg (Value.int .i64) (idx_none (p:=λ x=>decide (v=x)) v0 (λ j hj=>hn j (by omega))).symm
theorem c_ContainsV (ad:Option Addr) (cap:Nat) (l:List Val) (v:Val) (w0:World) (h0:View) (hv:VLe h0 (Full w0)) (hb:SlC 52 3 (flatR valC) h0 (.slice ad l.length cap) l):Calls Tryz.prog 158 #[.slice ad l.length cap,.agg (valC v).toArray] w0 (Ret w0 h0 λ u _=>u = .bool (l.any λ x=>decide (v=x))):=by
 refine ent (args:=[.slice ad l.length cap,.agg (valC v).toArray]) TT_ok [] [] Tryz.func158 rfl Tryz.ntmps158 rfl rfl hv ?_
 intro b3
 refine cb (λ w hw=>c_IndexV ad cap l v w h0 hw hb) ?_
 exact congrArg Value.bool (idx_any (p:=λ x=>decide (v=x)) (l:=l))
def cmpT (t:Tst) (n m:Int):Bool :=
 if t.k=2 then decide (n<0) else if t.k=3 then decide (n≤0) else if t.k=4 then decide (0<n) else if t.k=5 then decide (0≤n)
 else (decide (0<n)||(decide (n=0) && !t.lo))&&(decide (m<0)||(decide (m=0) && !t.hi))
def passT (t:Tst) (v:Val) (told:List Val):Bool :=
 if t.k=1 then decide (v=told.getD 0 v0) else if v.k=0∨told.any (λ w=>decide (w.k=0))=true then false else cmpT t (cmpV v (told.getD 0 v0)) (cmpV v (told.getD 1 v0))
theorem null_v0 {w:Val} (h:valOk w=true):decide (v0=w)=decide (w.k=0):=by
 refine decide_eq_decide.2 ⟨λ e=>by rw [← e]; rfl,λ e=>?_⟩
 rcases valOk_cases h with ⟨h1,h2,h3⟩ | ⟨h1,_⟩ | ⟨h1,_⟩ | ⟨h1,_⟩
 ·cases w; cases h1; cases h2; cases h3; rfl
 ·rw [h1] at e; cases e
 ·rw [h1] at e; cases e
 ·rw [h1] at e; cases e
theorem any_null {l:List Val} (h:∀ w∈l,valOk w=true):(l.any λ w=>decide (v0=w))=l.any λ w=>decide (w.k=0):=by
 induction l with
 | nil=>rfl
 | cons w l ih=>rw [List.any_cons,List.any_cons,null_v0 (h w (by simp)),ih λ w hw=>h w (by simp [hw])]
theorem c_passes (t:Tst) (aa:Option Addr) (ca:Nat) (ab:Option Addr) (cb':Nat) (v:Val) (ad:Option Addr) (cap n:Nat) (told:List Val) (hn:n=told.length) (hk:1≤t.k∧t.k≤6) (hl:told.length=if t.k=6 then 2 else 1) (ht:∀ w∈told,valOk w=true) (w0:World) (h0:View) (hv:VLe h0 (Full w0)) (hb:SlC 52 3 (flatR valC) h0 (.slice ad n cap) told) :
  Calls Tryz.prog 96 #[.agg (tstC t aa ca ab cb').toArray,.agg (valC v).toArray,.slice ad n cap] w0 (Ret w0 h0 λ u _=>u = .bool (passT t v told)):=by
 subst hn
 have hl1:1≤told.length:=by rw [hl]; split <;> decide
 refine ent (args:=[.agg (tstC t aa ca ab cb').toArray,.agg (valC v).toArray,.slice ad told.length cap]) TT_ok [] [] Tryz.func96 rfl Tryz.ntmps96 rfl rfl hv ?_
 intro b3 b4
 unfold passT
 refine cnd (λ h=>?_) (λ h=>?_)
 ·rw [if_pos h]
  refine And.intro (by kernel_rfl) ?_
  refine ixs hb 0 v0 ?_
  refine aq eqV v (told.getD 0 v0) ?_
  exact rfl
 rw [if_neg h]
 refine cbg (λ _ w hw=>c_ContainsV ad cap told v0 w h0 hw hb) ?_
 rw [any_null ht]
 refine cnd (λ h1=>?_) (λ h1=>?_)
 ·rw [if_pos h1]; exact rfl
 rw [if_neg (λ hh=>by
  rcases hh with hh | hh
  ·exact h1.1 hh
  ·rw [h1.2] at hh; cases hh)]
 refine And.intro (by kernel_rfl) ?_
 refine ixs hb 0 v0 ?_
 refine cl (c_VCompare v (told.getD 0 v0)) ?_
 unfold cmpT
 refine cnd (λ h2=>?_) (λ h2=>?_)
 ·rw [if_pos h2]; exact rfl
 rw [if_neg h2]
 refine cnd (λ h3=>?_) (λ h3=>?_)
 ·rw [if_pos h3]; exact rfl
 rw [if_neg h3]
 refine cnd (λ h4=>?_) (λ h4=>?_)
 ·rw [if_pos h4]; exact rfl
 rw [if_neg h4]
 refine cnd (λ h5=>?_) (λ h5=>?_)
 ·rw [if_pos h5]; exact rfl
 rw [if_neg h5]
 have hl2:told.length=2:=by rw [hl,if_pos (by omega)]
 refine And.intro (by kernel_rfl) ?_
 refine ixs hb 1 v0 ?_
 refine cl (c_VCompare v (told.getD 1 v0)) ?_
 exact rfl
end Go.Proofs.YtbmmnalndollkaaGreatDoor
set_option maxRecDepth 100000
namespace Go.Proofs.YtbmmnalndollkaaGreatDoor
open Go Go.Dx Go.RowKit
noncomputable def toldL (col:List Col) (row:List Val):List Ex→List Val×Int
 | []=>([],0)
 | x::l=>if (evalS col row x).2≠0 then ([],(evalS col row x).2) else ((evalS col row x).1::(toldL col row l).1,(toldL col row l).2)
noncomputable def askT (t:Tst) (v:Val) (col:List Col) (row:List Val):Bool×Int :=
 if (toldL col row (parT t)).2≠0 then (false,(toldL col row (parT t)).2)
 else if ((toldL col row (parT t)).1.all λ w=>fitT t v.k w.k)=true then (passT t v (toldL col row (parT t)).1,0) else (false,14)
noncomputable def holdL (any neg:Bool) (v:Val) (col:List Col) (row:List Val):List Tst→Bool×Int
 | []=>(any||neg,0)
 | t::l=>if (askT t v col row).2≠0 then (false,(askT t v col row).2) else if (askT t v col row).1=true then (!neg,0) else holdL any neg v col row l
def mayC (c:Cel) (v:Val) (col:List Col) (row:List Val):Bool:=rightC c&&valOk v&&decide (col.length=row.length)&&row.all valOk
noncomputable def holdsC (c:Cel) (v:Val) (col:List Col) (row:List Val):Bool×Int:=if mayC c v col row=true then holdL c.any c.neg v col row c.ts else (false,2)
theorem told_ok {col:List Col} {row:List Val}:∀ {l:List Ex},(∀ j,j<l.length→(evalS col row (l.getD j ex0)).2=0)→toldL col row l=(l.map λ x=>(evalS col row x).1,0)
 | [],_=>rfl
 | x::l,h=>by
  have h0:=h 0 (by simp)
  rw [toldL,if_neg (by simpa using h0),told_ok (l:=l) λ j hj=>by simpa using h (j+1) (by simpa using hj)]
  rfl
theorem told_er {col:List Col} {row:List Val}:∀ {l:List Ex} {k:Nat},k<l.length→(∀ j,j<k→(evalS col row (l.getD j ex0)).2=0)→(evalS col row (l.getD k ex0)).2≠0→(toldL col row l).2=(evalS col row (l.getD k ex0)).2
 | [],_,h,_,_=>by simp at h
 | x::l,0,_,_,h=>by
  have h:(evalS col row x).2≠0:=by simpa using h
  rw [toldL,if_pos h]; rfl
 | x::l,k+1,hk,hj,h=>by
  have h0:=hj 0 (Nat.succ_pos _)
  rw [toldL,if_neg (by simpa using h0)]
  exact told_er (l:=l) (k:=k) (by simpa using hk) (λ j hjk=>by simpa using hj (j+1) (by omega)) (by simpa using h)
theorem eval_ok {col:List Col} {row:List Val} {h:View} {ad:Option Addr} {cap:Nat} {x:Ex} (hx:GX h ad cap x) (hvb:∀ v∈row,valB v):okV (evalS col row x).1:=by
 unfold evalS
 split
 ·rename_i hh
  split
  ·rename_i v he
   exact evX_good (λ w hw=>⟨List.all_eq_true.1 hh.2.2 w hw,hvb w hw⟩) _ x _ v (hx.xl.rx ⟨hx.op,hx.v⟩) hh.1 he
  ·exact ok_v0
 ·exact ok_v0
theorem all_noV {p:Val→Bool} {l:List Val} {k:Nat} (hk:k<l.length) (h:p (l.getD k v0)=false):l.all p=false:=by
 rw [List.all_eq_false]
 exact ⟨_,getD_mem l k v0 hk,by rw [h]; decide⟩
theorem all_upV {p:Val→Bool} {l:List Val} (h:∀ j,j<l.length→p (l.getD j v0)=true):l.all p=true:=by
 rw [List.all_eq_true]
 intro t ht
 obtain ⟨j,hj,rfl⟩:=List.mem_iff_getElem.1 ht
 rw [← getD_lt l j v0 hj]; exact h j hj
theorem flatV (l:List Val):(l.map valC).flatten.length=l.length*3:=by
 induction l with
 | nil=>rfl
 | cons v l ih=>rw [List.map_cons,List.flatten_cons,List.length_append,ih,List.length_cons]; show 3+_=_; omega
def kbR2 (r:Bool×Int):Value := .tuple #[.bool r.1,.int .i64 r.2]
set_option maxRecDepth 100000 in
set_option maxHeartbeats 2000000 in
theorem c_ask (t:Tst) (aa:Option Addr) (ca:Nat) (ab:Option Addr) (cb':Nat) (v:Val) (ad:Option Addr) (cap:Nat) (col:List Col) (ad2:Option Addr) (cap2:Nat) (row:List Val) (hk':1≤t.k∧t.k≤6) (hg:GT t) (hl:col.length≤1000000) (hvb:∀ v∈row,valB v) (w0:World) (h0:View) (hv:VLe h0 (Full w0))
  (ha:EX h0 aa ca t.a) (hb:EX h0 ab cb' t.b) (hc:SlC 66 3 (flatR colC) h0 (.slice ad col.length cap) col) (hr:SlC 52 3 (flatR valC) h0 (.slice ad2 row.length cap2) row) :
  Calls Tryz.prog 59 #[.agg (tstC t aa ca ab cb').toArray,.agg (valC v).toArray,.slice ad col.length cap,.slice ad2 row.length cap2] w0 (Ret w0 h0 λ u _=>u=kbR2 (askT t v col row)):=by
 refine ent (args:=[.agg (tstC t aa ca ab cb').toArray,.agg (valC v).toArray,.slice ad col.length cap,.slice ad2 row.length cap2]) TT_ok [39] [] Tryz.func59 rfl Tryz.ntmps59 rfl rfl hv ?_
 intro b4 b5
 refine cA TT_ok (λ w v h1 h2 h3=>c_parts t aa ca ab cb' w v h3) (λ _=>Mono.slF) (λ x=>?_)
 have hes:=parE_ex ha hb hg
 have hel:=parE_le t aa ca ab cb'
 have hmap:=parE_map t aa ca ab cb'
 have hlen:(parE t aa ca ab cb').length=if t.k=6 then 2 else 1:=by unfold parE; split <;> rfl
 unfold askT
 rw [← hmap]
 generalize parE t aa ca ab cb'=es at hes hel hlen ⊢
 refine nilC 900 52 3 ?_
 refine w_loopB TT_ok (λ z:Option Addr×Nat×Nat=>[(10,.v (.slice z.1 z.2.1 z.2.2)),(20,.v (.int .i64 z.2.1))]) (λ z=>[(900,.e (bufE 52 3 (.slice z.1 z.2.1 z.2.2) ((((es.map (·.1)).take z.2.1).map λ y=>(evalS col row y).1).map valC).flatten)),(5,.c b5 52 (valC v)),(4,.c b4 116 (tstC t aa ca ab cb'))]) (none,0,0)
  (λ z=>z.2.1≤es.length∧∀ j,j<z.2.1→(evalS col row ((es.map (·.1)).getD j ex0)).2=0) (λ z=>es.length - z.2.1) ?_
 refine And.intro ⟨⟨Nat.zero_le _,λ j h=>absurd h (Nat.not_lt_zero _)⟩,gs⟩ ?_
 rintro ⟨a0,k,cp⟩ ⟨hkl,hz⟩
 dsimp only at hkl hz ⊢
 refine cnd (λ h3=>?_) (λ h3=>?_)
 ·have hk':k<es.length:=by omega
  have hgr:(List.range es.length).getD k 0=k:=by simp [List.getD,hk']
  have hgm:(es.map (·.1)).getD k ex0=(es.getD k xe0).1:=by simp [List.getD,hk']
  have hgx:=hes _ (getD_mem es k xe0 hk')
  obtain ⟨p,hp⟩:∃ p,evalS col row (es.getD k xe0).1=p:=⟨_,rfl⟩
  rw [← hgm] at hp
  refine ixf (λ v hF=>hF.2) k 0 ?_ (by simpa using hk') (by simp)
  rw [hgr]
  intro b12
  refine cb (λ w hw=>c_EvalK (p:=p) (es.getD k xe0).1 (es.getD k xe0).2.1 (es.getD k xe0).2.2 ad cap col ad2 cap2 row (by rw [← hgm]; exact hp) hl hvb w h0 hw hgx hc hr) ?_
  intro b13
  refine cnd (λ h4=>?_) (λ h4=>?_)
  ·have he:=told_er (col:=col) (row:=row) (l:=es.map (·.1)) (k:=k) (by simpa using hk') hz (by rw [hp]; exact h4)
   rw [hp] at he
   rw [if_pos (by rw [he]; exact h4),he]
   exact rfl
  ·intro b36
   refine ap TT_ok 900 (AppT.of (bytes:=32) (sz:=2) (by kernel_rfl) (by kernel_rfl) (by kernel_rfl)) rfl rfl rfl rfl rfl rfl rfl (by rw [flatV,List.length_map,List.length_take,List.length_map]; show (_+3)*33≤_; omega) (λ a1 n1 c1 e1=>?_)
   refine wi ?_
   have hn1:n1=k+1:=by
    rw [flatV,List.length_map,List.length_take,List.length_map] at e1
    have e1:n1*3=min k es.length*3+3:=e1
    omega
   subst hn1
   refine ⟨(a1,k+1,c1),⟨⟨hk',upto_snoc hz (by rw [hp]; simpa using h4)⟩,?_⟩,?_⟩
   ·show es.length - (k+1)<es.length - k; omega
   ·refine gs rfl ?_
    show [(900,OB.e (bufE 52 3 (.slice a1 (k+1) c1) _)),_,_]=[(900,OB.e (bufE 52 3 (.slice a1 (k+1) c1) _)),_,_]
    rw [take_snocD (es.map (·.1)) k ex0 (by simpa using hk'),List.map_append,List.map_append,List.flatten_append,List.map_cons,hp]; rfl
 ·have hkk:k=es.length:=by omega
  subst hkk
  have hto:=told_ok (col:=col) (row:=row) (l:=es.map (·.1)) (λ j hj=>hz j (by simpa using hj))
  rw [hto]
  have hml:((es.map (·.1)).map λ x=>(evalS col row x).1).length=es.length:=by simp
  have htk:((es.map (·.1)).take es.length).map (λ y=>(evalS col row y).1)=(es.map (·.1)).map λ x=>(evalS col row x).1:=by rw [List.take_of_length_le (by simp)]
  have hval:∀ w∈(es.map (·.1)).map λ x=>(evalS col row x).1,valOk w=true:=by
   intro w hw
   simp only [List.mem_map] at hw
   obtain ⟨x,⟨q,hq,rfl⟩,rfl⟩:=hw
   exact (eval_ok (hes q hq) hvb).1
  rw [htk]
  generalize ((es.map (·.1)).map λ x=>(evalS col row x).1)=told at hml hval
  rw [if_neg (λ h=>h rfl)]
  refine And.intro rfl ?_
  refine sealW (g:=valC) (l:=told) 900 rfl hml.symm ?_
  refine goW TT_ok ?_
  refine w_loop TT_ok (λ k:Nat=>[(41,.v (.int .i64 k))]) 0 (λ k=>k≤told.length∧∀ j,j<k→fitT t v.k (told.getD j v0).k=true) (λ k=>told.length - k) ?_
  refine And.intro ⟨⟨Nat.zero_le _,λ j hj=>absurd hj (Nat.not_lt_zero j)⟩,gs⟩ ?_
  intro k ⟨hk,hn⟩
  refine cnd (λ h=>?_) (λ h=>?_)
  ·refine ixf (λ v hF=>hF.2) k v0 ?_ (by omega) hml.symm
   intro b16
   refine cl (c_fits t aa ca ab cb' v.k (told.getD k v0).k) ?_
   refine cnd (λ h4=>?_) (λ h4=>?_)
   ·rw [if_neg (by rw [all_noV (p:=λ w=>fitT t v.k w.k) (k:=k) (by omega) h4]; decide)]
    exact rfl
   ·refine wi ?_
    exact ⟨k+1,⟨⟨by omega,upto_snoc hn h4⟩,by omega⟩,gs⟩
  ·rw [if_pos (all_upV (p:=λ w=>fitT t v.k w.k) (λ j hj=>hn j (by omega)))]
   refine cf (λ w v' h1 h2 h3=>c_passes t aa ca ab cb' v _ _ es.length told hml.symm hk' (by rw [hml,hlen]) hval w v' h3 h2.2) ?_
   exact rfl
theorem sound_k {t:Tst} (h:soundT t=true):1≤t.k∧t.k≤6:=by
 unfold soundT at h
 split at h
 ·omega
 ·split at h
  ·cases h
  ·omega
theorem right_sound {c:Cel} (h:rightC c=true):∀ t∈c.ts,soundT t=true:=by
 unfold rightC at h
 split at h
 ·simp only [Bool.and_eq_true,decide_eq_true_eq] at h
  intro t ht
  rw [List.eq_nil_of_length_eq_zero h.2] at ht
  cases ht
 ·simp only [Bool.and_eq_true] at h
  exact List.all_eq_true.1 h.2
section hold
variable {any neg:Bool} {v:Val} {col:List Col} {row:List Val}
theorem hold_er:∀ {l:List Tst} {k:Nat},k<l.length→(∀ j,j<k→askT (l.getD j tst0) v col row=(false,0))→(askT (l.getD k tst0) v col row).2≠0→holdL any neg v col row l=(false,(askT (l.getD k tst0) v col row).2)
 | [],_,h,_,_=>by simp at h
 | t::l,0,_,_,h=>by
  have h:(askT t v col row).2≠0:=by simpa using h
  rw [holdL,if_pos h]; rfl
 | t::l,k+1,hk,hj,h=>by
  have h0:askT t v col row=(false,0):=by simpa using hj 0 (Nat.succ_pos _)
  rw [holdL,h0,if_neg (by decide),if_neg (by decide),hold_er (l:=l) (k:=k) (by simpa using hk) (λ j hjk=>by simpa using hj (j+1) (by omega)) (by simpa using h)]
  rfl
theorem hold_hit:∀ {l:List Tst} {k:Nat},k<l.length→(∀ j,j<k→askT (l.getD j tst0) v col row=(false,0))→(askT (l.getD k tst0) v col row).2=0→(askT (l.getD k tst0) v col row).1=true→holdL any neg v col row l=(!neg,0)
 | [],_,h,_,_,_=>by simp at h
 | t::l,0,_,_,h,h'=>by
  have h:(askT t v col row).2=0:=by simpa using h
  have h':(askT t v col row).1=true:=by simpa using h'
  rw [holdL,if_neg (λ hh=>hh h),if_pos h']
 | t::l,k+1,hk,hj,h,h'=>by
  have h0:askT t v col row=(false,0):=by simpa using hj 0 (Nat.succ_pos _)
  rw [holdL,h0,if_neg (by decide),if_neg (by decide),hold_hit (l:=l) (k:=k) (by simpa using hk) (λ j hjk=>by simpa using hj (j+1) (by omega)) (by simpa using h) (by simpa using h')]
theorem hold_none:∀ {l:List Tst},(∀ j,j<l.length→askT (l.getD j tst0) v col row=(false,0))→holdL any neg v col row l=(any||neg,0)
 | [],_=>rfl
 | t::l,hj=>by
  have h0:askT t v col row=(false,0):=by simpa using hj 0 (by simp)
  rw [holdL,h0,if_neg (by decide),if_neg (by decide),hold_none (l:=l) (λ j hjk=>by simpa using hj (j+1) (by simpa using hjk))]
theorem ask_two {t:Tst} {p q:Val×Int} (h:t.k=6) (hp:evalS col row t.a=p) (hq:evalS col row t.b=q) :
  askT t v col row=if p.2≠0 then (false,p.2) else if q.2≠0 then (false,q.2) else if (fitT t v.k p.1.k&&fitT t v.k q.1.k)=true then (passT t v [p.1,q.1],0) else (false,14):=by
 subst hp hq
 unfold askT parT
 rw [if_pos h]
 by_cases h1:(evalS col row t.a).2≠0
 ·rw [if_pos h1,toldL,if_pos h1,if_pos h1]
 ·rw [if_neg h1,toldL,if_neg h1,toldL]
  by_cases h2:(evalS col row t.b).2≠0
  ·rw [if_pos h2,if_pos h2,if_pos h2]
  ·rw [if_neg h2,if_neg h2,toldL,if_neg (λ hh=>hh rfl)]
   simp [List.all_cons]
theorem ask_one {t:Tst} {p:Val×Int} (h:t.k≠6) (hp:evalS col row t.a=p) :
  askT t v col row=if p.2≠0 then (false,p.2) else if fitT t v.k p.1.k=true then (passT t v [p.1],0) else (false,14):=by
 subst hp
 unfold askT parT
 rw [if_neg h]
 by_cases h1:(evalS col row t.a).2≠0
 ·rw [if_pos h1,toldL,if_pos h1,if_pos h1]
 ·rw [if_neg h1,toldL,if_neg h1,toldL,if_neg (λ hh=>hh rfl)]
  simp [List.all_cons]
end hold
theorem mayR {c:Cel} {v:Val} {col:List Col} {row:List Val} (h:mayC c v col row=true):rightC c=true∧valOk v=true∧col.length=row.length∧row.all valOk=true:=by
 unfold mayC at h
 simp only [Bool.and_eq_true,decide_eq_true_eq] at h
 exact ⟨h.1.1.1,h.1.1.2,h.1.2,h.2⟩
theorem c_may (c:Cel) (adt:Option Addr) (capt:Nat) (v:Val) (ad:Option Addr) (cap:Nat) (col:List Col) (ad2:Option Addr) (cap2:Nat) (row:List Val) (hg:∀ t∈c.ts,GT t) (hvv:valB v) (hvb:∀ v∈row,valB v) (w0:World) (h0:View) (hv:VLe h0 (Full w0))
  (hx:TL h0 adt capt c.ts) (hc:SlC 66 3 (flatR colC) h0 (.slice ad col.length cap) col) (hr:SlC 52 3 (flatR valC) h0 (.slice ad2 row.length cap2) row) :
  Calls Tryz.prog 58 #[.agg (celC c adt capt).toArray,.agg (valC v).toArray,.slice ad col.length cap,.slice ad2 row.length cap2] w0 (Ret w0 h0 λ u _=>u = .int .i64 (if mayC c v col row=true then 0 else 2)):=by
 have hlm:=slc_lm hr
 refine ent (args:=[.agg (celC c adt capt).toArray,.agg (valC v).toArray,.slice ad col.length cap,.slice ad2 row.length cap2]) TT_ok [] [] Tryz.func58 rfl Tryz.ntmps58 rfl rfl hv ?_
 intro b4 b5
 refine cb (λ w hw=>c_CCheck c adt capt hg w h0 hw hx) ?_
 refine cbg (λ _ w hw=>c_VCheck v hvv w h0 hw) ?_
 refine cnd (λ h=>?_) (λ h=>?_)
 ·have e:(if mayC c v col row=true then (0:Int) else 2)=2:=if_neg (λ hm=>by
   obtain ⟨m1,m2,m3,_⟩:=mayR hm
   rcases h with (h | h) | h
   ·rw [if_pos m1] at h; exact h rfl
   ·rw [if_pos m2] at h; exact h rfl
   ·omega)
  rw [e]; exact rfl
 have r1:rightC c=true:=by
  have:=h.1.1
  split at this
  ·assumption
  ·exact absurd this (by decide)
 have r2:valOk v=true:=by
  have:=h.1.2
  split at this
  ·assumption
  ·exact absurd this (by decide)
 have hmay:mayC c v col row=row.all valOk:=by
  unfold mayC
  rw [r1,r2,decide_eq_true (by omega)]; rfl
 rw [hmay]
 refine w_loop TT_ok (λ k:Nat=>[(28,.v (.int .i64 k))]) 0 (λ k=>k≤row.length∧∀ j,j<k→valOk (row.getD j v0)=true) (λ k=>row.length - k) ?_
 refine And.intro ⟨⟨Nat.zero_le _,λ j hj=>absurd hj (Nat.not_lt_zero j)⟩,gs⟩ ?_
 intro k ⟨hk,hn⟩
 refine cnd (λ h=>?_) (λ h=>?_)
 ·refine ixs hr k v0 ?_
  intro b10
  refine cb (λ w hw=>c_VCheck (row.getD k v0) (hvb _ (getD_mem row k v0 (by omega))) w h0 hw) ?_
  refine cnd (λ h4=>?_) (λ h4=>?_)
  ·have h5:valOk (row.getD k v0)=false:=by
    rcases Bool.eq_false_or_eq_true (valOk (row.getD k v0)) with e | e
    ·rw [if_pos e] at h4; exact absurd rfl h4
    ·exact e
   have e:(if row.all valOk=true then (0:Int) else 2)=2:=if_neg (by rw [all_noV (k:=k) (by omega) h5]; decide)
   rw [e]; exact rfl
  ·have h5:valOk (row.getD k v0)=true:=by
    split at h4
    ·assumption
    ·exact absurd h4 (by decide)
   refine wi ?_
   exact ⟨k+1,⟨⟨by omega,upto_snoc hn h5⟩,by omega⟩,gs⟩
 ·have e:(if row.all valOk=true then (0:Int) else 2)=0:=if_pos (all_upV (λ j hj=>hn j (by omega)))
  rw [e]; exact rfl
set_option maxHeartbeats 1000000 in
theorem c_CHolds (c:Cel) (adt:Option Addr) (capt:Nat) (v:Val) (ad:Option Addr) (cap:Nat) (col:List Col) (ad2:Option Addr) (cap2:Nat) (row:List Val) (hg:∀ t∈c.ts,GT t) (hvv:valB v) (hl:col.length≤1000000) (hvb:∀ v∈row,valB v) (w0:World) (h0:View) (hv:VLe h0 (Full w0))
  (hx:TL h0 adt capt c.ts) (hc:SlC 66 3 (flatR colC) h0 (.slice ad col.length cap) col) (hr:SlC 52 3 (flatR valC) h0 (.slice ad2 row.length cap2) row) :
  Calls Tryz.prog 27 #[.agg (celC c adt capt).toArray,.agg (valC v).toArray,.slice ad col.length cap,.slice ad2 row.length cap2] w0 (Ret w0 h0 λ u _=>u=kbR2 (holdsC c v col row)):=by
 have hlm:=hx.lm
 refine ent (args:=[.agg (celC c adt capt).toArray,.agg (valC v).toArray,.slice ad col.length cap,.slice ad2 row.length cap2]) TT_ok [] [] Tryz.func27 rfl Tryz.ntmps27 rfl rfl hv ?_
 intro b4 b5
 refine cb (λ w hw=>c_may c adt capt v ad cap col ad2 cap2 row hg hvv hvb w h0 hw hx hc hr) ?_
 refine cnd (λ h=>?_) (λ h=>?_)
 ·by_cases hm:mayC c v col row=true
  ·rw [if_pos hm] at h; exact absurd rfl h
  ·have e:holdsC c v col row=(false,2):=if_neg hm
   have e2:(if mayC c v col row=true then (0:Int) else 2)=2:=if_neg hm
   rw [e,e2]
   exact rfl
 have hm:mayC c v col row=true:=by
  split at h
  ·assumption
  ·exact absurd h (by decide)
 have e:holdsC c v col row=holdL c.any c.neg v col row c.ts:=if_pos hm
 rw [e]
 have hso:=right_sound (mayR hm).1
 refine w_loop TT_ok (λ k:Nat=>[(26,.v (.int .i64 k))]) 0 (λ k=>k≤c.ts.length∧∀ j,j<k→askT (c.ts.getD j tst0) v col row=(false,0)) (λ k=>c.ts.length - k) ?_
 refine And.intro ⟨⟨Nat.zero_le _,λ j hj=>absurd hj (Nat.not_lt_zero j)⟩,gs⟩ ?_
 intro k ⟨hk,hn⟩
 refine cnd (λ h=>?_) (λ h=>?_)
 ·have hmem:=getT_mem c.ts k (by omega)
  refine ixT hx k (λ aa ca ab cb' h1 h2 h3=>?_)
  intro b12
  refine cb (λ w hw=>c_ask _ aa ca ab cb' v ad cap col ad2 cap2 row (sound_k (hso _ hmem)) (hg _ hmem) hl hvb w h0 hw h1 h2 hc hr) ?_
  have e1:=hold_er (any:=c.any) (neg:=c.neg) (v:=v) (col:=col) (row:=row) (l:=c.ts) (k:=k) (by omega) hn
  have e2:=hold_hit (any:=c.any) (neg:=c.neg) (v:=v) (col:=col) (row:=row) (l:=c.ts) (k:=k) (by omega) hn
  have hn':askT (c.ts.getD k tst0) v col row=(false,0)→∀ j,j<k+1→askT (c.ts.getD j tst0) v col row=(false,0):=λ hh=>upto_snoc hn hh
  generalize askT (c.ts.getD k tst0) v col row=p at e1 e2 hn' ⊢
  refine cnd (λ h4=>?_) (λ h4=>?_)
  ·rw [e1 h4]; exact rfl
  refine cnd (λ h5=>?_) (λ h5=>?_)
  ·rw [e2 (by simpa using h4) h5]; exact rfl
  ·refine wi ?_
   exact ⟨k+1,⟨⟨by omega,hn' (Prod.ext h5 (by simpa using h4))⟩,by omega⟩,gs⟩
 ·rw [hold_none (λ j hj=>hn j (by omega))]
  exact rfl
end Go.Proofs.YtbmmnalndollkaaGreatDoor
set_option maxRecDepth 100000
namespace Go.Proofs.YtbmmnalndollkaaGreatDoor
open Go Go.Dx Go.RowKit
section typed
variable {t:Tst} {kind:Int} {col:List Col}
theorem typ_er:∀ {l:List Tst} {k:Nat},k<l.length→(∀ j,j<k→typT1 (l.getD j tst0) kind col=0)→typT1 (l.getD k tst0) kind col≠0→typTL kind col l=typT1 (l.getD k tst0) kind col
 | [],_,h,_,_=>by simp at h
 | t::l,0,_,_,h=>by
  have h:typT1 t kind col≠0:=by simpa using h
  rw [typTL,if_pos h]; rfl
 | t::l,k+1,hk,hj,h=>by
  have h0:typT1 t kind col=0:=by simpa using hj 0 (Nat.succ_pos _)
  rw [typTL,if_neg (λ hh=>hh h0),typ_er (l:=l) (k:=k) (by simpa using hk) (λ j hjk=>by simpa using hj (j+1) (by omega)) (by simpa using h)]
  rfl
theorem typ_none:∀ {l:List Tst},(∀ j,j<l.length→typT1 (l.getD j tst0) kind col=0)→typTL kind col l=0
 | [],_=>rfl
 | t::l,hj=>by
  have h0:typT1 t kind col=0:=by simpa using hj 0 (by simp)
  rw [typTL,if_neg (λ hh=>hh h0),typ_none (l:=l) (λ j hjk=>by simpa using hj (j+1) (by simpa using hjk))]
end typed
theorem c_RKindP {p:Int×Int} (adc:Option Addr) (capc:Nat) (col:List Col) (x:Ex) (ad:Option Addr) (cap:Nat) (hp:kindT col x=p) (w0:World) (h0:View) (hv:VLe h0 (Full w0)) (hx:GX h0 ad cap x) (hcl:SlC 66 3 (flatR colC) h0 (.slice adc col.length capc) col) :
  Calls Tryz.prog 69 #[.agg (exC x.op x.v x.s (.slice ad x.l.length cap)).toArray,.slice adc col.length capc] w0 (Ret w0 h0 λ u _=>u=kiR p):=by
 subst hp; exact c_RKind adc capc col x ad cap w0 h0 hv hx hcl
set_option maxHeartbeats 2000000 in
theorem c_RTyped (c:Cel) (adt:Option Addr) (capt:Nat) (kind:Int) (ad:Option Addr) (cap:Nat) (col:List Col) (hg:∀ t∈c.ts,GT t) (w0:World) (h0:View) (hv:VLe h0 (Full w0))
  (hx:TL h0 adt capt c.ts) (hc:SlC 66 3 (flatR colC) h0 (.slice ad col.length cap) col) :
  Calls Tryz.prog 67 #[.agg (celC c adt capt).toArray,.int .i64 kind,.slice ad col.length cap] w0 (Ret w0 h0 λ u _=>u = .int .i64 (typC c kind col)):=by
 have hlm:=hx.lm
 refine ent (args:=[.agg (celC c adt capt).toArray,.int .i64 kind,.slice ad col.length cap]) TT_ok [] [] Tryz.func67 rfl Tryz.ntmps67 rfl rfl hv ?_
 intro b3
 refine cb (λ w hw=>c_RRightC c adt capt hg w h0 hw hx) ?_
 refine cnd (λ hr=>?_) (λ hr=>?_)
 ·have e:typC c kind col=2:=if_pos hr
  rw [e]; exact rfl
 have e:typC c kind col=typTL kind col c.ts:=if_neg (by rw [hr]; decide)
 rw [e]
 refine w_loop TT_ok (λ k:Nat=>[(7,.v (.int .i64 k))]) 0 (λ k=>k≤c.ts.length∧∀ j,j<k→typT1 (c.ts.getD j tst0) kind col=0) (λ k=>c.ts.length - k) ?_
 refine And.intro ⟨⟨Nat.zero_le _,λ j hj=>absurd hj (Nat.not_lt_zero j)⟩,gs⟩ ?_
 intro k ⟨hk,hn⟩
 refine cnd (λ h=>?_) (λ h=>?_)
 ·have hmem:=getT_mem c.ts k (by omega)
  have hgt:=hg _ hmem
  have e1:=typ_er (kind:=kind) (col:=col) (l:=c.ts) (k:=k) (by omega) hn
  have hn':typT1 (c.ts.getD k tst0) kind col=0→∀ j,j<k+1→typT1 (c.ts.getD j tst0) kind col=0:=λ hh=>upto_snoc hn hh
  refine ixT hx k (λ aa ca ab cb' h1 h2 h3=>?_)
  generalize c.ts.getD k tst0=t at *
  intro b8
  obtain ⟨p,hp⟩:∃ p,kindT col t.a=p:=⟨_,rfl⟩
  have et:typT1 t kind col=if p.2≠0 then p.2 else if t.k=6 then (if (kindT col t.b).2≠0 then (kindT col t.b).2 else if fitT t kind p.1&&fitT t kind (kindT col t.b).1 then 0 else 14) else if fitT t kind p.1 then 0 else 14:=by
   rw [← hp]; rfl
  refine cb (λ w hw=>c_RKindP (p:=p) ad cap col t.a aa ca hp w h0 hw (h1.gx hgt.1) hc) ?_
  refine cnd (λ h4=>?_) (λ h4=>?_)
  ·obtain ⟨q,hq⟩:∃ q,kindT col t.b=q:=⟨_,rfl⟩
   rw [hq,if_neg (λ hh=>hh h4.1),if_pos h4.2] at et
   refine cb (λ w hw=>c_RKindP (p:=q) ad cap col t.b ab cb' hq w h0 hw (h2.gx hgt.2.1) hc) ?_
   refine cnd (λ h5=>?_) (λ h5=>?_)
   ·rw [if_pos h5] at et
    rw [et] at e1
    rw [e1 h5]; exact rfl
   rw [if_neg (λ hh=>hh h5)] at et
   refine cl (c_Rfits t aa ca ab cb' kind p.1) ?_
   refine clg (λ _=>c_Rfits t aa ca ab cb' kind q.1) ?_
   refine cnd (λ h6=>?_) (λ h6=>?_)
   ·rw [if_neg (λ hh=>by
     simp only [Bool.and_eq_true] at hh
     rcases h6 with h6 | h6
     ·rw [hh.1] at h6; cases h6
     ·rw [hh.2] at h6; cases h6)] at et
    rw [et] at e1
    rw [e1 (by decide)]; exact rfl
   ·rw [if_pos (by rw [h6.1,h6.2]; rfl)] at et
    refine wi ?_
    exact ⟨k+1,⟨⟨by omega,hn' et⟩,by omega⟩,gs⟩
  ·refine cnd (λ h5=>?_) (λ h5=>?_)
   ·rw [if_pos h5] at et
    rw [et] at e1
    rw [e1 h5]; exact rfl
   have h6:t.k≠6:=λ h6=>by
    rcases h4 with h4 | h4
    ·exact h4 h5
    ·exact h4 h6
   rw [if_neg (λ hh=>hh h5),if_neg h6] at et
   refine cl (c_Rfits t aa ca ab cb' kind p.1) ?_
   refine clg (λ _=>c_Rfits t aa ca ab cb' kind p.1) ?_
   refine cnd (λ h7=>?_) (λ h7=>?_)
   ·rw [if_neg (λ hh=>by
     rcases h7 with h7 | h7
     ·rw [hh] at h7; cases h7
     ·rw [hh] at h7; cases h7)] at et
    rw [et] at e1
    rw [e1 (by decide)]; exact rfl
   ·rw [if_pos h7.1] at et
    refine wi ?_
    exact ⟨k+1,⟨⟨by omega,hn' et⟩,by omega⟩,gs⟩
 ·rw [typ_none (λ j hj=>hn j (by omega))]
  exact rfl
end Go.Proofs.YtbmmnalndollkaaGreatDoor
set_option maxRecDepth 100000
namespace Go.Proofs.YtbmmnalndollkaaGreatDoor
open Go Go.Dx Go.RowKit
theorem on_bad (l:List Tok) (i:Nat) (s:List UInt8):onS l i true 4 s=false:=by
 cases ho:onS l i true 4 s with
 | false=>rfl
 | true=>exact absurd (on_lt ho (by decide)).2 (by decide)
section cr
variable (b:Nat) (ad:Option Addr) (cap:Nat) (l:List Tok)
variable {b ad cap l}
def tstV (t:Tst) (x:(Option Addr×Nat)×(Option Addr×Nat)):Value := .agg (tstC t x.1.1 x.1.2 x.2.1 x.2.2).toArray
def TX (h:View) (t:Tst) (x:(Option Addr×Nat)×(Option Addr×Nat)):Prop:=XL h x.1.1 x.1.2 t.a.l∧XL h x.2.1 x.2.2 t.b.l
theorem tx_m (x:(Option Addr×Nat)×(Option Addr×Nat)) (t:Tst):Mono λ h=>TX h t x:=λ _ _ hle hx=>⟨XL.mono hle hx.1,XL.mono hle hx.2⟩
theorem test_hit {p:CSt} {k:Nat} (hk:k<4) (hn:∀ j,j<k→onS l p.1 p.2 4 (sgC ((j+2:Nat):Int))=false) (hy:onS l p.1 p.2 4 (sgC ((k+2:Nat):Int))=true):testC l p=oneC l (p.1+1,p.2) ((k+2:Nat):Int):=by
 have:k=0∨k=1∨k=2∨k=3:=by omega
 unfold testC
 rcases this with rfl | rfl | rfl | rfl
 ·have hy:onS l p.1 p.2 4 (sgC 2)=true:=hy
  rw [if_pos hy]; rfl
 ·have h0:onS l p.1 p.2 4 (sgC 2)=false:=hn 0 (by omega)
  have hy:onS l p.1 p.2 4 (sgC 3)=true:=hy
  rw [if_neg (by rw [h0]; decide),if_pos hy]; rfl
 ·have h0:onS l p.1 p.2 4 (sgC 2)=false:=hn 0 (by omega)
  have h1:onS l p.1 p.2 4 (sgC 3)=false:=hn 1 (by omega)
  have hy:onS l p.1 p.2 4 (sgC 4)=true:=hy
  rw [if_neg (by rw [h0]; decide),if_neg (by rw [h1]; decide),if_pos hy]; rfl
 ·have h0:onS l p.1 p.2 4 (sgC 2)=false:=hn 0 (by omega)
  have h1:onS l p.1 p.2 4 (sgC 3)=false:=hn 1 (by omega)
  have h2:onS l p.1 p.2 4 (sgC 4)=false:=hn 2 (by omega)
  have hy:onS l p.1 p.2 4 (sgC 5)=true:=hy
  rw [if_neg (by rw [h0]; decide),if_neg (by rw [h1]; decide),if_neg (by rw [h2]; decide),if_pos hy]; rfl
theorem test_no {p:CSt} (hn:∀ j,j<4→onS l p.1 p.2 4 (sgC ((j+2:Nat):Int))=false):testC l p=if onS l p.1 p.2 4 [91]=true then inC l (p.1+1,p.2) false else if onS l p.1 p.2 4 [93]=true then inC l (p.1+1,p.2) true else oneC l p 1:=by
 have h0:onS l p.1 p.2 4 (sgC 2)=false:=hn 0 (by omega)
 have h1:onS l p.1 p.2 4 (sgC 3)=false:=hn 1 (by omega)
 have h2:onS l p.1 p.2 4 (sgC 4)=false:=hn 2 (by omega)
 have h3:onS l p.1 p.2 4 (sgC 5)=false:=hn 3 (by omega)
 rw [testC,if_neg (by rw [h0]; decide),if_neg (by rw [h1]; decide),if_neg (by rw [h2]; decide),if_neg (by rw [h3]; decide)]
end cr
end Go.Proofs.YtbmmnalndollkaaGreatDoor
set_option maxRecDepth 100000
namespace Go.Proofs.YtbmmnalndollkaaGreatDoor
open Go Go.Dx Go.RowKit
abbrev AA:=(Option Addr×Nat)×(Option Addr×Nat)
def tsC (q:Tst×AA):List Value:=tstC q.1 q.2.1.1 q.2.1.2 q.2.2.1 q.2.2.2
def rowT (es:List (Tst×AA)) (i:Nat):List Value:=tsC (es.getD i (tst0,(none,0),(none,0)))
theorem rowT_map (es:List (Tst×AA)):(List.range es.length).map (rowT es)=es.map tsC:=by
 refine List.ext_getElem (by simp) λ i h1 h2=>?_
 have h3:i<es.length:=by simpa using h1
 simp [rowT,List.getD,h3]
theorem flatTs (es:List (Tst×AA)):(es.map tsC).flatten.length=es.length*15:=by
 induction es with
 | nil=>rfl
 | cons v l ih=>rw [List.map_cons,List.flatten_cons,List.length_append,ih,List.length_cons]; show 15+_=_; omega
def TXL (h:View) (es:List (Tst×AA)):Prop:=∀ q∈es,TX h q.1 q.2
theorem txl_m (es:List (Tst×AA)):Mono λ h=>TXL h es:=λ _ _ hle hx q hq=>tx_m q.2 q.1 _ _ hle (hx q hq)
theorem txl_snoc {h:View} {es:List (Tst×AA)} {t:Tst} {x:AA} (h1:TXL h es) (h2:TX h t x):TXL h (es++[(t,x)]):=by
 intro q hq
 rcases List.mem_append.1 hq with hq | hq
 ·exact h1 q hq
 ·have:q=(t,x):=by simpa using hq
  subst this; exact h2
theorem rowT_tl {h:View} {ad:Option Addr} {cap:Nat} {es:List (Tst×AA)} {n:Nat} (hn:n=es.length) (hs:SlC 116 15 (flatR (rowT es)) h (.slice ad n cap) (List.range es.length)) (hx:TXL h es) (hd:∀ q∈es,ndTs q.1):TL h ad cap (es.map (·.1)):=by
 subst hn
 refine ⟨rowT es,by simpa using hs,λ i t hi=>?_⟩
 rw [List.getElem?_map] at hi
 cases he:es[i]? with
 | none=>rw [he] at hi; cases hi
 | some p =>
  rw [he] at hi
  cases hi
  have hm:p∈es:=List.mem_of_getElem? he
  have e:es.getD i (tst0,(none,0),(none,0))=p:=by simp [List.getD,he]
  obtain ⟨g1,g2⟩:=hx p hm
  obtain ⟨d1,d2,d3⟩:=hd p hm
  exact ⟨p.2.1.1,p.2.1.2,p.2.2.1,p.2.2.2,by rw [rowT,e]; rfl,⟨g1,d1⟩,⟨g2,d2⟩,d3⟩
structure LpC where
 a:Option Addr
 n:Nat
 c:Nat
 es:List (Tst×AA)
 p:CSt
 f:Nat
section cr
variable {b:Nat} {ad:Option Addr} {cap:Nat} {l:List Tok}
end cr
theorem tl_nil (h:View):TL h none 0 []:=⟨λ _=>[],SlC.nil (by simp [maxLen]),λ i t hi=>by simp at hi⟩
def cpV (r:Cel×Int×Int) (x:Option Addr×Nat):Value := .tuple #[.agg (celC r.1 x.1 x.2).toArray,.int .i64 r.2.1,.int .i64 r.2.2]
theorem sm0:SmX ex0:=⟨1,by decide⟩
theorem ok_gt {t:Tst} (h:okTs t) (hd:dpTs t):GT t:=⟨smx_right h.1,by
 rcases h.2 with h | h
 ·exact smx_right h
 ·rw [h]; exact sm0,hd⟩
end Go.Proofs.YtbmmnalndollkaaGreatDoor
set_option maxRecDepth 100000
namespace Go.Proofs.YtbmmnalndollkaaGreatDoor
open Go Go.Dx Go.RowKit
end Go.Proofs.YtbmmnalndollkaaGreatDoor
set_option maxRecDepth 100000
namespace Go.Proofs.YtbmmnalndollkaaGreatDoor
open Go Go.Dx Go.RowKit
theorem ev_num (col:List Col) (row:List Val) (n:Int):evX col row (SizeOf.sizeOf (numX n)+1) (numX n) = .ok ⟨1,n,[]⟩:=by
 rw [evX,if_pos (show (numX n).op=1 from rfl)]; rfl
theorem c_CHoldsK {c:Cel} {v:Val} {col:List Col} {row:List Val} {p:Bool×Int} (he:holdsC c v col row=p) (adt:Option Addr) (capt:Nat) (ad:Option Addr) (cap:Nat) (ad2:Option Addr) (cap2:Nat) (hg:∀ t∈c.ts,GT t) (hvv:valB v) (hl:col.length≤1000000) (hvb:∀ v∈row,valB v) (w0:World) (h0:View) (hv:VLe h0 (Full w0))
  (hx:TL h0 adt capt c.ts) (hc:SlC 66 3 (flatR colC) h0 (.slice ad col.length cap) col) (hr:SlC 52 3 (flatR valC) h0 (.slice ad2 row.length cap2) row) :
  Calls Tryz.prog 27 #[.agg (celC c adt capt).toArray,.agg (valC v).toArray,.slice ad col.length cap,.slice ad2 row.length cap2] w0 (Ret w0 h0 λ u _=>u=kbR2 p):=by
 subst he
 exact c_CHolds c adt capt v ad cap col ad2 cap2 row hg hvv hl hvb w0 h0 hv hx hc hr
end Go.Proofs.YtbmmnalndollkaaGreatDoor
set_option maxRecDepth 100000
namespace Go.Proofs.YtbmmnalndollkaaGreatDoor
open Go Go.Dx Go.RowKit
end Go.Proofs.YtbmmnalndollkaaGreatDoor
set_option maxRecDepth 100000
namespace Go.Proofs.YtbmmnalndollkaaGreatDoor
open Go Go.Dx Go.RowKit
theorem c_Rlname (s:List UInt8) (hs:s.length≤1000000) (w0:World) (h0:View) (hv:VLe h0 (Full w0)):Calls Tryz.prog 202 #[vs s] w0 (Ret w0 h0 λ u _=>u=resB (nameS s)):=by
 refine ent (args:=[vs s]) TT_ok [] [] Tryz.func202 rfl Tryz.ntmps202 rfl rfl hv ?_
 intro b2
 refine cl (c_Rword s hs) ?_
 refine cnd (λ h=>?_) (λ h=>?_)
 ·rw [nameS,if_pos (by omega)]; exact rfl
 ·have:=wordN_le s
  refine ixl (wordN s) ?_
  rw [nameS,if_neg (by omega)]; exact rfl
theorem numF_lt' (s:List UInt8):∀ (k v:Nat),k≤s.length→numF (s.take k)=some v→v≤9223372036854775807
 | 0,v,_,h=>by simp [numF] at h; omega
 | k+1,v,hk,h=>by
  rw [numF_snoc s k (by omega),numStep] at h
  cases ho:numF (s.take k) with
  | none=>rw [ho] at h; cases h
  | some u =>
   rw [ho,Option.bind_some] at h
   split at h
   ·cases h
   ·rename_i hn
    cases h
    have:=(s.getD k 0).toNat_lt
    omega
set_option maxHeartbeats 1000000 in
theorem c_RlexNumber (s:List UInt8) (hs0:0<s.length) (hs:s.length≤1000000) (w0:World) (h0:View) (hv:VLe h0 (Full w0)):Calls Tryz.prog 203 #[vs s] w0 (Ret w0 h0 λ u _=>u=resB (numS s)):=by
 refine ent (args:=[vs s]) TT_ok [] [] Tryz.func203 rfl Tryz.ntmps203 rfl rfl hv ?_
 intro b2
 refine w_loop TT_ok (λ z:Nat×Nat×Bool=>[(5,.v (.int .i64 z.1)),(6,.v (.int .i64 z.2.1)),(7,.v (.bool z.2.2))]) (0,0,false) (λ z=>z.1≤s.length∧(s.take z.1).all isDig=true∧(z.2.2=false→numF (s.take z.1)=some z.2.1)∧(z.2.2=true→numF (s.take z.1)=none)) (λ z=>s.length - z.1) ?_
 refine And.intro ⟨⟨Nat.zero_le _,by simp,λ _=>rfl,λ h=>by cases h⟩,gs⟩ ?_
 rintro ⟨k,v,ov⟩ ⟨hk,ha,hn1,hn2⟩
 dsimp only at hk ha hn1 hn2 ⊢
 refine ixg k ?_
 refine clg (λ _=>c_Rdigit (s.getD k 0)) ?_
 refine cnd (λ h=>?_) (λ h=>?_)
 ·have hkl:k<s.length:=by omega
  have ha2:=all_snocW hkl ha h.2
  have hd:=dig_b h.2
  refine ix k ?_
  generalize hdd:(s.getD k 0).toNat - 48=d
  refine ew (d:Int) (show IntKind.u8.wrap (((s.getD k 0).toNat:Int) - 48)=_ by rw [wrap_u8 (by omega) (by omega)]; omega) ?_
  refine ew (d:Int) (wrap_i64 (by omega) (by omega)) ?_
  cases ov with
  | true =>
   have hnn:=numS_none hkl (hn2 rfl)
   refine ew 0 (λ hh=>absurd hh (by decide)) ?_
   refine ew 0 (λ hh=>absurd hh (by decide)) ?_
   refine cndF rfl ?_
   refine wi ?_
   exact ⟨(k+1,v,true),⟨⟨by show k+1≤_; omega,ha2,(λ h=>by cases h),λ _=>hnn⟩,by show s.length - (k+1)<s.length - k; omega⟩,gs⟩
  | false =>
   have hnf:=hn1 rfl
   have hv1:=numF_lt' s k v (by omega) hnf
   have hov := @numS_over s k v hkl hnf
   have hst := @numS_step s k v hkl hnf
   rw [hdd] at hov hst
   refine ew (9223372036854775807 - (d:Int)) (λ _=>wrap_i64 (by omega) (by omega)) ?_
   have hqw:IntKind.i64.wrap ((9223372036854775807 - (d:Int)).tdiv 10)=(((9223372036854775807 - d) / 10:Nat):Int):=by
    rw [Int.tdiv_eq_ediv_of_nonneg (by omega),wrap_i64 (by omega) (by omega)]; omega
   have hq10:10*((9223372036854775807 - d) / 10)+d≤9223372036854775807:=by omega
   generalize (9223372036854775807 - d) / 10=q at hov hst hqw hq10
   refine ew (q:Int) (λ _=>⟨by decide,hqw⟩) ?_
   refine cnd (λ h3=>?_) (λ h3=>?_)
   ·have h3:¬ q<v:=by simp at h3; omega
    refine ew ((10*v:Nat):Int) (show IntKind.i64.wrap (10*(v:Int))=_ by rw [wrap_i64 (by omega) (by omega)]; omega) ?_
    refine ew ((10*v+d:Nat):Int) (show IntKind.i64.wrap (((10*v:Nat):Int)+d)=_ by rw [wrap_i64 (by omega) (by omega)]; omega) ?_
    refine wi ?_
    refine ⟨(k+1,10*v+d,decide ((q:Int)<(v:Int))),⟨⟨by show k+1≤_; omega,ha2,λ _=>hst h3,λ hh=>?_⟩,by show s.length - (k+1)<s.length - k; omega⟩,gs⟩
    exfalso
    simp at hh; omega
   ·have h3:q<v:=by simp at h3; omega
    refine wi ?_
    refine ⟨(k+1,v,decide ((q:Int)<(v:Int))),⟨⟨by show k+1≤_; omega,ha2,λ hh=>?_,λ _=>hov h3⟩,by show s.length - (k+1)<s.length - k; omega⟩,gs⟩
    exfalso
    simp at hh; omega
 ·have hkk:digN s=k:=tw_len isDig s k ha hk (by
   rcases h with h | h
   ·exact .inl (by omega)
   ·exact .inr h)
  subst hkk
  refine ixg 0 ?_
  refine cnd (λ h1=>?_) (λ h1=>?_)
  ·rw [numS,if_pos ⟨by omega,h1.2⟩]; exact rfl
  ·rw [numS,if_neg (λ hh=>by rcases h1 with h1 | h1; omega; exact h1 hh.2)]
   refine cnd (λ h2=>?_) (λ h2=>?_)
   ·rw [hn2 h2]; exact rfl
   ·rw [hn1 h2]; exact rfl
set_option maxHeartbeats 1000000 in
theorem c_Rtext (s:List UInt8) (hs:s.length≤1000000) (w0:World) (h0:View) (hv:VLe h0 (Full w0)):Calls Tryz.prog 204 #[vs s] w0 (Ret w0 h0 λ u _=>u=resB (textS s)):=by
 refine ent (args:=[vs s]) TT_ok [] [14] Tryz.func204 rfl Tryz.ntmps204 rfl rfl hv ?_
 intro b2
 refine w_loop TT_ok (λ z:Nat×List UInt8=>[(6,.v (.int .i64 z.1)),(5,.v (vs z.2))]) (1,[]) (λ z=>z.2.length≤z.1∧z.1≤s.length+1∧textG s z.1 z.2=textS s) (λ z=>s.length+1 - z.1) ?_
 refine And.intro ⟨⟨Nat.zero_le _,by show 1≤_; omega,rfl⟩,gs⟩ ?_
 rintro ⟨i,b⟩ ⟨hb,hi,ht⟩
 dsimp only at hb hi ht ⊢
 refine cnd (λ h=>?_) (λ h=>?_)
 ·have hil:i<s.length:=by omega
  refine ix i ?_
  refine cnd (λ h1=>?_) (λ h1=>?_)
  ·refine cnd (λ h2=>?_) (λ h2=>?_)
   ·rw [← ht,tx_big hil h1 (by omega)]; exact rfl
   ·refine wi ?_
    rw [← ht,tx_end hil h1 (by omega)]; exact rfl
  ·refine w_cut TT_ok (λ j:Nat=>[(6,.v (.int .i64 j))]) (λ j=>j<s.length∧i≤j∧((bt s j<32∨126<bt s j)→textG s i b = .err 11)∧(¬ (bt s j<32∨126<bt s j)→textG s (j+1) (b++[s.getD j 0])=textS s)) ?_
   refine And.intro ?_ ?_
   ·refine cnd (λ h3=>?_) (λ h3=>?_)
    ·refine wi ?_
     refine ixg (i+1) ?_
     refine ixg (i+1) ?_
     refine cnd (λ h4=>?_) (λ h4=>?_)
     ·rw [← ht,tx_bad hil h1 h3 (by simp only [bt]; omega)]; exact rfl
     ·have h5:¬ (i+1=s.length∨(bt s (i+1)≠34∧bt s (i+1)≠92)):=by simp only [bt]; omega
      refine ⟨i+1,⟨by omega,by omega,λ h6=>?_,λ _=>?_⟩,gs⟩
      ·exfalso; omega
      ·rw [← ht,tx_esc hil h1 h3 h5]
    ·refine ⟨i,⟨by omega,Nat.le_refl _,λ h6=>tx_ctl hil h1 h3 h6,λ h6=>by rw [← ht,tx_ch hil h1 h3 h6]⟩,gs⟩
   ·intro j ⟨hj,hij,hj1,hj2⟩
    refine ix j ?_
    refine ixg j ?_
    refine cnd (λ h4=>?_) (λ h4=>?_)
    ·rw [← ht,hj1 (by simp only [bt]; omega)]; exact rfl
    ·refine wi ?_
     refine sl2 j (j+1) ?_
     have e1:(s.drop j).take (j+1 - j)=[s.getD j 0]:=by
      rw [show j+1 - j=1 by omega,List.drop_eq_getElem_cons hj,getD_lt s j 0 hj]; rfl
     refine ct ?_ (by rw [e1]; show b.length+1≤_; omega)
     rw [e1]
     refine wi ?_
     exact ⟨(j+1,b++[s.getD j 0]),⟨⟨by show (b++[s.getD j 0]).length≤j+1; rw [List.length_append]; show b.length+1≤_; omega,by show j+1≤_; omega,hj2 (by simp only [bt]; omega)⟩,by show s.length+1 - (j+1)<s.length+1 - i; omega⟩,gs⟩
 ·rw [← ht,tx_over (by omega)]; exact rfl
theorem c_RMarks (w0:World) (h0:View) (hv:VLe h0 (Full w0)):Calls Tryz.prog 205 #[] w0 (Ret w0 h0 λ u h=>∃ b:Nat,u = .slice (some ⟨b,0,none⟩) 16 16∧SlC 9 1 (flatR λ s=>[vs s]) h (.slice (some ⟨b,0,none⟩) 16 16) marksL):=by
 refine entA (args:=[]) TT_ok [0] [] Tryz.func205 rfl Tryz.ntmps205 rfl rfl hv (λ _=>Mono.slF) ?_
 refine ⟨rfl,goW TT_ok ?_⟩
 intro b1
 refine shutG TT_ok (Φ:=λ h=>SlC 9 1 (flatR λ s=>[vs s]) h (.slice (some ⟨b1,0,none⟩) 16 16) marksL) 1 rfl (row_sl (g:=λ s=>[vs s]) (l:=marksL) (sz:=1) (n:=16) (cp:=16) rfl) ?_ Mono.slF
 exact ⟨b1,rfl,λ v _ hF=>hF.2⟩
set_option maxHeartbeats 1000000 in
theorem c_Rone (s:List UInt8) (hs0:0<s.length) (hs:s.length≤1000000) (w0:World) (h0:View) (hv:VLe h0 (Full w0)):Calls Tryz.prog 161 #[vs s] w0 (Ret w0 h0 λ u _=>u=resB (oneS s)):=by
 refine ent (args:=[vs s]) TT_ok [1000012] [] Tryz.func161 rfl Tryz.ntmps161 rfl rfl hv ?_
 intro b2
 refine ix 0 ?_
 refine cl (c_Rletter (s.getD 0 0)) ?_
 refine cnd (λ h=>?_) (λ h=>?_)
 ·refine cl (c_Rlname s hs) ?_
  rw [one_let h]; exact rfl
 refine ix 0 ?_
 refine cl (c_Rdigit (s.getD 0 0)) ?_
 refine cnd (λ h2=>?_) (λ h2=>?_)
 ·refine cl (c_RlexNumber s hs0 hs) ?_
  rw [one_dig h h2]; exact rfl
 refine ix 0 ?_
 refine cnd (λ h3=>?_) (λ h3=>?_)
 ·refine cl (c_Rtext s hs) ?_
  rw [one_txt h h2 h3]; exact rfl
 rw [one_mark h h2 h3]
 refine cA TT_ok (λ w v h1 h2 h3=>c_RMarks w v h3) (λ _=>Mono.slF) (λ b6=>?_)
 have hml:marksL.length=16:=rfl
 refine w_loop TT_ok (λ k:Nat=>[(6,.v (.int .i64 k))]) 0 (λ k=>k≤16∧markG s (marksL.drop k)=markG s marksL) (λ k=>16 - k) ?_
 refine And.intro ⟨⟨Nat.zero_le _,rfl⟩,gs⟩ ?_
 intro k ⟨hk,hm⟩
 refine cnd (λ h4=>?_) (λ h4=>?_)
 ·have hk16:k<16:=by omega
  have hst:=mark_step s k hk16
  rw [hm] at hst
  refine And.intro (by kernel_rfl) ?_
  refine ixf (l:=marksL) (λ v hF=>hF.2) k [] ?_ (by omega)
  refine ixfg (l:=marksL) (λ v hF=>hF.2) k [] ?_ (by intros; omega)
  refine kg1 ?_
  refine ⟨(marksL.getD k []).length,λ h=>⟨rfl,by simpa [bq] using h⟩,?_⟩
  refine ixfg (l:=marksL) (λ v hF=>hF.2) k [] ?_ (by intros; omega)
  refine kg1 ?_
  refine cnd (λ h5=>?_) (λ h5=>?_)
  ·have hp:pre s (marksL.getD k [])=true:=by rw [pre,decide_eq_true (by omega),decide_eq_true h5.2]; rfl
   rw [hst,hp]
   refine regQ TT_ok [0,1,2,3,4,5,6,7,8,9] [10,11,12] [2] false ?_
   refine ixf (l:=marksL) (λ v hF=>hF.2) k [] ?_ (by omega)
   refine ixf (l:=marksL) (λ v hF=>hF.2) k [] ?_ (by omega)
   refine kq ?_
   refine kq ?_
   refine kq ?_
   exact rfl
  ·have hp:pre s (marksL.getD k [])=false:=by
    rw [pre]
    rcases h5 with h5 | h5
    ·rw [decide_eq_false (by omega)]; rfl
    ·rw [decide_eq_false (p:=s.take _=_) h5,Bool.and_false]
   rw [hp] at hst
   refine wi ?_
   exact ⟨k+1,⟨⟨by omega,hst.symm⟩,by omega⟩,gs⟩
 ·have e:k=16:=by omega
  subst e
  rw [← hm]; exact rfl
theorem flatT' (l:List Tok):(l.map tokC).flatten.length=4*l.length:=flatC_len l
set_option maxHeartbeats 1000000 in
theorem c_RLex (s:List UInt8) (w0:World) (h0:View) (hv:VLe h0 (Full w0)):Calls Tryz.prog 101 #[vs s] w0 (Ret w0 h0 λ u h=>∃ x:Option Addr×Nat,u = .tuple #[.slice x.1 (lexS s).1.length x.2,.int .i64 (lexS s).2.1,.int .i64 (lexS s).2.2]∧SlC 175 4 (flatR tokC) h (.slice x.1 (lexS s).1.length x.2) (lexS s).1):=by
 refine entA (args:=[vs s]) TT_ok [44] [] Tryz.func101 rfl Tryz.ntmps101 rfl rfl hv (λ _=>Mono.slF) ?_
 refine cnd (λ h=>?_) (λ h=>?_)
 ·rw [lexS,if_pos (by omega)]
  exact ⟨(none,0),rfl,λ v _ _=>SlC.nil (by simp [maxLen])⟩
 have hlx:lexS s=lexG s 0 []:=by rw [lexS,if_neg (by omega)]
 refine nilC 900 175 4 ?_
 refine w_loopB TT_ok (λ z:Option Addr×Nat×Nat×Nat×List Tok=>[(5,.v (.slice z.1 z.2.1 z.2.2.1)),(6,.v (.int .i64 z.2.2.2.1))]) (λ z=>[(900,.e (bufE 175 4 (.slice z.1 z.2.1 z.2.2.1) (z.2.2.2.2.map tokC).flatten))]) (none,0,0,0,[])
  (λ z=>z.2.2.2.1≤s.length∧z.2.1=z.2.2.2.2.length∧z.2.2.2.2.length≤z.2.2.2.1∧lexG s z.2.2.2.1 z.2.2.2.2=lexS s) (λ z=>s.length - z.2.2.2.1) ?_
 refine And.intro ⟨⟨Nat.zero_le _,rfl,Nat.zero_le _,hlx.symm⟩,gs⟩ ?_
 rintro ⟨a0,n,cp,j,out⟩ ⟨hj,hn,hb,hjt⟩
 dsimp only at hj hn hb hjt ⊢
 refine cnd (λ h2=>?_) (λ h2=>?_)
 ·have hjl:j<s.length:=by omega
  refine ix j ?_
  refine cnd (λ h1=>?_) (λ h1=>?_)
  ·refine wi ?_
   refine ⟨(a0,n,cp,j+1,out),⟨⟨by show j+1≤_; omega,hn,by show out.length≤j+1; omega,?_⟩,by show s.length - (j+1)<s.length - j; omega⟩,gs⟩
   rw [← hjt,lex_sp hjl h1]
  ·have hne:¬ bt s j=32:=h1
   have hdl:(s.drop j).length=s.length - j:=List.length_drop
   refine ixl j ?_
   rcases one_ok (s.drop j) (by omega) with ⟨e,he,h0e⟩ | ⟨t,m,he,hm,hml⟩
   ·refine cl (x:=resB (.err e)) (λ w h hv=>by have:=c_Rone (s.drop j) (by omega) (by omega) w h hv; rw [he] at this; exact this) ?_
    intro b7
    refine cndT (show (!decide (resE (.err e)=0))=true by rw [show resE (.err e)=e from rfl,decide_eq_false h0e]; rfl) ?_
    have e2:lexS s=([],(j:Int),e):=by rw [← hjt,lex_err hjl hne he]
    rw [e2]
    exact ⟨(none,0),rfl,λ v _ _=>SlC.nil (by simp [maxLen])⟩
   ·refine cl (x:=resB (.ok t m)) (λ w h hv=>by have:=c_Rone (s.drop j) (by omega) (by omega) w h hv; rw [he] at this; exact this) ?_
    intro b7
    refine cndF rfl ?_
    intro b39
    refine ap TT_ok 900 (AppT.of (bytes:=40) (sz:=3) (by kernel_rfl) (by kernel_rfl) (by kernel_rfl)) rfl rfl rfl rfl rfl rfl rfl (by rw [flatT']; show (_+4)*41≤_; omega) (λ a1 n1 c1 e1=>?_)
    refine ew ((j+m:Nat):Int) (show IntKind.i64.wrap ((j:Int)+m)=_ by rw [wrap_i64 (by omega) (by omega)]; omega) ?_
    have hn1:n1=out.length+1:=by
     rw [flatT'] at e1
     have e1:n1*4=4*out.length+4:=e1
     omega
    refine ⟨(a1,n1,c1,j+m,out++[{ t with p:=(j:Int) }]),⟨⟨by show j+m≤s.length; omega,by show n1=(out++[{ t with p:=(j:Int) }]).length; rw [List.length_append]; exact hn1,by show (out++[{ t with p:=(j:Int) }]).length≤j+m; rw [List.length_append]; show out.length+1≤j+m; omega,by rw [← hjt,lex_ok hjl hne he hm]⟩,by show s.length - (j+m)<s.length - j; omega⟩,gs rfl ?_⟩
    show [(900,OB.e (bufE 175 4 (.slice a1 n1 c1) _))]=[(900,OB.e (bufE 175 4 (.slice a1 n1 c1) _))]
    rw [List.map_append,List.flatten_append]; rfl
 ·have e:lexS s=(out,0,0):=by rw [← hjt,lex_end (by omega)]
  subst hn
  refine And.intro rfl ?_
  refine sealW (g:=tokC) (l:=out) 900 rfl rfl ?_
  refine goW TT_ok ?_
  rw [e]
  exact ⟨(a0,cp),rfl,λ v _ hF=>hF.2⟩
end Go.Proofs.YtbmmnalndollkaaGreatDoor
set_option maxRecDepth 100000
namespace Go.Proofs.YtbmmnalndollkaaGreatDoor
open Go Go.Dx Go.RowKit
theorem bin_k:∀ k,k<12→(binL.getD k (0,[],0)).1=((k+4:Nat):Int)∧findS ((k+4:Nat):Int)=binL.getD k (0,[],0)∧levD ((k+4:Nat):Int)=(binL.getD k (0,[],0)).2.2∧(if (k=10∨k=11) then (1:Int) else 4)=kindB (binL.getD k (0,[],0))
 | 0,_ | 1,_ | 2,_ | 3,_ | 4,_ | 5,_ | 6,_ | 7,_ | 8,_ | 9,_ | 10,_ | 11,_=>by decide
 | n+12,h=>by omega
def rrC (ad:Option Addr) (n cap:Nat) (at_:Int) (bad:Bool):List Value:=[.slice ad n cap,.int .i64 at_,.bool bad]
section rr
variable (b:Nat) (ad:Option Addr) (cap:Nat) (l:List Tok)
theorem c_Ris (i:Nat) (bad:Bool) (k:Int) (s:List UInt8) (hk:k≠0) (hi:i≤1000000) (w0:World) (h0:View) (hv:VLe h0 (Full w0)) (hno:h0 b=none) (hl:SlC 175 4 (flatR tokC) h0 (.slice ad l.length cap) l)
  (hbl:w0.heap[b]?=some (.cells (rrC ad l.length cap i bad).toArray 234 (0,0))) :
  Calls Tryz.prog 209 #[.pointer (some ⟨b,0,none⟩),.int .i64 k,vs s] w0 (RetM [b] w0 λ u w'=>u = .bool (onS l i false k s)∧w'.heap[b]?=some (.cells (rrC ad l.length cap i bad).toArray 234 (0,0))):=by
 refine entM (args:=[.pointer (some ⟨b,0,none⟩),.int .i64 k,vs s]) TT_ok [] [] [.o 900 0,.v (.int .i64 k),.v (vs s)] Tryz.func209 rfl Tryz.ntmps209 rfl rfl hv hbl hno rfl ?_
 refine And.intro (by kernel_rfl) ?_
 refine ixsg hl i t0 ?_ (by intros; omega)
 refine kg1 ?_
 refine ixsg hl i t0 ?_ (λ h=>by simp at h; omega)
 refine kg1 ?_
 refine ⟨?_,rfl⟩
 refine congrArg Value.bool ?_
 by_cases h:i<l.length
 ·rw [onS,nowS]
  simp [h]
 ·have e:onS l i false k s=false:=by
   cases ho:onS l i false k s with
   | false=>rfl
   | true=>exact absurd (on_lt ho hk).1 h
  rw [e]
  simp [h]
theorem c_Rtake (p:Nat×Bool) (k:Int) (s:List UInt8) (hk:k≠0) (hi:p.1≤1000000) (w0:World) (h0:View) (hv:VLe h0 (Full w0)) (hno:h0 b=none) (hl:SlC 175 4 (flatR tokC) h0 (.slice ad l.length cap) l)
  (hbl:w0.heap[b]?=some (.cells (rrC ad l.length cap ((p.1:Nat):Int) p.2).toArray 234 (0,0))) :
  Calls Tryz.prog 210 #[.pointer (some ⟨b,0,none⟩),.int .i64 k,vs s] w0 (RetM [b] w0 λ u w'=>u = .tuple #[]∧w'.heap[b]?=some (.cells (rrC ad l.length cap (((mustS l p k s).1:Nat):Int) (mustS l p k s).2).toArray 234 (0,0))):=by
 obtain ⟨i,bad⟩:=p
 refine entM (args:=[.pointer (some ⟨b,0,none⟩),.int .i64 k,vs s]) TT_ok [] [] [.o 900 0,.v (.int .i64 k),.v (vs s)] Tryz.func210 rfl Tryz.ntmps210 rfl rfl hv hbl hno rfl ?_
 refine cnd (λ h=>?_) (λ h=>?_)
 ·have h:bad=true:=h
  subst h
  have e:onS l i true k s=false:=by
   cases ho:onS l i true k s with
   | false=>rfl
   | true=>exact absurd (on_lt ho hk).2 (by decide)
  have e1:mustS l (i,true) k s=(i,true):=by unfold mustS; rw [if_neg (by rw [e]; decide)]; rfl
  rw [e1]
  exact ⟨rfl,rfl⟩
 ·have h:bad=false:=h
  subst h
  refine cM TT_ok 900 (λ w v h1 h2 h3 h4 h5=>c_Ris b ad cap l i false k s hk hi w v h3 h4 (Mono.slF _ _ h1 hl) h5) ?_
  refine cnd (λ h=>?_) (λ h=>?_)
  ·have e1:mustS l (i,false) k s=(i+1,false):=by unfold mustS; rw [if_pos h,h]; rfl
   rw [e1]
   refine wi ?_
   exact ⟨rfl,rfl⟩
  ·have e1:mustS l (i,false) k s=(i,true):=by unfold mustS; rw [if_neg (by rw [h]; decide),h]; rfl
   rw [e1]
   exact ⟨rfl,rfl⟩
theorem c_Rop (i lev:Nat) (hi:i≤1000000) (w0:World) (h0:View) (hv:VLe h0 (Full w0)) (hno:h0 b=none) (hl:SlC 175 4 (flatR tokC) h0 (.slice ad l.length cap) l)
  (hbl:w0.heap[b]?=some (.cells (rrC ad l.length cap (i:Int) false).toArray 234 (0,0))) :
  Calls Tryz.prog 211 #[.pointer (some ⟨b,0,none⟩),.int .i64 (lev:Int)] w0 (RetM [b] w0 λ u w'=>u = .int .i64 (opS l i false lev)∧w'.heap[b]?=some (.cells (rrC ad l.length cap (i:Int) false).toArray 234 (0,0))):=by
 refine entM (args:=[.pointer (some ⟨b,0,none⟩),.int .i64 (lev:Int)]) TT_ok [4000026] [7] [.o 900 0,.v (.int .i64 (lev:Int))] Tryz.func211 rfl Tryz.ntmps211 rfl rfl hv hbl hno rfl ?_
 refine w_loop TT_ok (λ k:Nat=>[(5,.v (.int .i64 ((k+4:Nat):Int)))]) 0 (λ k=>k≤12∧∀ j,j<k→hitB l i false lev (binL.getD j (0,[],0))=false) (λ k=>12 - k) ?_
 refine And.intro ⟨⟨Nat.zero_le _,λ j hj=>absurd hj (Nat.not_lt_zero j)⟩,gs⟩ ?_
 intro k ⟨hk,hn⟩
 have hlen:binL.length=12:=rfl
 refine cnd (λ h=>?_) (λ h=>?_)
 ·have hk12:k<12:=by omega
  obtain ⟨e1,e2,e3,e4⟩:=bin_k k hk12
  have hhit:=op_hit l i false lev k hk12 hn
  have hmiss:hitB l i false lev (binL.getD k (0,[],0))=false→∀ j,j<k+1→hitB l i false lev (binL.getD j (0,[],0))=false:=λ hh j hj=>by
   by_cases hjk:j=k
   ·rw [hjk]; exact hh
   ·exact hn j (by omega)
  refine w_cut TT_ok (λ kd:Int=>[(6,.v (.int .i64 kd))]) (λ kd=>kd=kindB (binL.getD k (0,[],0))∧kd≠0) ?_
  refine And.intro ?_ ?_
  ·refine cnd (λ h1=>?_) (λ h1=>?_)
   ·exact ⟨1,⟨by rw [← e4,if_pos (by omega)],by decide⟩,gs⟩
   ·exact ⟨4,⟨by rw [← e4,if_neg (by omega)],by decide⟩,gs⟩
  ·intro kd ⟨hkd,hkd0⟩
   have hb:hitB l i false lev (binL.getD k (0,[],0))=(decide ((binL.getD k (0,[],0)).2.2=lev)&&onS l i false kd (binL.getD k (0,[],0)).2.1):=by rw [hkd]; rfl
   refine cl (c_Level _) ?_
   rw [e3]
   refine clg (λ _=>c_sign _) ?_
   rw [e2]
   generalize binL.getD k (0,[],0)=bb at e1 hb hhit hmiss ⊢
   obtain ⟨op,sg,lv⟩:=bb
   refine cnd (λ h4=>?_) (λ h4=>?_)
   ·refine cMI TT_ok 900 (λ w v h1 h2 h3 h4 h5=>c_Ris b ad cap l i false kd sg hkd0 hi w v h3 h4 (Mono.slF _ _ h1 hl) h5) ?_
    refine cnd (λ h5=>?_) (λ h5=>?_)
    ·refine ⟨?_,rfl⟩
     rw [hhit (by rw [hb,h5.2,decide_eq_true h4]; rfl),e1]; rfl
    ·have h6:onS l i false kd sg=false:=h5.resolve_left (λ hh=>hh h4)
     refine wi ?_
     exact ⟨k+1,⟨⟨by omega,hmiss (by rw [hb,h6,Bool.and_false])⟩,by omega⟩,gs⟩
   ·refine ⟨.bool false,?_⟩
    refine cndF (by rw [Bool.and_false]) ?_
    refine wi ?_
    exact ⟨k+1,⟨⟨by omega,hmiss (by rw [hb,decide_eq_false h4,Bool.false_and])⟩,by omega⟩,gs⟩
 ·have e:opS l i false lev=0:=op_none l i false lev λ j hj=>hn j (by omega)
  rw [e]
  exact ⟨rfl,rfl⟩
end rr
end Go.Proofs.YtbmmnalndollkaaGreatDoor
set_option maxRecDepth 100000
namespace Go.Proofs.YtbmmnalndollkaaGreatDoor
open Go Go.Dx Go.RowKit
theorem op_bad (l:List Tok) (i:Nat) (lev:Int):opS l i true lev=0:=by
 by_cases h:opS l i true lev=0
 ·exact h
 ·exact absurd (op_lt h).2 (by decide)
theorem atom_end {rd:Nat→Bool→RdR} {l:List Tok} {i:Nat} {bad:Bool} (h:bad=true∨l.length≤i):atomS rd l i bad=(ex0,i,true):=by
 have hn:nowS l i bad=t0:=by
  unfold nowS
  split
  ·rfl
  ·rcases h with h | h
   ·exact absurd h (by assumption)
   ·simp [List.getD,List.getElem?_eq_none h]
 unfold atomS onS
 rw [hn]
 rfl
theorem loop_bad (rd:Nat→Bool→RdR) (l:List Tok) (lev n:Nat) (x:Ex) (i:Nat):loopS rd l lev (n+1) x i true=(x,i,true):=by
 unfold loopS
 rw [if_pos (op_bad l i lev)]
def RrP (b:Nat) (ad:Option Addr) (n cap:Nat) (r:RdR) (u:Value) (w':World) (hh:View):Prop:=∃ x:Option Addr×Nat,u=exV r.1 x∧w'.heap[b]?=some (.cells (rrC ad n cap ((r.2.1:Nat):Int) r.2.2).toArray 234 (0,0))∧XL hh x.1 x.2 r.1.l
section rf
variable (b:Nat) (ad:Option Addr) (cap:Nat) (l:List Tok)
def RrC (f:Nat):Prop:=∀ (lev i:Nat) (bad:Bool),lev≤7→i≤l.length→needS l lev i≤f→∀ (w0:World) (h0:View),VLe h0 (Full w0)→h0 b=none→SlC 175 4 (flatR tokC) h0 (.slice ad l.length cap) l →
  w0.heap[b]?=some (.cells (rrC ad l.length cap (i:Int) bad).toArray 234 (0,0))→Calls Tryz.prog 165 #[.pointer (some ⟨b,0,none⟩),.int .i64 (lev:Int)] w0 (RetV [b] w0 h0 λ u w' hh=>RrP b ad l.length cap (rdN l lev i bad) u w' hh)
variable {b ad cap l}
theorem c_Rfirst {f:Nat} (ih:RrC b ad cap l f) (hTs:∀ t∈l,t.s.length≤1000000) (hn:l.length≤999999) (i:Nat) (bad:Bool) (hi:i≤l.length) (hf:needS l 7 i≤f+1) (w0:World) (h0:View) (hv:VLe h0 (Full w0)) (hno:h0 b=none) (hl:SlC 175 4 (flatR tokC) h0 (.slice ad l.length cap) l)
  (hbl:w0.heap[b]?=some (.cells (rrC ad l.length cap (i:Int) bad).toArray 234 (0,0))) :
  Calls Tryz.prog 208 #[.pointer (some ⟨b,0,none⟩)] w0 (RetV [b] w0 h0 λ u w' hh=>RrP b ad l.length cap (atomS (rdN l 0) l i bad) u w' hh):=by
 refine entW (args:=[.pointer (some ⟨b,0,none⟩)]) TT_ok [1000004] [] [.o 900 0] Tryz.func208 rfl Tryz.ntmps208 rfl rfl hv hbl hno rfl (λ x=>xl_m x _) ?_
 intro b2
 refine And.intro (by kernel_rfl) ?_
 refine cnd (λ h=>?_) (λ h=>?_)
 ·rw [atom_end (h.imp id λ h=>by omega)]
  exact ⟨(none,0),rfl,rfl,λ v _ _=>xl_nil v⟩
 have hb:bad=false:=h.1
 subst hb
 have hlt:i<l.length:=by have:=h.2; omega
 have hnow:nowS l i false=l.getD i t0:=rfl
 have hon:∀ k s,onS l i false k s=(decide ((l.getD i t0).k=k)&&decide ((l.getD i t0).s=s)):=λ k s=>rfl
 have hts:(l.getD i t0).s.length≤1000000:=hTs _ (getD_mem l i t0 hlt)
 have g1:=rdN_ge l 0 (i+1) false hlt
 refine regQ TT_ok [0,1,2,3,4,5,6,7,8,9] [10,11] [] false ?_
 refine ixs hl i t0 ?_ (by omega)
 intro b3
 refine kq ?_
 refine kq ?_
 generalize l.getD i t0=t at hnow hon hts ⊢
 intro b4
 refine cnd (λ h1=>?_) (λ h1=>?_)
 ·have ea:atomS (rdN l 0) l i false=(.mk 1 ⟨1,t.n,[]⟩ [] [],i+1,false):=by
   unfold atomS
   rw [hon,hnow,if_neg (by rw [h1]; simp),if_pos h1]
  rw [ea]
  refine wi ?_
  exact ⟨(none,0),rfl,rfl,λ v _ _=>xl_nil v⟩
 refine cnd (λ h2=>?_) (λ h2=>?_)
 ·have ea:atomS (rdN l 0) l i false=(.mk 1 ⟨2,0,t.s⟩ [] [],i+1,false):=by
   unfold atomS
   rw [hon,hnow,if_neg (by rw [h2]; simp),if_neg h1,if_pos h2]
  rw [ea]
  refine wi ?_
  exact ⟨(none,0),rfl,rfl,λ v _ _=>xl_nil v⟩
 have hwd:∀ s v,wordV s=some v→onS l i false 1 s=true→atomS (rdN l 0) l i false=(.mk 1 v [] [],i+1,false):=λ s v hv ho=>by
  rw [hon] at ho
  simp only [Bool.and_eq_true,decide_eq_true_eq] at ho
  unfold atomS
  rw [hon,hnow,if_neg (by rw [ho.1]; simp),if_neg h1,if_neg h2,if_pos ho.1,ho.2,hv]
  rfl
 refine cM TT_ok 900 (λ w v h1 h2 h3 h4 h5=>c_Ris b ad cap l i false 1 [110,117,108,108] (by decide) (by omega) w v h3 h4 (Mono.slF _ _ h1 hl) h5) ?_
 refine cnd (λ h3=>?_) (λ h3=>?_)
 ·rw [hwd _ v0 rfl h3]
  refine wi ?_
  exact ⟨(none,0),rfl,rfl,λ v _ _=>xl_nil v⟩
 refine cM TT_ok 900 (λ w v h1 h2 h3 h4 h5=>c_Ris b ad cap l i false 1 [116,114,117,101] (by decide) (by omega) w v h3 h4 (Mono.slF _ _ h1 hl) h5) ?_
 refine cnd (λ h4=>?_) (λ h4=>?_)
 ·rw [hwd _ ⟨3,1,[]⟩ (by decide) h4]
  refine wi ?_
  exact ⟨(none,0),rfl,rfl,λ v _ _=>xl_nil v⟩
 refine cM TT_ok 900 (λ w v h1 h2 h3 h4 h5=>c_Ris b ad cap l i false 1 [102,97,108,115,101] (by decide) (by omega) w v h3 h4 (Mono.slF _ _ h1 hl) h5) ?_
 refine cnd (λ h5=>?_) (λ h5=>?_)
 ·rw [hwd _ ⟨3,0,[]⟩ (by decide) h5]
  refine wi ?_
  exact ⟨(none,0),rfl,rfl,λ v _ _=>xl_nil v⟩
 have hnw:t.k=1→¬ (wordV t.s).isSome=true:=λ hk=>by
  have e:∀ s,onS l i false 1 s=false→¬ t.s=s:=λ s ho=>by
   rw [hon,decide_eq_true hk,Bool.true_and] at ho
   exact of_decide_eq_false ho
  unfold wordV
  rw [if_neg (e _ h3),if_neg (e _ h5),if_neg (e _ h4)]
  decide
 refine clg (λ _=>c_RName t.s hts) ?_
 refine cnd (λ h6=>?_) (λ h6=>?_)
 ·have ea:atomS (rdN l 0) l i false=(.mk 2 v0 t.s [],i+1,false):=by
   unfold atomS
   rw [hon,hnow,if_neg (by rw [h6.1]; simp),if_neg h1,if_neg h2,if_pos h6.1,if_neg (hnw h6.1),if_pos h6.2]
  rw [ea]
  refine wi ?_
  exact ⟨(none,0),rfl,rfl,λ v _ _=>xl_nil v⟩
 refine cM TT_ok 900 (λ w v h1 h2 h3 h4 h5=>c_Ris b ad cap l i false 4 [40] (by decide) (by omega) w v h3 h4 (Mono.slF _ _ h1 hl) h5) ?_
 refine cnd (λ h7=>?_) (λ h7=>?_)
 ·have ea:atomS (rdN l 0) l i false=((rdN l 0 (i+1) false).1,mustS l (rdN l 0 (i+1) false).2 4 [41]):=if_pos h7
  rw [ea]
  refine wi ?_
  refine cV TT_ok 900 (λ w v h1 h2 h3 h4 h5=>ih 0 (i+1) false (by omega) hlt (by unfold needS at hf ⊢; omega) w v h3 h4 (Mono.slF _ _ h1 hl) h5) (λ x=>xl_m x _) (λ x1=>?_)
  generalize rdN l 0 (i+1) false=r1 at g1 ⊢
  refine cM TT_ok 900 (λ w v h1 h2 h3 h4 h5=>c_Rtake b ad cap l r1.2 4 [41] (by decide) (by have:=g1.2; omega) w v h3 h4 (Mono.slF _ _ h1 hl) h5) ?_
  exact ⟨x1,rfl,rfl,λ v _ hF=>hF.2⟩
 ·have ea:atomS (rdN l 0) l i false=(ex0,i,true):=by
   unfold atomS
   rw [h7,hnow,if_neg (by decide),if_neg h1,if_neg h2]
   by_cases hk:t.k=1
   ·rw [if_pos hk,if_neg (hnw hk),if_neg (λ hh=>by rcases h6 with h6 | h6; exact h6 hk; rw [hh] at h6; cases h6)]
   ·rw [if_neg hk]
  rw [ea]
  exact ⟨(none,0),rfl,rfl,λ v _ _=>xl_nil v⟩
theorem c_Rread (hT:TokN l) (hTs:∀ t∈l,t.s.length≤1000000) (hn:l.length≤999999):∀ f,RrC b ad cap l f
 | 0=>λ lev i bad h7 _ hf=>absurd hf (by have:=need_pos l (i:=i) h7; omega)
 | f+1=>by
  intro lev i bad h7 hi hf w0 h0 hv hno hl hbl
  have ih:=c_Rread hT hTs hn f
  have hge:=λ lev i bad h=>rdN_ge l lev i bad h
  have hnd:=λ lev i bad=>rdN_nd hT lev i bad
  have hR:=rdN_eq l lev i bad h7 hi
  have hR7:lev<7→rdN l 7 i bad=_:=λ _=>rdN_eq l 7 i bad (Nat.le_refl _) hi
  generalize hRR:rdN l lev i bad=R at hR ⊢
  refine entW (args:=[.pointer (some ⟨b,0,none⟩),.int .i64 (lev:Int)]) TT_ok [4000026,4000055,49,67,108,1000022] [] [.o 900 0,.v (.int .i64 (lev:Int))] Tryz.func165 rfl Tryz.ntmps165 rfl rfl hv hbl hno rfl (λ x=>xl_m x _) ?_
  intro b4
  refine cnd (λ hA=>?_) (λ hA=>?_)
  ·have e:R=atomS (rdN l 0) l i bad:=by
    rw [hR]
    by_cases hb:bad=true
    ·rw [if_pos hb,atom_end (.inl hb),hb]
    ·have h7':lev=7:=by rcases hA with hA | hA; exact absurd hA hb; omega
     rw [if_neg hb,if_neg (by omega),if_neg (by omega),if_pos (by omega)]
   rw [e]
   refine cV TT_ok 900 (λ w v h1 h2 h3 h4 h5=>c_Rfirst ih hTs hn i bad hi (by unfold needS at hf ⊢; omega) w v h3 h4 (Mono.slF _ _ h1 hl) h5) (λ x=>xl_m x _) (λ x1=>?_)
   exact ⟨x1,rfl,rfl,λ v _ hF=>hF.2⟩
  have hb:bad=false:=hA.1
  have hl7:lev<7:=by have:=hA.2; omega
  subst hb
  rw [if_neg (by decide)] at hR
  refine cnd (λ hl0=>?_) (λ hl0=>?_)
  ·have hl0':lev=0:=by omega
   subst hl0'
   rw [if_pos rfl] at hR
   refine cMI TT_ok 900 (λ w v h1 h2 h3 h4 h5=>c_Ris b ad cap l i false 1 ifT (by decide) (by omega) w v h3 h4 (Mono.slF _ _ h1 hl) h5) ?_
   refine cnd (λ h1=>?_) (λ h1=>?_)
   ·rw [if_pos h1.2] at hR
    have hlt:=(on_lt h1.2 (by decide)).1
    rw [hR]
    have g1:=hge 0 (i+1) false hlt
    have d1:=hnd 0 (i+1) false
    unfold branchS
    refine wi ?_
    refine cV TT_ok 900 (λ w v h1 h2 h3 h4 h5=>ih 0 (i+1) false (by omega) hlt (by unfold needS at hf ⊢; omega) w v h3 h4 (Mono.slF _ _ h1 hl) h5) (λ x=>xl_m x _) (λ x1=>?_)
    have m1:=must_ge (l:=l) (p:=(rdN l 0 (i+1) false).2) (k:=1) (s:=thenT) (by decide) g1.2
    generalize rdN l 0 (i+1) false=r1 at g1 d1 m1 ⊢
    intro b5
    refine cM TT_ok 900 (λ w v h1 h2 h3 h4 h5=>c_Rtake b ad cap l r1.2 1 thenT (by decide) (by have:=g1.2; omega) w v h3 h4 (Mono.slF _ _ h1 hl) h5) ?_
    generalize mustS l r1.2 1 thenT=p1 at m1 ⊢
    have g2:=hge 0 p1.1 p1.2 m1.2
    have d2:=hnd 0 p1.1 p1.2
    have f2:needS l 0 p1.1≤f:=by have:=g1.1; have:=m1.1; unfold needS at hf ⊢; omega
    refine cV TT_ok 900 (λ w v h1 h2 h3 h4 h5=>ih 0 p1.1 p1.2 (by omega) m1.2 f2 w v h3 h4 (Mono.slF _ _ h1 hl) h5) (λ x=>xl_m x _) (λ x2=>?_)
    have m2:=must_ge (l:=l) (p:=(rdN l 0 p1.1 p1.2).2) (k:=1) (s:=elseT) (by decide) g2.2
    generalize rdN l 0 p1.1 p1.2=r2 at g2 d2 m2 ⊢
    intro b6
    refine cM TT_ok 900 (λ w v h1 h2 h3 h4 h5=>c_Rtake b ad cap l r2.2 1 elseT (by decide) (by have:=g2.2; omega) w v h3 h4 (Mono.slF _ _ h1 hl) h5) ?_
    generalize mustS l r2.2 1 elseT=p2 at m2 ⊢
    have g3:=hge 0 p2.1 p2.2 m2.2
    have d3:=hnd 0 p2.1 p2.2
    have f3:needS l 0 p2.1≤f:=by have:=g2.1; have:=m2.1; unfold needS at f2 ⊢; omega
    refine cV TT_ok 900 (λ w v h1 h2 h3 h4 h5=>ih 0 p2.1 p2.2 (by omega) m2.2 f3 w v h3 h4 (Mono.slF _ _ h1 hl) h5) (λ x=>xl_m x _) (λ x3=>?_)
    generalize rdN l 0 p2.1 p2.2=r3 at g3 d3 ⊢
    intro b7
    intro b48
    refine shutG TT_ok 48 rfl (row_sl (g:=rowC [(r1.1,x1),(r2.1,x2),(r3.1,x3)]) (l:=List.range 3) (sz:=6) (n:=3) (cp:=3) rfl ?_) ?_ Mono.slF rfl (.inr ⟨b,_,_,900,rfl,by decide,rfl⟩)
    ·exact rowC_len _ _
    exact ⟨(some ⟨b48,0,none⟩,3),rfl,rfl,λ v _ hF=>rowC_xl [(r1.1,x1),(r2.1,x2),(r3.1,x3)] hF.2 (λ i p hp=>by
     match i,hp with
     | 0,hp=>cases hp; exact XL.rx hF.1.1.1.2 d1
     | 1,hp=>cases hp; exact XL.rx hF.1.1.2 d2
     | 2,hp=>cases hp; exact XL.rx hF.1.2 d3
     | n+3,hp=>simp at hp)⟩
   ·have h2:onS l i false 1 ifT=false:=h1.resolve_left (λ hh=>hh rfl)
    rw [if_neg (by rw [h2]; decide)] at hR
    rw [hR]
    refine cndF (by decide) ⟨.bool false,?_⟩
    refine cndF rfl ?_
    refine cndT rfl ?_
    refine wi ?_
    refine cV TT_ok 900 (λ w v h1 h2 h3 h4 h5=>ih 1 i false (by omega) hi (by unfold needS at hf ⊢; omega) w v h3 h4 (Mono.slF _ _ h1 hl) h5) (λ x=>xl_m x _) (λ x1=>?_)
    exact ⟨x1,rfl,rfl,λ v _ hF=>hF.2⟩
  ·have hl0':lev≠0:=λ h=>hl0 (by omega)
   rw [if_neg hl0'] at hR
   refine ⟨.bool false,?_⟩
   refine cndF (by rw [Bool.and_false]) ?_
   refine cnd (λ h6=>?_) (λ h6=>?_)
   ·have h6':lev=6:=by omega
    subst h6'
    refine cMI TT_ok 900 (λ w v h1 h2 h3 h4 h5=>c_Ris b ad cap l i false 4 [45] (by decide) (by omega) w v h3 h4 (Mono.slF _ _ h1 hl) h5) ?_
    refine cnd (λ h1=>?_) (λ h1=>?_)
    ·rw [if_pos ⟨rfl,h1.2⟩] at hR
     have hlt:=(on_lt h1.2 (by decide)).1
     have d1:=hnd 6 (i+1) false
     refine wi ?_
     refine cV TT_ok 900 (λ w v h1 h2 h3 h4 h5=>ih 6 (i+1) false (by omega) hlt (by unfold needS at hf ⊢; omega) w v h3 h4 (Mono.slF _ _ h1 hl) h5) (λ x=>xl_m x _) (λ x1=>?_)
     generalize rdN l 6 (i+1) false=r1 at d1 hR ⊢
     rw [hR]
     intro b66
     refine shutG TT_ok 66 rfl (row_sl (g:=rowC [(r1.1,x1)]) (l:=List.range 1) (sz:=6) (n:=1) (cp:=1) rfl ?_) ?_ Mono.slF rfl (.inr ⟨b,_,_,900,rfl,by decide,rfl⟩)
     ·exact rowC_len _ _
     exact ⟨(some ⟨b66,0,none⟩,1),rfl,rfl,λ v _ hF=>rowC_xl [(r1.1,x1)] hF.2 (λ i p hp=>by
      match i,hp with
      | 0,hp=>cases hp; exact XL.rx hF.1.2 d1
      | n+1,hp=>simp at hp)⟩
    ·have h2:onS l i false 4 [45]=false:=h1.resolve_left (λ hh=>hh rfl)
     rw [if_neg (λ hh=>by rw [h2] at hh; cases hh.2),if_pos (by omega)] at hR
     have e7:R=rdN l 7 i false:=by
      rw [hR,hR7 (by omega),if_neg (by decide),if_neg (by omega),if_neg (by omega),if_pos (by omega)]
     rw [e7]
     refine cndT rfl ?_
     refine wi ?_
     refine cV TT_ok 900 (λ w v h1 h2 h3 h4 h5=>ih 7 i false (by omega) hi (by unfold needS at hf ⊢; omega) w v h3 h4 (Mono.slF _ _ h1 hl) h5) (λ x=>xl_m x _) (λ x1=>?_)
     exact ⟨x1,rfl,rfl,λ v _ hF=>hF.2⟩
   ·have h6':lev≠6:=λ h=>h6 (by omega)
    rw [if_neg (λ hh=>h6' hh.1),if_neg (by omega)] at hR
    refine ⟨.bool false,?_⟩
    refine cndF (by rw [Bool.and_false]) ?_
    refine cndF (by simp; omega) ?_
    have g1:=hge (lev+1) i false hi
    have d1:=hnd (lev+1) i false
    refine wi ?_
    refine cV TT_ok 900 (λ w v h1 h2 h3 h4 h5=>ih (lev+1) i false (by omega) hi (by unfold needS at hf ⊢; omega) w v h3 h4 (Mono.slF _ _ h1 hl) h5) (λ x=>xl_m x _) (λ x1=>?_)
    generalize rdN l (lev+1) i false=r1 at g1 d1 hR ⊢
    intro b8
    refine w_loopF TT_ok (λ _=>[]) (λ x:Ex×(Option Addr×Nat)×Nat×Bool=>[(8,.c b8 114 (exC x.1.op x.1.v x.1.s (.slice x.2.1.1 x.1.l.length x.2.1.2))),(4,.c b4 114 (exC 0 v0 [] (.slice none 0 0))),(900,.c b 234 (rrC ad l.length cap ((x.2.2.1:Nat):Int) x.2.2.2))])
     (λ x h=>XL h x.2.1.1 x.2.1.2 x.1.l) (r1.1,x1,r1.2.1,r1.2.2) (λ x=>x.2.2.1≤l.length∧i≤x.2.2.1∧Nd x.1∧∃ n,l.length - x.2.2.1<n∧loopS (rdN l (lev+1)) l lev n x.1 x.2.2.1 x.2.2.2=R) (λ x=>l.length - x.2.2.1) (λ x=>xl_m x.2.1 _) ?_
    refine And.intro ⟨⟨g1.2,g1.1,d1,l.length+1,by show l.length - r1.2.1<l.length+1; omega,hR.symm⟩,gs (fv:=λ v hF=>hF.2)⟩ ?_
    rintro ⟨e,x,i',bad'⟩ ⟨hi',hii,hNd,n,hn1,hR'⟩
    simp only at hi' hii hNd hn1 hR'
    obtain ⟨n,rfl⟩:∃ m,n=m+1:=⟨n - 1,by omega⟩
    refine cnd (λ hb=>?_) (λ hb=>?_)
    ·have hb:bad'=false:=hb
     subst hb
     rw [loopS] at hR'
     refine cM TT_ok 900 (λ w v h1 h2 h3 h4 h5=>c_Rop b ad cap l i' lev (by omega) w v h3 h4 (Mono.slF _ _ h1 hl) h5) ?_
     refine cnd (λ h=>?_) (λ h=>?_)
     ·rw [if_pos h] at hR'
      rw [← hR']
      exact ⟨x,rfl,rfl,λ v _ hF=>hF⟩
     ·rw [if_neg h] at hR'
      obtain ⟨hlt,_⟩:=op_lt h
      have g1:=hge (lev+1) (i'+1) false hlt
      have d1:=hnd (lev+1) (i'+1) false
      refine wi ?_
      refine regQ TT_ok [0,1,2,3,4] [5,6,7,8] [900] true ?_
      refine wi ?_
      refine cV TT_ok 900 (λ w v h1 h2 h3 h4 h5=>ih (lev+1) (i'+1) false (by omega) hlt (by unfold needS at hf ⊢; omega) w v h3 h4 (Mono.slF _ _ h1 hl) h5) (λ x=>xl_m x _) (λ x1=>?_)
      have hlb:=λ n=>loop_bad (rdN l (lev+1)) l lev n
      generalize rdN l (lev+1) (i'+1) false=r1 at g1 d1 hR' ⊢
      refine kq ?_
      intro b107
      refine kq ?_
      refine shutG TT_ok 107 rfl (row_sl (g:=rowC [(e,x),(r1.1,x1)]) (l:=List.range 2) (sz:=6) (n:=2) (cp:=2) rfl ?_) ?_ Mono.slF rfl (.inr ⟨b,_,_,900,rfl,by decide,rfl⟩)
      ·exact rowC_len _ _
      refine kq ?_
      have hx:∀ v,(XL v x.1 x.2 e.l∧XL v x1.1 x1.2 r1.1.l)∧SlC 114 6 (flatR (rowC [(e,x),(r1.1,x1)])) v (.slice (some ⟨b107,0,none⟩) 2 2) (List.range 2)→XL v (some ⟨b107,0,none⟩) 2 [e,r1.1]:=λ v hF=>rowC_xl [(e,x),(r1.1,x1)] hF.2 (λ i p hp=>by
       match i,hp with
       | 0,hp=>cases hp; exact XL.rx hF.1.1 hNd
       | 1,hp=>cases hp; exact XL.rx hF.1.2 d1
       | n+2,hp=>simp at hp)
      refine cnd (λ h2=>?_) (λ h2=>?_)
      ·rw [if_neg (λ hh=>hh.1 (by omega))] at hR'
       rw [← hR']
       exact ⟨(some ⟨b107,0,none⟩,2),rfl,rfl,λ v _ hF=>hx v hF⟩
      ·have hR2:∃ n',l.length - r1.2.1<n'∧loopS (rdN l (lev+1)) l lev n' (.mk (opS l i' false lev) v0 [] [e,r1.1]) r1.2.1 r1.2.2=R:=by
        cases hb:r1.2.2 with
        | false =>
         rw [if_pos ⟨by omega,hb⟩,hb] at hR'
         exact ⟨n,by have:=g1.1; omega,hR'⟩
        | true =>
         rw [if_neg (λ hh=>by rw [hb] at hh; cases hh.2)] at hR'
         refine ⟨l.length+1,by omega,?_⟩
         rw [hlb,← hR',← hb]
       exact ⟨(.mk (opS l i' false lev) v0 [] [e,r1.1],(some ⟨b107,0,none⟩,2),r1.2.1,r1.2.2),⟨⟨g1.2,by have:=g1.1; show i≤r1.2.1; omega,nd_v0 (op_i64 _ _ _ _),hR2⟩,by have:=g1.1; show l.length - r1.2.1<l.length - i'; omega⟩,gs (fv:=λ v hF=>hx v hF)⟩
    ·have hb:bad'=true:=by simpa using hb
     subst hb
     rw [loop_bad] at hR'
     rw [← hR']
     exact ⟨x,rfl,rfl,λ v _ hF=>hF⟩
end rf
theorem c_RRead (ad:Option Addr) (cap:Nat) (l:List Tok) (hT:TokN l) (hTs:∀ t∈l,t.s.length≤1000000) (hn:l.length≤999999) (i lev:Nat) (hi:i≤l.length) (hlev:lev≤7) (w0:World) (h0:View) (hv:VLe h0 (Full w0)) (hl:SlC 175 4 (flatR tokC) h0 (.slice ad l.length cap) l) :
  Calls Tryz.prog 107 #[.slice ad l.length cap,.int .i64 (i:Int),.int .i64 (lev:Int)] w0 (Ret w0 h0 λ u hh=>∃ x:Option Addr×Nat,u = .tuple #[exV (readT l i lev).1 x,.int .i64 (((readT l i lev).2.1:Nat):Int),.int .i64 (readT l i lev).2.2]∧XL hh x.1 x.2 (readT l i lev).1.l):=by
 have g1:=rdN_ge l lev i false hi
 unfold readT
 refine entA (args:=[.slice ad l.length cap,.int .i64 (i:Int),.int .i64 (lev:Int)]) TT_ok [1000006,1000007] [] Tryz.func107 rfl Tryz.ntmps107 rfl rfl hv (λ x=>xl_m x _) ?_
 intro b6
 refine cndF (by simp; omega) ?_
 intro b31
 refine cV TT_ok 31 (λ w v h1 h2 h3 h4 h5=>c_Rread hT hTs hn (needS l lev i) lev i false hlev hi (Nat.le_refl _) w v h3 h4 (Mono.slF _ _ h1 hl) h5) (λ x=>xl_m x _) (λ x1=>?_)
 show _
 unfold rdN at g1 ⊢
 generalize rdF l (needS l lev i) lev i false=r at g1 ⊢
 intro b10
 refine cnd (λ h=>?_) (λ h=>?_)
 ·rw [if_pos h]
  refine regQ TT_ok [0,1,2,3,4] [5,6,7] [6] false ?_
  refine kq ?_
  refine kq ?_
  refine kq ?_
  exact ⟨(none,0),rfl,λ v _ _=>xl_nil v⟩
 ·rw [if_neg (by rw [h]; decide)]
  refine regQ TT_ok [0,1,2,3,4] [5,6,7] [6] false ?_
  refine kq ?_
  refine kq ?_
  refine kq ?_
  exact ⟨x1,rfl,λ v _ hF=>hF.2⟩
end Go.Proofs.YtbmmnalndollkaaGreatDoor
set_option maxRecDepth 100000
namespace Go.Proofs.YtbmmnalndollkaaGreatDoor
open Go Go.Dx Go.RowKit
theorem mC_bad (l:List Tok) (i:Nat) (s:List UInt8):mustC l (i,true) s=(i,true):=if_neg (by rw [on_bad]; decide)
theorem on_two {l:List Tok} {i:Nat} {bad:Bool} {s u:List UInt8} (h:onS l i bad 4 s=true) (hne:s≠u):onS l i bad 4 u=false:=by
 unfold onS at h ⊢
 simp only [Bool.and_eq_true,decide_eq_true_eq] at h
 rw [h.2,decide_eq_false hne,Bool.and_false]
section rr17
variable (b:Nat) (ad:Option Addr) (cap:Nat) (l:List Tok)
theorem c_Ris17 (i:Nat) (bad:Bool) (s:List UInt8) (hi:i≤1000000) (w0:World) (h0:View) (hv:VLe h0 (Full w0)) (hno:h0 b=none) (hl:SlC 175 4 (flatR tokC) h0 (.slice ad l.length cap) l)
  (hbl:w0.heap[b]?=some (.cells (rrC ad l.length cap i bad).toArray 172 (0,0))) :
  Calls Tryz.prog 102 #[.pointer (some ⟨b,0,none⟩),vs s] w0 (RetM [b] w0 λ u w'=>u = .bool (onS l i bad 4 s)∧w'.heap[b]?=some (.cells (rrC ad l.length cap i bad).toArray 172 (0,0))):=by
 refine entM (args:=[.pointer (some ⟨b,0,none⟩),vs s]) TT_ok [] [] [.o 900 0,.v (vs s)] Tryz.func102 rfl Tryz.ntmps102 rfl rfl hv hbl hno rfl ?_
 refine And.intro (by kernel_rfl) ?_
 refine ixsg hl i t0 ?_ (λ h=>by simp at h; omega)
 refine kg1 ?_
 refine ixsg hl i t0 ?_ (λ h=>by simp at h; omega)
 refine kg1 ?_
 refine ⟨?_,rfl⟩
 refine congrArg Value.bool ?_
 cases bad with
 | true=>rw [on_bad]; simp
 | false =>
  by_cases h:i<l.length
  ·rw [onS,nowS]
   simp [h]
  ·have e:onS l i false 4 s=false:=by
    cases ho:onS l i false 4 s with
    | false=>rfl
    | true=>exact absurd (on_lt ho (by decide)).1 h
   rw [e]
   simp [h]
theorem c_Rmust17 (p:CSt) (s:List UInt8) (hi:p.1≤1000000) (w0:World) (h0:View) (hv:VLe h0 (Full w0)) (hno:h0 b=none) (hl:SlC 175 4 (flatR tokC) h0 (.slice ad l.length cap) l)
  (hbl:w0.heap[b]?=some (.cells (rrC ad l.length cap (p.1:Nat) p.2).toArray 172 (0,0))) :
  Calls Tryz.prog 104 #[.pointer (some ⟨b,0,none⟩),vs s] w0 (RetM [b] w0 λ u w'=>u = .tuple #[]∧w'.heap[b]?=some (.cells (rrC ad l.length cap ((mustC l p s).1:Nat) (mustC l p s).2).toArray 172 (0,0))):=by
 obtain ⟨i,bad⟩:=p
 dsimp only at hbl hi
 refine entM (args:=[.pointer (some ⟨b,0,none⟩),vs s]) TT_ok [] [] [.o 900 0,.v (vs s)] Tryz.func104 rfl Tryz.ntmps104 rfl rfl hv hbl hno rfl ?_
 refine cM TT_ok 900 (λ w v h1 h2 h3 h4 h5=>c_Ris17 b ad cap l i bad s hi w v h3 h4 (Mono.slF _ _ h1 hl) h5) ?_
 refine cnd (λ h=>?_) (λ h=>?_)
 ·have h:onS l i bad 4 s=true:=h
  have e:mustC l (i,bad) s=(i+1,bad):=if_pos h
  rw [e]
  refine wi ?_
  exact ⟨rfl,rfl⟩
 ·have h:onS l i bad 4 s=false:=h
  have e:mustC l (i,bad) s=(i,true):=if_neg (by rw [h]; decide)
  rw [e]; exact ⟨rfl,rfl⟩
theorem c_Rsign17 (k:Int) (w0:World) (h0:View) (hv:VLe h0 (Full w0)):Calls Tryz.prog 162 #[.int .i64 k] w0 (Ret w0 h0 λ u _=>u=vs (sgC k)):=by
 refine ent (args:=[.int .i64 k]) TT_ok [] [] Tryz.func162 rfl Tryz.ntmps162 rfl rfl hv ?_
 unfold sgC
 refine cnd (λ h=>?_) (λ h=>?_)
 ·rw [if_pos h]; exact rfl
 rw [if_neg h]
 refine cnd (λ h=>?_) (λ h=>?_)
 ·rw [if_pos h]; exact rfl
 rw [if_neg h]
 refine cnd (λ h=>?_) (λ h=>?_)
 ·rw [if_pos h]; exact rfl
 rw [if_neg h]
 refine cnd (λ h=>?_) (λ h=>?_)
 ·rw [if_pos h]; exact rfl
 rw [if_neg h]
 exact rfl
variable {b ad cap l}
theorem c_Rexpr17 (hT:TokN l) (hTs:∀ t∈l,t.s.length≤1000000) (hn:l.length≤999999) (p:CSt) (hi:p.1≤l.length) (w0:World) (h0:View) (hv:VLe h0 (Full w0)) (hno:h0 b=none) (hl:SlC 175 4 (flatR tokC) h0 (.slice ad l.length cap) l)
  (hbl:w0.heap[b]?=some (.cells (rrC ad l.length cap (p.1:Nat) p.2).toArray 172 (0,0))) :
  Calls Tryz.prog 163 #[.pointer (some ⟨b,0,none⟩)] w0 (RetV [b] w0 h0 λ u w' hh=>∃ x:Option Addr×Nat,u=exV (exprC l p).1 x∧w'.heap[b]?=some (.cells (rrC ad l.length cap ((exprC l p).2.1:Nat) (exprC l p).2.2).toArray 172 (0,0))∧XL hh x.1 x.2 (exprC l p).1.l):=by
 obtain ⟨i,bad⟩:=p
 dsimp only at hbl hi
 have hR:exprC l (i,bad)=if bad=true then (ex0,(i,bad)) else ((readT l i 4).1,(readT l i 4).2.1,decide ((readT l i 4).2.2≠0)):=rfl
 generalize exprC l (i,bad)=R at hR ⊢
 refine entW (args:=[.pointer (some ⟨b,0,none⟩)]) TT_ok [1000003] [] [.o 900 0] Tryz.func163 rfl Tryz.ntmps163 rfl rfl hv hbl hno rfl (λ x=>xl_m x _) ?_
 intro b2
 refine cnd (λ h=>?_) (λ h=>?_)
 ·have h:bad=true:=h
  rw [if_pos h] at hR
  rw [hR]
  exact ⟨(none,0),rfl,rfl,λ v _ _=>xl_nil v⟩
 have h:bad=false:=by simpa using h
 subst h
 rw [if_neg (by decide),show decide ((readT l i 4).2.2≠0) = !decide ((readT l i 4).2.2=0) from decide_not] at hR
 have hg:=rt_ge l (lev:=4) hi
 refine regPt TT_ok (.m [0,4,1,5,2,6,3,7] (.n 8 (.m [9,10,11,12] (.n 13 (.n 14 (.m [15,16] .e) .z) .z)) (.n 13 (.n 8 (.m [9,10,11,12] (.n 14 (.m [15,16] .e) .z)) .z) .z))) [3] ?_
 refine kq ⟨?_,?_⟩
 ·refine cA TT_ok (λ w v h1 h2 h3=>c_RRead ad cap l hT hTs hn i 4 hi (by omega) w v h3 (Mono.slF _ _ h1 hl)) (λ x=>xl_m x _) (λ x1=>?_)
  generalize readT l i 4=r at hR hg ⊢
  rw [hR]
  refine kq ?_
  refine kq ?_
  intro b3
  refine kq ?_
  refine kq ?_
  refine kq ?_
  exact ⟨x1,rfl,rfl,λ v _ hF=>hF.2⟩
 ·intro b3
  refine kq ?_
  refine cA TT_ok (λ w v h1 h2 h3=>c_RRead ad cap l hT hTs hn i 4 hi (by omega) w v h3 (Mono.slF _ _ h1 hl)) (λ x=>xl_m x _) (λ x1=>?_)
  generalize readT l i 4=r at hR hg ⊢
  rw [hR]
  refine kq ?_
  refine kq ?_
  refine kq ?_
  refine kq ?_
  exact ⟨x1,rfl,rfl,λ v _ hF=>hF.2⟩
set_option maxHeartbeats 2000000 in
theorem c_Rtest17 (hT:TokN l) (hTs:∀ t∈l,t.s.length≤1000000) (hn:l.length≤999999) (p:CSt) (hi:p.1≤l.length) (w0:World) (h0:View) (hv:VLe h0 (Full w0)) (hno:h0 b=none) (hl:SlC 175 4 (flatR tokC) h0 (.slice ad l.length cap) l)
  (hbl:w0.heap[b]?=some (.cells (rrC ad l.length cap (p.1:Nat) p.2).toArray 172 (0,0))) :
  Calls Tryz.prog 103 #[.pointer (some ⟨b,0,none⟩)] w0 (RetV [b] w0 h0 λ u w' hh=>∃ x,u=tstV (testC l p).1 x∧w'.heap[b]?=some (.cells (rrC ad l.length cap ((testC l p).2.1:Nat) (testC l p).2.2).toArray 172 (0,0))∧TX hh (testC l p).1 x):=by
 obtain ⟨i,bad⟩:=p
 dsimp only at hbl hi
 have hhit:=λ k=>test_hit (l:=l) (p:=(i,bad)) (k:=k)
 have hnone:=test_no (l:=l) (p:=(i,bad))
 dsimp only at hhit hnone
 generalize testC l (i,bad)=R at hhit hnone ⊢
 refine entW (args:=[.pointer (some ⟨b,0,none⟩)]) TT_ok [4000029] [9,14] [.o 900 0] Tryz.func103 rfl Tryz.ntmps103 rfl rfl hv hbl hno rfl (λ x=>tx_m x _) ?_
 intro b2
 refine w_loop TT_ok (λ k:Nat=>[(3,.v (.int .i64 ((k+2:Nat):Int)))]) 0 (λ k=>k≤4∧∀ j,j<k→onS l i bad 4 (sgC ((j+2:Nat):Int))=false) (λ k=>4 - k) ?_
 refine And.intro ⟨⟨Nat.zero_le _,λ j hj=>absurd hj (Nat.not_lt_zero j)⟩,gs⟩ ?_
 intro k ⟨hk,hnk⟩
 refine cnd (λ h=>?_) (λ h=>?_)
 ·have hk4:k<4:=by omega
  refine cl (c_Rsign17 ((k+2:Nat):Int)) ?_
  refine cM TT_ok 900 (λ w v h1 h2 h3 h4 h5=>c_Ris17 b ad cap l i bad (sgC ((k+2:Nat):Int)) (by omega) w v h3 h4 (Mono.slF _ _ h1 hl) h5) ?_
  refine cnd (λ h1=>?_) (λ h1=>?_)
  ·have h1:onS l i bad 4 (sgC ((k+2:Nat):Int))=true:=h1
   have hlt:=(on_lt h1 (by decide)).1
   have e:=hhit k hk4 hnk h1
   rw [e]
   refine wi ?_
   refine cV TT_ok 900 (λ w v h1 h2 h3 h4 h5=>c_Rexpr17 hT hTs hn (i+1,bad) hlt w v h3 h4 (Mono.slF _ _ h1 hl) h5) (λ x=>xl_m x _) (λ x1=>?_)
   exact ⟨(x1,(none,0)),rfl,rfl,λ v _ hF=>⟨hF.2,xl_nil v⟩⟩
  ·refine wi ?_
   exact ⟨k+1,⟨⟨by omega,upto_snoc hnk h1⟩,by omega⟩,gs⟩
 have e:=hnone (λ j hj=>hnk j (by omega))
 clear hhit hnone
 have hlt:=λ s=>(λ h=>(on_lt (l:=l) (i:=i) (bad:=bad) (k:=4) (s:=s) h (by decide)).1)
 refine w_cutB TT_ok (λ _:Unit=>[]) (λ _=>[(2,.c b2 116 (tstC tst0 none 0 none 0)),(900,.c b 172 (rrC ad l.length cap (i:Int) bad))]) (λ _=>R=inC l (i+1,bad) (onS l i bad 4 [93])∧i<l.length) ?_
 refine And.intro ?_ ?_
 ·refine cM TT_ok 900 (λ w v h1 h2 h3 h4 h5=>c_Ris17 b ad cap l i bad [91] (by omega) w v h3 h4 (Mono.slF _ _ h1 hl) h5) ?_
  refine cnd (λ h1=>?_) (λ h1=>?_)
  ·have h1:onS l i bad 4 [91]=false:=by simpa using h1
   rw [if_neg (by rw [h1]; decide)] at e
   refine cMI TT_ok 900 (λ w v h1 h2 h3 h4 h5=>c_Ris17 b ad cap l i bad [93] (by omega) w v h3 h4 (Mono.slF _ _ h1 hl) h5) ?_
   refine cnd (λ h2=>?_) (λ h2=>?_)
   ·have h2:onS l i bad 4 [93]=false:=by
     have h2:=h2.2
     simpa using h2
    rw [if_neg (by rw [h2]; decide)] at e
    rw [e]
    refine cV TT_ok 900 (λ w v h1 h2 h3 h4 h5=>c_Rexpr17 hT hTs hn (i,bad) hi w v h3 h4 (Mono.slF _ _ h1 hl) h5) (λ x=>xl_m x _) (λ x1=>?_)
    exact ⟨(x1,(none,0)),rfl,rfl,λ v _ hF=>⟨hF.2,xl_nil v⟩⟩
   ·have h2:onS l i bad 4 [93]=true:=by
     rcases h2 with h2 | h2
     ·rw [h1] at h2; exact absurd h2 (by decide)
     ·simpa using h2
    rw [if_pos h2] at e
    exact ⟨(),⟨by rw [h2]; exact e,hlt _ h2⟩,gs⟩
  ·have h1:onS l i bad 4 [91]=true:=by simpa using h1
   rw [if_pos h1] at e
   refine ⟨.bool false,?_⟩
   refine cndF (by rw [h1]; rfl) ?_
   exact ⟨(),⟨by rw [on_two h1 (by decide)]; exact e,hlt _ h1⟩,gs⟩
 intro _ ⟨e,hlt⟩
 refine cM TT_ok 900 (λ w v h1 h2 h3 h4 h5=>c_Ris17 b ad cap l i bad [93] (by omega) w v h3 h4 (Mono.slF _ _ h1 hl) h5) ?_
 generalize onS l i bad 4 [93]=lo at e ⊢
 intro b4
 refine wi ?_
 unfold inC at e
 have n1:=ex_ge (l:=l) (p:=(i+1,bad)) hlt
 refine cV TT_ok 900 (λ w v h1 h2 h3 h4 h5=>c_Rexpr17 hT hTs hn (i+1,bad) hlt w v h3 h4 (Mono.slF _ _ h1 hl) h5) (λ x=>xl_m x _) (λ x1=>?_)
 generalize exprC l (i+1,bad)=r1 at e n1 ⊢
 have n2:=mC_ge (l:=l) (p:=r1.2) [46,46] n1.2
 refine w_cutB TT_ok (λ _:Unit=>[]) (λ _=>[(4,.c b4 116 (tstC ⟨6,r1.1,ex0,lo,false⟩ x1.1 x1.2 none 0)),(2,.c b2 116 (tstC tst0 none 0 none 0)),(900,.c b 172 (rrC ad l.length cap ((mustC l r1.2 [46,46]).1:Nat) (mustC l r1.2 [46,46]).2))]) (λ _=>True) ?_
 refine And.intro ?_ ?_
 ·refine cnd (λ h2=>?_) (λ h2=>?_)
  ·refine cM TT_ok 900 (λ w v h1 h2 h3 h4 h5=>c_Rmust17 b ad cap l r1.2 [46,46] (by have:=n1.2; omega) w v h3 h4 (Mono.slF _ _ h1 hl) h5) ?_
   exact ⟨(),trivial,gs⟩
  ·have h2:r1.2.2=true:=by simpa using h2
   obtain ⟨y,j,bd⟩:=r1
   have h2:bd=true:=h2
   subst h2
   have e2:=mC_bad l j [46,46]
   exact ⟨(),trivial,gs rfl (by dsimp only; rw [e2]; rfl)⟩
 intro _ _
 generalize mustC l r1.2 [46,46]=p2 at e n2 ⊢
 have n3:=ex_ge (l:=l) (p:=p2) n2.2
 refine cV TT_ok 900 (λ w v h1 h2 h3 h4 h5=>c_Rexpr17 hT hTs hn p2 n2.2 w v h3 h4 (Mono.slF _ _ h1 hl) h5) (λ x=>xl_m x _) (λ x2=>?_)
 generalize exprC l p2=r3 at e n3 ⊢
 refine cM TT_ok 900 (λ w v h1 h2 h3 h4 h5=>c_Ris17 b ad cap l r3.2.1 r3.2.2 [91] (by have:=n3.2; omega) w v h3 h4 (Mono.slF _ _ h1 hl) h5) ?_
 refine cnd (λ h3=>?_) (λ h3=>?_)
 ·have h3:onS l r3.2.1 r3.2.2 4 [91]=true:=h3
  rw [if_pos h3] at e
  rw [h3,e]
  refine wi ?_
  exact ⟨(x1,x2),rfl,rfl,λ v _ hF=>⟨hF.1.2,hF.2⟩⟩
 ·have h3:onS l r3.2.1 r3.2.2 4 [91]=false:=h3
  rw [if_neg (by rw [h3]; decide)] at e
  rw [h3,e]
  refine cnd (λ h4=>?_) (λ h4=>?_)
  ·refine cM TT_ok 900 (λ w v h1 h2 h3 h4 h5=>c_Rmust17 b ad cap l r3.2 [93] (by have:=n3.2; omega) w v h3 h4 (Mono.slF _ _ h1 hl) h5) ?_
   exact ⟨(x1,x2),rfl,rfl,λ v _ hF=>⟨hF.1.2,hF.2⟩⟩
  ·have h4:r3.2.2=true:=by simpa using h4
   obtain ⟨y,j,bd⟩:=r3
   have h4:bd=true:=h4
   subst h4
   have e2:=mC_bad l j [93]
   dsimp only
   rw [e2]
   exact ⟨(x1,x2),rfl,rfl,λ v _ hF=>⟨hF.1.2,hF.2⟩⟩
end rr17
end Go.Proofs.YtbmmnalndollkaaGreatDoor
set_option maxRecDepth 100000
namespace Go.Proofs.YtbmmnalndollkaaGreatDoor
open Go Go.Dx Go.RowKit
theorem neg_iff {l:List Tok}:negC l=true↔(((((1:Int)<(l.length:Int)∧(l.getD 0 t0).k=1)∧(l.getD 0 t0).s=[110,111,116])∧(l.getD 1 t0).k=4)∧(l.getD 1 t0).s=[40]):=by
 have e:((1:Int)<(l.length:Int))↔1<l.length:=by omega
 unfold negC
 rw [e]
 simp only [Bool.and_eq_true,decide_eq_true_eq]
def tailC (l:List Tok) (f:Nat) (p:CSt):List Tst×CSt:=if onS l p.1 p.2 4 [44]=true then testsC l f (p.1+1,p.2) else ([],p)
theorem tests_tail (l:List Tok) (f:Nat) (p:CSt):testsC l (f+1) p=((testC l p).1::(tailC l f (testC l p).2).1,(tailC l f (testC l p).2).2):=by
 rw [testsC,tailC]
 split <;> rfl
set_option maxHeartbeats 4000000 in
theorem c_RCParse (s:List UInt8) (w0:World) (h0:View) (hv:VLe h0 (Full w0)) :
  Calls Tryz.prog 66 #[vs s] w0 (Ret w0 h0 λ u hh=>∃ x:Option Addr×Nat,u=cpV (parseC s) x∧TL hh x.1 x.2 (parseC s).1.ts):=by
 obtain ⟨hT,hTs,hn,_⟩:=lex_facts s
 obtain ⟨hR,hn2,hP⟩:=lex_facts2 s
 have hpc:parseC s=if (lexS s).2.2≠0 then (cel0,(lexS s).2.1,(lexS s).2.2)
   else if (lexS s).1.length=1∧onS (lexS s).1 0 false 4 [45]=true then (⟨true,false,[]⟩,0,0)
   else if (endC (lexS s).1).1<(lexS s).1.length then (cel0,((lexS s).1.getD (endC (lexS s).1).1 t0).p,11)
   else if (endC (lexS s).1).2=true then (cel0,s.length,11)
   else if 12<(cellC (lexS s).1).1.length then (cel0,0,24)
   else if rightC ⟨false,negC (lexS s).1,(cellC (lexS s).1).1⟩=true then (⟨false,negC (lexS s).1,(cellC (lexS s).1).1⟩,0,0) else (cel0,0,12):=rfl
 generalize parseC s=P at hpc ⊢
 refine entA (args:=[vs s]) TT_ok [1000011,1000014,1000018,4000029,103] [7,11,17] Tryz.func66 rfl Tryz.ntmps66 rfl rfl hv (λ x=>tl_m x _) ?_
 intro b2
 refine cA TT_ok (λ w v h1 h2 h3=>c_RLex s w v h3) (λ _=>Mono.slF) (λ x=>?_)
 generalize lexS s=L at hT hTs hn hR hn2 hP hpc ⊢
 obtain ⟨l,at_,e⟩:=L
 dsimp only at hT hTs hn hR hn2 hP hpc ⊢
 refine cnd (λ h=>?_) (λ h=>?_)
 ·rw [if_pos h] at hpc
  rw [hpc]
  exact ⟨(none,0),rfl,λ v _ _=>tl_nil v⟩
 rw [if_neg (λ hh=>hh (by simpa using h))] at hpc
 intro b23
 refine w_cutB TT_ok (λ _:Unit=>[]) (λ _=>[(23,.c b23 172 (rrC x.1 l.length x.2 ((0:Nat):Int) false)),(2,.c b2 71 (celC cel0 none 0))]) (λ _=>¬ (l.length=1∧onS l 0 false 4 [45]=true)) ?_
 refine And.intro ?_ ?_
 ·refine cnd (λ h1=>?_) (λ h1=>?_)
  ·refine cMI TT_ok 23 (λ w v h1 h2 h3 h4 h5=>c_Ris17 b23 x.1 x.2 l 0 false [45] (by decide) w v h3 h4 h2.2 h5) ?_
   refine cnd (λ h2=>?_) (λ h2=>?_)
   ·have h2:onS l 0 false 4 [45]=true:=h2.2
    rw [if_pos ⟨by omega,h2⟩] at hpc
    rw [hpc]
    exact ⟨(none,0),rfl,λ v _ _=>tl_nil v⟩
   ·have h2:onS l 0 false 4 [45]=false:=h2.resolve_left (λ hh=>hh h1)
    exact ⟨(),λ hh=>by rw [h2] at hh; exact absurd hh.2 (by decide),gs⟩
  ·refine ⟨.bool false,?_⟩
   refine cndF (by simp) ?_
   exact ⟨(),λ hh=>h1 (by omega),gs⟩
 intro _ hno
 rw [if_neg hno] at hpc
 have hneg:negC l=true→2≤l.length:=λ h=>by
  simp only [negC,Bool.and_eq_true,decide_eq_true_eq] at h; omega
 have hnd:=tests_nd hT (l:=l) (l.length+1) (if negC l=true then 2 else 0,false)
 have hce:testsC l (l.length+1) (if negC l=true then 2 else 0,false)=cellC l:=rfl
 have hcl:∀ t∈(cellC l).1,ndTs t:=hnd
 have hee:endC l=if negC l=true then mustC l (cellC l).2 [41] else (cellC l).2:=rfl
 have hcg:=cell_ge (l:=l)
 have heg:=end_ge (l:=l)
 have hok:=end_ok (l:=l) hR
 have hdp:∀ t∈(cellC l).1,dpTs t:=tests_dp hn2 (l.length+1) (if negC l=true then 2 else 0,false)
 generalize endC l=E at hpc hee heg hok
 generalize cellC l=R at hpc hce hcl hee hcg hok hdp
 intro b9
 refine w_cutB TT_ok (λ _:Nat=>[]) (λ i0=>[(9,.c b9 71 (celC ⟨false,negC l,[]⟩ none 0)),(23,.c b23 172 (rrC x.1 l.length x.2 (i0:Int) false)),(2,.c b2 71 (celC cel0 none 0))]) (λ i0=>i0=if negC l=true then 2 else 0) ?_
 refine And.intro ?_ ?_
 ·refine ixfg (λ v hF=>hF.2) 0 t0 ?_ (by intros; omega)
  refine kg1 ?_
  refine ixfg (λ v hF=>hF.2) 0 t0 ?_ (λ h=>by simp at h; omega)
  refine kg1 ?_
  refine ixfg (λ v hF=>hF.2) 1 t0 ?_ (λ h=>by simp at h; omega)
  refine kg1 ?_
  refine ixfg (λ v hF=>hF.2) 1 t0 ?_ (λ h=>by simp at h; omega)
  refine kg1 ?_
  refine cnd (λ h1=>?_) (λ h1=>?_)
  ·have hg:negC l=true:=neg_iff.2 h1
   exact ⟨2,by rw [if_pos hg],gs rfl (by rw [hg]; rfl)⟩
  ·have hg:negC l=false:=by
    rcases Bool.eq_false_or_eq_true (negC l) with hh | hh
    ·exfalso
     have hc:=neg_iff.1 hh
     rcases h1 with (((h1 | h1) | h1) | h1) | h1
     ·exact h1 hc.1.1.1.1
     ·exact h1 hc.1.1.1.2
     ·exact h1 hc.1.1.2
     ·exact h1 hc.1.2
     ·exact h1 hc.2
    ·exact hh
   exact ⟨0,by rw [if_neg (by rw [hg]; decide)],gs rfl (by rw [hg]; rfl)⟩
 intro i0 hi0
 have h2l:i0≤l.length:=by
  rw [hi0]
  split
  ·rename_i h; exact hneg h
  ·exact Nat.zero_le _
 rw [← hi0] at hce
 generalize negC l=ng at hpc hee ⊢
 refine nilC 901 116 15 ?_
 refine regQ TT_ok [0,1,2] [3,4,5,6,7] [23,901] true ?_
 refine cV TT_ok 23 (λ w v h1 h2 h3 h4 h5=>c_Rtest17 hT hTs hn (i0,false) h2l w v h3 h4 h2.2 h5) (λ x=>tx_m x _) (λ x1=>?_)
 have tg:=test_ge (l:=l) (p:=(i0,false)) h2l
 rw [tests_tail] at hce
 generalize testC l (i0,false)=r at hce tg ⊢
 refine kq ?_
 intro b72
 refine kq ?_
 refine ap TT_ok 901 (AppT.of (bytes:=176) (sz:=14) (by kernel_rfl) (by kernel_rfl) (by kernel_rfl)) rfl rfl rfl rfl rfl rfl rfl (by show (0+15)*177≤_; omega) (λ a2 n2 c2 e2=>?_)
 have hn2:n2=1:=by
  have e2:n2*15=0+15:=e2
  omega
 refine kq ?_
 refine kq ?_
 refine w_loopF TT_ok (λ _=>[]) (λ z:LpC=>[(72,.c b72 116 (tstC r.1 x1.1.1 x1.1.2 x1.2.1 x1.2.2++[])),(901,.e (bufE 116 15 (.slice z.a z.n z.c) (z.es.map tsC).flatten)),(9,.c b9 71 [.bool false,.bool ng,.slice z.a z.n z.c]),(23,.c b23 172 (rrC x.1 l.length x.2 ((z.p.1:Nat):Int) z.p.2)),(2,.c b2 71 (celC cel0 none 0))])
  (λ z h=>SlC 175 4 (flatR tokC) h (.slice x.1 l.length x.2) l∧TXL h z.es) ⟨a2,n2,c2,[(r.1,x1)],r.2,l.length⟩ (λ z=>z.n=z.es.length∧z.es.length≤z.p.1+1∧z.p.1≤l.length∧l.length - z.p.1≤z.f∧(z.es.map (·.1)++(tailC l z.f z.p).1,(tailC l z.f z.p).2)=R) (λ z=>l.length - z.p.1) (λ z _ _ hle hx=>⟨Mono.slF _ _ hle hx.1,txl_m _ _ _ hle hx.2⟩) ?_
 refine And.intro ⟨⟨hn2,by show 1≤_+1; omega,tg.2,by show l.length - r.2.1≤l.length; omega,hce⟩,gs (fv:=λ v hF=>⟨hF.1.2,λ q hq=>by
  have:q=(r.1,x1):=by simpa using hq
  subst this; exact hF.2⟩)⟩ ?_
 rintro ⟨a1,n1,c1,es,p,f⟩ ⟨hn1,hle,hpl,hf,hR'⟩
 dsimp only at hn1 hle hpl hf hR' ⊢
 refine cM TT_ok 23 (λ w v h1 h2 h3 h4 h5=>c_Ris17 b23 x.1 x.2 l p.1 p.2 [44] (by omega) w v h3 h4 h2.1 h5) ?_
 refine cnd (λ h3=>?_) (λ h3=>?_)
 ·have h3:onS l p.1 p.2 4 [44]=true:=h3
  have hlt:=(on_lt h3 (by decide)).1
  obtain ⟨f,rfl⟩:∃ g,f=g+1:=⟨f - 1,by omega⟩
  rw [tailC,if_pos h3,tests_tail] at hR'
  have tg:=test_ge (l:=l) (p:=(p.1+1,p.2)) hlt
  refine wi ?_
  refine regQ TT_ok [0,1,2] [3,4,5,6,7] [23,901] true ?_
  refine cV TT_ok 23 (λ w v h1 h2 h3 h4 h5=>c_Rtest17 hT hTs hn (p.1+1,p.2) hlt w v h3 h4 h2.1 h5) (λ x=>tx_m x _) (λ x2=>?_)
  generalize testC l (p.1+1,p.2)=r2 at hR' tg ⊢
  refine kq ?_
  intro b88
  refine kq ?_
  refine ap TT_ok 901 (AppT.of (bytes:=176) (sz:=14) (by kernel_rfl) (by kernel_rfl) (by kernel_rfl)) rfl rfl rfl rfl rfl rfl rfl (by rw [flatTs]; show (_+15)*177≤_; omega) (λ a3 n3 c3 e3=>?_)
  have hn3:n3=(es++[(r2.1,x2)]).length:=by
   rw [flatTs] at e3
   have e3:n3*15=es.length*15+15:=e3
   rw [List.length_append]; show n3=es.length+1; omega
  refine kq ?_
  refine kq ?_
  have efl:((es++[(r2.1,x2)]).map tsC).flatten=(es.map tsC).flatten++(tstC r2.1 x2.1.1 x2.1.2 x2.2.1 x2.2.2++[]):=by rw [List.map_append,List.flatten_append]; rfl
  have emp:(es++[(r2.1,x2)]).map (·.1)=es.map (·.1)++[r2.1]:=by simp
  have tg1:p.1+1≤r2.2.1:=tg.1
  refine ⟨⟨a3,n3,c3,es++[(r2.1,x2)],r2.2,f⟩,⟨⟨hn3,?_,tg.2,?_,?_⟩,?_⟩,gs rfl (by rw [efl]; rfl) (λ v hF=>⟨hF.1.1,txl_snoc hF.1.2 hF.2⟩)⟩
  ·rw [List.length_append]; show es.length+1≤r2.2.1+1; omega
  ·show l.length - r2.2.1≤f; omega
  ·show ((es++[(r2.1,x2)]).map (·.1)++_,_)=R
   rw [emp,← hR']; simp
  ·show l.length - r2.2.1<l.length - p.1; omega
 ·have h3:onS l p.1 p.2 4 [44]=false:=h3
  rw [tailC,if_neg (by rw [h3]; decide)] at hR'
  have hr:(es.map (·.1),p)=R:=by rw [← hR']; simp
  rw [← rowT_map]
  have hR1:R.1.length=n1:=by rw [← hr,hn1]; simp
  have hd:∀ q∈es,ndTs q.1:=λ q hq=>hcl q.1 (by rw [← hr]; exact List.mem_map.2 ⟨q,hq,rfl⟩)
  have htl:∀ v,TXL v es→SlC 116 15 (flatR (rowT es)) v (.slice a1 n1 c1) (List.range es.length)→TL v a1 c1 R.1:=λ v hF hs=>by
   have:=rowT_tl hn1 hs hF hd
   rw [← hr]; exact this
  have hr2:p=R.2:=by rw [← hr]
  rw [← hr2] at hee
  refine w_cutB TT_ok (λ _:Unit=>[]) (λ _=>[(72,.c b72 116 (tstC r.1 x1.1.1 x1.1.2 x1.2.1 x1.2.2++[])),(901,.e (bufE 116 15 (.slice a1 n1 c1) ((List.range es.length).map (rowT es)).flatten)),(9,.c b9 71 [.bool false,.bool ng,.slice a1 n1 c1]),(23,.c b23 172 (rrC x.1 l.length x.2 ((E.1:Nat):Int) E.2)),(2,.c b2 71 (celC cel0 none 0))]) (λ _=>True) ?_
  refine And.intro ?_ ?_
  ·refine cnd (λ h4=>?_) (λ h4=>?_)
   ·have h5:ng=true:=h4.1
    rw [if_pos h5] at hee
    rw [hee]
    refine cM TT_ok 23 (λ w v h1 h2 h3 h4 h5=>c_Rmust17 b23 x.1 x.2 l p [41] (by omega) w v h3 h4 h2.1 h5) ?_
    exact ⟨(),trivial,gs⟩
   ·cases ng with
    | true =>
     rw [if_pos rfl] at hee
     have h5:p.2=true:=by
      rcases h4 with h4 | h4
      ·exact absurd h4 (by decide)
      ·simpa using h4
     obtain ⟨j,bd⟩:=p
     have h5:bd=true:=h5
     subst h5
     rw [mC_bad] at hee
     rw [hee]
     exact ⟨(),trivial,gs⟩
    | false =>
     rw [if_neg (by decide)] at hee
     rw [hee]
     exact ⟨(),trivial,gs⟩
  intro _ _
  refine And.intro rfl ?_
  refine sealW (g:=rowT es) (l:=List.range es.length) 901 rfl (by simp [hn1]) ?_
  refine goW TT_ok ?_
  have ec:celC ⟨false,ng,R.1⟩ a1 c1=[.bool false,.bool ng,.slice a1 n1 c1]:=by unfold celC; rw [hR1]
  refine cnd (λ h2=>?_) (λ h2=>?_)
  ·rw [if_pos (by omega)] at hpc
   rw [hpc]
   refine regPh TT_ok [([0,1,2,3,4,5,6,7,8],[9]),([10,11],[])] [2] ?_
   refine ixf (λ v hF=>hF.1.1) E.1 t0 ?_ (by omega)
   refine kq ?_
   refine kq ?_
   refine kq ?_
   exact ⟨(none,0),rfl,λ v _ _=>tl_nil v⟩
  rw [if_neg (by omega)] at hpc
  refine cnd (λ h3=>?_) (λ h3=>?_)
  ·have h3:E.2=true:=h3
   rw [if_pos h3] at hpc
   rw [hpc]
   exact ⟨(none,0),rfl,λ v _ _=>tl_nil v⟩
  have h3:E.2=false:=by simpa using h3
  rw [if_neg (by rw [h3]; decide)] at hpc
  refine cnd (λ h4=>?_) (λ h4=>?_)
  ·rw [if_pos (by have h4:(12:Int)<(n1:Int):=h4; omega)] at hpc
   rw [hpc]
   exact ⟨(none,0),rfl,λ v _ _=>tl_nil v⟩
  rw [if_neg (by have h4:¬ (12:Int)<(n1:Int):=h4; omega)] at hpc
  have hg:∀ t∈R.1,GT t:=λ t ht=>ok_gt (hok h3 t ht) (hdp t ht)
  refine cf (x := .bool (rightC ⟨false,ng,R.1⟩)) (λ w v h1 h2 h3=>by
   have:=c_RRightC ⟨false,ng,R.1⟩ a1 c1 hg w v h3 (htl v h2.1.2 h2.2)
   rw [ec] at this; exact this) ?_
  refine cnd (λ h5=>?_) (λ h5=>?_)
  ·have h5:rightC ⟨false,ng,R.1⟩=false:=by simpa using h5
   rw [if_neg (by rw [h5]; decide)] at hpc
   rw [hpc]
   exact ⟨(none,0),rfl,λ v _ _=>tl_nil v⟩
  ·have h5:rightC ⟨false,ng,R.1⟩=true:=by simpa using h5
   rw [if_pos h5] at hpc
   rw [hpc]
   refine ⟨(a1,c1),?_,λ v _ hF=>htl v hF.1.2 hF.2⟩
   show _=cpV (⟨false,ng,R.1⟩,0,0) (a1,c1)
   unfold cpV
   dsimp only
   rw [ec]; rfl
end Go.Proofs.YtbmmnalndollkaaGreatDoor
namespace Go.Proofs.YtbmmnalndollkaaGreatDoor
open Go Go.Dx Go.RowKit
structure Outc where
 err:Int
 rules:List Int
 rows:List (List Val)
def allS (f:Nat→Bool×Int):Nat→Bool×Int
 | 0=>(true,0)
 | n+1=>if allS f n≠(true,0) then allS f n else if f n=(true,0) then (true,0) else (false,(f n).2)
theorem alls_ok {f:Nat→Bool×Int}:∀ {n:Nat},(∀ j,j<n→f j=(true,0))→allS f n=(true,0)
 | 0,_=>rfl
 | n+1,h=>by
  rw [allS,alls_ok (n:=n) λ j hj=>h j (by omega),if_neg (λ hh=>hh rfl),if_pos (h n (Nat.lt_succ_self _))]
theorem alls_er {f:Nat→Bool×Int} {k:Nat} (hz:∀ j,j<k→f j=(true,0)) (he:f k≠(true,0)):∀ {n:Nat},k<n→allS f n=(false,(f k).2)
 | 0,h=>absurd h (Nat.not_lt_zero _)
 | n+1,h=>by
  rw [allS]
  by_cases hk:k<n
  ·rw [alls_er hz he hk,if_pos (by simp)]
  ·have:k=n:=by omega
   subst this
   rw [alls_ok hz,if_neg (λ hh=>hh rfl),if_neg he]
def inG (r:Rdy) (row:List Val) (i:Nat):Prop:=valOk (row.getD i v0)=true∧fitS (row.getD i v0).k ((colsO r.t.ins).getD i c0).kind=true
instance (r:Rdy) (row:List Val) (i:Nat):Decidable (inG r row i):=inferInstanceAs (Decidable (_∧_))
def inputE (r:Rdy) (row:List Val):Int:=if row.length=r.t.ins.length∧∀ i,i<row.length→inG r row i then 0 else 21
noncomputable def cellH (r:Rdy) (row:List Val) (i k:Nat):Bool×Int:=holdsC ((r.ls.getD i lin0).cs.getD k cel0) (row.getD k v0) (colsO r.t.ins) row
noncomputable def ruleS (r:Rdy) (row:List Val) (i:Nat):Bool×Int:=allS (cellH r row i) (r.ls.getD i lin0).cs.length
def stopR (pol:Int) (f:Nat→Bool×Int) (i:Nat):Bool:=decide ((f i).2≠0)||((f i).1&&decide (pol=2))
def heldR (f:Nat→Bool×Int) (n:Nat):List Nat:=(List.range n).filter λ i=>(f i).1
def rulesS (pol:Int) (f:Nat→Bool×Int) (n:Nat):List Nat×Nat×Int :=
 match (List.range n).find? (stopR pol f) with
 | none=>(heldR f n,0,0)
 | some i=>if (f i).2≠0 then ([],i,(f i).2) else ([i],0,0)
theorem fst_none {p:Nat→Bool} {n:Nat} (h:∀ j,j<n→p j=false):(List.range n).find? p=none:=by
 rw [List.find?_eq_none]; intro x hx; rw [h x (List.mem_range.1 hx)]; decide
theorem fst_some {p:Nat→Bool} {k:Nat} (hz:∀ j,j<k→p j=false) (he:p k=true):∀ {n:Nat},k<n→(List.range n).find? p=some k
 | 0,h=>absurd h (Nat.not_lt_zero _)
 | n+1,h=>by
  rw [List.range_succ,List.find?_append]
  by_cases hk:k<n
  ·rw [fst_some hz he hk]; rfl
  ·have:k=n:=by omega
   subst this
   rw [fst_none hz]; simp [he]
theorem held_snoc (f:Nat→Bool×Int) (k:Nat):heldR f (k+1)=if (f k).1=true then heldR f k++[k] else heldR f k:=by
 unfold heldR
 rw [List.range_succ,List.filter_append]
 cases h:(f k).1 <;> simp [h]
theorem rules_none {pol:Int} {f:Nat→Bool×Int} {n:Nat} (h:∀ j,j<n→stopR pol f j=false):rulesS pol f n=(heldR f n,0,0):=by
 unfold rulesS; rw [fst_none h]
theorem rules_some {pol:Int} {f:Nat→Bool×Int} {n k:Nat} (hz:∀ j,j<k→stopR pol f j=false) (he:stopR pol f k=true) (hk:k<n):rulesS pol f n=if (f k).2≠0 then ([],k,(f k).2) else ([k],0,0):=by
 unfold rulesS; rw [fst_some hz he hk]
theorem held_lt {f:Nat→Bool×Int} {n:Nat}:∀ i∈heldR f n,i<n:=λ i hi=>List.mem_range.1 (List.mem_filter.1 hi).1
theorem rules_lt {pol:Int} {f:Nat→Bool×Int} {n:Nat}:∀ i∈(rulesS pol f n).1,i<n:=by
 intro i hi
 unfold rulesS at hi
 split at hi
 ·exact held_lt i hi
 ·rename_i k hk
  have:k<n:=List.mem_range.1 (List.mem_of_find?_eq_some hk)
  split at hi
  ·cases hi
  ·simp at hi; omega
theorem rules_len {pol:Int} {f:Nat→Bool×Int} {n:Nat}:(rulesS pol f n).1.length≤n+1:=by
 unfold rulesS
 split
 ·have:=List.length_filter_le (λ i=>(f i).1) (List.range n)
  simp only [heldR] at *
  simp at this; omega
 ·split <;> simp
noncomputable def rulesR (r:Rdy) (row:List Val):List Nat×Nat×Int:=if inputE r row≠0 then ([],0,inputE r row) else rulesS r.t.pol (ruleS r row) r.ls.length
structure RdyG (r:Rdy):Prop where
 ls:r.ls.length≤1000000
 ins:r.t.ins.length≤1000000
 cs:∀ i,i<r.ls.length→(r.ls.getD i lin0).cs.length=r.t.ins.length
 os:∀ i,i<r.ls.length→(r.ls.getD i lin0).os.length≤1000000
end Go.Proofs.YtbmmnalndollkaaGreatDoor
set_option maxRecDepth 100000
namespace Go.Proofs.YtbmmnalndollkaaGreatDoor
open Go Go.Dx Go.RowKit
abbrev AC:=Option Addr×Nat
def TxL (h:View) (a:AC) (l:List (List UInt8)):Prop:=SlC 9 1 (flatR λ s=>[vs s]) h (.slice a.1 l.length a.2) l
theorem txtl_m (a:AC) (l:List (List UInt8)):Mono λ h=>TxL h a l:=λ _ _ hle hx=>SlC.monoF hx hle
def OrH (h:View) (p:CoO):Prop:=p.1.on=p.2.length∧SlC 52 3 (flatR valC) h (.slice p.1.oa p.1.on p.1.oc) p.2∧∀ v∈p.2,valB v∧v.s.length≤9223372036854775807
def CoL (h:View) (a:AC) (l:List CoO):Prop:=SlC 66 3 (flatR colC) h (.slice a.1 (colsO l).length a.2) (colsO l)∧∀ p∈l,OrH h p
theorem orh_m (p:CoO):Mono λ h=>OrH h p:=λ _ _ hle hx=>⟨hx.1,hx.2.1.monoF hle,hx.2.2⟩
theorem col_m (a:AC) (l:List CoO):Mono λ h=>CoL h a l:=λ _ _ hle hx=>⟨hx.1.monoF hle,λ p hp=>orh_m p _ _ hle (hx.2 p hp)⟩
theorem cols_len (l:List CoO):(colsO l).length=l.length:=List.length_map ..
theorem cols_get (l:List CoO) (k:Nat) (h:k<l.length):(colsO l).getD k c0=(l.getD k co0).1:=by simp [colsO,List.getD,h]
def ruC (r:List (List UInt8)×List (List UInt8)) (a b:AC):List Value:=[.slice a.1 r.1.length a.2,.slice b.1 r.2.length b.2]
def RuR (h:View) (cs:List Value) (r:List (List UInt8)×List (List UInt8)):Prop:=∃ a b:AC,cs=ruC r a b∧TxL h a r.1∧TxL h b r.2
theorem ruR_m:MonoR RuR:=λ hle hx=>by
 obtain ⟨a,b,e,h1,h2⟩:=hx
 exact ⟨a,b,e,txtl_m a _ _ _ hle h1,txtl_m b _ _ _ hle h2⟩
structure TA where
 i:AC
 o:AC
 r:AC
def tabC (t:Tab) (a:TA):List Value:=[vs t.name,.slice a.i.1 (colsO t.ins).length a.i.2,.slice a.o.1 (colsO t.outs).length a.o.2,.int .i64 t.pol,.int .i64 t.agg,.slice a.r.1 t.rules.length a.r.2]
structure TabH (h:View) (t:Tab) (a:TA):Prop where
 i:CoL h a.i t.ins
 o:CoL h a.o t.outs
 r:LR 86 2 RuR h a.r.1 a.r.2 t.rules
theorem tab_m (t:Tab) (a:TA):Mono λ h=>TabH h t a:=λ _ _ hle hx=>⟨col_m _ _ _ _ hle hx.i,col_m _ _ _ _ hle hx.o,LR.mono (R:=RuR) ruR_m hle hx.r⟩
def CelR (h:View) (cs:List Value) (c:Cel):Prop:=∃ x:AC,cs=celC c x.1 x.2∧TL h x.1 x.2 c.ts
theorem celR_m:MonoR CelR:=λ hle hx=>by
 obtain ⟨x,e,h1⟩:=hx
 exact ⟨x,e,h1.mono hle⟩
def liC (l:Lin) (a b:AC):List Value:=[.slice a.1 l.cs.length a.2,.slice b.1 l.os.length b.2]
def LinH (h:View) (l:Lin) (a b:AC):Prop:=LR 71 3 CelR h a.1 a.2 l.cs∧XL h b.1 b.2 l.os
theorem lin_m (l:Lin) (a b:AC):Mono λ h=>LinH h l a b:=λ _ _ hle hx=>⟨LR.mono (R:=CelR) celR_m hle hx.1,hx.2.mono hle⟩
def LinR (h:View) (cs:List Value) (l:Lin):Prop:=∃ a b:AC,cs=liC l a b∧LinH h l a b
theorem linR_m:MonoR LinR:=λ hle hx=>by
 obtain ⟨a,b,e,h1⟩:=hx
 exact ⟨a,b,e,lin_m _ a b _ _ hle h1⟩
def rdyC (r:Rdy) (a:TA) (x:AC):List Value:=tabC r.t a++[.slice x.1 r.ls.length x.2]
structure RdyH (h:View) (r:Rdy) (a:TA) (x:AC):Prop where
 t:TabH h r.t a
 l:LR 75 2 LinR h x.1 x.2 r.ls
theorem rdy_m (r:Rdy) (a:TA) (x:AC):Mono λ h=>RdyH h r a x:=λ _ _ hle hx=>⟨tab_m _ _ _ _ hle hx.t,LR.mono (R:=LinR) linR_m hle hx.l⟩
def RwR (h:View) (cs:List Value) (l:List Val):Prop:=∃ a:AC,cs=[.slice a.1 l.length a.2]∧SlC 52 3 (flatR valC) h (.slice a.1 l.length a.2) l
theorem rwR_m:MonoR RwR:=λ hle hx=>by
 obtain ⟨a,e,h1⟩:=hx
 exact ⟨a,e,h1.monoF hle⟩
def iC (n:Int):List Value:=[.int .i64 n]
structure OutH (h:View) (o:Outc) (a b:AC):Prop where
 r:SlC 3 1 (flatR iC) h (.slice a.1 o.rules.length a.2) o.rules
 w:LR 49 1 RwR h b.1 b.2 o.rows
end Go.Proofs.YtbmmnalndollkaaGreatDoor
set_option maxRecDepth 100000
namespace Go.Proofs.YtbmmnalndollkaaGreatDoor
open Go Go.Dx Go.RowKit
theorem right_gt {c:Cel} (h:rightC c=true):∀ t∈c.ts,GT t:=by
 intro t ht
 obtain ⟨k1,k6,pa,pb,po⟩:=sound_parts (right_sound h t ht)
 have ra:=part_r pa
 refine ⟨smx_right ra.1,?_,by have:=ra.2; omega,?_⟩
 ·by_cases h6:t.k=6
  ·exact smx_right (part_r (pb h6)).1
  ·rw [same_ex0 (po h6).1]; exact sm0
 ·by_cases h6:t.k=6
  ·have:=(part_r (pb h6)).2; omega
  ·rw [same_ex0 (po h6).1]; exact dp0
end Go.Proofs.YtbmmnalndollkaaGreatDoor
set_option maxRecDepth 100000
namespace Go.Proofs.YtbmmnalndollkaaGreatDoor
open Go Go.Dx Go.RowKit
theorem c_RParse (s:List UInt8) (hT:TokN (lexS s).1) (hTs:∀ t∈(lexS s).1,t.s.length≤1000000) (hn:(lexS s).1.length≤999999) (hd:deepS (readT (lexS s).1 0 0).1≤1000000000) (hsl:s.length≤9223372036854775807) (w0:World) (h0:View) (hv:VLe h0 (Full w0)) :
  Calls Tryz.prog 68 #[vs s] w0 (Ret w0 h0 λ u hh=>∃ x:Option Addr×Nat,u = .tuple #[exV (parseT s).1 x,.int .i64 (parseT s).2.1,.int .i64 (parseT s).2.2]∧XL hh x.1 x.2 (parseT s).1.l):=by
 unfold parseT
 refine entA (args:=[vs s]) TT_ok [1000006] [] Tryz.func68 rfl Tryz.ntmps68 rfl rfl hv (λ x=>xl_m x _) ?_
 intro b2
 refine cA TT_ok (λ w v h1 h2 h3=>c_RLex s w v h3) (λ _=>Mono.slF) (λ x=>?_)
 generalize lexS s=L at hT hTs hn hd ⊢
 obtain ⟨l,at_,e⟩:=L
 simp only at hT hTs hn hd ⊢
 refine cnd (λ h=>?_) (λ h=>?_)
 ·rw [if_pos h]
  exact ⟨(none,0),rfl,λ v _ _=>xl_nil v⟩
 rw [if_neg (λ hh=>hh (by simpa using h))]
 refine cA TT_ok (λ w v h1 h2 h3=>c_RRead x.1 x.2 l hT hTs hn 0 0 (Nat.zero_le _) (by omega) w v h3 h2.2) (λ x=>xl_m x _) (λ x2=>?_)
 have hf11:(readT l 0 0).2.2=0∨(readT l 0 0).2.2=11:=by
  unfold readT; split
  ·exact .inr rfl
  ·exact .inl rfl
 generalize readT l 0 0=r at hd hf11 ⊢
 obtain ⟨y,n,f⟩:=r
 simp only at hd hf11 ⊢
 intro b8
 refine cnd (λ h2=>?_) (λ h2=>?_)
 ·rw [if_pos (by omega)]
  refine regQ TT_ok [0,1,2,3,4,5] [6,7,8] [2] false ?_
  refine ixf (λ v hF=>hF.1.2) n t0 ?_ (by omega)
  refine kq ?_
  refine kq ?_
  refine kq ?_
  exact ⟨(none,0),rfl,λ v _ _=>xl_nil v⟩
 rw [if_neg (by omega)]
 refine cnd (λ h3=>?_) (λ h3=>?_)
 ·rw [if_pos (by simpa using h3)]
  have hf:f=11:=hf11.resolve_left (by simpa using h3)
  subst hf
  exact ⟨(none,0),rfl,λ v _ _=>xl_nil v⟩
 rw [if_neg (by simpa using h3)]
 refine cf (λ w v h1 h2 h3=>c_RDeep _ y x2.1 x2.2 (Nat.lt_succ_self _) hd w v h3 h2.2) ?_
 refine cnd (λ h4=>?_) (λ h4=>?_)
 ·rw [if_pos (by omega)]
  exact ⟨(none,0),rfl,λ v _ _=>xl_nil v⟩
 rw [if_neg (by omega)]
 exact ⟨x2,rfl,λ v _ hF=>hF.2⟩
end Go.Proofs.YtbmmnalndollkaaGreatDoor
set_option maxRecDepth 100000
namespace Go.Proofs.YtbmmnalndollkaaGreatDoor
open Go Go.Dx Go.RowKit
theorem c_RColumns (a:AC) (l:List Col) (hn:∀ c∈l,c.name.length≤1000000) (w0:World) (h0:View) (hv:VLe h0 (Full w0)) (hc:SlC 66 3 (flatR colC) h0 (.slice a.1 l.length a.2) l) :
  Calls Tryz.prog 99 #[.slice a.1 l.length a.2] w0 (Ret w0 h0 λ u _=>u = .int .i64 (colsS l)):=by
 have hlm:=slc_lm hc
 refine ent (args:=[.slice a.1 l.length a.2]) TT_ok [] [] Tryz.func99 rfl Tryz.ntmps99 rfl rfl hv ?_
 refine cnd (λ h=>?_) (λ h=>?_)
 ·exact congrArg (Value.int .i64) (if_pos (by omega)).symm
 have e0:colsS l=colsG l 0:=if_neg (by omega)
 rw [e0]
 refine w_loop TT_ok (λ k:Nat=>[(3,.v (.int .i64 k))]) 0 (λ k=>k≤l.length∧colsG l 0=colsG l k) (λ k=>l.length - k) ?_
 refine And.intro ⟨⟨Nat.zero_le _,rfl⟩,gs⟩ ?_
 intro k ⟨hk,hn'⟩
 refine cnd (λ h1=>?_) (λ h1=>?_)
 ·have hkl:k<l.length:=by omega
  have hs:(l.getD k c0).name.length≤1000000:=hn _ (getD_mem l k c0 hkl)
  obtain ⟨q,hq,hqk⟩:=at_le hkl
  refine ixs hc k c0 ?_
  refine cb (λ w hw=>c_RName _ hs w h0 hw) ?_
  refine ixsg hc k c0 ?_ (by intros; omega)
  refine kg1 ?_
  refine cbg (λ _ w hw=>c_RAt a.1 a.2 l (l.getD k c0).name w h0 hw hc) ?_
  refine cnd (λ h2=>?_) (λ h2=>?_)
  ·have hb:badN l k:=by
    rcases h2 with h2 | h2
    ·exact .inl h2
    ·refine .inr ?_
     rw [hq] at h2 ⊢; omega
   rw [hn',cg_name hkl hb]; exact rfl
  have hb:¬ badN l k:=by
   rintro (h3 | h3)
   ·rw [h3] at h2; exact absurd h2.1 (by decide)
   ·rw [hq] at h3 h2; have:=h2.2; omega
  refine ixs hc k c0 ?_
  refine ixsg hc k c0 ?_ (by intros; omega)
  refine kg1 ?_
  refine cnd (λ h3=>?_) (λ h3=>?_)
  ·rw [hn',cg_kind hkl hb (by unfold badK; omega)]; exact rfl
  ·refine wi ?_
   exact ⟨k+1,⟨⟨hkl,by rw [hn',cg_next hkl hb (by unfold badK; omega)]⟩,by omega⟩,gs⟩
 ·rw [hn',cg_over (by omega)]; exact rfl
set_option maxHeartbeats 2000000 in
theorem c_Rorder (p:CoO) (asked:Bool) (w0:World) (h0:View) (hv:VLe h0 (Full w0)) (hp:OrH h0 p) :
  Calls Tryz.prog 100 #[.agg (colC p.1).toArray,.bool asked] w0 (Ret w0 h0 λ u _=>u = .bool (ordOk asked p)):=by
 obtain ⟨⟨nm,kd,oa,on,oc⟩,o⟩:=p
 obtain ⟨hon,hsl,hvs⟩:=hp
 dsimp only at hon hsl hvs
 subst hon
 have hlm:=slc_lm hsl
 refine ent (args:=[.agg (colC ⟨nm,kd,oa,o.length,oc⟩).toArray,.bool asked]) TT_ok [] [] Tryz.func100 rfl Tryz.ntmps100 rfl rfl hv ?_
 intro b2
 have e0:ordOk asked (⟨nm,kd,oa,o.length,oc⟩,o)=if asked=false then decide (o.length=0) else decide ((∀ i,i<o.length→ordG kd o i)∧1≤o.length∧o.length≤8):=rfl
 refine cnd (λ h=>?_) (λ h=>?_)
 ·have h:asked=false:=by simpa using h
  rw [e0,if_pos h]
  refine congrArg Value.bool ?_
  exact decide_eq_decide.2 ⟨λ h=>by dsimp only at h; omega,λ h=>by dsimp only at h ⊢; omega⟩
 have h:asked=true:=by simpa using h
 rw [e0,if_neg (by rw [h]; decide)]
 clear e0
 refine w_loop TT_ok (λ k:Nat=>[(5,.v (.int .i64 k))]) 0 (λ k=>k≤o.length∧∀ i,i<k→ordG kd o i) (λ k=>o.length - k) ?_
 refine And.intro ⟨⟨Nat.zero_le _,λ j hj=>absurd hj (Nat.not_lt_zero j)⟩,gs⟩ ?_
 intro k ⟨hk,hn⟩
 refine cnd (λ h1=>?_) (λ h1=>?_) <;> dsimp only at h1
 ·have hkl:k<o.length:=by omega
  have hbad:¬ ordG kd o k→decide ((∀ i,i<o.length→ordG kd o i)∧1≤o.length∧o.length≤8)=false:=λ hh=>decide_eq_false λ hm=>hh (hm.1 k hkl)
  refine And.intro (by kernel_rfl) ?_
  refine ixs hsl k v0 ?_
  refine cb (λ w hw=>c_RRight _ (hvs _ (getD_mem o k v0 hkl)).2 w h0 hw) ?_
  refine ixsg hsl k v0 ?_ (by intros; omega)
  refine kg1 ?_
  refine cnd (λ h2=>?_) (λ h2=>?_)
  ·rw [hbad (λ hm=>by
    rcases h2 with h2 | h2
    ·rw [hm.1] at h2; cases h2
    ·exact h2 hm.2.1)]
   exact rfl
  refine w_loop TT_ok (λ m:Nat=>[(6,.v (.int .i64 m))]) 0 (λ m=>m≤k∧∀ j,j<m→o.getD j v0≠o.getD k v0) (λ m=>k - m) ?_
  refine And.intro ⟨⟨Nat.zero_le _,λ j hj=>absurd hj (Nat.not_lt_zero j)⟩,gs⟩ ?_
  intro m ⟨hm,hd⟩
  refine cnd (λ h3=>?_) (λ h3=>?_)
  ·refine And.intro (by kernel_rfl) ?_
   refine ixs hsl m v0 ?_
   refine ixs hsl k v0 ?_
   refine aq eqV (o.getD m v0) (o.getD k v0) ?_
   refine cnd (λ h4=>?_) (λ h4=>?_)
   ·rw [hbad (λ hh=>hh.2.2 m (by omega) h4)]; exact rfl
   ·refine wi ?_
    exact ⟨m+1,⟨⟨by omega,upto_snoc hd h4⟩,by omega⟩,gs⟩
  ·refine wi ?_
   exact ⟨k+1,⟨⟨hkl,upto_snoc hn ⟨h2.1,h2.2,λ j hj=>hd j (by omega)⟩⟩,by omega⟩,gs⟩
 ·refine congrArg Value.bool ?_
  have hall:∀ i,i<o.length→ordG kd o i:=λ i hi=>hn i (by omega)
  by_cases h5:1≤o.length∧o.length≤8
  ·rw [decide_eq_true (p:=_∧_∧_) ⟨hall,h5⟩]; simp; omega
  ·rw [decide_eq_false (p:=_∧_∧_) (λ hh=>h5 hh.2)]; simp; omega
theorem c_Rcolumns (a:AC) (l:List CoO) (asked:Bool) (hn:∀ p∈l,p.1.name.length≤1000000) (w0:World) (h0:View) (hv:VLe h0 (Full w0)) (hc:CoL h0 a l) :
  Calls Tryz.prog 64 #[.slice a.1 (colsO l).length a.2,.bool asked] w0 (Ret w0 h0 λ u _=>u = .int .i64 (colE l asked)):=by
 obtain ⟨hsl,hor⟩:=hc
 have hlm:=slc_lm hsl
 have hcl:=cols_len l
 have hn':∀ c∈colsO l,c.name.length≤1000000:=λ c hm=>by
  obtain ⟨p,hp,rfl⟩:=List.mem_map.1 hm
  exact hn p hp
 have e0:colE l asked=if colsS (colsO l)≠0 then colsS (colsO l) else if l.all (ordOk asked)=false∨l.length=0 then 17 else 0:=rfl
 rw [e0]; clear e0
 refine ent (args:=[.slice a.1 (colsO l).length a.2,.bool asked]) TT_ok [] [] Tryz.func64 rfl Tryz.ntmps64 rfl rfl hv ?_
 refine cb (λ w hw=>c_RColumns a (colsO l) hn' w h0 hw hsl) ?_
 refine cnd (λ h=>?_) (λ h=>?_)
 ·rw [if_pos h]; exact rfl
 rw [if_neg (λ hh=>hh (by simpa using h))]
 refine w_loop TT_ok (λ k:Nat=>[(6,.v (.int .i64 k))]) 0 (λ k=>k≤l.length∧∀ j,j<k→ordOk asked (l.getD j co0)=true) (λ k=>l.length - k) ?_
 refine And.intro ⟨⟨Nat.zero_le _,λ j hj=>absurd hj (Nat.not_lt_zero j)⟩,gs⟩ ?_
 intro k ⟨hk,hd⟩
 refine cnd (λ h1=>?_) (λ h1=>?_)
 ·have hkl:k<l.length:=by omega
  refine ixs hsl k c0 ?_ (by omega)
  rw [cols_get l k hkl]
  refine cb (λ w hw=>c_Rorder (l.getD k co0) asked w h0 hw (hor _ (getD_mem l k co0 hkl))) ?_
  refine cnd (λ h2=>?_) (λ h2=>?_)
  ·rw [if_pos (.inl (all_not co0 hkl h2))]; exact rfl
  ·refine wi ?_
   exact ⟨k+1,⟨⟨hkl,upto_snoc hd h2⟩,by omega⟩,gs⟩
 ·have hall:l.all (ordOk asked)=true:=all_upto co0 (λ j hj=>hd j (by omega))
  refine cnd (λ h2=>?_) (λ h2=>?_)
  ·rw [if_pos (.inr (by omega))]; exact rfl
  ·rw [if_neg (by rw [hall]; rintro (h3 | h3); exact absurd h3 (by decide); omega)]; exact rfl
theorem c_Rpolicy (t:Tab) (a:TA) (w0:World) (h0:View) (hv:VLe h0 (Full w0)) (hc:CoL h0 a.o t.outs) :
  Calls Tryz.prog 65 #[.agg (tabC t a).toArray] w0 (Ret w0 h0 λ u _=>u = .bool (polOk t)):=by
 obtain ⟨hsl,hor⟩:=hc
 have hcl:=cols_len t.outs
 have e0:polOk t=if t.pol<1∨6<t.pol then false else if t.agg=0 then true else if t.pol≠5∨t.agg<1∨4<t.agg∨t.outs.length≠1 then false
   else decide (t.agg=4)||(decide ((t.outs.getD 0 co0).1.kind=1)||(decide ((t.outs.getD 0 co0).1.kind=2) && !decide (t.agg=1))):=rfl
 rw [e0]; clear e0
 refine ent (args:=[.agg (tabC t a).toArray]) TT_ok [] [] Tryz.func65 rfl Tryz.ntmps65 rfl rfl hv ?_
 intro b1
 refine cnd (λ h=>?_) (λ h=>?_)
 ·rw [if_pos h]; exact rfl
 rw [if_neg (by omega)]
 refine cnd (λ h1=>?_) (λ h1=>?_)
 ·rw [if_pos h1]; exact rfl
 rw [if_neg h1]
 refine cnd (λ h2=>?_) (λ h2=>?_)
 ·rw [if_pos (by omega)]; exact rfl
 rw [if_neg (by omega)]
 refine ixs hsl 0 c0 ?_ (by omega)
 rw [cols_get t.outs 0 (by omega)]
 refine congrArg Value.bool ?_
 cases decide (t.agg=4) <;> cases decide ((t.outs.getD 0 co0).1.kind=1) <;> simp
structure TabB (t:Tab):Prop where
 n:t.name.length≤1000000
 i:∀ p∈t.ins,p.1.name.length≤1000000
 o:∀ p∈t.outs,p.1.name.length≤1000000
 r:∀ r∈t.rules,(∀ s∈r.2,s.length≤1000000)∧r.1.length≤1000000∧r.2.length≤1000000
 k:t.rules.length≤1000000
theorem c_Rframe (t:Tab) (a:TA) (hb:TabB t) (w0:World) (h0:View) (hv:VLe h0 (Full w0)) (hc:TabH h0 t a) :
  Calls Tryz.prog 33 #[.agg (tabC t a).toArray] w0 (Ret w0 h0 λ u _=>u = .int .i64 (frameE t)):=by
 have e0:frameE t=if nameOk t.name=false then 13 else if colE t.ins false≠0 then colE t.ins false else if colE t.outs (decide (t.pol=3))≠0 then colE t.outs (decide (t.pol=3))
   else if polOk t=false then 17 else if 24<t.rules.length then 24 else 0:=rfl
 rw [e0]; clear e0
 refine ent (args:=[.agg (tabC t a).toArray]) TT_ok [] [] Tryz.func33 rfl Tryz.ntmps33 rfl rfl hv ?_
 intro b1
 refine cb (λ w hw=>c_RName _ hb.n w h0 hw) ?_
 refine cnd (λ h=>?_) (λ h=>?_)
 ·rw [if_pos h]; exact rfl
 rw [if_neg (by rw [h]; decide)]
 refine cb (λ w hw=>c_Rcolumns a.i t.ins false hb.i w h0 hw hc.i) ?_
 refine cnd (λ h1=>?_) (λ h1=>?_)
 ·rw [if_pos h1]; exact rfl
 rw [if_neg (λ hh=>hh (by simpa using h1))]
 refine cb (λ w hw=>c_Rcolumns a.o t.outs (decide (t.pol=3)) hb.o w h0 hw hc.o) ?_
 refine cnd (λ h2=>?_) (λ h2=>?_)
 ·rw [if_pos h2]; exact rfl
 rw [if_neg (λ hh=>hh (by simpa using h2))]
 refine cb (λ w hw=>c_Rpolicy t a w h0 hw hc.o) ?_
 refine cnd (λ h3=>?_) (λ h3=>?_)
 ·rw [if_pos h3]; exact rfl
 rw [if_neg (by rw [h3]; decide)]
 refine cnd (λ h4=>?_) (λ h4=>?_)
 ·rw [if_pos (by omega)]; exact rfl
 ·rw [if_neg (by omega)]; exact rfl
end Go.Proofs.YtbmmnalndollkaaGreatDoor
