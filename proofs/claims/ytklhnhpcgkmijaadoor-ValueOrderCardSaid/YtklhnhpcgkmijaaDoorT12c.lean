/- What the functions of the program compute: the texts of values, and two laws. Each with its conditions. -/
import Derived.Test.YtklhnhpcgkmijaaDoorDx7
import Derived.Test.YtklhnhpcgkmijaaDoorVT
import Derived.Test.YtklhnhpcgkmijaaDoorT12b
import Derived.Sort.Grow
import Derived.Lib.AppendIntMem
import Derived.Lib.LaidTab
import Derived.Lib.ItoaLen
set_option linter.unusedSimpArgs false
set_option linter.unusedVariables false
namespace Go.Proofs.YtklhnhpcgkmijaaDoor
open Go Go.Dx Go.RowKit
def TT : Tab := ⟨[(2, ⟨.int .i64, 1, false, [.int .i64 0]⟩),
  (3, ⟨.int .i64, 1, false, [.int .i64 0]⟩),
  (4, ⟨.bool, 1, false, [.bool false]⟩),
  (5, ⟨.int .u8, 1, false, [.int .u8 0]⟩),
  (9, ⟨.str, 1, false, [vs []]⟩),
  (21, ⟨.int .i32, 1, false, [.int .i32 0]⟩),
  (22, ⟨.int .i64, 1, false, [.int .i64 0]⟩),
  (24, ⟨.st [(0, 1, false), (1, 1, false), (2, 1, false)], 3, true, [.int .i64 0, .int .i64 0, vs []]⟩),
  (26, ⟨.int .i64, 1, false, [.int .i64 0]⟩),
  (34, ⟨.sl 24 3, 1, false, [.slice none 0 0]⟩),
  (65, ⟨.ot, 1, false, [.pointer none]⟩),
  (66, ⟨.sl 5 1, 1, false, [.slice none 0 0]⟩),
  (68, ⟨.st [(0, 1, false), (1, 1, false)], 2, true, [.pointer none, .slice none 0 0]⟩),
  (75, ⟨.int .u64, 1, false, [.int .u64 0]⟩),
  (78, ⟨.int .u64, 1, false, [.int .u64 0]⟩),
  (79, ⟨.sl 3 1, 1, false, [.slice none 0 0]⟩),
  (87, ⟨.ot, 1, false, [.pointer none]⟩),
  (88, ⟨.ar 24 5 1, 24, true, [.int .u8 0, .int .u8 0, .int .u8 0, .int .u8 0, .int .u8 0, .int .u8 0, .int .u8 0, .int .u8 0, .int .u8 0, .int .u8 0, .int .u8 0, .int .u8 0, .int .u8 0, .int .u8 0, .int .u8 0, .int .u8 0, .int .u8 0, .int .u8 0, .int .u8 0, .int .u8 0, .int .u8 0, .int .u8 0, .int .u8 0, .int .u8 0]⟩),
  (92, ⟨.ot, 1, false, [.pointer none]⟩),
  (94, ⟨.int .u32, 1, false, [.int .u32 0]⟩),
  (97, ⟨.ar 20 75 1, 20, true, [.int .u64 0, .int .u64 0, .int .u64 0, .int .u64 0, .int .u64 0, .int .u64 0, .int .u64 0, .int .u64 0, .int .u64 0, .int .u64 0, .int .u64 0, .int .u64 0, .int .u64 0, .int .u64 0, .int .u64 0, .int .u64 0, .int .u64 0, .int .u64 0, .int .u64 0, .int .u64 0]⟩),
  (101, ⟨.ar 32 5 1, 32, true, [.int .u8 0, .int .u8 0, .int .u8 0, .int .u8 0, .int .u8 0, .int .u8 0, .int .u8 0, .int .u8 0, .int .u8 0, .int .u8 0, .int .u8 0, .int .u8 0, .int .u8 0, .int .u8 0, .int .u8 0, .int .u8 0, .int .u8 0, .int .u8 0, .int .u8 0, .int .u8 0, .int .u8 0, .int .u8 0, .int .u8 0, .int .u8 0, .int .u8 0, .int .u8 0, .int .u8 0, .int .u8 0, .int .u8 0, .int .u8 0, .int .u8 0, .int .u8 0]⟩)], [8, 9, 10, 11, 12, 13, 14, 15, 16, 17, 18, 19, 20, 21, 22, 23, 24, 25, 26, 27, 28, 29, 30, 31, 32, 33, 34, 35, 36, 37, 38, 39, 40, 41, 42, 43, 44, 45, 46, 47, 48, 49, 50, 51, 52, 53, 54, 55, 56, 57, 58, 59, 60, 61, 63, 64, 65, 66, 68, 69, 70, 71, 72, 73, 74, 75]⟩
theorem TT_ok : Tab.Ok Tryd.prog TT := ⟨by kernel_rfl, by kernel_rfl, by kernel_rfl⟩
/-- the table of powers of ten, as it was laid -/
def powG : Nat := 1
def PowV (h : View) : Prop := ∃ (T : TypeId) (fz : Nat × Nat), h powG = some (.cells (Lib.pow10Tab.map fun z => Value.int .u64 z).toArray T fz)
theorem pow_tab {h : View} {w : World} (hp : PowV h) (hv : VLe h (Full w)) : Lib.TabIs Tryd.prog w "internal/strconv.uint64pow10" .u64 Lib.pow10Tab := by
  obtain ⟨T, fz, hg⟩ := hp
  have hw : w.heap[powG]? = _ := hv _ _ hg
  have hn : Tryd.prog.globalNamed "internal/strconv.uint64pow10" = some powG := by kernel_rfl
  unfold Lib.TabIs World.var?
  rw [hn, Option.bind_some, hw]
theorem c_Itoa (n : Int) (hn : I64 n) (w0 : World) (h0 : View) (hv : VLe h0 (Full w0)) (hp : PowV h0) : Calls Tryd.prog 25 #[.int .i64 n] w0 (Ret w0 h0 fun u _ => u = vs (Lib.itoa n)) := by
  refine calls_below ((Tryd.strconv_Itoa n hn.1 hn.2 w0 (pow_tab hp hv)).mono ?_)
  rintro e w' ⟨rfl, k, os, rfl⟩
  exact ⟨rfl, Lib.below_grow _ _ (Nat.le_refl _) k os⟩
theorem c_FB (b : Bool) (w0 : World) (h0 : View) (hv : VLe h0 (Full w0)) : Calls Tryd.prog 48 #[.bool b] w0 (Ret w0 h0 fun u _ => u = vs (boolS b)) := by
  refine ent (args := [.bool b]) TT_ok [] [] Tryd.func48 rfl Tryd.ntmps48 rfl rfl hv ?_
  refine cnd (fun h => ?_) (fun h => ?_)
  · rw [h]; exact rfl
  · rw [h]; exact rfl
theorem c_FormatBool (b : Bool) (w0 : World) (h0 : View) (hv : VLe h0 (Full w0)) : Calls Tryd.prog 27 #[.bool b] w0 (Ret w0 h0 fun u _ => u = vs (boolS b)) := by
  refine ent (args := [.bool b]) TT_ok [] [] Tryd.func27 rfl Tryd.ntmps27 rfl rfl hv ?_
  refine cl (c_FB b) ?_
  exact rfl
theorem itoa_len' {n : Int} (h : I64 n) : (Lib.itoa n).length ≤ 21 := Lib.itoa_length_le n h.1 h.2
theorem u8_digit {m : Nat} (h : m < 10) : IntKind.u8.wrap (48 + (m : Int)) = ((UInt8.ofNat (48 + m)).toNat : Int) := by
  rw [digit_val h, wrap_u8 (by omega) (by omega)]; omega
theorem c_Digits : ∀ (k : Nat) (n : Int), n.natAbs ≤ k → I64 n → ∀ (w0 : World) (h0 : View) (_ : VLe h0 (Full w0)), Calls Tryd.prog 32 #[.int .i64 n] w0 (Ret w0 h0 fun u _ => u = vs (Lib.itoa n)) := by
  intro k
  induction k using Nat.strongRecOn with
  | _ k ih =>
  intro n hk hn w0 h0 hv
  have hn1 := hn.1
  have hn2 := hn.2
  refine ent (args := [.int .i64 n]) TT_ok [] [8] Tryd.func32 rfl Tryd.ntmps32 rfl rfl hv ?_
  refine cnd (fun h => ?_) (fun h => ?_)
  · refine cnd (fun h1 => ?_) (fun h1 => ?_)
    · refine wi ?_
      refine ew _ (show IntKind.u8.wrap (48 - n) = ((UInt8.ofNat (48 + n.natAbs)).toNat : Int) by rw [show 48 - n = 48 + (n.natAbs : Int) by omega]; exact u8_digit (by omega)) ?_
      intro b
      refine ew [UInt8.ofNat (48 + n.natAbs)] rfl ?_
      refine ct ?_
      show vs _ = _
      rw [itoa_neg' h1, dec_lo (by omega)]; rfl
    · refine wi ?_
      refine ew _ (show IntKind.u8.wrap (48 + n) = ((UInt8.ofNat (48 + n.natAbs)).toNat : Int) by rw [show 48 + n = 48 + (n.natAbs : Int) by omega]; exact u8_digit (by omega)) ?_
      intro b
      refine ew [UInt8.ofNat (48 + n.natAbs)] rfl ?_
      show vs _ = _
      rw [itoa_pos h1, dec_lo (by omega)]
  · have ht : (n.tdiv 10).natAbs = n.natAbs / 10 := by rw [Int.natAbs_tdiv]; rfl
    have hm : (n.tmod 10).natAbs = n.natAbs % 10 := by rw [Int.natAbs_tmod]; rfl
    have hi := itoa_hi (n := n) (by omega)
    refine rm (by decide) ?_
    refine w_cut TT_ok (fun _ : Unit => [(3, .v (.int .i64 ((n.natAbs % 10 : Nat) : Int)))]) (fun _ => True) ?_
    refine And.intro ?_ ?_
    · refine cnd (fun h1 => ?_) (fun h1 => ?_)
      · refine wi ?_
        exact ⟨(), trivial, gs (by rw [show 0 - n.tmod 10 = ((n.natAbs % 10 : Nat) : Int) by omega]; rfl)⟩
      · exact ⟨(), trivial, gs (by rw [show n.tmod 10 = ((n.natAbs % 10 : Nat) : Int) by omega]; rfl)⟩
    · intro _ _
      refine And.intro (by kernel_rfl) ?_
      refine qu (by decide) ?_
      refine cl (ih (n.natAbs / 10) (by omega) (n.tdiv 10) (by omega) ⟨by omega, by omega⟩) ?_
      refine wi ?_
      refine ew _ (u8_digit (Nat.mod_lt _ (by decide))) ?_
      refine ew [UInt8.ofNat (48 + n.natAbs % 10)] rfl ?_
      refine ct ?_ (by have := itoa_len' (n := n.tdiv 10) ⟨by omega, by omega⟩; simp; omega)
      exact congrArg vs hi.symm

theorem u8i {b : UInt8} {m : Nat} (hm : m < 256) : ((b.toNat : Int) = (m : Int)) ↔ b = UInt8.ofNat m :=
  ⟨fun h => UInt8.toNat_inj.1 (by rw [byte_lo hm]; omega), fun h => by rw [h, byte_lo hm]⟩
theorem c_RQuote (s : List UInt8) (hs : s.length ≤ 1000000) (w0 : World) (h0 : View) (hv : VLe h0 (Full w0)) : Calls Tryd.prog 33 #[vs s] w0 (Ret w0 h0 fun u _ => u = vs (quS s)) := by
  refine ent (args := [vs s]) TT_ok [] [7] Tryd.func33 rfl Tryd.ntmps33 rfl rfl hv ?_
  have hfl : ∀ k : Nat, ((s.take k).flatMap qB).length ≤ 2 * s.length := fun k => Nat.le_trans (flat_len _) (by rw [List.length_take]; omega)
  refine w_loop TT_ok (fun k : Nat => [(4, .v (.int .i64 k)), (3, .v (vs (34 :: (s.take k).flatMap qB)))]) 0 (fun k => k ≤ s.length) (fun k => s.length - k) ?_
  refine And.intro ⟨Nat.zero_le _, gs⟩ ?_
  intro k hk
  have hf := hfl k
  refine cnd (fun h => ?_) (fun h => ?_)
  · refine w_cut TT_ok (fun _ : Unit => [(3, .v (vs (34 :: (s.take k).flatMap qB ++ if s.getD k 0 = 34 ∨ s.getD k 0 = 92 then [92] else [])))]) (fun _ => True) ?_
    refine And.intro ?_ ?_
    · refine ix k ?_
      refine ixg k ?_
      have e1 : ((s.getD k 0).toNat : Int) = 34 ↔ s.getD k 0 = 34 := u8i (m := 34) (by decide)
      have e2 : ((s.getD k 0).toNat : Int) = 92 ↔ s.getD k 0 = 92 := u8i (m := 92) (by decide)
      refine cnd (fun h1 => ?_) (fun h1 => ?_)
      · refine ct ?_ (by simp only [List.length_cons, List.length_nil]; omega)
        exact ⟨(), trivial, gs (by rw [if_pos (by rwa [e1, e2] at h1)]; rfl)⟩
      · exact ⟨(), trivial, gs (by rw [if_neg (by rw [e1, e2] at h1; simpa using h1), List.append_nil]; rfl)⟩
    · intro _ _
      refine wi ?_
      refine sl2 k (k + 1) ?_
      have h2 : (s.drop k).take (k + 1 - k) = [s.getD k 0] := by
        rw [show k + 1 - k = 1 by omega, drop_getD s k (by omega)]; rfl
      have h3 : (34 :: (s.take k).flatMap qB ++ if s.getD k 0 = 34 ∨ s.getD k 0 = 92 then [92] else []) ++ (s.drop k).take (k + 1 - k) = 34 :: (s.take (k + 1)).flatMap qB := by
        rw [h2, flat_snoc s k (by omega), List.cons_append, List.cons_append, List.append_assoc]
        congr 2
        unfold qB; split <;> rfl
      refine ct ?_ (by rw [← List.length_append, h3, List.length_cons]; have := hfl (k + 1); omega)
      refine wi ?_
      exact ⟨k + 1, ⟨by omega, by omega⟩, gs (by rw [h3]; rfl)⟩
  · have e : s.take k = s := List.take_of_length_le (by omega)
    refine ct ?_ (by simp only [List.length_cons, List.length_nil]; omega)
    show vs _ = _
    rw [e]; exact rfl
theorem chk2 {v : Val} (h : ¬ chkV v = 0) : chkV v = 2 := by rw [chkV, chk_no h]; rfl
theorem txR_ok {v : Val} (h : valOk v = true) : txR v = (txS v, 0) := by rw [txR, if_pos h]
theorem c_VText (v : Val) (hvb : valB v) (w0 : World) (h0 : View) (hv : VLe h0 (Full w0)) (hp : PowV h0) : Calls Tryd.prog 9 #[.agg (valC v).toArray] w0 (Ret w0 h0 fun u _ => u = tsV (txR v)) := by
  refine ent (args := [.agg (valC v).toArray]) TT_ok [] [] Tryd.func9 rfl Tryd.ntmps9 rfl rfl hv ?_
  intro b
  refine cl (c_VCheck v hvb) ?_
  refine cnd (fun h => ?_) (fun h => ?_)
  · have e : txR v = ([], 2) := by rw [txR, chk_no h]; rfl
    rw [chk2 h, e]; exact rfl
  · have hok := chk_ok h
    rw [txR_ok hok]
    refine cnd (fun h1 => ?_) (fun h1 => ?_)
    · refine cb (fun w hw => c_Itoa v.n hvb.2 w h0 hw hp) ?_
      rw [txS, if_pos h1]; exact rfl
    · refine cnd (fun h2 => ?_) (fun h2 => ?_)
      · have hpl : plainS v.s = true := by
          rcases valOk_cases hok with ⟨q, _⟩ | ⟨q, _⟩ | ⟨_, _, q⟩ | ⟨q, _⟩ <;> first | exact q | omega
        refine cl (c_quote v.s hpl) ?_
        rw [txS, if_neg h1, if_pos h2]; exact rfl
      · refine cnd (fun h3 => ?_) (fun h3 => ?_)
        · refine cl (c_FormatBool (decide (v.n = 1))) ?_
          rw [txS, if_neg h1, if_neg h2, if_pos h3]; exact rfl
        · rw [txS, if_neg h1, if_neg h2, if_neg h3]; exact rfl
theorem c_RVText (v : Val) (hvb : valB v) (hok : valOk v = true) (w0 : World) (h0 : View) (hv : VLe h0 (Full w0)) : Calls Tryd.prog 13 #[.agg (valC v).toArray] w0 (Ret w0 h0 fun u _ => u = vs (txS v)) := by
  refine ent (args := [.agg (valC v).toArray]) TT_ok [] [] Tryd.func13 rfl Tryd.ntmps13 rfl rfl hv ?_
  intro b
  refine cnd (fun h1 => ?_) (fun h1 => ?_)
  · refine cl (c_Digits _ v.n (Nat.le_refl _) hvb.2) ?_
    rw [txS, if_pos h1]; exact rfl
  · refine cnd (fun h2 => ?_) (fun h2 => ?_)
    · refine cl (c_RQuote v.s (by have := valOk_40 hok; omega)) ?_
      rw [txS, if_neg h1, if_pos h2]; exact rfl
    · refine cnd (fun h3 => ?_) (fun h3 => ?_)
      · refine cnd (fun h4 => ?_) (fun h4 => ?_)
        · rw [txS, if_neg h1, if_neg h2, if_pos h3, decide_eq_true h4]; exact rfl
        · rw [txS, if_neg h1, if_neg h2, if_pos h3, decide_eq_false h4]; exact rfl
      · rw [txS, if_neg h1, if_neg h2, if_neg h3]; exact rfl
theorem c_ValueTexts (v : Val) (hvb : valB v) (hs : v.s.length ≤ 9223372036854775807) (w0 : World) (h0 : View) (hv : VLe h0 (Full w0)) (hp : PowV h0) : Calls Tryd.prog 3 #[.agg (valC v).toArray] w0 (Ret w0 h0 fun u _ => u = .bool true) := by
  refine ent (args := [.agg (valC v).toArray]) TT_ok [] [] Tryd.func3 rfl Tryd.ntmps3 rfl rfl hv ?_
  intro b
  refine cnd (fun h => ?_) (fun h => ?_)
  · refine cl c_lives ?_
    exact rfl
  · refine cb (fun w hw => c_VText v hvb w h0 hw hp) ?_
    refine cl (c_VBytes v hvb) ?_
    refine cl (c_RRight v hs) ?_
    refine cnd (fun h1 => ?_) (fun h1 => ?_)
    · have e1 : txR v = ([], 2) := by rw [txR, h1]; rfl
      have e2 : vbR v = ([], 2) := by rw [vbR, h1]; rfl
      have e3 : chkV v = 2 := by rw [chkV, h1]; rfl
      refine cl (c_VCheck v hvb) ?_
      refine clg (fun _ => c_lives) ?_
      refine finB ?_
      rw [e1, e2, e3]; rfl
    · have e1 := txR_ok h1
      have e2 : vbR v = (bytesV v, 0) := by rw [vbR, if_pos h1]
      have e3 : chkV v = 0 := by rw [chkV, if_pos h1]
      refine cl (c_VCheck v hvb) ?_
      refine clg (fun _ => c_RVText v hvb h1) ?_
      refine clg (fun _ => c_RBytes v hvb h1) ?_
      refine clg (fun _ => c_lives) ?_
      refine finB ?_
      rw [e1, e2, e3]
      simp
set_option maxRecDepth 100000 in
theorem c_ValueOrder (a b c : Val) (ha : valB a) (hb : valB b) (hc : valB c) (hs : a.s.length ≤ 9223372036854775807) (ht : b.s.length ≤ 9223372036854775807) (hu : c.s.length ≤ 9223372036854775807) (w0 : World) (h0 : View) (hv : VLe h0 (Full w0)) (hp : PowV h0) : Calls Tryd.prog 4 #[.agg (valC a).toArray, .agg (valC b).toArray, .agg (valC c).toArray] w0 (Ret w0 h0 fun u _ => u = .bool true) := by
  refine ent (args := [.agg (valC a).toArray, .agg (valC b).toArray, .agg (valC c).toArray]) TT_ok [] [] Tryd.func4 rfl Tryd.ntmps4 rfl rfl hv ?_
  intro b1 b2 b3
  refine cl (c_VCheck a ha) ?_
  refine clg (fun _ => c_VCheck b hb) ?_
  refine clg (fun _ => c_VCheck c hc) ?_
  have key : ∀ {v : Val}, chkV v = 0 → v.s.length ≤ 40 := fun h => valOk_40 (chk_ok h)
  refine wig ?_ (fun h => by have := key h.1.1; have := key h.1.2; omega)
  refine wig ?_ (fun h => by have := key h.1.1; have := key h.1.2; have := key h.2; omega)
  refine cnd (fun h => ?_) (fun h => ?_)
  · refine cl c_lives ?_
    exact rfl
  · have oka := chk_ok h.1.1.1
    have okb := chk_ok h.1.1.2
    have e1 := txR_ok oka
    have e2 := txR_ok okb
    have t1 := cmpV_three a b
    have t2 := cmpV_swap a b
    have t3 : cmpV a b = 0 ↔ a = b := cmpV_zero
    have t4 := cmpV_trans a b c
    have t5 : txS a = txS b ↔ a = b := ⟨tx_inj oka okb, fun h => by rw [h]⟩
    refine And.intro (by kernel_rfl) ?_
    refine cl (c_VCompare a b) ?_
    refine cl (c_VCompare b c) ?_
    refine cl (c_VCompare a c) ?_
    refine cb (fun w hw => c_VText a ha w h0 hw hp) ?_
    refine cb (fun w hw => c_VText b hb w h0 hw hp) ?_
    refine clg (fun _ => c_VCompare b a) ?_
    refine wig ?_ (fun _ => by omega)
    refine aqg eqV a b ?_
    refine aqg eqV a b ?_
    refine cndF (by
      rw [e1, e2, t2]
      have u1 : ¬ cmpV a b < -1 := by omega
      have u2 : ¬ 1 < cmpV a b := by omega
      simp [u1, u2, t3, t5]) ?_
    refine clg (fun _ => c_lives) ?_
    refine finB ?_
    simp only [Bool.and_true, Bool.or_eq_true, Bool.and_eq_true, decide_eq_true_eq]
    omega

end Go.Proofs.YtklhnhpcgkmijaaDoor
