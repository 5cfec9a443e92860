/- Plain functions: SHA-256 and digits, on lists of bytes. -/
import Derived.Test.YtaogkonanncpiaaDxO
set_option linter.unusedSimpArgs false
set_option linter.unusedVariables false
namespace Go.Proofs.Ytaogkonanncpiaa
open Go Go.Dx Go.RowKit
def digits : List UInt8 := [48, 49, 50, 51, 52, 53, 54, 55, 56, 57, 97, 98, 99, 100, 101, 102]
def hexS (l : List UInt8) : List UInt8 := l.flatMap fun b => [digits.getD (b.toNat / 16) 0, digits.getD (b.toNat % 16) 0]
theorem getD_mem {α : Type} (l : List α) (k : Nat) (d : α) (h : k < l.length) : l.getD k d ∈ l := by simp [List.getD, h]
theorem take_snoc {α : Type} (l : List α) (k : Nat) (h : k < l.length) : l.take (k + 1) = l.take k ++ [l[k]] := by
  rw [List.take_succ_eq_append_getElem h]
theorem getD_lt {α : Type} (l : List α) (k : Nat) (d : α) (h : k < l.length) : l.getD k d = l[k] := by simp [List.getD, h]
theorem hex_step (l : List UInt8) (k : Nat) (h : k < l.length) : (hexS (l.take (k + 1))).map v8 = (hexS (l.take k)).map v8 ++ [v8 (digits.getD ((l.getD k 0).toNat / 16) 0), v8 (digits.getD ((l.getD k 0).toNat % 16) 0)] := by
  rw [take_snoc l k h, getD_lt l k 0 h]
  simp only [hexS, List.flatMap_append, List.map_append, List.flatMap_cons, List.flatMap_nil, List.append_nil, List.map_cons, List.map_nil]
theorem hexS_len (l : List UInt8) : (hexS l).length = 2 * l.length := by
  unfold hexS
  induction l with
  | nil => rfl
  | cons a l ih => simp only [List.flatMap_cons, List.length_append, List.length_cons, List.length_nil, ih]; omega

def K : List (BitVec 32) := [0x428a2f98#32, 0x71374491#32, 0xb5c0fbcf#32, 0xe9b5dba5#32, 0x3956c25b#32, 0x59f111f1#32, 0x923f82a4#32, 0xab1c5ed5#32, 0xd807aa98#32, 0x12835b01#32, 0x243185be#32, 0x550c7dc3#32, 0x72be5d74#32, 0x80deb1fe#32, 0x9bdc06a7#32, 0xc19bf174#32, 0xe49b69c1#32, 0xefbe4786#32, 0x0fc19dc6#32, 0x240ca1cc#32, 0x2de92c6f#32, 0x4a7484aa#32, 0x5cb0a9dc#32, 0x76f988da#32, 0x983e5152#32, 0xa831c66d#32, 0xb00327c8#32, 0xbf597fc7#32, 0xc6e00bf3#32, 0xd5a79147#32, 0x06ca6351#32, 0x14292967#32, 0x27b70a85#32, 0x2e1b2138#32, 0x4d2c6dfc#32, 0x53380d13#32, 0x650a7354#32, 0x766a0abb#32, 0x81c2c92e#32, 0x92722c85#32, 0xa2bfe8a1#32, 0xa81a664b#32, 0xc24b8b70#32, 0xc76c51a3#32, 0xd192e819#32, 0xd6990624#32, 0xf40e3585#32, 0x106aa070#32, 0x19a4c116#32, 0x1e376c08#32, 0x2748774c#32, 0x34b0bcb5#32, 0x391c0cb3#32, 0x4ed8aa4a#32, 0x5b9cca4f#32, 0x682e6ff3#32, 0x748f82ee#32, 0x78a5636f#32, 0x84c87814#32, 0x8cc70208#32, 0x90befffa#32, 0xa4506ceb#32, 0xbef9a3f7#32, 0xc67178f2#32]
def rotrS (x : BitVec 32) (n : Nat) : BitVec 32 := x <<< (32 - n) ||| x >>> n
def by4 (b : List UInt8) (i : Nat) : BitVec 32 := BitVec.ofNat 32 (b.getD i 0).toNat
def word (b : List UInt8) (t : Nat) : BitVec 32 := by4 b (4 * t) <<< 24 ||| by4 b (4 * t + 1) <<< 16 ||| by4 b (4 * t + 2) <<< 8 ||| by4 b (4 * t + 3)
def sig0 (x : BitVec 32) : BitVec 32 := rotrS x 7 ^^^ rotrS x 18 ^^^ x >>> 3
def sig1 (x : BitVec 32) : BitVec 32 := rotrS x 17 ^^^ rotrS x 19 ^^^ x >>> 10
def wnext (w : List (BitVec 32)) (t : Nat) : BitVec 32 := w.getD (t - 16) 0 + w.getD (t - 7) 0 + sig0 (w.getD (t - 15) 0) + sig1 (w.getD (t - 2) 0)
def wl (b : List UInt8) : Nat → List (BitVec 32)
  | 0 => []
  | t + 1 => wl b t ++ [if t < 16 then word b t else wnext (wl b t) t]
def sched (b : List UInt8) : List (BitVec 32) := wl b 64
theorem wl_len (b : List UInt8) : ∀ t, (wl b t).length = t
  | 0 => rfl
  | t + 1 => by simp [wl, wl_len b t]
def rnd (v : List (BitVec 32)) (k w : BitVec 32) : List (BitVec 32) :=
  match v with
  | [a, b, c, d, e, f, g, h] =>
    let x := h + (rotrS e 6 ^^^ rotrS e 11 ^^^ rotrS e 25) + (g ^^^ e &&& (f ^^^ g)) + k + w
    let y := (rotrS a 2 ^^^ rotrS a 13 ^^^ rotrS a 22) + (a &&& b ||| c &&& (a ||| b))
    [x + y, a, b, c, d + x, e, f, g]
  | v => v
def rnds (v : List (BitVec 32)) (b : List UInt8) : Nat → List (BitVec 32)
  | 0 => v
  | t + 1 => rnd (rnds v b t) (K.getD t 0) ((sched b).getD t 0)
def mixS (h : List (BitVec 32)) (b : List UInt8) : List (BitVec 32) := List.zipWith (· + ·) h (rnds h b 64)
theorem eight {α : Type} {v : List α} (h : v.length = 8) : ∃ a b c d e f g k, v = [a, b, c, d, e, f, g, k] := by
  match v, h with
  | [a, b, c, d, e, f, g, k], _ => exact ⟨a, b, c, d, e, f, g, k, rfl⟩
theorem rnd_len {v : List (BitVec 32)} (h : v.length = 8) (k w : BitVec 32) : (rnd v k w).length = 8 := by
  obtain ⟨_, _, _, _, _, _, _, _, rfl⟩ := eight h; rfl
theorem rnds_len {v : List (BitVec 32)} (h : v.length = 8) (b : List UInt8) : ∀ t, (rnds v b t).length = 8
  | 0 => h
  | t + 1 => rnd_len (rnds_len h b t) _ _
theorem mixS_len {h : List (BitVec 32)} (hh : h.length = 8) (b : List UInt8) : (mixS h b).length = 8 := by simp [mixS, hh, rnds_len hh]

/-! cells -/
theorem map_get {α : Type} (f : α → Value) (l : List α) (d : α) {i : Nat} (h : i < l.length) : (l.map f)[i]? = some (f (l.getD i d)) := by simp [List.getD, h]
theorem map_get_app {α : Type} (f : α → Value) (l r : List α) (d : α) {i : Nat} (h : i < l.length) : ((l ++ r).map f)[i]? = some (f (l.getD i d)) := by
  simp [List.getD, List.getElem?_append, h]
theorem spl_snoc {α : Type} (f : α → Value) (A : List α) (z x : α) (n m : Nat) (hA : A.length = n) (hm : 0 < m) : spl ((A ++ List.replicate m z).map f) n [f x] = ((A ++ [x]) ++ List.replicate (m - 1) z).map f := by
  unfold spl
  have e1 : ((A ++ List.replicate m z).map f).take n = A.map f := by simp [hA]
  have e2 : ((A ++ List.replicate m z).map f).drop (n + [f x].length) = (List.replicate (m - 1) z).map f := by
    simp [hA, List.drop_append]
  rw [e1, e2]
  simp
theorem spl_set {α : Type} (f : α → Value) (A : List α) (x : α) (n : Nat) (h : n < A.length) : spl (A.map f) n [f x] = (A.set n x).map f := by
  unfold spl
  rw [← List.map_drop, ← List.map_take, List.set_eq_take_append_cons_drop, if_pos h]
  simp
/-! the state -/
def stC (h : List (BitVec 32)) (rv : Value) (sz : Int) : List Value := h.map v32 ++ ([rv, .int .i64 sz] ++ K.map v32)
def H0 : List (BitVec 32) := [0x6a09e667#32, 0xbb67ae85#32, 0x3c6ef372#32, 0xa54ff53a#32, 0x510e527f#32, 0x9b05688c#32, 0x1f83d9ab#32, 0x5be0cd19#32]
theorem K_len : K.length = 64 := rfl
theorem stC_len {h : List (BitVec 32)} (hh : h.length = 8) (rv : Value) (sz : Int) : (stC h rv sz).length = 74 := by simp [stC, hh, K_len]
theorem stC_h {h : List (BitVec 32)} (hh : h.length = 8) (rv : Value) (sz : Int) : ((stC h rv sz).drop 0).take (h.map v32).length = h.map v32 := by simp [stC]
theorem stC_hi {h : List (BitVec 32)} (hh : h.length = 8) (rv : Value) (sz : Int) {i : Nat} (hi : i < 8) : (stC h rv sz)[i]? = some (v32 (h.getD i 0)) := by
  unfold stC
  rw [List.getElem?_append_left (by simp [hh, hi])]
  exact map_get v32 h 0 (by omega)
theorem stC_rv {h : List (BitVec 32)} (hh : h.length = 8) (rv : Value) (sz : Int) : (stC h rv sz)[8]? = some rv := by simp [stC, hh, List.getElem?_append]
theorem stC_rvE {h : List (BitVec 32)} (hh : h.length = 8) {rv v : Value} (e : rv = v) (sz : Int) : (stC h rv sz)[8]? = some v := by rw [stC_rv hh, e]
theorem stC_sz {h : List (BitVec 32)} (hh : h.length = 8) (rv : Value) (sz : Int) : (stC h rv sz)[9]? = some (.int .i64 sz) := by simp [stC, hh, List.getElem?_append]
theorem stC_k {h : List (BitVec 32)} (hh : h.length = 8) (rv : Value) (sz : Int) {i : Nat} (hi : i < 64) : (stC h rv sz)[10 + i]? = some (v32 (K.getD i 0)) := by
  unfold stC
  rw [List.getElem?_append_right (by simp [hh]; omega), List.getElem?_append_right (by simp [hh]; omega)]
  simp only [List.length_map, hh, List.length_cons, List.length_nil]
  rw [show 10 + i - 8 - (0 + 1 + 1) = i by omega]
  exact map_get v32 K 0 (by rw [K_len]; exact hi)
theorem spl_stC_h {h : List (BitVec 32)} (hh : h.length = 8) (rv : Value) (sz : Int) {i : Nat} (hi : i < 8) (x : BitVec 32) : spl (stC h rv sz) i [v32 x] = stC (h.set i x) rv sz := by
  have e := spl_set v32 h x i (by omega)
  unfold spl stC at *
  rw [← e]
  simp only [List.length_cons, List.length_nil]
  rw [List.take_append_of_le_length (by simp [hh]; omega), List.drop_append_of_le_length (by simp [hh]; omega)]
  simp
theorem spl_stC_rv {h : List (BitVec 32)} (hh : h.length = 8) (rv rv' : Value) (sz : Int) : spl (stC h rv sz) 8 [rv'] = stC h rv' sz := by
  obtain ⟨a, b, c, d, e, f, g, k, rfl⟩ := eight hh
  rfl
theorem spl_stC_sz {h : List (BitVec 32)} (hh : h.length = 8) (rv : Value) (sz sz' : Int) : spl (stC h rv sz) 9 [.int .i64 sz'] = stC h rv sz' := by
  obtain ⟨a, b, c, d, e, f, g, k, rfl⟩ := eight hh
  rfl
def addN (h v : List (BitVec 32)) (k : Nat) : List (BitVec 32) := (List.zipWith (· + ·) h v).take k ++ h.drop k
theorem addN_len {h v : List (BitVec 32)} (hh : h.length = 8) (hv : v.length = 8) {k : Nat} (hk : k ≤ 8) : (addN h v k).length = 8 := by simp [addN, hh, hv]; omega
theorem addN_get {h v : List (BitVec 32)} (hh : h.length = 8) (hv : v.length = 8) {k : Nat} (hk : k < 8) : (addN h v k).getD k 0 = h.getD k 0 := by
  simp [addN, List.getD, List.getElem?_append, hh, hv]
  rw [if_neg (by omega)]
  congr 2; omega
theorem addN_set {h v : List (BitVec 32)} (hh : h.length = 8) (hv : v.length = 8) {k : Nat} (hk : k < 8) : (addN h v k).set k (h.getD k 0 + v.getD k 0) = addN h v (k + 1) := by
  have hz : (List.zipWith (· + ·) h v).length = 8 := by simp [hh, hv]
  have hg : (List.zipWith (· + ·) h v)[k]'(by omega) = h.getD k 0 + v.getD k 0 := by simp [List.getD, hh, hv, hk]
  unfold addN
  have ht : (List.take k (List.zipWith (· + ·) h v)).length = k := by rw [List.length_take, hz]; omega
  rw [take_snoc _ k (by omega), hg, List.set_append_right _ _ (by rw [ht]; exact Nat.le_refl _), ht, Nat.sub_self, show h.drop k = h[k]'(by omega) :: h.drop (k + 1) from List.drop_eq_getElem_cons (by omega), List.set_cons_zero]
  rw [List.append_assoc, List.singleton_append]
theorem addN_all {h v : List (BitVec 32)} (hh : h.length = 8) (hv : v.length = 8) : addN h v 8 = List.zipWith (· + ·) h v := by
  unfold addN
  rw [List.take_of_length_le (by simp [hh, hv]), List.drop_of_length_le (by omega), List.append_nil]
/-! absorbing bytes -/
def absorb : Nat → List (BitVec 32) → List UInt8 → List (BitVec 32) × List UInt8
  | 0, h, r => (h, r)
  | n + 1, h, r => if 64 ≤ r.length then absorb n (mixS h (r.take 64)) (r.drop 64) else (h, r)
theorem absorb_fuel : ∀ (n m : Nat) (h : List (BitVec 32)) (r : List UInt8), r.length < 64 * (n + 1) → r.length < 64 * (m + 1) → absorb n h r = absorb m h r
  | 0, 0, _, _, _, _ => rfl
  | 0, m + 1, h, r, h1, _ => by rw [absorb, absorb, if_neg (by omega)]
  | n + 1, 0, h, r, _, h2 => by rw [absorb, absorb, if_neg (by omega)]
  | n + 1, m + 1, h, r, h1, h2 => by
    rw [absorb, absorb]
    split
    · exact absorb_fuel n m _ _ (by rw [List.length_drop]; omega) (by rw [List.length_drop]; omega)
    · rfl
def ab (h : List (BitVec 32)) (r : List UInt8) : List (BitVec 32) × List UInt8 := absorb r.length h r
theorem ab_step {h : List (BitVec 32)} {r : List UInt8} (hr : 64 ≤ r.length) : ab h r = ab (mixS h (r.take 64)) (r.drop 64) := by
  unfold ab
  rw [absorb_fuel r.length (r.length - 64 + 1) h r (by omega) (by omega), absorb, if_pos hr]
  exact absorb_fuel _ _ _ _ (by rw [List.length_drop]; omega) (by omega)
theorem ab_done {h : List (BitVec 32)} {r : List UInt8} (hr : r.length < 64) : ab h r = (h, r) := by
  unfold ab
  rw [absorb_fuel r.length 1 h r (by omega) (by omega), absorb, if_neg (by omega)]
theorem ab_ind {Q : List (BitVec 32) → List UInt8 → Prop} (h1 : ∀ h r, r.length < 64 → Q h r) (h2 : ∀ h r, 64 ≤ r.length → Q (mixS h (r.take 64)) (r.drop 64) → Q h r) : ∀ (n : Nat) (h : List (BitVec 32)) (r : List UInt8), r.length < 64 * (n + 1) → Q h r
  | 0, h, r, hr => h1 h r (by omega)
  | n + 1, h, r, hr => by
    by_cases hl : 64 ≤ r.length
    · exact h2 h r hl (ab_ind h1 h2 n _ _ (by rw [List.length_drop]; omega))
    · exact h1 h r (by omega)
theorem ab_len {h : List (BitVec 32)} {r : List UInt8} (hh : h.length = 8) : (ab h r).1.length = 8 :=
  ab_ind (Q := fun h r => h.length = 8 → (ab h r).1.length = 8) (fun h r hr hh => by rw [ab_done hr]; exact hh) (fun h r hr ih hh => by rw [ab_step hr]; exact ih (mixS_len hh _)) r.length h r (by omega) hh
theorem ab_lt (h : List (BitVec 32)) (r : List UInt8) : (ab h r).2.length = r.length % 64 :=
  ab_ind (Q := fun h r => (ab h r).2.length = r.length % 64) (fun h r hr => by rw [ab_done hr]; exact (Nat.mod_eq_of_lt hr).symm)
    (fun h r hr ih => by rw [ab_step hr, ih, List.length_drop]; omega) r.length h r (by omega)
theorem ab_app (h : List (BitVec 32)) (r t : List UInt8) : ab (ab h r).1 ((ab h r).2 ++ t) = ab h (r ++ t) :=
  ab_ind (Q := fun h r => ab (ab h r).1 ((ab h r).2 ++ t) = ab h (r ++ t)) (fun h r hr => by rw [ab_done hr])
    (fun h r hr ih => by
      rw [ab_step hr, ih, ab_step (r := r ++ t) (by rw [List.length_append]; omega)]
      rw [List.take_append_of_le_length hr, List.drop_append_of_le_length hr]) r.length h r (by omega)
/-! the digest -/
def padz (n : Nat) : Nat := (119 - n % 64) % 64
def lb (n j : Nat) : UInt8 := UInt8.ofNat (8 * n / 2 ^ (8 * j))
def len8 (n : Nat) : List UInt8 := [lb n 7, lb n 6, lb n 5, lb n 4, lb n 3, lb n 2, lb n 1, lb n 0]
def pad (n : Nat) : List UInt8 := 0x80 :: (List.replicate (padz n) 0 ++ len8 n)
def wout (x : BitVec 32) : List UInt8 := [UInt8.ofNat (x >>> 24).toNat, UInt8.ofNat (x >>> 16).toNat, UInt8.ofNat (x >>> 8).toNat, UInt8.ofNat x.toNat]
def outS (h : List (BitVec 32)) : List UInt8 := h.flatMap wout
def dig (l : List UInt8) : List UInt8 := outS (ab H0 (l ++ pad l.length)).1
theorem outS_len : ∀ h : List (BitVec 32), (outS h).length = 4 * h.length
  | [] => rfl
  | x :: h => by have := outS_len h; unfold outS at *; rw [List.flatMap_cons, List.length_append, this, List.length_cons]; show 4 + 4 * h.length = _; omega
theorem dig_len (l : List UInt8) : (dig l).length = 32 := by unfold dig; rw [outS_len, ab_len (h := H0) rfl]
theorem out_step (h : List (BitVec 32)) (k : Nat) (hk : k < h.length) : (outS (h.take (k + 1))).map v8 = (outS (h.take k)).map v8 ++ (wout (h.getD k 0)).map v8 := by
  rw [take_snoc h k hk, getD_lt h k 0 hk]
  simp only [outS, List.flatMap_append, List.map_append, List.flatMap_cons, List.flatMap_nil, List.append_nil]
def bpart (n k : Nat) : List UInt8 := List.replicate (8 - k) 0 ++ (len8 n).drop (8 - k)
theorem bpart_set (n k : Nat) (hk : k < 8) : (bpart n k).set (7 - k) (lb n k) = bpart n (k + 1) := by
  match k, hk with
  | 0, _ => rfl
  | 1, _ => rfl
  | 2, _ => rfl
  | 3, _ => rfl
  | 4, _ => rfl
  | 5, _ => rfl
  | 6, _ => rfl
  | 7, _ => rfl
theorem bpart_len (n k : Nat) (hk : k ≤ 8) : (bpart n k).length = 8 := by simp [bpart, len8, hk]
theorem lb_wrap (n : Nat) (k : Nat) (hk : k < 8) : IntKind.u8.wrap (((n : Int) * 8).fdiv (2 ^ min (8 * (k : Int)).toNat IntKind.i64.bits)) = ((lb n k).toNat : Int) := by
  have e : ((n : Int) * 8) = ((8 * n : Nat) : Int) := by omega
  have e2 : (2 : Int) ^ min (8 * (k : Int)).toNat IntKind.i64.bits = ((2 ^ (8 * k) : Nat) : Int) := by
    have : min (8 * (k : Int)).toNat IntKind.i64.bits = 8 * k := by
      have : (8 * (k : Int)).toNat = 8 * k := by omega
      rw [this]; exact Nat.min_eq_left (by show 8 * k ≤ 64; omega)
    rw [this]; simp
  rw [e, e2, fdiv_nat, wrap_u8_nat]
  simp [lb]
theorem padz_lt (n : Nat) : padz n < 64 := Nat.mod_lt _ (by omega)
def linkS (a b : List UInt8) : List UInt8 := dig (a ++ b)
def chainS (h : List UInt8) (l : List (List UInt8)) : List UInt8 := l.foldl linkS h
theorem chain_step (h : List UInt8) (l : List (List UInt8)) (k : Nat) (hk : k < l.length) : chainS h (l.take (k + 1)) = linkS (chainS h (l.take k)) (l.getD k []) := by
  rw [take_snoc l k hk, getD_lt l k [] hk]
  rw [chainS, List.foldl_append]; rfl
theorem chain_len (h : List UInt8) (l : List (List UInt8)) (n : Nat) (hn : h.length ≤ n) (h32 : 32 ≤ n) : (chainS h l).length ≤ n := by
  induction l generalizing h with
  | nil => exact hn
  | cons a l ih => exact ih _ (by unfold linkS; rw [dig_len]; exact h32)
theorem flat_step (l : List (List UInt8)) (k : Nat) (hk : k < l.length) : (l.take (k + 1)).flatten = (l.take k).flatten ++ l.getD k [] := by
  rw [take_snoc l k hk, getD_lt l k [] hk, List.flatten_append]; simp only [List.flatten_cons, List.flatten_nil, List.append_nil]
theorem flat_le (l : List (List UInt8)) (k : Nat) : (l.take k).flatten.length ≤ l.flatten.length := by
  conv => rhs; rw [← List.take_append_drop k l, List.flatten_append, List.length_append]
  omega
/-! the other side -/
theorem lb_wrap2 (n k : Nat) (hk : k < 8) {x i : Int} (hx : x = (n : Int) * 8) (hi : i = 8 * (k : Int)) : IntKind.u8.wrap (x.fdiv (2 ^ min i.toNat IntKind.i64.bits)) = ((lb n k).toNat : Int) := by
  subst hx hi; exact lb_wrap n k hk
theorem len8_get (n k : Nat) (hk : k < 8) : (len8 n).take (k + 1) = (len8 n).take k ++ [lb n (7 - k)] := by
  match k, hk with
  | 0, _ => rfl
  | 1, _ => rfl
  | 2, _ => rfl
  | 3, _ => rfl
  | 4, _ => rfl
  | 5, _ => rfl
  | 6, _ => rfl
  | 7, _ => rfl
theorem wnext_ref (w : List (BitVec 32)) (t : Nat) : w.getD (t - 16) 0 + sig0 (w.getD (t - 15) 0) + w.getD (t - 7) 0 + sig1 (w.getD (t - 2) 0) = wnext w t := by
  unfold wnext; ac_rfl
theorem ch_ref (e f g : BitVec 32) : (e &&& f) ^^^ ((4294967295#32 ^^^ e) &&& g) = g ^^^ e &&& (f ^^^ g) := by
  rw [show (4294967295#32 : BitVec 32) = BitVec.allOnes 32 from rfl, BitVec.allOnes_xor]
  ext i hi
  simp
  cases e[i] <;> cases f[i] <;> cases g[i] <;> simp
theorem maj_ref (a b c : BitVec 32) : (a &&& b) ^^^ (a &&& c) ^^^ (b &&& c) = a &&& b ||| c &&& (a ||| b) := by
  ext i hi
  simp
  cases a[i] <;> cases b[i] <;> cases c[i] <;> rfl
def rndR (v : List (BitVec 32)) (k w : BitVec 32) : List (BitVec 32) :=
  match v with
  | [a, b, c, d, e, f, g, h] =>
    let x := h + (rotrS e 6 ^^^ rotrS e 11 ^^^ rotrS e 25) + ((e &&& f) ^^^ ((4294967295#32 ^^^ e) &&& g)) + k + w
    let y := (rotrS a 2 ^^^ rotrS a 13 ^^^ rotrS a 22) + ((a &&& b) ^^^ (a &&& c) ^^^ (b &&& c))
    [x + y, a, b, c, d + x, e, f, g]
  | v => v
theorem rnd_ref (v : List (BitVec 32)) (k w : BitVec 32) : rndR v k w = rnd v k w := by
  unfold rndR rnd
  split
  · simp only [ch_ref, maj_ref]
  · rfl
def blks (l : List UInt8) (k : Nat) : List (BitVec 32) := (ab H0 ((l ++ pad l.length).take (64 * k))).1
theorem whole_len (l : List UInt8) : (l ++ pad l.length).length % 64 = 0 := by
  simp [pad, len8, padz]; omega
theorem blks_step (l : List UInt8) (k : Nat) (hk : 64 * k + 64 ≤ (l ++ pad l.length).length) : mixS (blks l k) (((l ++ pad l.length).drop (64 * k)).take 64) = blks l (k + 1) := by
  unfold blks
  generalize l ++ pad l.length = X at *
  have h0 : (ab H0 (X.take (64 * k))).2 = [] := by
    rw [← List.length_eq_zero_iff, ab_lt, List.length_take, Nat.min_eq_left (by omega)]; omega
  have e : X.take (64 * (k + 1)) = X.take (64 * k) ++ (X.drop (64 * k)).take 64 := by rw [show 64 * (k + 1) = 64 * k + 64 by omega, List.take_add]
  have hl : ((X.drop (64 * k)).take 64).length = 64 := by simp; omega
  rw [e, ← ab_app, h0, List.nil_append]
  generalize (ab H0 (X.take (64 * k))).1 = g
  generalize (X.drop (64 * k)).take 64 = t at hl
  rw [ab_step (by omega), List.take_of_length_le (by omega), List.drop_of_length_le (by omega), ab_done (by simp)]
theorem blks_len (l : List UInt8) (k : Nat) : (blks l k).length = 8 := ab_len (h := H0) rfl
theorem blks_all (l : List UInt8) (k : Nat) (hk : (l ++ pad l.length).length < 64 * k + 64) (hk2 : 64 * k ≤ (l ++ pad l.length).length) : outS (blks l k) = dig l := by
  have := whole_len l
  unfold blks dig
  rw [List.take_of_length_le (by omega)]
theorem abcDig : hexS (dig [97, 98, 99]) = [98, 97, 55, 56, 49, 54, 98, 102, 56, 102, 48, 49, 99, 102, 101, 97, 52, 49, 52, 49, 52, 48, 100, 101, 53, 100, 97, 101, 50, 50, 50, 51, 98, 48, 48, 51, 54, 49, 97, 51, 57, 54, 49, 55, 55, 97, 57, 99, 98, 52, 49, 48, 102, 102, 54, 49, 102, 50, 48, 48, 49, 53, 97, 100] := by decide +kernel
theorem flat_one (x : List UInt8) : [x].flatten = x := by simp
theorem mem_flat_le {l : List (List UInt8)} : ∀ {s : List UInt8}, s ∈ l → s.length ≤ l.flatten.length := by
  induction l with
  | nil => intro s h; cases h
  | cons a l ih =>
    intro s h
    rw [List.flatten_cons, List.length_append]
    rcases List.mem_cons.1 h with rfl | h
    · omega
    · have := ih h; omega
theorem u64_nat (z : Int) : ∃ q : Nat, IntKind.u64.wrap z = (q : Int) := by
  refine ⟨(IntKind.u64.wrap z).toNat, ?_⟩
  have : 0 ≤ IntKind.u64.wrap z := Int.emod_nonneg _ (by decide)
  omega
theorem chain_two (x : List UInt8) (l : List (List UInt8)) (c : Nat) : chainS (chainS x (l.take c)) (l.drop c) = chainS x l := by
  unfold chainS
  rw [← List.foldl_append, List.take_append_drop]
end Go.Proofs.Ytaogkonanncpiaa
