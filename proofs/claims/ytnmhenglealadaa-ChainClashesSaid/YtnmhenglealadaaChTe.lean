/- Laws of walks, and what functions of the program compute: part 5. Each with the conditions that it names. -/
import Derived.Test.YtnmhenglealadaaRows
import Derived.Test.YtnmhenglealadaaProg
import Derived.Shelf.Strings.Builder1
import Derived.Shelf.Strings.Builder2
import Derived.Shelf.Strings.BuilderF
import Derived.Shelf.Strings.Prefix
import Derived.Shelf.Bits.Mul64
import Derived.Shelf.Strings.Repeat
import Derived.Test.YtnmhenglealadaaChTd
set_option linter.unusedSimpArgs false
set_option linter.unusedVariables false
namespace Go.Proofs.Ytnmhenglealadaa
open Go Go.Dx Go.RowKit Go.ChangeShapes Go.WideShapes Go.ChangeAt
section
variable {H : Type} {enc : TypeId × Value → H} {W : World}
theorem open_mkC {fuel : Nat} {cs : List Value} {x : DataW H × List MemPlace} (h : DataW.trod enc Try.prog W 0 (fun _ => true) true fuel 29 cs = some x) : ∃ m : Mk, cs = mkC m ∧ mkB m := by
  obtain ⟨hl, n0, y0, _, h0⟩ := trod_at (FldIs.of (P := Try.prog) (t := 29) (i := 0) (off := 0) (ty := 3) (sz := 1) (by kernel_rfl)) h
  obtain ⟨_, n1, y1, _, h1⟩ := trod_at (FldIs.of (P := Try.prog) (t := 29) (i := 1) (off := 1) (ty := 3) (sz := 1) (by kernel_rfl)) h
  obtain ⟨_, n2, y2, _, h2⟩ := trod_at (FldIs.of (P := Try.prog) (t := 29) (i := 2) (off := 2) (ty := 9) (sz := 1) (by kernel_rfl)) h
  obtain ⟨_, n3, y3, _, h3⟩ := trod_at (FldIs.of (P := Try.prog) (t := 29) (i := 3) (off := 3) (ty := 9) (sz := 1) (by kernel_rfl)) h
  have hl' : cs.length = 4 := hl.trans (by kernel_rfl)
  match cs, hl' with
  | [a, b, c, d], _ =>
    obtain ⟨k, e0, b0⟩ := trod_i (by kernel_rfl) h0
    obtain ⟨m, e1, b1⟩ := trod_i (by kernel_rfl) h1
    obtain ⟨s, e2, _⟩ := trod_s (by kernel_rfl) h2
    obtain ⟨t, e3, _⟩ := trod_s (by kernel_rfl) h3
    simp at e0 e1 e2 e3
    subst e0 e1 e2 e3
    exact ⟨⟨k, m, s, t⟩, rfl, b0, b1⟩
set_option maxRecDepth 100000 in
theorem open_mark {v : Value} {d : DataW H} {ps : List MemPlace} {b0 : Nat} (hok : Value.okWide Try.prog W .any b0 29 v) (h : DataW.Trod enc Try.prog W 0 (fun _ => true) true 29 v d ps) : ∃ x : Mk, v = .agg (mkC x).toArray ∧ mkB x := by
  obtain ⟨fs, _, hu, _⟩ := (FldIs.of (P := Try.prog) (t := 29) (i := 0) (off := 0) (ty := 3) (sz := 1) (by kernel_rfl))
  obtain ⟨cs, rfl, _⟩ := okWide_struct (P := Try.prog) (t := 29) hu hok
  obtain ⟨fuel, hf⟩ := h
  obtain ⟨x, hx, hb⟩ := open_mkC hf
  refine ⟨x, ?_, hb⟩
  congr 1
  apply Array.toList_inj.1; simpa [Value.cells] using hx
end
end Go.Proofs.Ytnmhenglealadaa
set_option maxRecDepth 100000
namespace Go.Proofs.Ytnmhenglealadaa
open Go Go.Dx Go.RowKit
def TT : Tab := ⟨[(3, ⟨.int .i64, 1, false, [.int .i64 0]⟩),
  (4, ⟨.bool, 1, false, [.bool false]⟩),
  (5, ⟨.int .u8, 1, false, [.int .u8 0]⟩),
  (9, ⟨.str, 1, false, [vs []]⟩),
  (22, ⟨.sl 9 1, 1, false, [.slice none 0 0]⟩),
  (29, ⟨.st [(0, 1, false), (1, 1, false), (2, 1, false), (3, 1, false)], 4, true, [.int .i64 0, .int .i64 0, vs [], vs []]⟩),
  (31, ⟨.int .i64, 1, false, [.int .i64 0]⟩),
  (36, ⟨.sl 5 1, 1, false, [.slice none 0 0]⟩),
  (44, ⟨.int .u32, 1, false, [.int .u32 0]⟩),
  (45, ⟨.ar 8 44 1, 8, true, [.int .u32 0, .int .u32 0, .int .u32 0, .int .u32 0, .int .u32 0, .int .u32 0, .int .u32 0, .int .u32 0]⟩),
  (48, ⟨.int .u64, 1, false, [.int .u64 0]⟩),
  (61, ⟨.ot, 1, false, [.pointer none]⟩),
  (63, ⟨.st [(0, 1, false), (1, 1, false)], 2, true, [.pointer none, .slice none 0 0]⟩),
  (72, ⟨.ot, 1, false, [.pointer none]⟩),
  (77, ⟨.int .u64, 1, false, [.int .u64 0]⟩),
  (80, ⟨.ot, 1, false, [.pointer none]⟩),
  (85, ⟨.ar 8 5 1, 8, true, [.int .u8 0, .int .u8 0, .int .u8 0, .int .u8 0, .int .u8 0, .int .u8 0, .int .u8 0, .int .u8 0]⟩),
  (86, ⟨.ot, 1, false, [.pointer none]⟩),
  (90, ⟨.ot, 1, false, [.pointer none]⟩),
  (91, ⟨.sl 44 1, 1, false, [.slice none 0 0]⟩)], [5, 6, 7, 8, 9, 10, 11, 12, 13, 14, 15, 16, 17, 18, 19, 20, 21, 22, 23, 24, 25, 26, 27, 28, 29, 30, 31, 32, 33, 34, 35, 36, 37, 38, 39, 40, 41, 42, 43, 44, 45, 48, 49, 50]⟩
theorem TT_ok : Tab.Ok Try.prog TT := ⟨by kernel_rfl, by kernel_rfl, by kernel_rfl⟩
theorem pow_fol : Try.prog.follows .mixedOrders = true := by kernel_rfl

end Go.Proofs.Ytnmhenglealadaa
/-
  DERIVED: THE SHELF's CONTRACTS AT THIS DUMP, IN PLAIN WORDS (tools/lay-plain.mjs out of 'TryShelf.lean', which tools/lay-shelf.mjs wrote): THE SAME DECLARATIONS UNDER THE SAME NAMES: 'import', 'namespace', 'open', 'def', 'theorem' AND NOTHING ELSE: no command of the shelf's: FOR A HAND-IN. Each laying: the table of numbers ('.._ren') and one theorem, a field a fact of the dump's own or the kernel's comparison; each contract: ONE APPLICATION.
-/
namespace Go.Proofs
open Go.Shelf
def Try.lays170_ren : Go.Shelf.Ren := ⟨fun | 170 => 33 | n => n, fun | 70 => 61 | 3 => 3 | 0 => 0 | 72 => 63 | 37 => 36 | 5 => 5 | n => n, fun | n => n⟩
theorem Try.lays170 : Go.Proofs.Lays.n170 Try.prog Try.lays170_ren := {
  mixed := by kernel_rfl
  f170 := Try.func33.trans (congrArg some (by kernel_rfl))
  t0 := Try.underlying0
  a0 := Try.isAgg0
  z0 := Try.sizeOf0
  v0 := Try.zeroValue0
  t3 := Try.underlying3
  a3 := Try.isAgg3
  z3 := Try.sizeOf3
  v3 := Try.zeroValue3
  t37 := Try.underlying36
  a37 := Try.isAgg36
  z37 := Try.sizeOf36
  v37 := Try.zeroValue36
  t70 := Try.underlying61
  a70 := Try.isAgg61
  z70 := Try.sizeOf61
  v70 := Try.zeroValue61
  t72 := Try.underlying63
  a72 := Try.isAgg63
  z72 := Try.sizeOf63
  v72 := Try.zeroValue63 }
open Go.RowKit in
/-- (*strings.Builder).Len: "Len returns the number of accumulated bytes; b.Len() == len(b.String()).": the world is as it was. (LAID: no walk: one application.) -/
theorem Try.Builder_Len (B b : Nat) (bs : List Value) (w : World) (h : Lib.IsBuilder 63 5 B b bs w) :
    Calls Try.prog 33 #[.pointer (some ⟨b, 0, none⟩)] w fun e w' => e = .returned (.int .i64 bs.length) ∧ w' = w := Any.Builder_Len Try.lays170 B b bs w h
def Try.lays169_ren : Go.Shelf.Ren := ⟨fun | 169 => 34 | n => n, fun | 70 => 61 | 9 => 9 | 0 => 0 | 72 => 63 | 37 => 36 | 127 => 80 | 3 => 3 | 5 => 5 | n => n, fun | n => n⟩
theorem Try.lays169 : Go.Proofs.Lays.n169 Try.prog Try.lays169_ren := {
  mixed := by kernel_rfl
  f169 := Try.func34.trans (congrArg some (by kernel_rfl))
  t0 := Try.underlying0
  a0 := Try.isAgg0
  z0 := Try.sizeOf0
  v0 := Try.zeroValue0
  t3 := Try.underlying3
  a3 := Try.isAgg3
  z3 := Try.sizeOf3
  v3 := Try.zeroValue3
  t9 := Try.underlying9
  a9 := Try.isAgg9
  z9 := Try.sizeOf9
  v9 := Try.zeroValue9
  t37 := Try.underlying36
  a37 := Try.isAgg36
  z37 := Try.sizeOf36
  v37 := Try.zeroValue36
  t70 := Try.underlying61
  a70 := Try.isAgg61
  z70 := Try.sizeOf61
  v70 := Try.zeroValue61
  t72 := Try.underlying63
  a72 := Try.isAgg63
  z72 := Try.sizeOf63
  v72 := Try.zeroValue63
  t127 := Try.underlying80
  a127 := Try.isAgg80
  z127 := Try.sizeOf80
  v127 := Try.zeroValue80 }
theorem Try.Builder_Extra_169 : Builder.Extra Try.prog Try.lays169_ren := {
  sizeBuilder := by kernel_rfl
  liesBuilder := by kernel_rfl
  t5 := Try.underlying5
  a5 := Try.isAgg5
  z5 := Try.sizeOf5
  v5 := Try.zeroValue5
  infoByte := by kernel_rfl
  cellsByte := by kernel_rfl
  sizeByte := by kernel_rfl
  neB5 := by decide }
open Go.RowKit in
/-- (*strings.Builder).String: "String returns the accumulated string.": OF A BUILDER THAT HOLDS AT LEAST ONE BYTE. ✋ THE MODEL FREEZES THOSE BYTES IN THE BUFFER (unsafe.String): a later write INTO them ends the model's run without an answer; a later append BEHIND them goes on. The statement's order of evaluation is drawn: one draw. (LAID: no walk: one application.) -/
theorem Try.Builder_String (B b : Nat) (l : List UInt8) (w : World) (h : Lib.IsBuilder 63 5 B b (Lib.byteCells l) w) (h0 : l ≠ []) :
    Calls Try.prog 34 #[.pointer (some ⟨b, 0, none⟩)] w fun e w' => e = .returned (.string ⟨l.toArray⟩) ∧ Below B w w' := Any.Builder_String Try.lays169 Try.Builder_Extra_169 B b l w h h0
open Go.RowKit in
/-- (*strings.Builder).String OF A BUILDER THAT HOLDS NO BYTE: the empty string. (Its buffer is nil, or a row of which it has taken nothing yet; where that row has NO capacity the model lays one new block for unsafe.SliceData's 'some address'.) One draw. (LAID: no walk: one application.) -/
theorem Try.Builder_String_empty (B b : Nat) (w : World) (h : Lib.IsBuilder 63 5 B b [] w) (hBw : B ≤ w.heap.size) :
    Calls Try.prog 34 #[.pointer (some ⟨b, 0, none⟩)] w fun e w' => e = .returned (.string ⟨#[]⟩) ∧ Below B w w' := Any.Builder_String_empty Try.lays169 Try.Builder_Extra_169 B b w h hBw
open Go.RowKit in
/-- (*strings.Builder).String: "String returns the accumulated string.": WHATEVER THE BUILDER HOLDS. (LAID: no walk: one application.) -/
theorem Try.Builder_String_any (B b : Nat) (l : List UInt8) (w : World) (h : Lib.IsBuilder 63 5 B b (Lib.byteCells l) w) (hBw : B ≤ w.heap.size) :
    Calls Try.prog 34 #[.pointer (some ⟨b, 0, none⟩)] w fun e w' => e = .returned (.string ⟨l.toArray⟩) ∧ Below B w w' := Any.Builder_String_any Try.lays169 Try.Builder_Extra_169 B b l w h hBw
def Try.lays241_ren : Go.Shelf.Ren := ⟨fun | 241 => 43 | 277 => 47 | n => n, fun | 70 => 61 | 3 => 3 | 0 => 0 | 72 => 63 | 37 => 36 | 5 => 5 | n => n, fun | n => n⟩
theorem Try.lays241 : Go.Proofs.Lays.n241 Try.prog Try.lays241_ren := {
  mixed := by kernel_rfl
  f241 := Try.func43.trans (congrArg some (by kernel_rfl))
  f277 := Try.func47.trans (congrArg some (by kernel_rfl))
  t0 := Try.underlying0
  a0 := Try.isAgg0
  z0 := Try.sizeOf0
  v0 := Try.zeroValue0
  t3 := Try.underlying3
  a3 := Try.isAgg3
  z3 := Try.sizeOf3
  v3 := Try.zeroValue3
  t37 := Try.underlying36
  a37 := Try.isAgg36
  z37 := Try.sizeOf36
  v37 := Try.zeroValue36
  t70 := Try.underlying61
  a70 := Try.isAgg61
  z70 := Try.sizeOf61
  v70 := Try.zeroValue61
  t72 := Try.underlying63
  a72 := Try.isAgg63
  z72 := Try.sizeOf63
  v72 := Try.zeroValue63 }
theorem Try.Builder_Extra_241 : Builder.Extra Try.prog Try.lays241_ren := {
  sizeBuilder := by kernel_rfl
  liesBuilder := by kernel_rfl
  t5 := Try.underlying5
  a5 := Try.isAgg5
  z5 := Try.sizeOf5
  v5 := Try.zeroValue5
  infoByte := by kernel_rfl
  cellsByte := by kernel_rfl
  sizeByte := by kernel_rfl
  neB5 := by decide }
open Go.RowKit in
/-- (*strings.Builder).grow (no doc but "grow copies the buffer to a new, larger buffer so that there are at least n bytes of capacity beyond len(b.buf)."): AT A BUILDER WITHOUT A BUFFER: a new row of whatever bytes for its buffer, none of them its own yet. Three draws. (LAID: no walk: one application.) -/
theorem Try.Builder_grow_fresh (B b n : Nat) (w : World) (hB : B ≤ b) (hbk : w.heap[b]? = some (.cells #[.pointer (some ⟨b, 0, none⟩), .slice none 0 0] 63 (0, 0))) (hBw : B ≤ w.heap.size) (hn : n ≤ 281474976710656) :
    Calls Try.prog 43 #[.pointer (some ⟨b, 0, none⟩), .int .i64 n] w fun e w' => e = .returned (.tuple #[]) ∧ (Lib.BuilderAt 63 5 B b (.pointer (some ⟨b, 0, none⟩)) [] w' ∧ Below B w w') := Any.Builder_grow_fresh Try.lays241 Try.Builder_Extra_241 B b n w hB hbk hBw hn
def Try.lays165_ren : Go.Shelf.Ren := ⟨fun | 165 => 31 | 240 => 42 | 241 => 43 | 276 => 46 | 277 => 47 | n => n, fun | 70 => 61 | 3 => 3 | 0 => 0 | 4 => 4 | 9 => 9 | 20 => 20 | 72 => 63 | 37 => 36 | 164 => 86 | 5 => 5 | n => n, fun | n => n⟩
theorem Try.lays165 : Go.Proofs.Lays.n165 Try.prog Try.lays165_ren := {
  mixed := by kernel_rfl
  f165 := Try.func31.trans (congrArg some (by kernel_rfl))
  f240 := Try.func42.trans (congrArg some (by kernel_rfl))
  f241 := Try.func43.trans (congrArg some (by kernel_rfl))
  f276 := Try.func46.trans (congrArg some (by kernel_rfl))
  f277 := Try.func47.trans (congrArg some (by kernel_rfl))
  t0 := Try.underlying0
  a0 := Try.isAgg0
  z0 := Try.sizeOf0
  v0 := Try.zeroValue0
  t3 := Try.underlying3
  a3 := Try.isAgg3
  z3 := Try.sizeOf3
  v3 := Try.zeroValue3
  t4 := Try.underlying4
  a4 := Try.isAgg4
  z4 := Try.sizeOf4
  v4 := Try.zeroValue4
  t9 := Try.underlying9
  a9 := Try.isAgg9
  z9 := Try.sizeOf9
  v9 := Try.zeroValue9
  t20 := Try.underlying20
  a20 := Try.isAgg20
  z20 := Try.sizeOf20
  v20 := Try.zeroValue20
  t37 := Try.underlying36
  a37 := Try.isAgg36
  z37 := Try.sizeOf36
  v37 := Try.zeroValue36
  t70 := Try.underlying61
  a70 := Try.isAgg61
  z70 := Try.sizeOf61
  v70 := Try.zeroValue61
  t72 := Try.underlying63
  a72 := Try.isAgg63
  z72 := Try.sizeOf63
  v72 := Try.zeroValue63
  t164 := Try.underlying86
  a164 := Try.isAgg86
  z164 := Try.sizeOf86
  v164 := Try.zeroValue86 }
theorem Try.Builder_Extra_165 : Builder.Extra Try.prog Try.lays165_ren := {
  sizeBuilder := by kernel_rfl
  liesBuilder := by kernel_rfl
  t5 := Try.underlying5
  a5 := Try.isAgg5
  z5 := Try.sizeOf5
  v5 := Try.zeroValue5
  infoByte := by kernel_rfl
  cellsByte := by kernel_rfl
  sizeByte := by kernel_rfl
  neB5 := by decide }
open Go.RowKit in
/-- (*strings.Builder).Grow AT A BUILDER THAT HAS NOT BEEN WRITTEN ('var b strings.Builder; b.Grow(n)'): "Grow grows b's capacity, if necessary, to guarantee space for another n bytes.": it holds no byte behind it as before it. (LAID: no walk: one application.) -/
theorem Try.Builder_Grow_fresh (B b n : Nat) (w : World) (hB : B ≤ b) (hbk : w.heap[b]? = some (.cells #[.pointer none, .slice none 0 0] 63 (0, 0))) (hBw : B ≤ w.heap.size) (hn : n ≤ 281474976710656) :
    Calls Try.prog 31 #[.pointer (some ⟨b, 0, none⟩), .int .i64 n] w fun e w' => e = .returned (.tuple #[]) ∧ (Lib.BuilderAt 63 5 B b (.pointer (some ⟨b, 0, none⟩)) [] w' ∧ Below B w w') := Any.Builder_Grow_fresh Try.lays165 Try.Builder_Extra_165 B b n w hB hbk hBw hn
open Go.RowKit in
/-- (*strings.Builder).Len: "Len returns the number of accumulated bytes; b.Len() == len(b.String()).": the world is as it was. (THE FORM '_f': 'Lib.IsBuilderF'.) (LAID: no walk: one application.) -/
theorem Try.Builder_Len_f (B b : Nat) (bs : List Value) (w : World) (h : Lib.IsBuilderF 63 5 B b bs w) :
    Calls Try.prog 33 #[.pointer (some ⟨b, 0, none⟩)] w fun e w' => e = .returned (.int .i64 bs.length) ∧ w' = w := Any.Builder_Len_f Try.lays170 B b bs w h
open Go.RowKit in
/-- (*strings.Builder).String: "String returns the accumulated string.": OF A BUILDER THAT HOLDS AT LEAST ONE BYTE. ✋ THE MODEL FREEZES THOSE BYTES IN THE BUFFER (unsafe.String): a later write INTO them ends the model's run without an answer; a later append BEHIND them goes on. The statement's order of evaluation is drawn: one draw. THE FORM '_f': IT SAYS BESIDES THAT THE BUILDER IS A BUILDER STILL ('Lib.IsBuilderF', the same bytes): SO IT CAN BE WRITTEN ON: 'b.WriteString(b.String()[:k])'. (LAID: no walk: one application.) -/
theorem Try.Builder_String_f (B b : Nat) (l : List UInt8) (w : World) (h : Lib.IsBuilderF 63 5 B b (Lib.byteCells l) w) (h0 : l ≠ []) :
    Calls Try.prog 34 #[.pointer (some ⟨b, 0, none⟩)] w fun e w' => e = .returned (.string ⟨l.toArray⟩) ∧ (Lib.IsBuilderF 63 5 B b (Lib.byteCells l) w' ∧ Below B w w') := Any.Builder_String_f Try.lays169 Try.Builder_Extra_169 B b l w h h0
open Go.RowKit in
/-- (*strings.Builder).String OF A BUILDER THAT HOLDS NO BYTE: the empty string; THE FORM '_f': a builder still. (LAID: no walk: one application.) -/
theorem Try.Builder_String_empty_f (B b : Nat) (w : World) (h : Lib.IsBuilderF 63 5 B b [] w) (hBw : B ≤ w.heap.size) :
    Calls Try.prog 34 #[.pointer (some ⟨b, 0, none⟩)] w fun e w' => e = .returned (.string ⟨#[]⟩) ∧ (Lib.IsBuilderF 63 5 B b [] w' ∧ Below B w w') := Any.Builder_String_empty_f Try.lays169 Try.Builder_Extra_169 B b w h hBw
open Go.RowKit in
/-- (*strings.Builder).String: "String returns the accumulated string.": WHATEVER THE BUILDER HOLDS; THE FORM '_f': OF A BUILDER THAT MAY HAVE BEEN READ BEFORE; AND IT IS A BUILDER STILL, holding the same bytes: it can be written on. (LAID: no walk: one application.) -/
theorem Try.Builder_String_any_f (B b : Nat) (l : List UInt8) (w : World) (h : Lib.IsBuilderF 63 5 B b (Lib.byteCells l) w) (hBw : B ≤ w.heap.size) :
    Calls Try.prog 34 #[.pointer (some ⟨b, 0, none⟩)] w fun e w' => e = .returned (.string ⟨l.toArray⟩) ∧ (Lib.IsBuilderF 63 5 B b (Lib.byteCells l) w' ∧ Below B w w') := Any.Builder_String_any_f Try.lays169 Try.Builder_Extra_169 B b l w h hBw
def Try.lays206_ren : Go.Shelf.Ren := ⟨fun | 206 => 41 | n => n, fun | 9 => 9 | 4 => 4 | 3 => 3 | n => n, fun | n => n⟩
theorem Try.lays206 : Go.Proofs.Lays.n206 Try.prog Try.lays206_ren := {
  mixed := by kernel_rfl
  f206 := Try.func41.trans (congrArg some (by kernel_rfl))
  t3 := Try.underlying3
  a3 := Try.isAgg3
  z3 := Try.sizeOf3
  v3 := Try.zeroValue3
  t4 := Try.underlying4
  a4 := Try.isAgg4
  z4 := Try.sizeOf4
  v4 := Try.zeroValue4
  t9 := Try.underlying9
  a9 := Try.isAgg9
  z9 := Try.sizeOf9
  v9 := Try.zeroValue9 }
open Go.RowKit Go.Lib in
/-- internal/stringslite.HasPrefix (what strings.HasPrefix calls). (LAID: no walk: one application.) -/
theorem Try.stringslite_HasPrefix (s p : ByteArray) (w : World) :
    Calls Try.prog 41 #[.string s, .string p] w fun e w' => e = .returned (.bool (Lib.hasPrefix s.data.toList p.data.toList)) ∧ w' = w := Any.stringslite_HasPrefix Try.lays206 s p w
def Try.lays99_ren : Go.Shelf.Ren := ⟨fun | 99 => 30 | 206 => 41 | n => n, fun | 9 => 9 | 4 => 4 | 3 => 3 | n => n, fun | n => n⟩
theorem Try.lays99 : Go.Proofs.Lays.n99 Try.prog Try.lays99_ren := {
  mixed := by kernel_rfl
  f99 := Try.func30.trans (congrArg some (by kernel_rfl))
  f206 := Try.func41.trans (congrArg some (by kernel_rfl))
  t3 := Try.underlying3
  a3 := Try.isAgg3
  z3 := Try.sizeOf3
  v3 := Try.zeroValue3
  t4 := Try.underlying4
  a4 := Try.isAgg4
  z4 := Try.sizeOf4
  v4 := Try.zeroValue4
  t9 := Try.underlying9
  a9 := Try.isAgg9
  z9 := Try.sizeOf9
  v9 := Try.zeroValue9 }
open Go.RowKit Go.Lib in
/-- strings.HasPrefix: "HasPrefix reports whether the string s begins with prefix.": IT RETURNS 'Lib.hasPrefix s prefix'; the world is as it was. (LAID: no walk: one application.) -/
theorem Try.strings_HasPrefix (s p : ByteArray) (w : World) :
    Calls Try.prog 30 #[.string s, .string p] w fun e w' => e = .returned (.bool (Lib.hasPrefix s.data.toList p.data.toList)) ∧ w' = w := Any.strings_HasPrefix Try.lays99 s p w
def Try.lays264_ren : Go.Shelf.Ren := ⟨fun | 264 => 40 | n => n, fun | 53 => 77 | 46 => 48 | n => n, fun | n => n⟩
theorem Try.lays264 : Go.Proofs.Lays.n264 Try.prog Try.lays264_ren := {
  mixed := by kernel_rfl
  f264 := Try.func40.trans (congrArg some (by kernel_rfl))
  t46 := Try.underlying48
  a46 := Try.isAgg48
  z46 := Try.sizeOf48
  v46 := Try.zeroValue48
  t53 := Try.underlying77
  a53 := Try.isAgg77
  z53 := Try.sizeOf77
  v53 := Try.zeroValue77 }
open Go.RowKit Go.Lib in
theorem Try.bits_Mul64 (x y : Nat) (hx : x < 18446744073709551616) (hy : y < 18446744073709551616) (w : World) :
    Calls Try.prog 40 #[.int .u64 x, .int .u64 y] w fun e w' => e = .returned (.tuple #[.int .u64 ((x * y / 18446744073709551616 : Nat) : Int), .int .u64 ((x * y % 18446744073709551616 : Nat) : Int)]) ∧ w' = w := Any.bits_Mul64 Try.lays264 x y hx hy w
def Try.lays212_ren : Go.Shelf.Ren := ⟨fun | 212 => 29 | 263 => 39 | 264 => 40 | n => n, fun | 46 => 48 | 51 => 44 | 146 => 75 | 53 => 77 | 148 => 78 | n => n, fun | n => n⟩
theorem Try.lays212 : Go.Proofs.Lays.n212 Try.prog Try.lays212_ren := {
  mixed := by kernel_rfl
  f212 := Try.func29.trans (congrArg some (by kernel_rfl))
  f263 := Try.func39.trans (congrArg some (by kernel_rfl))
  f264 := Try.func40.trans (congrArg some (by kernel_rfl))
  t46 := Try.underlying48
  a46 := Try.isAgg48
  z46 := Try.sizeOf48
  v46 := Try.zeroValue48
  t51 := Try.underlying44
  a51 := Try.isAgg44
  z51 := Try.sizeOf44
  v51 := Try.zeroValue44
  t53 := Try.underlying77
  a53 := Try.isAgg77
  z53 := Try.sizeOf77
  v53 := Try.zeroValue77
  t146 := Try.underlying75
  a146 := Try.isAgg75
  z146 := Try.sizeOf75
  v146 := Try.zeroValue75
  t148 := Try.underlying78
  a148 := Try.isAgg78
  z148 := Try.sizeOf78
  v148 := Try.zeroValue78 }
open Go.RowKit Go.Lib in
/-- math/bits.Mul: "Mul returns the full-width product of x and y": on a machine of 64 bits: Mul64's. (LAID: no walk: one application.) -/
theorem Try.bits_Mul (x y : Nat) (hx : x < 18446744073709551616) (hy : y < 18446744073709551616) (w : World) :
    Calls Try.prog 29 #[.int .u64 x, .int .u64 y] w fun e w' => e = .returned (.tuple #[.int .u64 ((x * y / 18446744073709551616 : Nat) : Int), .int .u64 ((x * y % 18446744073709551616 : Nat) : Int)]) ∧ w' = w := Any.bits_Mul Try.lays212 x y hx hy w
def Try.lays105_ren : Go.Shelf.Ren := ⟨fun | 105 => 22 | 212 => 29 | 99 => 30 | 165 => 31 | 166 => 32 | 170 => 33 | 169 => 34 | 263 => 39 | 264 => 40 | 206 => 41 | 240 => 42 | 241 => 43 | 276 => 46 | 277 => 47 | n => n, fun | 9 => 9 | 3 => 3 | 4 => 4 | 20 => 20 | 0 => 0 | 46 => 48 | 109 => 58 | 5 => 5 | 72 => 63 | 76 => 67 | 51 => 44 | 146 => 75 | 53 => 77 | 148 => 78 | 70 => 61 | 37 => 36 | 75 => 66 | 127 => 80 | 164 => 86 | 80 => 70 | n => n, fun | n => n⟩
theorem Try.lays105 : Go.Proofs.Lays.n105 Try.prog Try.lays105_ren := {
  mixed := by kernel_rfl
  f99 := Try.func30.trans (congrArg some (by kernel_rfl))
  f105 := Try.func22.trans (congrArg some (by kernel_rfl))
  f165 := Try.func31.trans (congrArg some (by kernel_rfl))
  f166 := Try.func32.trans (congrArg some (by kernel_rfl))
  f169 := Try.func34.trans (congrArg some (by kernel_rfl))
  f170 := Try.func33.trans (congrArg some (by kernel_rfl))
  f206 := Try.func41.trans (congrArg some (by kernel_rfl))
  f212 := Try.func29.trans (congrArg some (by kernel_rfl))
  f240 := Try.func42.trans (congrArg some (by kernel_rfl))
  f241 := Try.func43.trans (congrArg some (by kernel_rfl))
  f263 := Try.func39.trans (congrArg some (by kernel_rfl))
  f264 := Try.func40.trans (congrArg some (by kernel_rfl))
  f276 := Try.func46.trans (congrArg some (by kernel_rfl))
  f277 := Try.func47.trans (congrArg some (by kernel_rfl))
  t0 := Try.underlying0
  a0 := Try.isAgg0
  z0 := Try.sizeOf0
  v0 := Try.zeroValue0
  t3 := Try.underlying3
  a3 := Try.isAgg3
  z3 := Try.sizeOf3
  v3 := Try.zeroValue3
  t4 := Try.underlying4
  a4 := Try.isAgg4
  z4 := Try.sizeOf4
  v4 := Try.zeroValue4
  t5 := Try.underlying5
  a5 := Try.isAgg5
  z5 := Try.sizeOf5
  v5 := Try.zeroValue5
  t9 := Try.underlying9
  a9 := Try.isAgg9
  z9 := Try.sizeOf9
  v9 := Try.zeroValue9
  t20 := Try.underlying20
  a20 := Try.isAgg20
  z20 := Try.sizeOf20
  v20 := Try.zeroValue20
  t37 := Try.underlying36
  a37 := Try.isAgg36
  z37 := Try.sizeOf36
  v37 := Try.zeroValue36
  t46 := Try.underlying48
  a46 := Try.isAgg48
  z46 := Try.sizeOf48
  v46 := Try.zeroValue48
  t51 := Try.underlying44
  a51 := Try.isAgg44
  z51 := Try.sizeOf44
  v51 := Try.zeroValue44
  t53 := Try.underlying77
  a53 := Try.isAgg77
  z53 := Try.sizeOf77
  v53 := Try.zeroValue77
  t70 := Try.underlying61
  a70 := Try.isAgg61
  z70 := Try.sizeOf61
  v70 := Try.zeroValue61
  t72 := Try.underlying63
  a72 := Try.isAgg63
  z72 := Try.sizeOf63
  v72 := Try.zeroValue63
  t75 := Try.underlying66
  a75 := Try.isAgg66
  z75 := Try.sizeOf66
  v75 := Try.zeroValue66
  t76 := Try.underlying67
  a76 := Try.isAgg67
  z76 := Try.sizeOf67
  v76 := Try.zeroValue67
  t109 := Try.underlying58
  a109 := Try.isAgg58
  z109 := Try.sizeOf58
  v109 := Try.zeroValue58
  t127 := Try.underlying80
  a127 := Try.isAgg80
  z127 := Try.sizeOf80
  v127 := Try.zeroValue80
  t146 := Try.underlying75
  a146 := Try.isAgg75
  z146 := Try.sizeOf75
  v146 := Try.zeroValue75
  t148 := Try.underlying78
  a148 := Try.isAgg78
  z148 := Try.sizeOf78
  v148 := Try.zeroValue78
  t164 := Try.underlying86
  a164 := Try.isAgg86
  z164 := Try.sizeOf86
  v164 := Try.zeroValue86 }
theorem Try.Builder_Extra_105 : Builder.Extra Try.prog Try.lays105_ren := {
  sizeBuilder := by kernel_rfl
  liesBuilder := by kernel_rfl
  t5 := Try.underlying5
  a5 := Try.isAgg5
  z5 := Try.sizeOf5
  v5 := Try.zeroValue5
  infoByte := by kernel_rfl
  cellsByte := by kernel_rfl
  sizeByte := by kernel_rfl
  neB5 := by decide }
open Go.RowKit Go.Lib in
/-- THE MAIN CASE: at least two copies of a string that is not empty. (LAID: no walk: one application.) -/
theorem Try.strings_Repeat_main (s : ByteArray) (c : Nat) (w : World) (hc2 : 2 ≤ c) (hc : c ≤ 9223372036854775807) (hlen : s.size * c ≤ 140737488355328) (h0 : 0 < s.size) :
    Calls Try.prog 22 #[.string s, .int .i64 c] w fun e w' => e = .returned (.string ⟨(Lib.repeatL s.data.toList c).toArray⟩) ∧ Below w.heap.size w w' := Any.strings_Repeat_main Try.lays105 Try.Builder_Extra_105 s c w hc2 hc hlen h0
open Go.RowKit Go.Lib in
theorem Try.strings_Repeat_zero (s : ByteArray) (w : World) :
    Calls Try.prog 22 #[.string s, .int .i64 0] w fun e w' => e = .returned (.string ⟨#[]⟩) ∧ w' = w := Any.strings_Repeat_zero Try.lays105 s w
open Go.RowKit Go.Lib in
theorem Try.strings_Repeat_one (s : ByteArray) (w : World) :
    Calls Try.prog 22 #[.string s, .int .i64 1] w fun e w' => e = .returned (.string s) ∧ w' = w := Any.strings_Repeat_one Try.lays105 s w
open Go.RowKit Go.Lib in
/-- Copies of the empty string. (LAID: no walk: one application.) -/
theorem Try.strings_Repeat_empty (s : ByteArray) (c : Nat) (w : World) (hc2 : 2 ≤ c) (hc : c ≤ 9223372036854775807) (h0 : s.size = 0) :
    Calls Try.prog 22 #[.string s, .int .i64 c] w fun e w' => e = .returned (.string ⟨#[]⟩) ∧ w' = w := Any.strings_Repeat_empty Try.lays105 s c w hc2 hc h0
open Go.RowKit Go.Lib in
/-- count < 0: "It panics if count is negative". (LAID: no walk: one application.) -/
theorem Try.strings_Repeat_negative (s : ByteArray) (c : Int) (w : World) (hc : c < 0) :
    Calls Try.prog 22 #[.string s, .int .i64 c] w fun e w' => e = .panicked [{ v := repeatPanic Try.lays105_ren "strings: negative Repeat count", recovered := false }] ∧ w' = w := Any.strings_Repeat_negative Try.lays105 s c w hc
open Go.RowKit Go.Lib in
/-- len(s) * count is no int: ".. or if the result of (len(s) * count) overflows". (LAID: no walk: one application.) -/
theorem Try.strings_Repeat_overflow (s : ByteArray) (c : Nat) (w : World) (hc : c ≤ 9223372036854775807) (hs : s.size ≤ 9223372036854775807) (hbig : 9223372036854775807 < s.size * c) :
    Calls Try.prog 22 #[.string s, .int .i64 c] w fun e w' => e = .panicked [{ v := repeatPanic Try.lays105_ren "strings: Repeat output length overflow", recovered := false }] ∧ w' = w := Any.strings_Repeat_overflow Try.lays105 s c w hc hs hbig
open Go.RowKit Go.Lib in
/-- **strings.Repeat: count ≥ 0, the result within one allocation: count copies of s.** (LAID: no walk: one application.) -/
theorem Try.strings_Repeat (s : ByteArray) (c : Nat) (w : World) (hc : c ≤ 9223372036854775807) (hlen : s.size * c ≤ 140737488355328) :
    Calls Try.prog 22 #[.string s, .int .i64 c] w fun e w' => e = .returned (.string ⟨(Lib.repeatL s.data.toList c).toArray⟩) ∧ Below w.heap.size w w' := Any.strings_Repeat Try.lays105 Try.Builder_Extra_105 s c w hc hlen
end Go.Proofs
namespace Go.Proofs.Ytnmhenglealadaa
open Go Go.Dx Go.RowKit
theorem mix : Try.prog.follows .mixedOrders = true := by kernel_rfl
theorem agg45 : AggT Try.prog 45 8 := AggT.of (by kernel_rfl) (by kernel_rfl)
theorem agg53 : AggT Try.prog 53 64 := AggT.of (by kernel_rfl) (by kernel_rfl)
theorem arrb45 : ArrB Try.prog 45 [(0, 1), (1, 1), (2, 1), (3, 1), (4, 1), (5, 1), (6, 1), (7, 1)] [.int .u32 0, .int .u32 0, .int .u32 0, .int .u32 0, .int .u32 0, .int .u32 0, .int .u32 0, .int .u32 0] := ArrB.of (m := 8) (e := 44) (sz := 1) (by kernel_rfl) (by kernel_rfl) (by kernel_rfl) (by decide)
theorem arrb53 : ArrB Try.prog 53 ((List.range 64).map fun i => (i * 1, 1)) (List.replicate 64 (.int .u32 0)) := ArrB.of (m := 64) (e := 44) (sz := 1) (by kernel_rfl) (by kernel_rfl) (by kernel_rfl) (by decide)
theorem fld83_0 : FldAt Try.prog 83 0 0 := FldAt.of (n := 7) (by kernel_rfl)
theorem fld83_1 : FldAt Try.prog 83 1 8 := FldAt.of (n := 0) (by kernel_rfl)
theorem fld83_2 : FldAt Try.prog 83 2 9 := FldAt.of (n := 0) (by kernel_rfl)
theorem fld83_3 : FldAt Try.prog 83 3 10 := FldAt.of (n := 63) (by kernel_rfl)
theorem mk5 : MkT Try.prog 5 1 1 := MkT.of (by kernel_rfl)
theorem ok12 : CallOk Try.prog 12 := CallOk.of (by kernel_rfl)
theorem ok19 : CallOk Try.prog 19 := CallOk.of (by kernel_rfl)
theorem ok20 : CallOk Try.prog 20 := CallOk.of (by kernel_rfl)
theorem ok21 : CallOk Try.prog 21 := CallOk.of (by kernel_rfl)
theorem ok24 : CallOk Try.prog 24 := CallOk.of (by kernel_rfl)
theorem ok25 : CallOk Try.prog 25 := CallOk.of (by kernel_rfl)
theorem ok26 : CallOk Try.prog 26 := CallOk.of (by kernel_rfl)
theorem ok27 : CallOk Try.prog 27 := CallOk.of (by kernel_rfl)
theorem ok28 : CallOk Try.prog 28 := CallOk.of (by kernel_rfl)
theorem ok36 : CallOk Try.prog 36 := CallOk.of (by kernel_rfl)
theorem ok37 : CallOk Try.prog 37 := CallOk.of (by kernel_rfl)
theorem ok38 : CallOk Try.prog 38 := CallOk.of (by kernel_rfl)
theorem ok44 : CallOk Try.prog 44 := CallOk.of (by kernel_rfl)
theorem ok45 : CallOk Try.prog 45 := CallOk.of (by kernel_rfl)
theorem ok48 : CallOk Try.prog 48 := CallOk.of (by kernel_rfl)
theorem ok49 : CallOk Try.prog 49 := CallOk.of (by kernel_rfl)
theorem ok50 : CallOk Try.prog 50 := CallOk.of (by kernel_rfl)
theorem one3 : OneT Try.prog 3 := OneT.of (by kernel_rfl)
theorem one36 : OneT Try.prog 36 := OneT.of (by kernel_rfl)
theorem one44 : OneT Try.prog 44 := OneT.of (by kernel_rfl)
theorem one5 : OneT Try.prog 5 := OneT.of (by kernel_rfl)
theorem one9 : OneT Try.prog 9 := OneT.of (by kernel_rfl)
theorem strb83 : StrB Try.prog 83 [(0, 8), (8, 1), (9, 1), (10, 64)] [.int .u32 0, .int .u32 0, .int .u32 0, .int .u32 0, .int .u32 0, .int .u32 0, .int .u32 0, .int .u32 0, .slice none 0 0, .int .i64 0, .int .u32 0, .int .u32 0, .int .u32 0, .int .u32 0, .int .u32 0, .int .u32 0, .int .u32 0, .int .u32 0, .int .u32 0, .int .u32 0, .int .u32 0, .int .u32 0, .int .u32 0, .int .u32 0, .int .u32 0, .int .u32 0, .int .u32 0, .int .u32 0, .int .u32 0, .int .u32 0, .int .u32 0, .int .u32 0, .int .u32 0, .int .u32 0, .int .u32 0, .int .u32 0, .int .u32 0, .int .u32 0, .int .u32 0, .int .u32 0, .int .u32 0, .int .u32 0, .int .u32 0, .int .u32 0, .int .u32 0, .int .u32 0, .int .u32 0, .int .u32 0, .int .u32 0, .int .u32 0, .int .u32 0, .int .u32 0, .int .u32 0, .int .u32 0, .int .u32 0, .int .u32 0, .int .u32 0, .int .u32 0, .int .u32 0, .int .u32 0, .int .u32 0, .int .u32 0, .int .u32 0, .int .u32 0, .int .u32 0, .int .u32 0, .int .u32 0, .int .u32 0, .int .u32 0, .int .u32 0, .int .u32 0, .int .u32 0, .int .u32 0, .int .u32 0] := StrB.of (by kernel_rfl) (by kernel_rfl)
theorem sz3 : SzIs Try.prog 3 1 := SzIs.of (by kernel_rfl)
theorem sz36 : SzIs Try.prog 36 1 := SzIs.of (by kernel_rfl)
theorem sz44 : SzIs Try.prog 44 1 := SzIs.of (by kernel_rfl)
theorem sz45 : SzIs Try.prog 45 8 := SzIs.of (by kernel_rfl)
theorem sz5 : SzIs Try.prog 5 1 := SzIs.of (by kernel_rfl)
theorem sz53 : SzIs Try.prog 53 64 := SzIs.of (by kernel_rfl)
theorem sz9 : SzIs Try.prog 9 1 := SzIs.of (by kernel_rfl)
theorem tyI3 : Try.prog.underlying 3 = some (.int .i64) := by kernel_rfl
theorem tyI44 : Try.prog.underlying 44 = some (.int .u32) := by kernel_rfl
theorem tyI48 : Try.prog.underlying 48 = some (.int .u64) := by kernel_rfl
theorem tyI5 : Try.prog.underlying 5 = some (.int .u8) := by kernel_rfl
theorem tyL22 : Try.prog.underlying 22 = some (.slice 9) := by kernel_rfl
theorem tyL36 : Try.prog.underlying 36 = some (.slice 5) := by kernel_rfl
theorem tyL91 : Try.prog.underlying 91 = some (.slice 44) := by kernel_rfl
theorem tyS9 : Try.prog.underlying 9 = some .string := by kernel_rfl
theorem zero45 : ZeroT Try.prog 45 [.int .u32 0, .int .u32 0, .int .u32 0, .int .u32 0, .int .u32 0, .int .u32 0, .int .u32 0, .int .u32 0] := ZeroT.of (by kernel_rfl)
theorem zero53 : ZeroT Try.prog 53 (List.replicate 64 (.int .u32 0)) := ZeroT.of (by kernel_rfl)
theorem zero85 : ZeroT Try.prog 85 [.int .u8 0, .int .u8 0, .int .u8 0, .int .u8 0, .int .u8 0, .int .u8 0, .int .u8 0, .int .u8 0] := ZeroT.of (by kernel_rfl)
theorem art45 : ArT Try.prog 45 8 44 1 := ⟨by kernel_rfl, sz44⟩
theorem art53 : ArT Try.prog 53 64 44 1 := ⟨by kernel_rfl, sz44⟩
theorem art85 : ArT Try.prog 85 8 5 1 := ⟨by kernel_rfl, sz5⟩
theorem slt22 : SlT Try.prog 22 9 1 := ⟨tyL22, sz9⟩
theorem slt36 : SlT Try.prog 36 5 1 := ⟨tyL36, sz5⟩
theorem slt91 : SlT Try.prog 91 44 1 := ⟨tyL91, sz44⟩
theorem slt_a36_36 : AppT Try.prog 36 36 5 1 1 := AppT.of (sz := 0) tyL36 (by kernel_rfl) (by kernel_rfl)
theorem slt_a36_9 : AppT Try.prog 36 9 5 1 1 := AppT.of (sz := 0) tyL36 (by kernel_rfl) (by kernel_rfl)
theorem slt_b22 : BldT Try.prog 22 9 1 := BldT.of tyL22 (by kernel_rfl)
theorem slt_b36 : BldT Try.prog 36 5 1 := BldT.of tyL36 (by kernel_rfl)
theorem rot_and : ∀ n : Nat, n < 32 → 0 < n → IntKind.u64.wrap ((BitVec.ofInt IntKind.u64.bits (IntKind.u64.wrap (-(n : Int))) &&& BitVec.ofInt IntKind.u64.bits 31).toNat : Int) = 32 - (n : Int) := by decide +kernel
theorem rot_sub : ∀ n : Nat, n < 32 → 0 < n → IntKind.u64.wrap (32 - (32 - (n : Int))) = (n : Int) := by decide +kernel
theorem c_RotateLeft32 (x : BitVec 32) (n : Nat) (h1 : 0 < n) (h2 : n < 32) (w0 : World) (h0 : View) (hv : VLe h0 (Full w0))  : Calls Try.prog 50 #[v32 x, .int .i64 (-(n : Int))] w0 (Ret w0 h0 fun u _ => u = v32 (rotrS x n)) := by
  refine f_enter (args := [v32 x, .int .i64 (-(n : Int))]) Try.func50 rfl Try.ntmps50 rfl fun a hF => ?_
  have hS := St.init w0 h0 hv
  refine c_seq ?_
  refine c_reg ?_
  refine s_pu hF (pu_assign rfl) rfl ?_; clear hF; intro a hF
  refine c_nil ?_
  refine n_then ?_
  refine c_seq ?_
  refine c_reg ?_
  refine s_pu hF (pu_move rfl) rfl ?_; clear hF; intro a hF
  refine s_pu hF (pu_conv tyI48 ⟨_, tyI3⟩ rfl (by first | exact wrap_u64 (by omega) (by omega) | rfl)) rfl ?_; clear hF; intro a hF
  refine s_pu hF (pu_and rfl rfl (rot_and n h2 h1)) rfl ?_; clear hF; intro a hF
  refine s_pu hF (pu_assign rfl) rfl ?_; clear hF; intro a hF
  refine c_nil ?_
  refine n_then ?_
  refine c_seq ?_
  refine c_reg ?_
  refine s_pu hF (pu_move rfl) rfl ?_; clear hF; intro a hF
  refine s_pu hF (pu_move rfl) rfl ?_; clear hF; intro a hF
  refine s_pu hF (p32_shl (m := 32 - n) rfl rfl (by omega)) rfl ?_; clear hF; intro a hF
  refine s_pu hF (pu_move rfl) rfl ?_; clear hF; intro a hF
  refine s_pu hF (pu_move rfl) rfl ?_; clear hF; intro a hF
  refine s_pu hF (pu_sub rfl rfl (rot_sub n h2 h1)) rfl ?_; clear hF; intro a hF
  refine s_pu hF (p32_shr (m := n) rfl rfl rfl) rfl ?_; clear hF; intro a hF
  refine s_pu hF (p32_or rfl rfl) rfl ?_; clear hF; intro a hF
  refine s_pu hF (pu_assign rfl) rfl ?_; clear hF; intro a hF
  refine c_nil ?_
  refine n_then ?_
  refine c_ret ?_
  exact f_ret hF rfl (.tmp rfl (.nil)) (hS.retv rfl)
theorem c_rotr (x : BitVec 32) (n : Nat) (h1 : 0 < n) (h2 : n < 32) (w0 : World) (h0 : View) (hv : VLe h0 (Full w0))  : Calls Try.prog 49 #[v32 x, .int .i64 n] w0 (Ret w0 h0 fun u _ => u = v32 (rotrS x n)) := by
  refine f_enter (args := [v32 x, .int .i64 n]) Try.func49 rfl Try.ntmps49 rfl fun a hF => ?_
  have hS := St.init w0 h0 hv
  refine c_seq ?_
  refine c_reg ?_
  refine s_pu hF (pu_assign rfl) rfl ?_; clear hF; intro a hF
  refine c_nil ?_
  refine n_then ?_
  refine c_seq ?_
  refine c_reg ?_
  refine s_pu hF (pu_move rfl) rfl ?_; clear hF; intro a hF
  refine s_pu hF (pu_move rfl) rfl ?_; clear hF; intro a hF
  refine s_pu hF (pu_neg (r := -(n : Int)) rfl (by rw [Int.zero_sub]; exact wrap_i64 (by omega) (by omega))) rfl ?_; clear hF; intro a hF
  refine s_callv hF hS ok50 rfl (c_RotateLeft32 x n h1 h2 _ _ hS.view) rfl ?_; clear hS hF; intro w a hS hF
  refine s_pu hF (pu_assign rfl) rfl ?_; clear hF; intro a hF
  refine c_nil ?_
  refine n_then ?_
  refine c_ret ?_
  exact f_ret hF rfl (.tmp rfl (.nil)) (hS.retv rfl)
theorem c_turn (x : BitVec 32) (n : Nat) (h1 : 0 < n) (h2 : n < 32) (w0 : World) (h0 : View) (hv : VLe h0 (Full w0))  : Calls Try.prog 26 #[v32 x, .int .i64 n] w0 (Ret w0 h0 fun u _ => u = v32 (rotrS x n)) := by
  refine f_enter (args := [v32 x, .int .i64 n]) Try.func26 rfl Try.ntmps26 rfl fun a hF => ?_
  have hS := St.init w0 h0 hv
  refine c_seq ?_
  refine c_reg ?_
  refine s_pu hF (pu_assign rfl) rfl ?_; clear hF; intro a hF
  refine c_nil ?_
  refine n_then ?_
  refine c_seq ?_
  refine region_st 9 hF hS (allV_ne rfl) mix (by kernel_rfl) fun Γ hG => ?_
  refine t_pu hG (fun w hC => pu_move rfl) ?_; clear hG; intro Γ hG
  refine t_pu hG (fun w hC => pu_move rfl) ?_; clear hG; intro Γ hG
  refine t_pu hG (fun w hC => p32_shr (m := n) rfl rfl rfl) ?_; clear hG; intro Γ hG
  refine t_pu hG (fun w hC => pu_move rfl) ?_; clear hG; intro Γ hG
  refine t_pu hG (fun w hC => pu_move rfl) ?_; clear hG; intro Γ hG
  refine t_pu hG (fun w hC => pu_sub (r := ((32 - n : Nat) : Int)) rfl rfl (by rw [wrap_i64 (by omega) (by omega)]; omega)) ?_; clear hG; intro Γ hG
  refine t_pu hG (fun w hC => p32_shl (m := 32 - n) rfl rfl rfl) ?_; clear hG; intro Γ hG
  refine t_pu hG (fun w hC => p32_or rfl rfl) ?_; clear hG; intro Γ hG
  refine t_pu hG (fun w hC => pu_assign rfl) ?_; clear hG; intro Γ hG
  refine t_end hG ?_; clear hG hF; intro a w hC hE hF hP; replace hS := hC.st; clear hC
  clear hE
  clear hP
  refine c_nil ?_
  refine n_then ?_
  refine c_ret ?_
  exact f_ret hF rfl (.tmp rfl (.nil)) (hS.retv (by rw [rotrS, BitVec.or_comm]; rfl))
theorem c_k (t : Nat) (ht : t < 64) (w0 : World) (h0 : View) (hv : VLe h0 (Full w0))  : Calls Try.prog 27 #[.int .i64 t] w0 (Ret w0 h0 fun u _ => u = v32 (K.getD t 0)) := by
  refine f_enter (args := [.int .i64 t]) Try.func27 rfl Try.ntmps27 rfl fun a hF => ?_
  have hS := St.init w0 h0 hv
  refine c_seq ?_
  refine c_reg ?_
  refine s_pu hF (pu_assign rfl) rfl ?_; clear hF; intro a hF
  refine c_nil ?_
  refine n_then ?_
  refine c_seq ?_
  refine c_reg ?_
  refine s_pu hF (pu_build_ar (cs := K.map v32) (vsl := K.map v32) arrb53 (by kernel_rfl) (by kernel_rfl)) rfl ?_; clear hF; intro a hF
  refine s_pu hF (pu_move rfl) rfl ?_; clear hF; intro a hF
  refine s_pu hF (pu_index_ar (cs := K.map v32) art53 one44 rfl rfl (by omega) (by omega) (by rw [Int.toNat_natCast]; exact map_get v32 K 0 (by simp [K]; omega))) rfl ?_; clear hF; intro a hF
  refine s_pu hF (pu_assign rfl) rfl ?_; clear hF; intro a hF
  refine c_nil ?_
  refine n_then ?_
  refine c_ret ?_
  exact f_ret hF rfl (.tmp rfl (.nil)) (hS.retv rfl)
theorem c_spread (bw : Nat) (ad : Option Addr) (cap : Nat) (bl : List UInt8) (w0 : World) (h0 : View) (hv : VLe h0 (Full w0)) (hb : SlC 5 1 (flatR fun b => [v8 b]) h0 (.slice ad bl.length cap) bl) (hbl : bl.length = 64)
    (hw : w0.heap[bw]? = some (.cells (List.replicate 64 (v32 0)).toArray 53 (0, 0))) (hbw : h0 bw = none) : Calls Try.prog 48 #[.slice ad bl.length cap, .pointer (some ⟨bw, 0, none⟩)] w0 (RetM [bw] w0 fun v w' => v = .tuple #[] ∧ CellsC 53 ((sched bl).map v32) w'.heap[bw]?) := by
  refine f_enter (args := [.slice ad bl.length cap, .pointer (some ⟨bw, 0, none⟩)]) Try.func48 rfl Try.ntmps48 rfl fun a hF => ?_
  have hS := St.init1 w0 h0 hv bw (CellsC 53 (List.replicate 64 (v32 0))) hw rfl hbw
  refine c_seq ?_
  refine c_seq ?_
  refine c_reg ?_
  refine s_pu hF (pu_move rfl) rfl ?_; clear hF; intro a hF
  refine c_nil ?_
  refine n_then ?_
  refine c_block ?_
  refine hS.cut fun O0 F0 hO0 hF0 hS => ?_
  subst hO0
  refine hF.cut (.cons (k := 8) rfl <| .nil) (.cons (k := 0) rfl <| .cons (k := 1) rfl <| .nil) fun L0 hL0 hF => ?_
  refine c_loop (α := Nat) (fun k a w => k ≤ 16 ∧ Fr a 100 ([(8, .val (.int .i64 k))] ++ L0) ∧ St w0 h0 [bw] w [(some bw, CellsC 53 ((wl bl k ++ List.replicate (64 - k) 0).map v32))] F0) (fun k => 16 - k) 0 (⟨by omega, hF, hS⟩) ?_
  subst hF0 hL0
  rintro k a w ⟨hk, hF, hS⟩
  refine c_seq ?_
  refine c_reg ?_
  refine s_pu hF (pu_ilt rfl rfl) rfl ?_; clear hF; intro a hF
  refine c_nil ?_
  refine n_then ?_
  refine c_seq ?_
  refine c_if hF rfl (fun hc9 => ?_) (fun hc9 => ?_)
  · try simp only [decide_eq_true_eq, decide_eq_false_iff_not, Bool.not_eq_true', Bool.not_eq_false', Bool.not_eq_eq_eq_not, Bool.not_true, Bool.not_false] at hc9
    obtain ⟨g0, o0, ha0, H0⟩ := hb.atD 0 (i := 4 * k + 0) (by omega)
    obtain ⟨g1, o1, ha1, H1⟩ := hb.atD 0 (i := 4 * k + 1) (by omega)
    obtain ⟨g2, o2, ha2, H2⟩ := hb.atD 0 (i := 4 * k + 2) (by omega)
    obtain ⟨g3, o3, ha3, H3⟩ := hb.atD 0 (i := 4 * k + 3) (by omega)
    refine c_skip ?_
    refine n_then ?_
    refine c_seq ?_
    refine c_block ?_
    refine c_seq ?_
    refine c_reg ?_
    refine s_pu hF (pu_move rfl) rfl ?_; clear hF; intro a hF
    refine s_pu hF (pu_assign rfl) rfl ?_; clear hF; intro a hF
    refine c_nil ?_
    refine n_then ?_
    refine region_st 37 hF hS (allV_ne rfl) mix (by kernel_rfl) fun Γ hG => ?_
    refine t_pu hG (fun w hC => pu_move rfl) ?_; clear hG; intro Γ hG
    refine t_pu hG (fun w hC => pu_move rfl) ?_; clear hG; intro Γ hG
    refine t_pu hG (fun w hC => pu_move rfl) ?_; clear hG; intro Γ hG
    refine t_pu hG (fun w hC => pu_move rfl) ?_; clear hG; intro Γ hG
    refine t_pu hG (fun w hC => pu_mul rfl rfl (by first | exact wrap_i64 (by omega) (by omega) | rfl)) ?_; clear hG; intro Γ hG
    refine t_pu hG (fun w hC => pu_iaddr_sla (j := 4 * k + 0) ha0 slt36 rfl rfl (by omega) (by omega)) ?_; clear hG; intro Γ hG
    refine t_pu hG (fun w hC => pu_load1 one5 rfl (H0 _ hC.st.base)) ?_; clear hG; intro Γ hG
    refine t_pu hG (fun w hC => p32_of8 tyI44 ⟨_, tyI5⟩ rfl) ?_; clear hG; intro Γ hG
    refine t_pu hG (fun w hC => p32_shl (m := 24) rfl rfl rfl) ?_; clear hG; intro Γ hG
    refine t_pu hG (fun w hC => pu_move rfl) ?_; clear hG; intro Γ hG
    refine t_pu hG (fun w hC => pu_move rfl) ?_; clear hG; intro Γ hG
    refine t_pu hG (fun w hC => pu_mul rfl rfl (by first | exact wrap_i64 (by omega) (by omega) | rfl)) ?_; clear hG; intro Γ hG
    refine t_pu hG (fun w hC => pu_add rfl rfl (by first | exact wrap_i64 (by omega) (by omega) | rfl)) ?_; clear hG; intro Γ hG
    refine t_pu hG (fun w hC => pu_iaddr_sla (j := 4 * k + 1) ha1 slt36 rfl rfl (by omega) (by omega)) ?_; clear hG; intro Γ hG
    refine t_pu hG (fun w hC => pu_load1 one5 rfl (H1 _ hC.st.base)) ?_; clear hG; intro Γ hG
    refine t_pu hG (fun w hC => p32_of8 tyI44 ⟨_, tyI5⟩ rfl) ?_; clear hG; intro Γ hG
    refine t_pu hG (fun w hC => p32_shl (m := 16) rfl rfl rfl) ?_; clear hG; intro Γ hG
    refine t_pu hG (fun w hC => p32_or rfl rfl) ?_; clear hG; intro Γ hG
    refine t_pu hG (fun w hC => pu_move rfl) ?_; clear hG; intro Γ hG
    refine t_pu hG (fun w hC => pu_move rfl) ?_; clear hG; intro Γ hG
    refine t_pu hG (fun w hC => pu_mul rfl rfl (by first | exact wrap_i64 (by omega) (by omega) | rfl)) ?_; clear hG; intro Γ hG
    refine t_pu hG (fun w hC => pu_add rfl rfl (by first | exact wrap_i64 (by omega) (by omega) | rfl)) ?_; clear hG; intro Γ hG
    refine t_pu hG (fun w hC => pu_iaddr_sla (j := 4 * k + 2) ha2 slt36 rfl rfl (by omega) (by omega)) ?_; clear hG; intro Γ hG
    refine t_pu hG (fun w hC => pu_load1 one5 rfl (H2 _ hC.st.base)) ?_; clear hG; intro Γ hG
    refine t_pu hG (fun w hC => p32_of8 tyI44 ⟨_, tyI5⟩ rfl) ?_; clear hG; intro Γ hG
    refine t_pu hG (fun w hC => p32_shl (m := 8) rfl rfl rfl) ?_; clear hG; intro Γ hG
    refine t_pu hG (fun w hC => p32_or rfl rfl) ?_; clear hG; intro Γ hG
    refine t_pu hG (fun w hC => pu_move rfl) ?_; clear hG; intro Γ hG
    refine t_pu hG (fun w hC => pu_move rfl) ?_; clear hG; intro Γ hG
    refine t_pu hG (fun w hC => pu_mul rfl rfl (by first | exact wrap_i64 (by omega) (by omega) | rfl)) ?_; clear hG; intro Γ hG
    refine t_pu hG (fun w hC => pu_add rfl rfl (by first | exact wrap_i64 (by omega) (by omega) | rfl)) ?_; clear hG; intro Γ hG
    refine t_pu hG (fun w hC => pu_iaddr_sla (j := 4 * k + 3) ha3 slt36 rfl rfl (by omega) (by omega)) ?_; clear hG; intro Γ hG
    refine t_pu hG (fun w hC => pu_load1 one5 rfl (H3 _ hC.st.base)) ?_; clear hG; intro Γ hG
    refine t_pu hG (fun w hC => p32_of8 tyI44 ⟨_, tyI5⟩ rfl) ?_; clear hG; intro Γ hG
    refine t_pu hG (fun w hC => p32_or rfl rfl) ?_; clear hG; intro Γ hG
    refine t_pu hG (fun w hC => pu_nil rfl) ?_; clear hG; intro Γ hG
    refine t_pu hG (fun w hC => pu_iaddr_arn art53 rfl rfl rfl (by omega)) ?_; clear hG; intro Γ hG
    refine t_end hG ?_; clear hG hF; intro a w hC hE hF hP; replace hS := hC.st; clear hC
    clear hE
    clear hP
    refine s_store (i := 0) hF hS rfl rfl rfl rfl sz44 rfl (by simp [wl_len]; omega) ?_; clear hS hF; intro w a hS hF
    refine c_nil ?_
    refine n_block ?_
    refine n_then ?_
    refine c_reg ?_
    refine s_pu hF (pu_add rfl rfl (by first | exact wrap_i64 (by omega) (by omega) | rfl)) rfl ?_; clear hF; intro a hF
    refine s_pu hF (pu_move rfl) rfl ?_; clear hF; intro a hF
    refine c_nil ?_
    refine ⟨k + 1, ⟨by omega, hF.pick (.cons (k := 8) rfl <| .cons (k := 0) rfl <| .cons (k := 1) rfl <| .nil), ?_⟩, by omega⟩
    rw [show 0 + k * 1 = k by omega] at hS
    rw [spl_snoc v32 (wl bl k) 0 _ k (64 - k) (wl_len bl k) (by omega)] at hS
    have e : wl bl (k + 1) = wl bl k ++ [word bl k] := by rw [wl, if_pos (by omega)]
    rw [e, show 64 - (k + 1) = 64 - k - 1 by omega]
    exact hS
  · try simp only [decide_eq_true_eq, decide_eq_false_iff_not, Bool.not_eq_true', Bool.not_eq_false', Bool.not_eq_eq_eq_not, Bool.not_true, Bool.not_false] at hc9
    obtain rfl : k = 16 := by omega
    refine c_exit (x_then (x_then (x_here ?_)))
    refine n_then ?_
    refine c_seq ?_
    refine c_reg ?_
    refine s_pu hF (pu_assign rfl) rfl ?_; clear hF; intro a hF
    refine c_nil ?_
    refine n_then ?_
    refine c_block ?_
    refine hS.cut fun O1 F1 hO1 hF1 hS => ?_
    subst hO1
    refine hF.cut (.cons (k := 5) rfl <| .nil) (.cons (k := 1) rfl <| .nil) fun L1 hL1 hF => ?_
    refine c_loop (α := Nat) (fun k a w => 16 ≤ k ∧ k ≤ 64 ∧ Fr a 100 ([(5, .val (.int .i64 k))] ++ L1) ∧ St w0 h0 [bw] w [(some bw, CellsC 53 ((wl bl k ++ List.replicate (64 - k) 0).map v32))] F1) (fun k => 64 - k) 16 (⟨by omega, by omega, hF, hS⟩) ?_
    subst hF1 hL1
    rintro k a w ⟨hk0, hk, hF, hS⟩
    refine c_seq ?_
    refine c_seq ?_
    refine c_reg ?_
    refine s_pu hF (pu_move rfl) rfl ?_; clear hF; intro a hF
    refine s_pu hF (pu_ilt rfl rfl) rfl ?_; clear hF; intro a hF
    refine c_nil ?_
    refine n_then ?_
    refine c_if hF rfl (fun hc50 => ?_) (fun hc50 => ?_)
    · try simp only [decide_eq_true_eq, decide_eq_false_iff_not, Bool.not_eq_true', Bool.not_eq_false', Bool.not_eq_eq_eq_not, Bool.not_true, Bool.not_false] at hc50
      refine c_skip ?_
      refine n_then ?_
      refine c_seq ?_
      refine c_block ?_
      refine c_seq ?_
      refine region_st 14 hF hS (allV_ne rfl) mix (by kernel_rfl) fun Γ hG => ?_
      refine t_pu hG (fun w hC => pu_move rfl) ?_; clear hG; intro Γ hG
      refine t_pu hG (fun w hC => pu_move rfl) ?_; clear hG; intro Γ hG
      refine t_pu hG (fun w hC => pu_sub rfl rfl (by first | exact wrap_i64 (by omega) (by omega) | rfl)) ?_; clear hG; intro Γ hG
      refine t_pu hG (fun w hC => pu_nil rfl) ?_; clear hG; intro Γ hG
      refine t_pu hG (fun w hC => pu_iaddr_arn (j := k - 15) art53 rfl rfl (by omega) (by omega)) ?_; clear hG; intro Γ hG
      refine t_pu hG (fun w hC => o_load1 (i := 0) hC.st rfl one44 rfl (by rw [show 0 + (k - 15) * 1 = k - 15 by omega]; exact map_get_app v32 _ _ 0 (by rw [wl_len]; omega))) ?_; clear hG; intro Γ hG
      refine t_pu hG (fun w hC => pu_move rfl) ?_; clear hG; intro Γ hG
      refine t_pu hG (fun w hC => pu_move rfl) ?_; clear hG; intro Γ hG
      refine t_pu hG (fun w hC => pu_sub rfl rfl (by first | exact wrap_i64 (by omega) (by omega) | rfl)) ?_; clear hG; intro Γ hG
      refine t_pu hG (fun w hC => pu_nil rfl) ?_; clear hG; intro Γ hG
      refine t_pu hG (fun w hC => pu_iaddr_arn (j := k - 2) art53 rfl rfl (by omega) (by omega)) ?_; clear hG; intro Γ hG
      refine t_pu hG (fun w hC => o_load1 (i := 0) hC.st rfl one44 rfl (by rw [show 0 + (k - 2) * 1 = k - 2 by omega]; exact map_get_app v32 _ _ 0 (by rw [wl_len]; omega))) ?_; clear hG; intro Γ hG
      refine t_pu hG (fun w hC => pu_assign rfl) ?_; clear hG; intro Γ hG
      refine t_pu hG (fun w hC => pu_assign rfl) ?_; clear hG; intro Γ hG
      refine t_end hG ?_; clear hG hF; intro a w hC hE hF hP; replace hS := hC.st; clear hC
      clear hE
      clear hP
      refine c_nil ?_
      refine n_then ?_
      refine region_st 35 hF hS (allV_ne rfl) mix (by kernel_rfl) fun Γ hG => ?_
      refine t_pu hG (fun w hC => pu_move rfl) ?_; clear hG; intro Γ hG
      refine t_pu hG (fun w hC => pu_move rfl) ?_; clear hG; intro Γ hG
      refine t_pu hG (fun w hC => pu_move rfl) ?_; clear hG; intro Γ hG
      refine t_pu hG (fun w hC => pu_move rfl) ?_; clear hG; intro Γ hG
      refine t_pu hG (fun w hC => pu_sub rfl rfl (by first | exact wrap_i64 (by omega) (by omega) | rfl)) ?_; clear hG; intro Γ hG
      refine t_pu hG (fun w hC => pu_nil rfl) ?_; clear hG; intro Γ hG
      refine t_pu hG (fun w hC => pu_iaddr_arn (j := k - 16) art53 rfl rfl (by omega) (by omega)) ?_; clear hG; intro Γ hG
      refine t_pu hG (fun w hC => o_load1 (i := 0) hC.st rfl one44 rfl (by rw [show 0 + (k - 16) * 1 = k - 16 by omega]; exact map_get_app v32 _ _ 0 (by rw [wl_len]; omega))) ?_; clear hG; intro Γ hG
      refine t_pu hG (fun w hC => pu_move rfl) ?_; clear hG; intro Γ hG
      refine t_pu hG (fun w hC => pu_move rfl) ?_; clear hG; intro Γ hG
      refine t_pu hG (fun w hC => pu_sub rfl rfl (by first | exact wrap_i64 (by omega) (by omega) | rfl)) ?_; clear hG; intro Γ hG
      refine t_pu hG (fun w hC => pu_nil rfl) ?_; clear hG; intro Γ hG
      refine t_pu hG (fun w hC => pu_iaddr_arn (j := k - 7) art53 rfl rfl (by omega) (by omega)) ?_; clear hG; intro Γ hG
      refine t_pu hG (fun w hC => o_load1 (i := 0) hC.st rfl one44 rfl (by rw [show 0 + (k - 7) * 1 = k - 7 by omega]; exact map_get_app v32 _ _ 0 (by rw [wl_len]; omega))) ?_; clear hG; intro Γ hG
      refine t_pu hG (fun w hC => p32_add rfl rfl) ?_; clear hG; intro Γ hG
      refine t_pu hG (fun w hC => pu_move rfl) ?_; clear hG; intro Γ hG
      refine t_callv hG ok49 rfl (fun w hS => (c_rotr _ 7 (by omega) (by omega) _ _ hS.view)) ?_; clear hG; intro Γ hG
      refine t_pu hG (fun w hC => pu_move rfl) ?_; clear hG; intro Γ hG
      refine t_callv hG ok49 rfl (fun w hS => (c_rotr _ 18 (by omega) (by omega) _ _ hS.view)) ?_; clear hG; intro Γ hG
      refine t_pu hG (fun w hC => p32_xor rfl rfl) ?_; clear hG; intro Γ hG
      refine t_pu hG (fun w hC => pu_move rfl) ?_; clear hG; intro Γ hG
      refine t_pu hG (fun w hC => p32_shr (m := 3) rfl rfl rfl) ?_; clear hG; intro Γ hG
      refine t_pu hG (fun w hC => p32_xor rfl rfl) ?_; clear hG; intro Γ hG
      refine t_pu hG (fun w hC => p32_add rfl rfl) ?_; clear hG; intro Γ hG
      refine t_pu hG (fun w hC => pu_move rfl) ?_; clear hG; intro Γ hG
      refine t_callv hG ok49 rfl (fun w hS => (c_rotr _ 17 (by omega) (by omega) _ _ hS.view)) ?_; clear hG; intro Γ hG
      refine t_pu hG (fun w hC => pu_move rfl) ?_; clear hG; intro Γ hG
      refine t_callv hG ok49 rfl (fun w hS => (c_rotr _ 19 (by omega) (by omega) _ _ hS.view)) ?_; clear hG; intro Γ hG
      refine t_pu hG (fun w hC => p32_xor rfl rfl) ?_; clear hG; intro Γ hG
      refine t_pu hG (fun w hC => pu_move rfl) ?_; clear hG; intro Γ hG
      refine t_pu hG (fun w hC => p32_shr (m := 10) rfl rfl rfl) ?_; clear hG; intro Γ hG
      refine t_pu hG (fun w hC => p32_xor rfl rfl) ?_; clear hG; intro Γ hG
      refine t_pu hG (fun w hC => p32_add rfl rfl) ?_; clear hG; intro Γ hG
      refine t_pu hG (fun w hC => pu_nil rfl) ?_; clear hG; intro Γ hG
      refine t_pu hG (fun w hC => pu_iaddr_arn art53 rfl rfl rfl (by omega)) ?_; clear hG; intro Γ hG
      refine t_end hG ?_; clear hG hF; intro a w hC hE hF hP; replace hS := hC.st; clear hC
      clear hE
      clear hP
      refine s_store (i := 0) hF hS rfl rfl rfl rfl sz44 rfl (by simp [wl_len]; omega) ?_; clear hS hF; intro w a hS hF
      refine c_nil ?_
      refine n_block ?_
      refine n_then ?_
      refine c_reg ?_
      refine s_pu hF (pu_move rfl) rfl ?_; clear hF; intro a hF
      refine s_pu hF (pu_add rfl rfl (by first | exact wrap_i64 (by omega) (by omega) | rfl)) rfl ?_; clear hF; intro a hF
      refine s_pu hF (pu_assign rfl) rfl ?_; clear hF; intro a hF
      refine c_nil ?_
      refine ⟨k + 1, ⟨by omega, by omega, hF.pick (.cons (k := 5) rfl <| .cons (k := 1) rfl <| .nil), ?_⟩, by omega⟩
      rw [show 0 + k * 1 = k by omega] at hS
      rw [spl_snoc v32 (wl bl k) 0 _ k (64 - k) (wl_len bl k) (by omega)] at hS
      have e : wl bl (k + 1) = wl bl k ++ [wnext (wl bl k) k] := by rw [wl, if_neg (by omega)]
      rw [e, show 64 - (k + 1) = 64 - k - 1 by omega]
      exact hS
    · try simp only [decide_eq_true_eq, decide_eq_false_iff_not, Bool.not_eq_true', Bool.not_eq_false', Bool.not_eq_eq_eq_not, Bool.not_true, Bool.not_false] at hc50
      obtain rfl : k = 64 := by omega
      refine c_exit (x_then (x_then (x_here ?_)))
      refine f_end hF rfl (.nil) ?_
      refine hS.retM ⟨rfl, ?_⟩
      have := hS.at (i := 0) rfl
      simpa [sched] using this
theorem c_constants  (w0 : World) (h0 : View) (hv : VLe h0 (Full w0))  : Calls Try.prog 44 #[] w0 (Ret w0 h0 fun u _ => u = .agg (K.map v32).toArray) := by
  refine f_enter (args := []) Try.func44 rfl Try.ntmps44 rfl fun a hF => ?_
  have hS := St.init w0 h0 hv
  refine c_seq ?_
  refine c_reg ?_
  refine s_alloc hF hS zero53 rfl ?_; clear hS hF; intro b0 w a hS hF
  refine c_nil ?_
  refine n_then ?_
  refine c_seq ?_
  refine c_reg ?_
  refine s_pu hF (pu_build_ar (cs := K.map v32) (vsl := K.map v32) arrb53 (by kernel_rfl) (by kernel_rfl)) rfl ?_; clear hF; intro a hF
  refine s_store (i := 0) (new := K.map v32) hF hS rfl rfl rfl rfl (by exact sz53) (allOne_map _ (fun _ => rfl) _) (by simp [K_len]) ?_; clear hS hF; intro w a hS hF
  rw [spl_all (by simp [K_len])] at hS
  refine c_nil ?_
  refine n_then ?_
  refine c_ret ?_
  exact f_ret hF rfl (.cell rfl (o_lvA (cs := K.map v32) (i := 0) hS rfl (by exact agg53)) (.nil)) (hS.retv rfl)
theorem c_begin (w0 : World) (h0 : View) (hv : VLe h0 (Full w0)) : Calls Try.prog 36 #[] w0 (RetM [] w0 fun v w' => ∃ b, v = .pointer (some ⟨b, 0, none⟩) ∧ NewRow w0 83 (stC H0 (.slice none 0 0) 0) b w') := by
  refine f_enter (args := []) Try.func36 rfl Try.ntmps36 rfl fun a hF => ?_
  have hS := St.init w0 h0 hv
  refine c_seq ?_
  refine c_reg ?_
  refine s_pu hF (pu_assign rfl) rfl ?_; clear hF; intro a hF
  refine c_nil ?_
  refine n_then ?_
  refine c_seq ?_
  refine c_reg ?_
  refine s_pu hF (pu_build_ar (cs := H0.map v32) (vsl := H0.map v32) arrb45 (by kernel_rfl) (by kernel_rfl)) rfl ?_; clear hF; intro a hF
  refine s_callv hF hS ok44 rfl (c_constants _ _ hS.view) rfl ?_; clear hS hF; intro w a hS hF
  refine s_pu hF (pu_build_st (cs := stC H0 (.slice none 0 0) 0) (vsl := [.agg (H0.map v32).toArray, .agg (K.map v32).toArray]) strb83 rfl (by kernel_rfl)) rfl ?_; clear hF; intro a hF
  refine s_box (cs := stC H0 (.slice none 0 0) 0) hF hS rfl rfl rfl ?_; clear hS hF; intro b0 w a hS hF
  refine s_pu hF (pu_assign rfl) rfl ?_; clear hF; intro a hF
  refine c_nil ?_
  refine n_then ?_
  refine c_ret ?_
  refine f_ret hF rfl (.tmp rfl (.nil)) ?_
  refine hS.retM ⟨_, rfl, ?_, hS.at (i := 0) rfl⟩
  exact (hS.fresh _ (by simp [ids])).1.resolve_right (by simp)
theorem c_mix (bs : Nat) (h : List (BitVec 32)) (hh : h.length = 8) (rv : Value) (sz : Int) (ad : Option Addr) (cap : Nat) (bl : List UInt8) (w0 : World) (h0 : View) (hv : VLe h0 (Full w0)) (hb : SlC 5 1 (flatR fun b => [v8 b]) h0 (.slice ad bl.length cap) bl) (hbl : bl.length = 64)
    (hw : w0.heap[bs]? = some (.cells (stC h rv sz).toArray 83 (0, 0))) (hbs : h0 bs = none) : Calls Try.prog 45 #[.pointer (some ⟨bs, 0, none⟩), .slice ad bl.length cap] w0 (RetM [bs] w0 fun v w' => v = .tuple #[] ∧ CellsC 83 (stC (mixS h bl) rv sz) w'.heap[bs]?) := by
  refine f_enter (args := [.pointer (some ⟨bs, 0, none⟩), .slice ad bl.length cap]) Try.func45 rfl Try.ntmps45 rfl fun a hF => ?_
  have hS := St.init1 w0 h0 hv bs (CellsC 83 (stC h rv sz)) hw rfl hbs
  refine c_seq ?_
  refine c_reg ?_
  refine s_alloc hF hS zero53 rfl ?_; clear hS hF; intro b0 w a hS hF
  refine c_nil ?_
  refine n_then ?_
  refine c_seq ?_
  refine c_reg ?_
  refine s_pu hF (pu_move rfl) rfl ?_; clear hF; intro a hF
  refine s_callM1 (i := 0) hF hS rfl ok48 rfl (c_spread b0 ad cap bl _ (FullB _ b0) (fullB_le _ _) (hb.monoF (hS.base_fb (by simp [ids]))) hbl (hS.at (i := 0) rfl) (fullB_none _ _)) rfl ?_; clear hS hF; intro w a hS hF
  refine c_nil ?_
  refine n_then ?_
  refine c_seq ?_
  refine c_reg ?_
  refine s_pu hF (pu_move rfl) rfl ?_; clear hF; intro a hF
  refine s_pu hF (pu_nil rfl) rfl ?_; clear hF; intro a hF
  refine s_pu hF (pu_faddr fld83_0 rfl) rfl ?_; clear hF; intro a hF
  refine s_pu hF (o_loadA (i := 1) (new := h.map v32) hS rfl (by rw [List.length_map, hh]; exact agg45) rfl (stC_h hh rv sz)) rfl ?_; clear hF; intro a hF
  refine s_alloc hF hS zero45 rfl ?_; clear hS hF; intro b1 w a hS hF
  refine s_store (i := 0) (new := h.map v32) hF hS rfl rfl rfl rfl (by rw [List.length_map, hh]; exact sz45) (allOne_map _ (fun _ => rfl) _) (by simp [hh]) ?_; clear hS hF; intro w a hS hF
  rw [spl_all (by simp [hh])] at hS
  refine c_nil ?_
  refine n_then ?_
  refine c_seq ?_
  refine c_seq ?_
  refine c_reg ?_
  refine s_pu hF (pu_move rfl) rfl ?_; clear hF; intro a hF
  refine c_nil ?_
  refine n_then ?_
  refine c_block ?_
  refine hS.cut fun O0 F0 hO0 hF0 hS => ?_
  subst hO0
  refine hF.cut (.cons (k := 18) rfl <| .nil) (.cons (k := 0) rfl <| .cons (k := 4) rfl <| .cons (k := 5) rfl <| .nil) fun L0 hL0 hF => ?_
  refine c_loop (α := Nat) (fun k a w => k ≤ 64 ∧ Fr a 109 ([(18, .val (.int .i64 k))] ++ L0) ∧ St w0 h0 [bs] w [(some b1, CellsC 45 ((rnds h bl k).map v32)), (some b0, CellsC 53 ((sched bl).map v32)), (some bs, CellsC 83 (stC h rv sz))] F0) (fun k => 64 - k) 0 (⟨by omega, hF, hS⟩) ?_
  subst hF0 hL0
  rintro k a w ⟨hk, hF, hS⟩
  obtain ⟨x0, x1, x2, x3, x4, x5, x6, x7, hx8⟩ := eight (rnds_len hh bl k)
  rw [hx8] at hS
  simp only [List.map_cons, List.map_nil] at hS
  refine c_seq ?_
  refine c_reg ?_
  refine s_pu hF (pu_ilt rfl rfl) rfl ?_; clear hF; intro a hF
  refine c_nil ?_
  refine n_then ?_
  refine c_seq ?_
  refine c_if hF rfl (fun hc19 => ?_) (fun hc19 => ?_)
  · try simp only [decide_eq_true_eq, decide_eq_false_iff_not, Bool.not_eq_true', Bool.not_eq_false', Bool.not_eq_eq_eq_not, Bool.not_true, Bool.not_false] at hc19
    refine c_skip ?_
    refine n_then ?_
    refine c_seq ?_
    refine c_block ?_
    refine c_seq ?_
    refine c_reg ?_
    refine s_pu hF (pu_move rfl) rfl ?_; clear hF; intro a hF
    refine s_pu hF (pu_assign rfl) rfl ?_; clear hF; intro a hF
    refine c_nil ?_
    refine n_then ?_
    refine c_seq ?_
    refine region_st 6 hF hS (allV_ne rfl) mix (by kernel_rfl) fun Γ hG => ?_
    refine t_pu hG (fun w hC => pu_iaddr_arn (j := 0) art45 rfl rfl rfl (by omega)) ?_; clear hG; intro Γ hG
    refine t_pu hG (fun w hC => o_load1 (i := 0) hC.st rfl one44 rfl rfl) ?_; clear hG; intro Γ hG
    refine t_pu hG (fun w hC => pu_iaddr_arn (j := 4) art45 rfl rfl rfl (by omega)) ?_; clear hG; intro Γ hG
    refine t_pu hG (fun w hC => o_load1 (i := 0) hC.st rfl one44 rfl rfl) ?_; clear hG; intro Γ hG
    refine t_pu hG (fun w hC => pu_assign rfl) ?_; clear hG; intro Γ hG
    refine t_pu hG (fun w hC => pu_assign rfl) ?_; clear hG; intro Γ hG
    refine t_end hG ?_; clear hG hF; intro a w hC hE hF hP; replace hS := hC.st; clear hC
    clear hE
    clear hP
    refine c_nil ?_
    refine n_then ?_
    refine c_seq ?_
    refine region_st 34 hF hS (allV_ne rfl) mix (by kernel_rfl) fun Γ hG => ?_
    refine t_pu hG (fun w hC => pu_iaddr_arn (j := 7) art45 rfl rfl rfl (by omega)) ?_; clear hG; intro Γ hG
    refine t_pu hG (fun w hC => o_load1 (i := 0) hC.st rfl one44 rfl rfl) ?_; clear hG; intro Γ hG
    refine t_pu hG (fun w hC => pu_move rfl) ?_; clear hG; intro Γ hG
    refine t_callv hG ok49 rfl (fun w hS => (c_rotr _ 6 (by omega) (by omega) _ _ hS.view)) ?_; clear hG; intro Γ hG
    refine t_pu hG (fun w hC => pu_move rfl) ?_; clear hG; intro Γ hG
    refine t_callv hG ok49 rfl (fun w hS => (c_rotr _ 11 (by omega) (by omega) _ _ hS.view)) ?_; clear hG; intro Γ hG
    refine t_pu hG (fun w hC => p32_xor rfl rfl) ?_; clear hG; intro Γ hG
    refine t_pu hG (fun w hC => pu_move rfl) ?_; clear hG; intro Γ hG
    refine t_callv hG ok49 rfl (fun w hS => (c_rotr _ 25 (by omega) (by omega) _ _ hS.view)) ?_; clear hG; intro Γ hG
    refine t_pu hG (fun w hC => p32_xor rfl rfl) ?_; clear hG; intro Γ hG
    refine t_pu hG (fun w hC => p32_add rfl rfl) ?_; clear hG; intro Γ hG
    refine t_pu hG (fun w hC => pu_iaddr_arn (j := 6) art45 rfl rfl rfl (by omega)) ?_; clear hG; intro Γ hG
    refine t_pu hG (fun w hC => o_load1 (i := 0) hC.st rfl one44 rfl rfl) ?_; clear hG; intro Γ hG
    refine t_pu hG (fun w hC => pu_move rfl) ?_; clear hG; intro Γ hG
    refine t_pu hG (fun w hC => pu_iaddr_arn (j := 5) art45 rfl rfl rfl (by omega)) ?_; clear hG; intro Γ hG
    refine t_pu hG (fun w hC => o_load1 (i := 0) hC.st rfl one44 rfl rfl) ?_; clear hG; intro Γ hG
    refine t_pu hG (fun w hC => pu_iaddr_arn (j := 6) art45 rfl rfl rfl (by omega)) ?_; clear hG; intro Γ hG
    refine t_pu hG (fun w hC => o_load1 (i := 0) hC.st rfl one44 rfl rfl) ?_; clear hG; intro Γ hG
    refine t_pu hG (fun w hC => p32_xor rfl rfl) ?_; clear hG; intro Γ hG
    refine t_pu hG (fun w hC => p32_and rfl rfl) ?_; clear hG; intro Γ hG
    refine t_pu hG (fun w hC => p32_xor rfl rfl) ?_; clear hG; intro Γ hG
    refine t_pu hG (fun w hC => p32_add rfl rfl) ?_; clear hG; intro Γ hG
    refine t_pu hG (fun w hC => pu_move rfl) ?_; clear hG; intro Γ hG
    refine t_pu hG (fun w hC => pu_move rfl) ?_; clear hG; intro Γ hG
    refine t_pu hG (fun w hC => pu_nil rfl) ?_; clear hG; intro Γ hG
    refine t_pu hG (fun w hC => pu_faddr fld83_3 rfl) ?_; clear hG; intro Γ hG
    refine t_pu hG (fun w hC => pu_iaddr_arn art53 rfl rfl rfl (by omega)) ?_; clear hG; intro Γ hG
    refine t_pu hG (fun w hC => o_load1 (i := 2) hC.st rfl one44 rfl (by rw [show 0 + 10 + k * 1 = 10 + k by omega]; exact stC_k hh rv sz (by omega))) ?_; clear hG; intro Γ hG
    refine t_pu hG (fun w hC => p32_add rfl rfl) ?_; clear hG; intro Γ hG
    refine t_pu hG (fun w hC => pu_move rfl) ?_; clear hG; intro Γ hG
    refine t_pu hG (fun w hC => pu_iaddr_arn art53 rfl rfl rfl (by omega)) ?_; clear hG; intro Γ hG
    refine t_pu hG (fun w hC => o_load1 (i := 1) hC.st rfl one44 rfl (by rw [show 0 + k * 1 = k by omega]; exact map_get v32 (sched bl) 0 (by rw [sched, wl_len]; omega))) ?_; clear hG; intro Γ hG
    refine t_pu hG (fun w hC => p32_add rfl rfl) ?_; clear hG; intro Γ hG
    refine t_pu hG (fun w hC => pu_assign rfl) ?_; clear hG; intro Γ hG
    refine t_end hG ?_; clear hG hF; intro a w hC hE hF hP; replace hS := hC.st; clear hC
    clear hE
    clear hP
    refine c_nil ?_
    refine n_then ?_
    refine c_seq ?_
    refine region_st 22 hF hS (allV_ne rfl) mix (by kernel_rfl) fun Γ hG => ?_
    refine t_pu hG (fun w hC => pu_move rfl) ?_; clear hG; intro Γ hG
    refine t_callv hG ok49 rfl (fun w hS => (c_rotr _ 2 (by omega) (by omega) _ _ hS.view)) ?_; clear hG; intro Γ hG
    refine t_pu hG (fun w hC => pu_move rfl) ?_; clear hG; intro Γ hG
    refine t_callv hG ok49 rfl (fun w hS => (c_rotr _ 13 (by omega) (by omega) _ _ hS.view)) ?_; clear hG; intro Γ hG
    refine t_pu hG (fun w hC => p32_xor rfl rfl) ?_; clear hG; intro Γ hG
    refine t_pu hG (fun w hC => pu_move rfl) ?_; clear hG; intro Γ hG
    refine t_callv hG ok49 rfl (fun w hS => (c_rotr _ 22 (by omega) (by omega) _ _ hS.view)) ?_; clear hG; intro Γ hG
    refine t_pu hG (fun w hC => p32_xor rfl rfl) ?_; clear hG; intro Γ hG
    refine t_pu hG (fun w hC => pu_move rfl) ?_; clear hG; intro Γ hG
    refine t_pu hG (fun w hC => pu_iaddr_arn (j := 1) art45 rfl rfl rfl (by omega)) ?_; clear hG; intro Γ hG
    refine t_pu hG (fun w hC => o_load1 (i := 0) hC.st rfl one44 rfl rfl) ?_; clear hG; intro Γ hG
    refine t_pu hG (fun w hC => p32_and rfl rfl) ?_; clear hG; intro Γ hG
    refine t_pu hG (fun w hC => pu_iaddr_arn (j := 2) art45 rfl rfl rfl (by omega)) ?_; clear hG; intro Γ hG
    refine t_pu hG (fun w hC => o_load1 (i := 0) hC.st rfl one44 rfl rfl) ?_; clear hG; intro Γ hG
    refine t_pu hG (fun w hC => pu_move rfl) ?_; clear hG; intro Γ hG
    refine t_pu hG (fun w hC => pu_iaddr_arn (j := 1) art45 rfl rfl rfl (by omega)) ?_; clear hG; intro Γ hG
    refine t_pu hG (fun w hC => o_load1 (i := 0) hC.st rfl one44 rfl rfl) ?_; clear hG; intro Γ hG
    refine t_pu hG (fun w hC => p32_or rfl rfl) ?_; clear hG; intro Γ hG
    refine t_pu hG (fun w hC => p32_and rfl rfl) ?_; clear hG; intro Γ hG
    refine t_pu hG (fun w hC => p32_or rfl rfl) ?_; clear hG; intro Γ hG
    refine t_pu hG (fun w hC => p32_add rfl rfl) ?_; clear hG; intro Γ hG
    refine t_pu hG (fun w hC => pu_assign rfl) ?_; clear hG; intro Γ hG
    refine t_end hG ?_; clear hG hF; intro a w hC hE hF hP; replace hS := hC.st; clear hC
    clear hE
    clear hP
    refine c_nil ?_
    refine n_then ?_
    refine c_seq ?_
    refine region_st 2 hF hS (allV_ne rfl) mix (by kernel_rfl) fun Γ hG => ?_
    refine t_pu hG (fun w hC => pu_ar_slice (i := 1) (j := 8) art45 rfl ⟨_, rfl⟩ rfl (by omega) (by omega)) ?_; clear hG; intro Γ hG
    refine t_pu hG (fun w hC => pu_ar_slice (i := 0) (j := 7) art45 rfl rfl ⟨_, rfl⟩ (by omega) (by omega)) ?_; clear hG; intro Γ hG
    refine t_end hG ?_; clear hG hF; intro a w hC hE hF hP; replace hS := hC.st; clear hC
    clear hE
    clear hP
    refine s_copy (i := 0) (m := 7) (news := [v32 x0, v32 x1, v32 x2, v32 x3, v32 x4, v32 x5, v32 x6]) hF hS rfl slt91 rfl rfl (Src.row (hS.at (i := 0) rfl) rfl rfl (allOne_mem rfl)) (by omega) (by simp) rfl ?_; clear hS hF; intro w a hS hF
    refine c_nil ?_
    refine n_then ?_
    refine c_seq ?_
    refine c_reg ?_
    refine s_pu hF (pu_iaddr_arn (j := 4) art45 rfl rfl rfl (by omega)) rfl ?_; clear hF; intro a hF
    refine s_pu hF (o_load1 (i := 0) hS rfl one44 rfl rfl) rfl ?_; clear hF; intro a hF
    refine s_pu hF (pu_move rfl) rfl ?_; clear hF; intro a hF
    refine s_pu hF (p32_add rfl rfl) rfl ?_; clear hF; intro a hF
    refine s_pu hF (pu_iaddr_arn (j := 4) art45 rfl rfl rfl (by omega)) rfl ?_; clear hF; intro a hF
    refine s_store (i := 0) hF hS rfl rfl rfl rfl sz44 rfl (by first | (simp; done) | exact Nat.le_of_ble_eq_true rfl) ?_; clear hS hF; intro w a hS hF
    refine c_nil ?_
    refine n_then ?_
    refine c_reg ?_
    refine s_pu hF (pu_move rfl) rfl ?_; clear hF; intro a hF
    refine s_pu hF (pu_move rfl) rfl ?_; clear hF; intro a hF
    refine s_pu hF (p32_add rfl rfl) rfl ?_; clear hF; intro a hF
    refine s_pu hF (pu_iaddr_arn (j := 0) art45 rfl rfl rfl (by omega)) rfl ?_; clear hF; intro a hF
    refine s_store (i := 0) hF hS rfl rfl rfl rfl sz44 rfl (by first | (simp; done) | exact Nat.le_of_ble_eq_true rfl) ?_; clear hS hF; intro w a hS hF
    refine c_nil ?_
    refine n_block ?_
    refine n_then ?_
    refine c_reg ?_
    refine s_pu hF (pu_add rfl rfl (by first | exact wrap_i64 (by omega) (by omega) | rfl)) rfl ?_; clear hF; intro a hF
    refine s_pu hF (pu_move rfl) rfl ?_; clear hF; intro a hF
    refine c_nil ?_
    have e : rnds h bl (k + 1) = rnd [x0, x1, x2, x3, x4, x5, x6, x7] (K.getD k 0) ((sched bl).getD k 0) := by rw [rnds, hx8]
    refine ⟨k + 1, ⟨by omega, hF.pick (.cons (k := 18) rfl <| .cons (k := 0) rfl <| .cons (k := 4) rfl <| .cons (k := 5) rfl <| .nil), ?_⟩, by omega⟩
    rw [e]
    exact hS
  · try simp only [decide_eq_true_eq, decide_eq_false_iff_not, Bool.not_eq_true', Bool.not_eq_false', Bool.not_eq_eq_eq_not, Bool.not_true, Bool.not_false] at hc19
    obtain rfl : k = 64 := by omega
    have hS : St w0 h0 [bs] w [(some b1, CellsC 45 ((rnds h bl 64).map v32)), (some b0, CellsC 53 ((sched bl).map v32)), (some bs, CellsC 83 (stC h rv sz))] (fun _ => True) := by rw [hx8]; exact hS
    refine c_exit (x_then (x_then (x_here ?_)))
    refine n_then ?_
    refine c_seq ?_
    refine c_reg ?_
    refine s_pu hF (pu_move rfl) rfl ?_; clear hF; intro a hF
    refine c_nil ?_
    refine n_then ?_
    refine c_block ?_
    refine hS.cut fun O1 F1 hO1 hF1 hS => ?_
    subst hO1
    refine hF.cut (.cons (k := 92) rfl <| .nil) (.cons (k := 0) rfl <| .cons (k := 5) rfl <| .nil) fun L1 hL1 hF => ?_
    refine c_loop (α := Nat) (fun k a w => k ≤ 8 ∧ Fr a 109 ([(92, .val (.int .i64 k))] ++ L1) ∧ St w0 h0 [bs] w [(some b1, CellsC 45 ((rnds h bl 64).map v32)), (some b0, CellsC 53 ((sched bl).map v32)), (some bs, CellsC 83 (stC (addN h (rnds h bl 64) k) rv sz))] F1) (fun k => 8 - k) 0 (⟨by omega, hF, hS⟩) ?_
    subst hF1 hL1
    rintro k a w ⟨hk, hF, hS⟩
    refine c_seq ?_
    refine c_reg ?_
    refine s_pu hF (pu_ilt rfl rfl) rfl ?_; clear hF; intro a hF
    refine c_nil ?_
    refine n_then ?_
    refine c_seq ?_
    refine c_if hF rfl (fun hc93 => ?_) (fun hc93 => ?_)
    · try simp only [decide_eq_true_eq, decide_eq_false_iff_not, Bool.not_eq_true', Bool.not_eq_false', Bool.not_eq_eq_eq_not, Bool.not_true, Bool.not_false] at hc93
      refine c_skip ?_
      refine n_then ?_
      refine c_seq ?_
      refine c_block ?_
      refine c_seq ?_
      refine c_reg ?_
      refine s_pu hF (pu_move rfl) rfl ?_; clear hF; intro a hF
      refine s_pu hF (pu_assign rfl) rfl ?_; clear hF; intro a hF
      refine c_nil ?_
      refine n_then ?_
      refine region_st 13 hF hS (allV_ne rfl) mix (by kernel_rfl) fun Γ hG => ?_
      refine t_pu hG (fun w hC => pu_move rfl) ?_; clear hG; intro Γ hG
      refine t_pu hG (fun w hC => pu_move rfl) ?_; clear hG; intro Γ hG
      refine t_pu hG (fun w hC => pu_nil rfl) ?_; clear hG; intro Γ hG
      refine t_pu hG (fun w hC => pu_faddr fld83_0 rfl) ?_; clear hG; intro Γ hG
      refine t_pu hG (fun w hC => pu_iaddr_arn art45 rfl rfl rfl (by omega)) ?_; clear hG; intro Γ hG
      refine t_pu hG (fun w hC => o_load1 (i := 2) hC.st rfl one44 rfl (by rw [show 0 + 0 + k * 1 = k by omega, stC_hi (addN_len hh (rnds_len hh bl 64) (by omega)) rv sz (by omega), addN_get hh (rnds_len hh bl 64) (by omega)])) ?_; clear hG; intro Γ hG
      refine t_pu hG (fun w hC => pu_move rfl) ?_; clear hG; intro Γ hG
      refine t_pu hG (fun w hC => pu_iaddr_arn art45 rfl rfl rfl (by omega)) ?_; clear hG; intro Γ hG
      refine t_pu hG (fun w hC => o_load1 (i := 0) hC.st rfl one44 rfl (by rw [show 0 + k * 1 = k by omega]; exact map_get v32 (rnds h bl 64) 0 (by rw [rnds_len hh]; omega))) ?_; clear hG; intro Γ hG
      refine t_pu hG (fun w hC => p32_add rfl rfl) ?_; clear hG; intro Γ hG
      refine t_pu hG (fun w hC => pu_nil rfl) ?_; clear hG; intro Γ hG
      refine t_pu hG (fun w hC => pu_faddr fld83_0 rfl) ?_; clear hG; intro Γ hG
      refine t_pu hG (fun w hC => pu_iaddr_arn art45 rfl rfl rfl (by omega)) ?_; clear hG; intro Γ hG
      refine t_end hG ?_; clear hG hF; intro a w hC hE hF hP; replace hS := hC.st; clear hC
      clear hE
      clear hP
      refine s_store (i := 2) hF hS rfl rfl rfl rfl sz44 rfl (by rw [stC_len (addN_len hh (rnds_len hh bl 64) (by omega))]; simp; omega) ?_; clear hS hF; intro w a hS hF
      rw [show 0 + 0 + k * 1 = k by omega, spl_stC_h (addN_len hh (rnds_len hh bl 64) (by omega)) rv sz (by omega), addN_set hh (rnds_len hh bl 64) (by omega)] at hS
      refine c_nil ?_
      refine n_block ?_
      refine n_then ?_
      refine c_reg ?_
      refine s_pu hF (pu_add rfl rfl (by first | exact wrap_i64 (by omega) (by omega) | rfl)) rfl ?_; clear hF; intro a hF
      refine s_pu hF (pu_move rfl) rfl ?_; clear hF; intro a hF
      refine c_nil ?_
      exact ⟨k + 1, ⟨by omega, hF.pick (.cons (k := 92) rfl <| .cons (k := 0) rfl <| .cons (k := 5) rfl <| .nil), hS⟩, by omega⟩
    · try simp only [decide_eq_true_eq, decide_eq_false_iff_not, Bool.not_eq_true', Bool.not_eq_false', Bool.not_eq_eq_eq_not, Bool.not_true, Bool.not_false] at hc93
      obtain rfl : k = 8 := by omega
      rw [addN_all hh (rnds_len hh bl 64)] at hS
      refine c_exit (x_then (x_then (x_here ?_)))
      refine f_end hF rfl (.nil) ?_
      exact hS.retM ⟨rfl, hS.at (i := 2) rfl⟩
set_option maxHeartbeats 400000 in
theorem c_write (bs : Nat) (h : List (BitVec 32)) (hh : h.length = 8) (rv0 : Value) (sz : Int) (rest t : List UInt8) (hz : 0 ≤ sz ∧ sz + t.length ≤ 1000000000) (hr : rest.length < 64) (w0 : World)
    (hw : w0.heap[bs]? = some (.cells (stC h rv0 sz).toArray 83 (0, 0))) (hB : BufC 5 1 rv0 (rest.map v8) (rv0.ownBlock.bind fun b => w0.heap[b]?)) (hne : rv0.ownBlock ≠ some bs) :
    Calls Try.prog 37 #[.pointer (some ⟨bs, 0, none⟩), vs t] w0 (RetM (bs :: rv0.ownBlock.toList) w0 fun v w' => v = .tuple #[] ∧ ∃ rv, CellsC 83 (stC (ab h (rest ++ t)).1 rv (sz + t.length)) w'.heap[bs]? ∧
      BufC 5 1 rv ((ab h (rest ++ t)).2.map v8) (rv.ownBlock.bind fun b => w'.heap[b]?) ∧ ∀ g, rv.ownBlock = some g → g ≠ bs ∧ (rv0.ownBlock = some g ∨ w0.heap.size ≤ g ∧ g < w'.heap.size)) := by
  refine f_enter (args := [.pointer (some ⟨bs, 0, none⟩), vs t]) Try.func37 rfl Try.ntmps37 rfl fun a hF => ?_
  have hlt : ∀ b, rv0.ownBlock = some b → b < w0.heap.size := fun b hb => by
    rw [hb] at hB
    rcases hB with ⟨h1, h2⟩ | ⟨g', off, n', cap', cur, fz, h1, ho, _⟩
    · rw [h1] at hb; cases hb
    · exact (Array.getElem?_eq_some_iff.1 ho).1
  have hids : ids [(some bs, CellsC 83 (stC h rv0 sz)), bufE 5 1 rv0 (rest.map v8)] = bs :: rv0.ownBlock.toList := by cases hq : rv0.ownBlock <;> simp [ids, bufE, hq]
  let h0 : View := fun _ => none
  have hv : VLe h0 (Full w0) := fun k o hk => by cases hk
  have hS := St.initL w0 h0 hv [(some bs, CellsC 83 (stC h rv0 sz)), bufE 5 1 rv0 (rest.map v8)] (fun e he => by
      have : e = (some bs, CellsC 83 (stC h rv0 sz)) ∨ e = bufE 5 1 rv0 (rest.map v8) := by simpa using he
      rcases this with rfl | rfl
      · exact hw
      · exact hB) (fun b hb => by
      rw [hids] at hb
      rcases List.mem_cons.1 hb with rfl | hb
      · exact ⟨(Array.getElem?_eq_some_iff.1 hw).1, rfl⟩
      · exact ⟨hlt b (by simpa using hb), rfl⟩) (by
      rw [hids]
      cases hq : rv0.ownBlock with
      | none => simp
      | some g => rw [hq] at hne; simp; intro e; exact hne (by rw [e]))
  obtain ⟨a1, c1, hrv, _, _⟩ := hB.form
  rw [List.length_map] at hrv
  refine c_seq ?_
  refine c_reg ?_
  refine s_pu hF (pu_move rfl) rfl ?_; clear hF; intro a hF
  refine s_pu hF (pu_nil rfl) rfl ?_; clear hF; intro a hF
  refine s_pu hF (pu_faddr fld83_2 rfl) rfl ?_; clear hF; intro a hF
  refine s_pu hF (o_load1 (i := 0) hS rfl one3 rfl (stC_sz hh rv0 sz)) rfl ?_; clear hF; intro a hF
  refine s_pu hF (pu_move rfl) rfl ?_; clear hF; intro a hF
  refine s_pu hF (pu_len_s tyS9 rfl rfl) rfl ?_; clear hF; intro a hF
  refine s_pu hF (pu_add rfl rfl (by first | exact wrap_i64 (by omega) (by omega) | rfl)) rfl ?_; clear hF; intro a hF
  refine s_pu hF (pu_nil rfl) rfl ?_; clear hF; intro a hF
  refine s_pu hF (pu_faddr fld83_2 rfl) rfl ?_; clear hF; intro a hF
  refine s_store (i := 0) hF hS rfl rfl rfl rfl sz3 rfl (by rw [stC_len hh]; simp) ?_; clear hS hF; intro w a hS hF
  rw [show 0 + 9 = 9 from rfl, spl_stC_sz hh] at hS
  refine c_nil ?_
  refine n_then ?_
  refine c_seq ?_
  refine c_reg ?_
  refine s_pu hF (pu_move rfl) rfl ?_; clear hF; intro a hF
  refine s_pu hF (pu_move rfl) rfl ?_; clear hF; intro a hF
  refine s_pu hF (pu_nil rfl) rfl ?_; clear hF; intro a hF
  refine s_pu hF (pu_faddr fld83_1 rfl) rfl ?_; clear hF; intro a hF
  refine s_pu hF (o_load1 (i := 0) hS rfl one36 rfl (stC_rv hh rv0 _)) rfl ?_; clear hF; intro a hF
  refine s_pu hF (pu_move rfl) rfl ?_; clear hF; intro a hF
  refine s_append (i := 1) hF hS rfl slt_a36_9 rfl rfl (Src.str) (by simp; omega) rfl ?_; clear hS hF; intro a0 nn c0 w a hnn hS hF
  refine s_pu hF (pu_nil rfl) rfl ?_; clear hF; intro a hF
  refine s_pu hF (pu_faddr fld83_1 rfl) rfl ?_; clear hF; intro a hF
  refine s_store (i := 0) hF hS rfl rfl rfl rfl sz36 rfl (by rw [stC_len hh]; simp) ?_; clear hS hF; intro w a hS hF
  rw [show 0 + 8 = 8 from rfl, spl_stC_rv hh] at hS
  rw [← List.map_append] at hS
  have hnn : nn = (rest ++ t).length := by rw [List.length_append]; simp at hnn; omega
  subst hnn
  refine c_nil ?_
  refine n_then ?_
  refine c_block ?_
  refine hS.cut fun O0 F0 hO0 hF0 hS => ?_
  subst hO0
  have hle := (BufC.le (hS.own _ (List.mem_of_getElem? (rfl : _[1]? = some _)))).2.1
  refine hF.cut (.nil) (.cons (k := 0) rfl <| .nil) fun L0 hL0 hF => ?_
  refine c_loop (α := List (BitVec 32) × List UInt8) (fun x a w => ∃ a0 c, x.1.length = 8 ∧ ab x.1 x.2 = ab h (rest ++ t) ∧ x.2.length ≤ c ∧ Fr a 43 ([] ++ L0) ∧ St w0 h0 (ids [(some bs, CellsC 83 (stC h rv0 sz)), bufE 5 1 rv0 (rest.map v8)]) w [(some bs, CellsC 83 (stC x.1 (.slice a0 x.2.length c) (sz + t.length))), bufE 5 1 (.slice a0 x.2.length c) (x.2.map v8)] F0) (fun x => x.2.length) (h, rest ++ t) (⟨a0, c0, hh, rfl, hle, hF, hS⟩) ?_
  subst hF0 hL0
  rintro ⟨h1, r1⟩ a w ⟨a0, c, hh2, hab, hrc, hF, hS⟩
  dsimp only at hh2 hab hrc hF hS
  refine c_seq ?_
  refine c_seq ?_
  refine c_reg ?_
  refine s_pu hF (pu_move rfl) rfl ?_; clear hF; intro a hF
  refine s_pu hF (pu_nil rfl) rfl ?_; clear hF; intro a hF
  refine s_pu hF (pu_faddr fld83_1 rfl) rfl ?_; clear hF; intro a hF
  refine s_pu hF (o_load1 (i := 0) hS rfl one36 rfl (stC_rv hh2 _ _)) rfl ?_; clear hF; intro a hF
  refine s_pu hF (pu_len_sl tyL36 rfl rfl) rfl ?_; clear hF; intro a hF
  refine s_pu hF (pu_ige rfl rfl) rfl ?_; clear hF; intro a hF
  refine c_nil ?_
  refine n_then ?_
  refine c_if hF rfl (fun hc27 => ?_) (fun hc27 => ?_)
  · try simp only [decide_eq_true_eq, decide_eq_false_iff_not, Bool.not_eq_true', Bool.not_eq_false', Bool.not_eq_eq_eq_not, Bool.not_true, Bool.not_false] at hc27
    refine c_skip ?_
    refine n_then ?_
    refine c_block ?_
    refine c_seq ?_
    refine c_reg ?_
    refine s_pu hF (pu_move rfl) rfl ?_; clear hF; intro a hF
    refine s_pu hF (pu_move rfl) rfl ?_; clear hF; intro a hF
    refine s_pu hF (pu_nil rfl) rfl ?_; clear hF; intro a hF
    refine s_pu hF (pu_faddr fld83_1 rfl) rfl ?_; clear hF; intro a hF
    refine s_pu hF (o_load1 (i := 0) hS rfl one36 rfl (stC_rv hh2 _ _)) rfl ?_; clear hF; intro a hF
    refine s_pu hF (pu_sl_ton (j := (r1.take 64).length) slt36 rfl rfl (by rw [List.length_take]; omega) (by rw [List.length_take]; omega)) rfl ?_; clear hF; intro a hF
    have hBs := hS.own _ (List.mem_of_getElem? (rfl : _[1]? = some _))
    have hgb : ∀ b, (Value.slice a0 r1.length c).ownBlock = some b → b ≠ bs := fun b hb e => by
      have hnd := hS.nd
      subst e
      simp [ids, bufE, hb] at hnd
    refine s_callM1 (i := 0) hF hS rfl ok45 rfl (c_mix bs h1 hh2 _ _ a0 c (r1.take 64) _ (FullB _ bs) (fullB_le _ _) (by
      rw [List.length_take, Nat.min_eq_left (by omega)]
      exact BufC.slc hBs (fun b hb => by simp only [FullB]; rw [if_neg (hgb b hb)]; rw [show (bufE _ 1 (Value.slice a0 r1.length c) _).1 = (Value.slice a0 r1.length c).ownBlock from rfl, hb]; rfl) (by omega)) (by rw [List.length_take]; omega) (hS.at (i := 0) rfl) (fullB_none _ _)) rfl ?_; clear hS hF hBs hgb; intro w a hS hF
    have hh3 := mixS_len hh2 (r1.take 64)
    refine c_nil ?_
    refine n_then ?_
    refine c_reg ?_
    refine s_pu hF (pu_move rfl) rfl ?_; clear hF; intro a hF
    refine s_pu hF (pu_move rfl) rfl ?_; clear hF; intro a hF
    refine s_pu hF (pu_nil rfl) rfl ?_; clear hF; intro a hF
    refine s_pu hF (pu_faddr fld83_1 rfl) rfl ?_; clear hF; intro a hF
    refine s_pu hF (o_load1 (i := 0) hS rfl one36 rfl (stC_rv hh3 _ _)) rfl ?_; clear hF; intro a hF
    refine s_pu hF (pu_sl_fromn (j := 64) slt36 rfl rfl rfl (by omega) hrc) rfl ?_; clear hF; intro a hF
    refine s_pu hF (pu_nil rfl) rfl ?_; clear hF; intro a hF
    refine s_pu hF (pu_faddr fld83_1 rfl) rfl ?_; clear hF; intro a hF
    refine s_store (i := 0) hF hS rfl rfl rfl rfl sz36 rfl (by rw [stC_len hh3]; simp) ?_; clear hS hF; intro w a hS hF
    
    refine c_nil ?_
    refine n_block ?_
    have hBd := BufC.drop (k := 64) (hS.own _ (List.mem_of_getElem? (rfl : _[1]? = some _))) (by omega) (by omega)
    replace hS := hS.regrow (i := 1) (e' := bufE 5 1 (.slice (if c = 64 then a0 else a0.map (·.add (64 * 1))) (r1.length - 64) (c - 64)) ((r1.drop 64).map v8)) rfl (Keep.refl _ _) (by
      have e1 : (bufE 5 1 (.slice (if c = 64 then a0 else a0.map (·.add (64 * 1))) (r1.length - 64) (c - 64)) ((r1.drop 64).map v8)).1 = (bufE 5 1 (.slice a0 r1.length c) (r1.map v8)).1 := own_drop
      rw [e1]; exact hBd) (.inl own_drop)
    rw [show 0 + 8 = 8 from rfl, spl_stC_rv hh3] at hS
    refine ⟨(mixS h1 (r1.take 64), r1.drop 64), ⟨if c = 64 then a0 else a0.map (·.add (64 * 1)), c - 64, hh3, ?_, ?_, hF.pick (.cons (k := 0) rfl <| .nil), ?_⟩, ?_⟩
    · rw [← hab]; exact (ab_step (by omega)).symm
    · rw [List.length_drop]; omega
    · simp only [List.length_drop]; exact hS
    · simp only [List.length_drop]; omega
  · try simp only [decide_eq_true_eq, decide_eq_false_iff_not, Bool.not_eq_true', Bool.not_eq_false', Bool.not_eq_eq_eq_not, Bool.not_true, Bool.not_false] at hc27
    refine c_exit (x_then (x_then (x_here ?_)))
    refine f_end hF rfl (.nil) ?_
    have hdone := ab_done (h := h1) (r := r1) (by omega)
    rw [← hids]
    refine hS.retM ⟨rfl, .slice a0 r1.length c, ?_, ?_, fun g hg => ?_⟩
    · rw [← hab, hdone]; exact hS.at (i := 0) rfl
    · rw [← hab, hdone]; exact hS.own _ (List.mem_of_getElem? (rfl : _[1]? = some _))
    · have hnd := hS.nd
      have hfr := hS.fresh g (by simp [ids, bufE, hg])
      rw [hids] at hfr
      have hgb : g ≠ bs := fun e => by subst e; simp [ids, bufE, hg] at hnd
      refine ⟨hgb, ?_⟩
      rcases hfr.1 with h | h
      · exact .inr ⟨h, hfr.2⟩
      · rcases List.mem_cons.1 h with h | h
        · exact absurd h hgb
        · exact .inl (by simpa using h)
theorem s_write {opsA : Array Oper} {rest' : List Oper} {Q : Exit → Act → World → Prop} {a : Act} {w w0 : World} {h0 : View} {M : List Nat} {pre : List OE} {F : View → Prop} {n : Nat} {L : FL} {ty : TypeId} {pos : String} {af : Array Edge}
    {dd bs : Nat} {h : List (BitVec 32)} {rv : Value} {sz : Int} {rest t : List UInt8} {args : List Operand} {ats : Array TypeId} (hF : Fr a n L) (hS : St w0 h0 M w (pre ++ [(some bs, CellsC 83 (stC h rv sz)), bufE 5 1 rv (rest.map v8)]) F)
    (hh : h.length = 8) (hz : 0 ≤ sz ∧ sz + t.length ≤ 1000000000) (hr : rest.length < 64) (ha : evs L args = some [.pointer (some ⟨bs, 0, none⟩), vs t]) (hd : Nat.blt dd n = true)
    (k : ∀ rv' w' a, St w0 h0 M w' (pre ++ [(some bs, CellsC 83 (stC (ab h (rest ++ t)).1 rv' (sz + t.length))), bufE 5 1 rv' ((ab h (rest ++ t)).2.map v8)]) F → Fr a n ((dd, .val (.tuple #[])) :: L) → wpM .wp Try.prog opsA Q rest' a w') :
    wpM .wp Try.prog opsA Q (⟨some dd, .call ⟨.value (.func 37), args.toArray, ats⟩, ty, pos, af, none⟩ :: rest') a w := by
  have h1 : CellsC 83 (stC h rv sz) w.heap[bs]? := by simpa using hS.own (some bs, CellsC 83 (stC h rv sz)) (by simp)
  have h2 := hS.own (bufE 5 1 rv (rest.map v8)) (by simp)
  have hne : rv.ownBlock ≠ some bs := fun e => by
    have := hS.nd
    rw [ids_app, List.nodup_append] at this
    simp [ids, bufE, e] at this
  refine s_ds hF (ds_call (Post := fun u w' => u = .tuple #[] ∧ ∃ rv', St w0 h0 M w' (pre ++ [(some bs, CellsC 83 (stC (ab h (rest ++ t)).1 rv' (sz + t.length))), bufE 5 1 rv' ((ab h (rest ++ t)).2.map v8)]) F) ok37 ha ((c_write bs h hh rv sz rest t hz hr w h1 h2 hne).mono ?_)) hd ?_
  · rintro e w' ⟨u, rfl, hk, hv, rv', g1, g2, g3⟩
    exact ⟨u, rfl, hv, rv', hS.upd2 hk g1 g2 g3⟩
  · rintro u w' a' ⟨rfl, rv', hS'⟩ hF'
    exact k rv' w' a' hS' hF'

set_option maxHeartbeats 400000 in
theorem c_sum (bs : Nat) (h : List (BitVec 32)) (hh : h.length = 8) (rv0 : Value) (m : Nat) (rest : List UInt8) (hm : m ≤ 900000000) (hr : rest.length = m % 64) (w0 : World)
    (hw : w0.heap[bs]? = some (.cells (stC h rv0 m).toArray 83 (0, 0))) (hB : BufC 5 1 rv0 (rest.map v8) (rv0.ownBlock.bind fun b => w0.heap[b]?)) (hne : rv0.ownBlock ≠ some bs) :
    Calls Try.prog 38 #[.pointer (some ⟨bs, 0, none⟩)] w0 (RetM (bs :: rv0.ownBlock.toList) w0 fun v w' => v = vs (outS (ab h (rest ++ pad m)).1)) := by
  refine f_enter (args := [.pointer (some ⟨bs, 0, none⟩)]) Try.func38 rfl Try.ntmps38 rfl fun a hF => ?_
  have hlt : ∀ b, rv0.ownBlock = some b → b < w0.heap.size := fun b hb => by
    rw [hb] at hB
    rcases hB with ⟨h1, h2⟩ | ⟨g', off, n', cap', cur, fz, h1, ho, _⟩
    · rw [h1] at hb; cases hb
    · exact (Array.getElem?_eq_some_iff.1 ho).1
  have hids : ids [(some bs, CellsC 83 (stC h rv0 m)), bufE 5 1 rv0 (rest.map v8)] = bs :: rv0.ownBlock.toList := by cases hq : rv0.ownBlock <;> simp [ids, bufE, hq]
  let h0 : View := fun _ => none
  have hv : VLe h0 (Full w0) := fun k o hk => by cases hk
  have hS := St.initL w0 h0 hv [(some bs, CellsC 83 (stC h rv0 m)), bufE 5 1 rv0 (rest.map v8)] (fun e he => by
      have : e = (some bs, CellsC 83 (stC h rv0 m)) ∨ e = bufE 5 1 rv0 (rest.map v8) := by simpa using he
      rcases this with rfl | rfl
      · exact hw
      · exact hB) (fun b hb => by
      rw [hids] at hb
      rcases List.mem_cons.1 hb with rfl | hb
      · exact ⟨(Array.getElem?_eq_some_iff.1 hw).1, rfl⟩
      · exact ⟨hlt b (by simpa using hb), rfl⟩) (by
      rw [hids]
      cases hq : rv0.ownBlock with
      | none => simp
      | some g => rw [hq] at hne; simp; intro e; exact hne (by rw [e]))
  have hr64 : rest.length < 64 := by omega
  refine c_seq ?_
  refine c_reg ?_
  refine s_pu hF (pu_assign rfl) rfl ?_; clear hF; intro a hF
  refine c_nil ?_
  refine n_then ?_
  refine c_seq ?_
  refine c_reg ?_
  refine s_pu hF (pu_move rfl) rfl ?_; clear hF; intro a hF
  refine s_pu hF (pu_nil rfl) rfl ?_; clear hF; intro a hF
  refine s_pu hF (pu_faddr fld83_2 rfl) rfl ?_; clear hF; intro a hF
  refine s_pu hF (o_load1 (i := 0) hS rfl one3 rfl (stC_sz hh rv0 _)) rfl ?_; clear hF; intro a hF
  refine s_pu hF (pu_mul rfl rfl (by first | exact wrap_i64 (by omega) (by omega) | rfl)) rfl ?_; clear hF; intro a hF
  refine s_pu hF (pu_assign rfl) rfl ?_; clear hF; intro a hF
  refine c_nil ?_
  refine n_then ?_
  refine c_seq ?_
  refine c_reg ?_
  refine s_pu hF (pu_move rfl) rfl ?_; clear hF; intro a hF
  refine s_write (pre := []) hF hS hh (by simp; omega) (by omega) rfl rfl ?_; clear hS hF; intro rv w a hS hF
  refine c_nil ?_
  refine n_then ?_
  refine c_seq ?_
  refine c_block ?_
  refine hS.cut fun O0 F0 hO0 hF0 hS => ?_
  subst hO0
  refine hF.cut (.nil) (.cons (k := 0) rfl <| .cons (k := 3) rfl <| .nil) fun L0 hL0 hF => ?_
  refine c_loop (α := Nat) (fun j a w => ∃ (rv : Value) (sz : Int), 0 ≤ sz ∧ sz ≤ m + 1 + j ∧ j ≤ padz m ∧ Fr a 66 ([] ++ L0) ∧ St w0 h0 (ids [(some bs, CellsC 83 (stC h rv0 sz)), bufE 5 1 rv0 (rest.map v8)]) w [(some bs, CellsC 83 (stC (ab h (rest ++ 0x80 :: List.replicate j 0)).1 rv sz)), bufE 5 1 rv ((ab h (rest ++ 0x80 :: List.replicate j 0)).2.map v8)] F0) (fun j => padz m - j) 0 (⟨rv, (m : Int) + (([128] : List UInt8).length : Nat), by simp only [List.length_cons, List.length_nil]; omega, by simp only [List.length_cons, List.length_nil]; omega, Nat.zero_le _, hF, hS⟩) ?_
  subst hF0 hL0
  rintro j a w ⟨rv, sz, hz0, hz, hj, hF, hS⟩
  obtain ⟨a1, c1, hrv, _, _⟩ := BufC.form (hS.own _ (List.mem_of_getElem? (rfl : _[1]? = some _)))
  rw [List.length_map] at hrv
  refine c_seq ?_
  refine c_seq ?_
  refine c_reg ?_
  refine s_pu hF (pu_move rfl) rfl ?_; clear hF; intro a hF
  refine s_pu hF (pu_nil rfl) rfl ?_; clear hF; intro a hF
  refine s_pu hF (pu_faddr fld83_1 rfl) rfl ?_; clear hF; intro a hF
  refine s_pu hF (o_load1 (i := 0) hS rfl one36 rfl (stC_rvE (ab_len hh) hrv _)) rfl ?_; clear hF; intro a hF
  refine s_pu hF (pu_len_sl (n := (ab h (rest ++ 0x80 :: List.replicate j 0)).2.length) tyL36 rfl rfl) rfl ?_; clear hF; intro a hF
  refine s_pu hF (pu_rem rfl rfl (by omega) (r := (((ab h (rest ++ 0x80 :: List.replicate j 0)).2.length % 64 : Nat) : Int)) (by rw [Int.tmod_eq_emod_of_nonneg (by omega)]; rfl)) rfl ?_; clear hF; intro a hF
  refine s_pu hF (pu_ine rfl rfl) rfl ?_; clear hF; intro a hF
  refine c_nil ?_
  refine n_then ?_
  refine c_if hF rfl (fun hc22 => ?_) (fun hc22 => ?_)
  · try simp only [decide_eq_true_eq, decide_eq_false_iff_not, Bool.not_eq_true', Bool.not_eq_false', Bool.not_eq_eq_eq_not, Bool.not_true, Bool.not_false] at hc22
    have hl := ab_lt h (rest ++ 0x80 :: List.replicate j 0)
    have hj2 : j < padz m := by unfold padz at hj ⊢; rw [hl] at hc22; simp only [List.length_append, List.length_cons, List.length_replicate] at hc22; omega
    refine c_skip ?_
    refine n_then ?_
    refine c_block ?_
    refine c_reg ?_
    refine s_pu hF (pu_move rfl) rfl ?_; clear hF; intro a hF
    refine s_write (pre := []) hF hS (ab_len hh) (by have := padz_lt m; simp; omega) (by rw [ab_lt]; omega) rfl rfl ?_; clear hS hF; intro rv w a hS hF
    refine c_nil ?_
    refine n_block ?_
    have e : (rest ++ 0x80 :: List.replicate j 0) ++ [0] = rest ++ 0x80 :: List.replicate (j + 1) 0 := by simp [List.replicate_succ']
    rw [ab_app, e] at hS
    exact ⟨j + 1, ⟨rv, sz + (([0] : List UInt8).length : Nat), by simp only [List.length_cons, List.length_nil]; omega, by simp only [List.length_cons, List.length_nil]; omega, by omega, hF.pick (.cons (k := 0) rfl <| .cons (k := 3) rfl <| .nil), hS⟩, by omega⟩
  · try simp only [decide_eq_true_eq, decide_eq_false_iff_not, Bool.not_eq_true', Bool.not_eq_false', Bool.not_eq_eq_eq_not, Bool.not_true, Bool.not_false] at hc22
    have hl := ab_lt h (rest ++ 0x80 :: List.replicate j 0)
    obtain rfl : j = padz m := by unfold padz at hj ⊢; rw [hl] at hc22; simp only [List.length_append, List.length_cons, List.length_replicate] at hc22; omega
    refine c_exit (x_then (x_then (x_here ?_)))
    refine n_then ?_
    refine c_seq ?_
    refine c_reg ?_
    refine s_alloc hF hS zero85 rfl ?_; clear hS hF; intro b0 w a hS hF
    refine c_nil ?_
    refine n_then ?_
    refine c_seq ?_
    refine c_seq ?_
    refine c_reg ?_
    refine s_pu hF (pu_move rfl) rfl ?_; clear hF; intro a hF
    refine c_nil ?_
    refine n_then ?_
    refine c_block ?_
    refine hS.cut fun O1 F1 hO1 hF1 hS => ?_
    subst hO1
    refine hF.cut (.cons (k := 25) rfl <| .nil) (.cons (k := 0) rfl <| .cons (k := 3) rfl <| .cons (k := 4) rfl <| .nil) fun L1 hL1 hF => ?_
    refine c_loop (α := Nat) (fun k a w => k ≤ 8 ∧ Fr a 66 ([(25, .val (.int .i64 k))] ++ L1) ∧ St w0 h0 (ids [(some bs, CellsC 83 (stC h rv0 sz)), bufE 5 1 rv0 (rest.map v8)]) w [(some b0, CellsC 85 ((bpart m k).map v8)), (some bs, CellsC 83 (stC (ab h (rest ++ 0x80 :: List.replicate (padz m) 0)).1 rv sz)), bufE 5 1 rv ((ab h (rest ++ 0x80 :: List.replicate (padz m) 0)).2.map v8)] F1) (fun k => 8 - k) 0 (⟨by omega, hF, hS⟩) ?_
    subst hF1 hL1
    rintro k a w ⟨hk, hF, hS⟩
    refine c_seq ?_
    refine c_reg ?_
    refine s_pu hF (pu_ilt rfl rfl) rfl ?_; clear hF; intro a hF
    refine c_nil ?_
    refine n_then ?_
    refine c_seq ?_
    refine c_if hF rfl (fun hc26 => ?_) (fun hc26 => ?_)
    · try simp only [decide_eq_true_eq, decide_eq_false_iff_not, Bool.not_eq_true', Bool.not_eq_false', Bool.not_eq_eq_eq_not, Bool.not_true, Bool.not_false] at hc26
      refine c_skip ?_
      refine n_then ?_
      refine c_seq ?_
      refine c_block ?_
      refine c_seq ?_
      refine c_reg ?_
      refine s_pu hF (pu_move rfl) rfl ?_; clear hF; intro a hF
      refine s_pu hF (pu_assign rfl) rfl ?_; clear hF; intro a hF
      refine c_nil ?_
      refine n_then ?_
      refine c_reg ?_
      refine s_pu hF (pu_move rfl) rfl ?_; clear hF; intro a hF
      refine s_pu hF (pu_sub rfl rfl (by first | exact wrap_i64 (by omega) (by omega) | rfl)) rfl ?_; clear hF; intro a hF
      refine s_pu hF (pu_move rfl) rfl ?_; clear hF; intro a hF
      refine s_pu hF (pu_move rfl) rfl ?_; clear hF; intro a hF
      refine s_pu hF (pu_mul rfl rfl (by first | exact wrap_i64 (by omega) (by omega) | rfl)) rfl ?_; clear hF; intro a hF
      refine s_pu hF (pu_shr rfl rfl (by omega) rfl) rfl ?_; clear hF; intro a hF
      refine s_pu hF (pu_conv tyI5 ⟨_, tyI3⟩ rfl (lb_wrap m k (by omega))) rfl ?_; clear hF; intro a hF
      refine s_pu hF (pu_iaddr_arn (j := 7 - k) art85 rfl rfl (by omega) (by omega)) rfl ?_; clear hF; intro a hF
      refine s_store (i := 0) (new := [v8 (lb m k)]) hF hS rfl rfl rfl rfl sz5 rfl (by simp only [List.length_map, bpart_len m k (by omega), List.length_cons, List.length_nil]; omega) ?_; clear hS hF; intro w a hS hF
      rw [show 0 + (7 - k) * 1 = 7 - k by omega, spl_set v8 (bpart m k) (lb m k) (7 - k) (by rw [bpart_len m k (by omega)]; omega), bpart_set m k (by omega)] at hS
      refine c_nil ?_
      refine n_block ?_
      refine n_then ?_
      refine c_reg ?_
      refine s_pu hF (pu_add rfl rfl (by first | exact wrap_i64 (by omega) (by omega) | rfl)) rfl ?_; clear hF; intro a hF
      refine s_pu hF (pu_move rfl) rfl ?_; clear hF; intro a hF
      refine c_nil ?_
      exact ⟨k + 1, ⟨by omega, hF.pick (.cons (k := 25) rfl <| .cons (k := 0) rfl <| .cons (k := 3) rfl <| .cons (k := 4) rfl <| .nil), hS⟩, by omega⟩
    · try simp only [decide_eq_true_eq, decide_eq_false_iff_not, Bool.not_eq_true', Bool.not_eq_false', Bool.not_eq_eq_eq_not, Bool.not_true, Bool.not_false] at hc26
      obtain rfl : k = 8 := by omega
      refine c_exit (x_then (x_then (x_here ?_)))
      refine n_then ?_
      refine c_seq ?_
      refine c_reg ?_
      refine s_pu hF (pu_move rfl) rfl ?_; clear hF; intro a hF
      refine s_pu hF (pu_ar_slice (i := 0) (j := 8) art85 rfl rfl rfl (by omega) (by omega)) rfl ?_; clear hF; intro a hF
      refine s_pu hF (pu_tostr (l := len8 m) tyL36 tyI5 tyS9 rfl rfl (Src.own (hS.at (i := 0) rfl) rfl rfl)) rfl ?_; clear hF; intro a hF
      refine s_write (pre := [_]) hF hS (ab_len hh) (by have := padz_lt m; simp [bpart, len8]; omega) (by rw [ab_lt]; omega) rfl rfl ?_; clear hS hF; intro rv w a hS hF
      have e8 : (rest ++ 0x80 :: List.replicate (padz m) 0) ++ len8 m = rest ++ pad m := by simp [pad]
      rw [ab_app, e8] at hS
      obtain ⟨sz, hsz⟩ : ∃ s, s = sz + ((len8 m).length : Nat) := ⟨_, rfl⟩
      rw [← hsz] at hS
      refine c_nil ?_
      refine n_then ?_
      refine c_seq ?_
      refine c_reg ?_
      refine s_make0 hF hS tyL36 mk5 rfl rfl (by omega) (by omega) rfl ?_; clear hS hF; intro b1 w a hS hF
      refine s_pu hF (pu_assign rfl) rfl ?_; clear hF; intro a hF
      refine c_nil ?_
      refine n_then ?_
      refine c_seq ?_
      refine c_seq ?_
      refine c_reg ?_
      refine s_pu hF (pu_move rfl) rfl ?_; clear hF; intro a hF
      refine s_pu hF (pu_nil rfl) rfl ?_; clear hF; intro a hF
      refine s_pu hF (pu_faddr fld83_0 rfl) rfl ?_; clear hF; intro a hF
      refine s_pu hF (o_loadA (i := 2) (new := (ab h (rest ++ pad m)).1.map v32) hS rfl (by rw [List.length_map, ab_len hh]; exact agg45) rfl (stC_h (ab_len hh) rv _)) rfl ?_; clear hF; intro a hF
      refine s_pu hF (pu_move rfl) rfl ?_; clear hF; intro a hF
      refine c_nil ?_
      refine n_then ?_
      refine c_block ?_
      refine hS.cut fun O2 F2 hO2 hF2 hS => ?_
      subst hO2
      refine hF.cut (.cons (k := 6) rfl <| .cons (k := 46) rfl <| .nil) (.cons (k := 45) rfl <| .nil) fun L2 hL2 hF => ?_
      refine c_loop (α := Nat) (fun k a w => ∃ a0 nn c, k ≤ 8 ∧ Fr a 66 ([(6, .val (.slice a0 nn c)), (46, .val (.int .i64 k))] ++ L2) ∧ St w0 h0 (ids [(some bs, CellsC 83 (stC h rv0 sz)), bufE 5 1 rv0 (rest.map v8)]) w [bufE 5 1 (.slice a0 nn c) ((outS ((ab h (rest ++ pad m)).1.take k)).map v8), (some b0, CellsC 85 ((bpart m 8).map v8)), (some bs, CellsC 83 (stC (ab h (rest ++ pad m)).1 rv sz)), bufE 5 1 rv ((ab h (rest ++ pad m)).2.map v8)] F2) (fun k => 8 - k) 0 (⟨_, _, _, by omega, hF, hS⟩) ?_
      subst hF2 hL2
      rintro k a w ⟨a0, nn, c, hk, hF, hS⟩
      refine c_seq ?_
      refine c_reg ?_
      refine s_pu hF (pu_ilt rfl rfl) rfl ?_; clear hF; intro a hF
      refine c_nil ?_
      refine n_then ?_
      refine c_seq ?_
      refine c_if hF rfl (fun hc47 => ?_) (fun hc47 => ?_)
      · try simp only [decide_eq_true_eq, decide_eq_false_iff_not, Bool.not_eq_true', Bool.not_eq_false', Bool.not_eq_eq_eq_not, Bool.not_true, Bool.not_false] at hc47
        refine c_skip ?_
        refine n_then ?_
        refine c_seq ?_
        refine c_block ?_
        refine c_seq ?_
        refine c_reg ?_
        refine s_pu hF (pu_index_ar (cs := (ab h (rest ++ pad m)).1.map v32) art45 one44 rfl rfl (by omega) (by omega) (by rw [Int.toNat_natCast]; exact map_get v32 _ 0 (by rw [ab_len hh]; omega))) rfl ?_; clear hF; intro a hF
        refine s_pu hF (pu_assign rfl) rfl ?_; clear hF; intro a hF
        refine c_nil ?_
        refine n_then ?_
        refine c_reg ?_
        refine s_pu hF (pu_move rfl) rfl ?_; clear hF; intro a hF
        refine s_pu hF (pu_move rfl) rfl ?_; clear hF; intro a hF
        refine s_pu hF (p32_shr (m := 24) rfl rfl rfl) rfl ?_; clear hF; intro a hF
        refine s_pu hF (p8_of32 tyI5 ⟨_, tyI44⟩ rfl) rfl ?_; clear hF; intro a hF
        refine s_pu hF (pu_move rfl) rfl ?_; clear hF; intro a hF
        refine s_pu hF (p32_shr (m := 16) rfl rfl rfl) rfl ?_; clear hF; intro a hF
        refine s_pu hF (p8_of32 tyI5 ⟨_, tyI44⟩ rfl) rfl ?_; clear hF; intro a hF
        refine s_pu hF (pu_move rfl) rfl ?_; clear hF; intro a hF
        refine s_pu hF (p32_shr (m := 8) rfl rfl rfl) rfl ?_; clear hF; intro a hF
        refine s_pu hF (p8_of32 tyI5 ⟨_, tyI44⟩ rfl) rfl ?_; clear hF; intro a hF
        refine s_pu hF (pu_move rfl) rfl ?_; clear hF; intro a hF
        refine s_pu hF (p8_of32 tyI5 ⟨_, tyI44⟩ rfl) rfl ?_; clear hF; intro a hF
        refine s_build (xs := [.tmp 52, .tmp 55, .tmp 58, .tmp 60]) hF hS slt_b36 rfl rfl (by simp [Value.cells]) (by decide) rfl ?_; clear hS hF; intro b2 w a hS hF
        refine s_append (i := 1) hF hS rfl slt_a36_36 rfl rfl (Src.own (hS.at (i := 0) rfl) rfl rfl) (by simp [cellsL, Value.cells, outS_len]; omega) rfl ?_; clear hS hF; intro a0 nn c0 w a hnn hS hF
        refine s_pu hF (pu_assign rfl) rfl ?_; clear hF; intro a hF
        refine c_nil ?_
        refine n_block ?_
        refine n_then ?_
        refine c_reg ?_
        refine s_pu hF (pu_add rfl rfl (by first | exact wrap_i64 (by omega) (by omega) | rfl)) rfl ?_; clear hF; intro a hF
        refine s_pu hF (pu_move rfl) rfl ?_; clear hF; intro a hF
        refine c_nil ?_
        replace hS := hS.forget 0
        refine ⟨k + 1, ⟨_, _, _, by omega, hF.pick (.cons (k := 6) rfl <| .cons (k := 46) rfl <| .cons (k := 45) rfl <| .nil), ?_⟩, by omega⟩
        rw [out_step _ k (by rw [ab_len hh]; omega)]
        exact hS
      · try simp only [decide_eq_true_eq, decide_eq_false_iff_not, Bool.not_eq_true', Bool.not_eq_false', Bool.not_eq_eq_eq_not, Bool.not_true, Bool.not_false] at hc47
        obtain rfl : k = 8 := by omega
        rw [List.take_of_length_le (by rw [ab_len hh]; omega)] at hS
        refine c_exit (x_then (x_then (x_here ?_)))
        refine n_then ?_
        refine c_seq ?_
        refine c_reg ?_
        refine s_pu hF (pu_move rfl) rfl ?_; clear hF; intro a hF
        refine s_pu hF (pu_tostr tyL36 tyI5 tyS9 rfl rfl (buf_str (i := 0) hS rfl)) rfl ?_; clear hF; intro a hF
        refine s_pu hF (pu_assign rfl) rfl ?_; clear hF; intro a hF
        refine c_nil ?_
        refine n_then ?_
        refine c_ret ?_
        exact f_ret hF rfl (.tmp rfl (.nil)) (hS.retM rfl)
theorem s_sum {opsA : Array Oper} {rest' : List Oper} {Q : Exit → Act → World → Prop} {a : Act} {w w0 : World} {h0 : View} {M : List Nat} {pre : List OE} {F : View → Prop} {n : Nat} {L : FL} {ty : TypeId} {pos : String} {af : Array Edge}
    {dd bs : Nat} {h : List (BitVec 32)} {rv : Value} {m : Nat} {rest : List UInt8} {args : List Operand} {ats : Array TypeId} (hF : Fr a n L) (hS : St w0 h0 M w (pre ++ [(some bs, CellsC 83 (stC h rv m)), bufE 5 1 rv (rest.map v8)]) F)
    (hh : h.length = 8) (hm : m ≤ 900000000) (hr : rest.length = m % 64) (ha : evs L args = some [.pointer (some ⟨bs, 0, none⟩)]) (hd : Nat.blt dd n = true)
    (k : ∀ w' a, St w0 h0 M w' pre F → Fr a n ((dd, .val (vs (outS (ab h (rest ++ pad m)).1))) :: L) → wpM .wp Try.prog opsA Q rest' a w') :
    wpM .wp Try.prog opsA Q (⟨some dd, .call ⟨.value (.func 38), args.toArray, ats⟩, ty, pos, af, none⟩ :: rest') a w := by
  have h1 : CellsC 83 (stC h rv m) w.heap[bs]? := by simpa using hS.own (some bs, CellsC 83 (stC h rv m)) (by simp)
  have h2 := hS.own (bufE 5 1 rv (rest.map v8)) (by simp)
  have e1 : ids (pre ++ [(some bs, CellsC 83 (stC h rv m)), bufE 5 1 rv (rest.map v8)]) = ids pre ++ (bs :: rv.ownBlock.toList) := by
    rw [ids_app]; congr 1
  have hnd := hS.nd
  rw [e1, List.nodup_append] at hnd
  have hne : rv.ownBlock ≠ some bs := fun e => by have := hnd.2.1; rw [e] at this; simp at this
  refine s_ds hF (ds_call (Post := fun u w' => u = vs (outS (ab h (rest ++ pad m)).1) ∧ St w0 h0 M w' pre F) ok38 ha ((c_sum bs h hh rv m rest hm hr w h1 h2 hne).mono ?_)) hd ?_
  · rintro e w' ⟨u, rfl, hk, hv⟩
    refine ⟨u, rfl, hv, hS.upds hk (fun b hb => by rw [e1]; exact List.mem_append_right _ hb) (fun x hx => hS.still hk (List.mem_append_left _ hx) fun c hc hm => ?_) (fun c hc => .inl (by rw [e1]; exact List.mem_append_left _ hc)) hnd.1⟩
    exact hnd.2.2 c (List.mem_filterMap.2 ⟨x, hx, hc⟩) c hm rfl
  · rintro u w' a' ⟨rfl, hS'⟩ hF'
    exact k w' a' hS' hF'

theorem c_Sum (ad : Option Addr) (cap : Nat) (l : List (List UInt8)) (hsz : l.flatten.length ≤ 900000000) (hcnt : l.length ≤ 900000000) (w0 : World) (h0 : View) (hv : VLe h0 (Full w0)) (hb : SlC 9 1 (flatR fun s => [vs s]) h0 (.slice ad l.length cap) l) : Calls Try.prog 28 #[.slice ad l.length cap] w0 (Ret w0 h0 fun u _ => u = vs (dig l.flatten)) := by
  refine f_enter (args := [.slice ad l.length cap]) Try.func28 rfl Try.ntmps28 rfl fun a hF => ?_
  have hS := (St.init w0 h0 hv).newNil 5 1
  refine c_seq ?_
  refine c_reg ?_
  refine s_pu hF (pu_assign rfl) rfl ?_; clear hF; intro a hF
  refine c_nil ?_
  refine n_then ?_
  refine c_seq ?_
  refine c_reg ?_
  refine s_callN hF hS ok36 rfl (c_begin _ _ (VLe.refl _)) rfl ?_; clear hS hF; intro b0 w a hS hF
  refine s_pu hF (pu_assign rfl) rfl ?_; clear hF; intro a hF
  refine c_nil ?_
  refine n_then ?_
  refine c_seq ?_
  refine c_seq ?_
  refine c_reg ?_
  refine s_pu hF (pu_move rfl) rfl ?_; clear hF; intro a hF
  refine s_pu hF (pu_len_sl tyL22 rfl rfl) rfl ?_; clear hF; intro a hF
  refine s_pu hF (pu_move rfl) rfl ?_; clear hF; intro a hF
  refine c_nil ?_
  refine n_then ?_
  refine c_block ?_
  refine hS.cut fun O0 F0 hO0 hF0 hS => ?_
  subst hO0
  refine hF.cut (.cons (k := 9) rfl <| .nil) (.cons (k := 3) rfl <| .cons (k := 7) rfl <| .cons (k := 8) rfl <| .nil) fun L0 hL0 hF => ?_
  refine c_loop (α := Nat) (fun k a w => ∃ rv, k ≤ l.length ∧ Fr a 19 ([(9, .val (.int .i64 k))] ++ L0) ∧ St w0 h0 [] w [(some b0, CellsC 83 (stC (ab H0 (l.take k).flatten).1 rv ((l.take k).flatten.length : Nat))), bufE 5 1 rv ((ab H0 (l.take k).flatten).2.map v8)] F0) (fun k => l.length - k) 0 (⟨.slice none 0 0, by omega, hF, hS⟩) ?_
  subst hF0 hL0
  rintro k a w ⟨rv, hk, hF, hS⟩
  refine c_seq ?_
  refine c_reg ?_
  refine s_pu hF (pu_ilt rfl rfl) rfl ?_; clear hF; intro a hF
  refine c_nil ?_
  refine n_then ?_
  refine c_seq ?_
  refine c_if hF rfl (fun hc10 => ?_) (fun hc10 => ?_)
  · try simp only [decide_eq_true_eq, decide_eq_false_iff_not, Bool.not_eq_true', Bool.not_eq_false', Bool.not_eq_eq_eq_not, Bool.not_true, Bool.not_false] at hc10
    obtain ⟨g, o, ha, hH⟩ := hb.atD [] (i := k) (by omega)
    refine c_skip ?_
    refine n_then ?_
    refine c_seq ?_
    refine c_block ?_
    refine c_seq ?_
    refine c_reg ?_
    refine s_pu hF (pu_iaddr_sla (j := k) ha slt22 rfl rfl (by omega) (by omega)) rfl ?_; clear hF; intro a hF
    refine s_pu hF (pu_load1 one9 rfl (hH _ hS.base)) rfl ?_; clear hF; intro a hF
    refine s_pu hF (pu_assign rfl) rfl ?_; clear hF; intro a hF
    refine c_nil ?_
    refine n_then ?_
    refine c_reg ?_
    refine s_pu hF (pu_move rfl) rfl ?_; clear hF; intro a hF
    refine s_pu hF (pu_move rfl) rfl ?_; clear hF; intro a hF
    refine s_write (pre := []) hF hS (ab_len (h := H0) rfl) (by have := flat_le l (k + 1); rw [flat_step l k (by omega), List.length_append] at this; omega) (by rw [ab_lt]; omega) rfl rfl ?_; clear hS hF; intro rv w a hS hF
    refine c_nil ?_
    refine n_block ?_
    refine n_then ?_
    refine c_reg ?_
    refine s_pu hF (pu_add rfl rfl (by first | exact wrap_i64 (by omega) (by omega) | rfl)) rfl ?_; clear hF; intro a hF
    refine s_pu hF (pu_move rfl) rfl ?_; clear hF; intro a hF
    refine c_nil ?_
    rw [ab_app, ← flat_step l k (by omega)] at hS
    refine ⟨k + 1, ⟨rv, by omega, hF.pick (.cons (k := 9) rfl <| .cons (k := 3) rfl <| .cons (k := 7) rfl <| .cons (k := 8) rfl <| .nil), ?_⟩, by omega⟩
    have e : (((l.take k).flatten.length : Nat) : Int) + (l.getD k []).length = ((l.take (k + 1)).flatten.length : Nat) := by rw [flat_step l k (by omega), List.length_append]; omega
    rw [e] at hS
    exact hS
  · try simp only [decide_eq_true_eq, decide_eq_false_iff_not, Bool.not_eq_true', Bool.not_eq_false', Bool.not_eq_eq_eq_not, Bool.not_true, Bool.not_false] at hc10
    obtain rfl : k = l.length := by omega
    rw [List.take_length] at hS
    refine c_exit (x_then (x_then (x_here ?_)))
    refine n_then ?_
    refine c_seq ?_
    refine c_reg ?_
    refine s_pu hF (pu_move rfl) rfl ?_; clear hF; intro a hF
    refine s_sum (pre := []) (m := l.flatten.length) hF hS (ab_len (h := H0) rfl) hsz (ab_lt _ _) rfl rfl ?_; clear hS hF; intro w a hS hF
    refine s_pu hF (pu_assign rfl) rfl ?_; clear hF; intro a hF
    refine c_nil ?_
    refine n_then ?_
    refine c_ret ?_
    exact f_ret hF rfl (.tmp rfl (.nil)) (hS.retv (by rw [ab_app]; rfl))
theorem c_Link (x y : List UInt8) (hsz : x.length + y.length ≤ 900000000) (w0 : World) (h0 : View) (hv : VLe h0 (Full w0))  : Calls Try.prog 21 #[vs x, vs y] w0 (Ret w0 h0 fun u _ => u = vs (linkS x y)) := by
  refine f_enter (args := [vs x, vs y]) Try.func21 rfl Try.ntmps21 rfl fun a hF => ?_
  have hS := St.init w0 h0 hv
  refine c_seq ?_
  refine c_reg ?_
  refine s_pu hF (pu_assign rfl) rfl ?_; clear hF; intro a hF
  refine c_nil ?_
  refine n_then ?_
  refine c_seq ?_
  refine c_reg ?_
  refine s_pu hF (pu_move rfl) rfl ?_; clear hF; intro a hF
  refine s_pu hF (pu_move rfl) rfl ?_; clear hF; intro a hF
  refine s_build (xs := [.tmp 5, .tmp 6]) hF hS slt_b22 rfl rfl (by simp [Value.cells]) (by decide) rfl ?_; clear hS hF; intro b0 w a hS hF
  have hrow := hS.at (i := 0) rfl
  refine s_calld hF hS ok28 rfl (c_Sum _ _ [x, y] (by simpa using hsz) (by simp) _ (Full w) (VLe.refl _) (SlC.ofRow (by simp) (h := Full w) hrow rfl (by simp) (by decide) rfl)) rfl ?_; clear hS hF hrow; intro w a hS hF
  refine s_pu hF (pu_assign rfl) rfl ?_; clear hF; intro a hF
  refine c_nil ?_
  refine n_then ?_
  refine c_ret ?_
  exact f_ret hF rfl (.tmp rfl (.nil)) (hS.retv (by show vs (dig [x, y].flatten) = _; simp [linkS]))
theorem c_Chain (x : List UInt8) (hx : x.length ≤ 1000000) (ad : Option Addr) (cap : Nat) (l : List (List UInt8)) (hsz : ∀ s ∈ l, s.length ≤ 1000000) (hcnt : l.length ≤ 900000000) (w0 : World) (h0 : View) (hv : VLe h0 (Full w0)) (hb : SlC 9 1 (flatR fun s => [vs s]) h0 (.slice ad l.length cap) l) : Calls Try.prog 18 #[vs x, .slice ad l.length cap] w0 (Ret w0 h0 fun u _ => u = vs (chainS x l)) := by
  refine f_enter (args := [vs x, .slice ad l.length cap]) Try.func18 rfl Try.ntmps18 rfl fun a hF => ?_
  have hS := St.init w0 h0 hv
  refine c_seq ?_
  refine c_reg ?_
  refine s_pu hF (pu_assign rfl) rfl ?_; clear hF; intro a hF
  refine c_nil ?_
  refine n_then ?_
  refine c_seq ?_
  refine c_seq ?_
  refine c_reg ?_
  refine s_pu hF (pu_move rfl) rfl ?_; clear hF; intro a hF
  refine s_pu hF (pu_len_sl tyL22 rfl rfl) rfl ?_; clear hF; intro a hF
  refine s_pu hF (pu_move rfl) rfl ?_; clear hF; intro a hF
  refine c_nil ?_
  refine n_then ?_
  refine c_block ?_
  refine hS.cut fun O0 F0 hO0 hF0 hS => ?_
  refine hF.cut (.cons (k := 0) rfl <| .cons (k := 9) rfl <| .nil) (.cons (k := 7) rfl <| .cons (k := 8) rfl <| .nil) fun L0 hL0 hF => ?_
  refine c_loop (α := Nat) (fun k a w => k ≤ l.length ∧ Fr a 18 ([(0, .val (vs (chainS x (l.take k)))), (9, .val (.int .i64 k))] ++ L0) ∧ St w0 h0 [] w O0 F0) (fun k => l.length - k) 0 (⟨by omega, hF, hS⟩) ?_
  subst hO0 hF0 hL0
  rintro k a w ⟨hk, hF, hS⟩
  refine c_seq ?_
  refine c_reg ?_
  refine s_pu hF (pu_ilt rfl rfl) rfl ?_; clear hF; intro a hF
  refine c_nil ?_
  refine n_then ?_
  refine c_seq ?_
  refine c_if hF rfl (fun hc10 => ?_) (fun hc10 => ?_)
  · try simp only [decide_eq_true_eq, decide_eq_false_iff_not, Bool.not_eq_true', Bool.not_eq_false', Bool.not_eq_eq_eq_not, Bool.not_true, Bool.not_false] at hc10
    obtain ⟨g, o, ha, hH⟩ := hb.atD [] (i := k) (by omega)
    refine c_skip ?_
    refine n_then ?_
    refine c_seq ?_
    refine c_block ?_
    refine c_seq ?_
    refine c_reg ?_
    refine s_pu hF (pu_iaddr_sla (j := k) ha slt22 rfl rfl (by omega) (by omega)) rfl ?_; clear hF; intro a hF
    refine s_pu hF (pu_load1 one9 rfl (hH _ hS.base)) rfl ?_; clear hF; intro a hF
    refine s_pu hF (pu_assign rfl) rfl ?_; clear hF; intro a hF
    refine c_nil ?_
    refine n_then ?_
    refine c_reg ?_
    refine s_pu hF (pu_move rfl) rfl ?_; clear hF; intro a hF
    refine s_pu hF (pu_move rfl) rfl ?_; clear hF; intro a hF
    refine s_callv hF hS ok21 rfl (c_Link _ _ (by have := chain_len x (l.take k) 1000000 hx (by omega); have := hsz _ (getD_mem l k [] (by omega)); omega) _ _ hS.view) rfl ?_; clear hS hF; intro w a hS hF
    refine s_pu hF (pu_assign rfl) rfl ?_; clear hF; intro a hF
    refine c_nil ?_
    refine n_block ?_
    refine n_then ?_
    refine c_reg ?_
    refine s_pu hF (pu_add rfl rfl (by first | exact wrap_i64 (by omega) (by omega) | rfl)) rfl ?_; clear hF; intro a hF
    refine s_pu hF (pu_move rfl) rfl ?_; clear hF; intro a hF
    refine c_nil ?_
    rw [← chain_step x l k (by omega)] at hF
    exact ⟨k + 1, ⟨by omega, hF.pick (.cons (k := 0) rfl <| .cons (k := 9) rfl <| .cons (k := 7) rfl <| .cons (k := 8) rfl <| .nil), hS⟩, by omega⟩
  · try simp only [decide_eq_true_eq, decide_eq_false_iff_not, Bool.not_eq_true', Bool.not_eq_false', Bool.not_eq_eq_eq_not, Bool.not_true, Bool.not_false] at hc10
    obtain rfl : k = l.length := by omega
    rw [List.take_length] at hF
    refine c_exit (x_then (x_then (x_here ?_)))
    refine n_then ?_
    refine c_seq ?_
    refine c_reg ?_
    refine s_pu hF (pu_move rfl) rfl ?_; clear hF; intro a hF
    refine s_pu hF (pu_assign rfl) rfl ?_; clear hF; intro a hF
    refine c_nil ?_
    refine n_then ?_
    refine c_ret ?_
    exact f_ret hF rfl (.tmp rfl (.nil)) (hS.retv rfl)
theorem c_ChainN (x : List UInt8) (hx : x.length ≤ 1000000) (ad : Option Addr) (cap n : Nat) (l : List (List UInt8)) (hn : n = l.length) (hsz : ∀ s ∈ l, s.length ≤ 1000000) (hcnt : l.length ≤ 900000000) (w0 : World) (h0 : View) (hv : VLe h0 (Full w0)) (hb : SlC 9 1 (flatR fun s => [vs s]) h0 (.slice ad n cap) l) : Calls Try.prog 18 #[vs x, .slice ad n cap] w0 (Ret w0 h0 fun u _ => u = vs (chainS x l)) := by
  subst hn; exact c_Chain x hx ad cap l hsz hcnt w0 h0 hv hb

theorem c_whole (l : List UInt8) (hl : l.length ≤ 900000000) (w0 : World) (h0 : View) (hv : VLe h0 (Full w0)) : Calls Try.prog 19 #[vs l] w0 (RetM [] w0 fun v w' => NewBuf w0 5 1 ((l ++ pad l.length).map v8) v w') := by
  refine f_enter (args := [vs l]) Try.func19 rfl Try.ntmps19 rfl fun a hF => ?_
  have hS := St.init w0 h0 hv
  refine c_seq ?_
  refine c_reg ?_
  refine s_pu hF (pu_assign rfl) rfl ?_; clear hF; intro a hF
  refine c_nil ?_
  refine n_then ?_
  refine c_seq ?_
  refine c_reg ?_
  refine s_pu hF (pu_move rfl) rfl ?_; clear hF; intro a hF
  refine s_bytes hF hS tyS9 tyL36 tyI5 rfl (by simp only [maxLen]; omega) rfl ?_; clear hS hF; intro b0 cb0 w a hS hF
  refine s_build (xs := [.const (.int .u8 128)]) hF hS slt_b36 rfl rfl (by simp [Value.cells]) (by decide) rfl ?_; clear hS hF; intro b1 w a hS hF
  refine s_append (i := 1) hF hS rfl slt_a36_36 rfl rfl (Src.own (hS.at (i := 0) rfl) rfl rfl) (by have := padz_lt l.length; simp [cellsL, Value.cells, len8]; omega) rfl ?_; clear hS hF; intro a0 nn c0 w a hnn hS hF
  refine s_pu hF (pu_assign rfl) rfl ?_; clear hF; intro a hF
  refine c_nil ?_
  refine n_then ?_
  refine c_seq ?_
  refine c_block ?_
  replace hS := hS.forget 0
  refine hS.cut fun O0 F0 hO0 hF0 hS => ?_
  subst hO0
  refine hF.cut (.cons (k := 3) rfl <| .nil) (.cons (k := 0) rfl <| .nil) fun L0 hL0 hF => ?_
  refine c_loop (α := Nat) (fun j a w => ∃ a0 nn c, j ≤ padz l.length ∧ nn = l.length + 1 + j ∧ Fr a 33 ([(3, .val (.slice a0 nn c))] ++ L0) ∧ St w0 h0 [] w [bufE 5 1 (.slice a0 nn c) ((l ++ 0x80 :: List.replicate j 0).map v8)] F0) (fun j => padz l.length - j) 0 (⟨a0, nn, c0, Nat.zero_le _, by simp [cellsL, Value.cells] at hnn; omega, hF, by rw [List.map_append]; exact hS⟩) ?_
  subst hF0 hL0
  rintro j a w ⟨a0, nn, c, hj, hnn, hF, hS⟩
  refine c_seq ?_
  refine c_seq ?_
  refine c_reg ?_
  refine s_pu hF (pu_move rfl) rfl ?_; clear hF; intro a hF
  refine s_pu hF (pu_len_sl tyL36 rfl rfl) rfl ?_; clear hF; intro a hF
  refine s_pu hF (pu_rem rfl rfl (by omega) (r := ((nn % 64 : Nat) : Int)) (by rw [Int.tmod_eq_emod_of_nonneg (by omega)]; rfl)) rfl ?_; clear hF; intro a hF
  refine s_pu hF (pu_ine rfl rfl) rfl ?_; clear hF; intro a hF
  refine c_nil ?_
  refine n_then ?_
  refine c_if hF rfl (fun hc13 => ?_) (fun hc13 => ?_)
  · try simp only [decide_eq_true_eq, decide_eq_false_iff_not, Bool.not_eq_true', Bool.not_eq_false', Bool.not_eq_eq_eq_not, Bool.not_true, Bool.not_false] at hc13
    have hj2 : j < padz l.length := by unfold padz at hj ⊢; omega
    refine c_skip ?_
    refine n_then ?_
    refine c_block ?_
    refine c_reg ?_
    refine s_pu hF (pu_move rfl) rfl ?_; clear hF; intro a hF
    refine s_build (xs := [.const (.int .u8 0)]) hF hS slt_b36 rfl rfl (by simp [Value.cells]) (by decide) rfl ?_; clear hS hF; intro b2 w a hS hF
    refine s_append (i := 1) hF hS rfl slt_a36_36 rfl rfl (Src.own (hS.at (i := 0) rfl) rfl rfl) (by have := padz_lt l.length; simp [cellsL, Value.cells, len8]; omega) rfl ?_; clear hS hF; intro a0 nn c0 w a hnn hS hF
    refine s_pu hF (pu_assign rfl) rfl ?_; clear hF; intro a hF
    refine c_nil ?_
    refine n_block ?_
    replace hS := hS.forget 0
    rename_i hnn0 _
    refine ⟨j + 1, ⟨_, _, _, by omega, ?_, hF.pick (.cons (k := 3) rfl <| .cons (k := 0) rfl <| .nil), ?_⟩, by omega⟩
    · simp [cellsL, Value.cells] at *; omega
    · have e : l ++ 0x80 :: List.replicate (j + 1) 0 = (l ++ 0x80 :: List.replicate j 0) ++ [0] := by simp [List.replicate_succ']
      rw [e, List.map_append]
      exact hS
  · try simp only [decide_eq_true_eq, decide_eq_false_iff_not, Bool.not_eq_true', Bool.not_eq_false', Bool.not_eq_eq_eq_not, Bool.not_true, Bool.not_false] at hc13
    obtain rfl : j = padz l.length := by unfold padz at hj ⊢; omega
    refine c_exit (x_then (x_then (x_here ?_)))
    refine n_then ?_
    refine c_seq ?_
    refine c_reg ?_
    refine s_pu hF (pu_move rfl) rfl ?_; clear hF; intro a hF
    refine s_pu hF (pu_len_s tyS9 rfl rfl) rfl ?_; clear hF; intro a hF
    refine s_pu hF (pu_mul rfl rfl (by first | exact wrap_i64 (by omega) (by omega) | rfl)) rfl ?_; clear hF; intro a hF
    refine s_pu hF (pu_assign rfl) rfl ?_; clear hF; intro a hF
    refine c_nil ?_
    refine n_then ?_
    refine c_seq ?_
    refine c_seq ?_
    refine c_reg ?_
    refine s_pu hF (pu_assign rfl) rfl ?_; clear hF; intro a hF
    refine c_nil ?_
    refine n_then ?_
    refine c_block ?_
    refine hS.cut fun O1 F1 hO1 hF1 hS => ?_
    subst hO1
    refine hF.cut (.cons (k := 3) rfl <| .cons (k := 5) rfl <| .nil) (.cons (k := 4) rfl <| .nil) fun L1 hL1 hF => ?_
    refine c_loop (α := Nat) (fun k a w => ∃ a0 nn c, k ≤ 8 ∧ Fr a 33 ([(3, .val (.slice a0 nn c)), (5, .val (.int .i64 (7 - (k : Int))))] ++ L1) ∧ St w0 h0 [] w [bufE 5 1 (.slice a0 nn c) ((l ++ 0x80 :: List.replicate (padz l.length) 0 ++ (len8 l.length).take k).map v8)] F1) (fun k => 8 - k) 0 (⟨a0, nn, c, by omega, hF, by rw [List.take_zero, List.append_nil]; exact hS⟩) ?_
    subst hF1 hL1
    rintro k a w ⟨a0, nn, c, hk, hF, hS⟩
    refine c_seq ?_
    refine c_seq ?_
    refine c_reg ?_
    refine s_pu hF (pu_move rfl) rfl ?_; clear hF; intro a hF
    refine s_pu hF (pu_ige rfl rfl) rfl ?_; clear hF; intro a hF
    refine c_nil ?_
    refine n_then ?_
    refine c_if hF rfl (fun hc21 => ?_) (fun hc21 => ?_)
    · try simp only [decide_eq_true_eq, decide_eq_false_iff_not, Bool.not_eq_true', Bool.not_eq_false', Bool.not_eq_eq_eq_not, Bool.not_true, Bool.not_false] at hc21
      refine c_skip ?_
      refine n_then ?_
      refine c_seq ?_
      refine c_block ?_
      refine c_reg ?_
      refine s_pu hF (pu_move rfl) rfl ?_; clear hF; intro a hF
      refine s_pu hF (pu_move rfl) rfl ?_; clear hF; intro a hF
      refine s_pu hF (pu_move rfl) rfl ?_; clear hF; intro a hF
      refine s_pu hF (pu_mul rfl rfl (by first | exact wrap_i64 (by omega) (by omega) | rfl)) rfl ?_; clear hF; intro a hF
      refine s_pu hF (pu_shr rfl rfl (by omega) rfl) rfl ?_; clear hF; intro a hF
      refine s_pu hF (pu_conv tyI5 ⟨_, tyI3⟩ rfl (lb_wrap2 l.length (7 - k) (by omega) (by omega) (by omega))) rfl ?_; clear hF; intro a hF
      refine s_build (xs := [.tmp 29]) hF hS slt_b36 rfl rfl (by simp [Value.cells]) (by decide) rfl ?_; clear hS hF; intro b2 w a hS hF
      refine s_append (i := 1) hF hS rfl slt_a36_36 rfl rfl (Src.own (hS.at (i := 0) rfl) rfl rfl) (by have := padz_lt l.length; simp [cellsL, Value.cells, len8]; omega) rfl ?_; clear hS hF; intro a0 nn c0 w a hnn hS hF
      refine s_pu hF (pu_assign rfl) rfl ?_; clear hF; intro a hF
      refine c_nil ?_
      refine n_block ?_
      refine n_then ?_
      refine c_reg ?_
      refine s_pu hF (pu_move rfl) rfl ?_; clear hF; intro a hF
      refine s_pu hF (pu_sub rfl rfl (by first | exact wrap_i64 (by omega) (by omega) | rfl)) rfl ?_; clear hF; intro a hF
      refine s_pu hF (pu_assign rfl) rfl ?_; clear hF; intro a hF
      refine c_nil ?_
      replace hS := hS.forget 0
      replace hF := hF
      have e5 : (7 - (k : Int) - 1) = 7 - ((k + 1 : Nat) : Int) := by omega
      rw [e5] at hF
      refine ⟨k + 1, ⟨_, _, _, by omega, hF.pick (.cons (k := 3) rfl <| .cons (k := 5) rfl <| .cons (k := 4) rfl <| .nil), ?_⟩, by omega⟩
      rw [len8_get _ k (by omega), ← List.append_assoc, List.map_append]
      exact hS
    · try simp only [decide_eq_true_eq, decide_eq_false_iff_not, Bool.not_eq_true', Bool.not_eq_false', Bool.not_eq_eq_eq_not, Bool.not_true, Bool.not_false] at hc21
      obtain rfl : k = 8 := by omega
      refine c_exit (x_then (x_then (x_here ?_)))
      refine n_then ?_
      refine c_seq ?_
      refine c_reg ?_
      refine s_pu hF (pu_move rfl) rfl ?_; clear hF; intro a hF
      refine s_pu hF (pu_assign rfl) rfl ?_; clear hF; intro a hF
      refine c_nil ?_
      refine n_then ?_
      refine c_ret ?_
      refine f_ret hF rfl (.tmp rfl (.nil)) ?_
      refine hS.retM ?_
      have := hS.newBuf (i := 0) rfl
      have e : l ++ 0x80 :: List.replicate (padz l.length) 0 ++ (len8 l.length).take 8 = l ++ pad l.length := by rw [List.take_of_length_le (by simp [len8])]; simp [pad]
      rw [e] at this
      exact this
theorem c_words (ad : Option Addr) (cap : Nat) (bl : List UInt8) (hbl : bl.length = 64) (w0 : World) (h0 : View) (hv : VLe h0 (Full w0)) (hb : SlC 5 1 (flatR fun b => [v8 b]) h0 (.slice ad 64 cap) bl) : Calls Try.prog 25 #[.slice ad 64 cap] w0 (Ret w0 h0 fun u _ => u = .agg ((sched bl).map v32).toArray) := by
  refine f_enter (args := [.slice ad 64 cap]) Try.func25 rfl Try.ntmps25 rfl fun a hF => ?_
  have hS := St.init w0 h0 hv
  refine c_seq ?_
  refine c_reg ?_
  refine s_alloc hF hS zero53 rfl ?_; clear hS hF; intro b0 w a hS hF
  refine c_nil ?_
  refine n_then ?_
  refine c_seq ?_
  refine c_reg ?_
  refine s_alloc hF hS zero53 rfl ?_; clear hS hF; intro b1 w a hS hF
  refine c_nil ?_
  refine n_then ?_
  refine c_seq ?_
  refine c_seq ?_
  refine c_reg ?_
  refine s_pu hF (pu_assign rfl) rfl ?_; clear hF; intro a hF
  refine c_nil ?_
  refine n_then ?_
  refine c_block ?_
  refine hS.cut fun O0 F0 hO0 hF0 hS => ?_
  subst hO0
  refine hF.cut (.cons (k := 4) rfl <| .nil) (.cons (k := 0) rfl <| .cons (k := 2) rfl <| .cons (k := 3) rfl <| .nil) fun L0 hL0 hF => ?_
  refine c_loop (α := Nat) (fun k a w => k ≤ 64 ∧ Fr a 86 ([(4, .val (.int .i64 k))] ++ L0) ∧ St w0 h0 [] w [(some b1, CellsC 53 ((wl bl k ++ List.replicate (64 - k) 0).map v32)), (some b0, CellsC 53 (List.replicate 64 (v32 0)))] F0) (fun k => 64 - k) 0 (⟨by omega, hF, hS⟩) ?_
  subst hF0 hL0
  rintro k a w ⟨hk, hF, hS⟩
  refine c_seq ?_
  refine c_seq ?_
  refine c_reg ?_
  refine s_pu hF (pu_move rfl) rfl ?_; clear hF; intro a hF
  refine s_pu hF (pu_ilt rfl rfl) rfl ?_; clear hF; intro a hF
  refine c_nil ?_
  refine n_then ?_
  refine c_if hF rfl (fun hc8 => ?_) (fun hc8 => ?_)
  · try simp only [decide_eq_true_eq, decide_eq_false_iff_not, Bool.not_eq_true', Bool.not_eq_false', Bool.not_eq_eq_eq_not, Bool.not_true, Bool.not_false] at hc8
    refine c_skip ?_
    refine n_then ?_
    refine c_seq ?_
    refine c_block ?_
    refine c_seq ?_
    refine c_seq ?_
    refine c_reg ?_
    refine s_pu hF (pu_move rfl) rfl ?_; clear hF; intro a hF
    refine s_pu hF (pu_ilt rfl rfl) rfl ?_; clear hF; intro a hF
    refine c_nil ?_
    refine n_then ?_
    refine c_if hF rfl (fun hc12 => ?_) (fun hc12 => ?_)
    · try simp only [decide_eq_true_eq, decide_eq_false_iff_not, Bool.not_eq_true', Bool.not_eq_false', Bool.not_eq_eq_eq_not, Bool.not_true, Bool.not_false] at hc12
      obtain ⟨g0, o0, ha0, H0⟩ := hb.atD 0 (i := 4 * k + 0) (by omega)
      obtain ⟨g1, o1, ha1, H1⟩ := hb.atD 0 (i := 4 * k + 1) (by omega)
      obtain ⟨g2, o2, ha2, H2⟩ := hb.atD 0 (i := 4 * k + 2) (by omega)
      obtain ⟨g3, o3, ha3, H3⟩ := hb.atD 0 (i := 4 * k + 3) (by omega)
      refine c_seq ?_
      refine region_st 35 hF hS (allV_ne rfl) mix (by kernel_rfl) fun Γ hG => ?_
      refine t_pu hG (fun w hC => pu_move rfl) ?_; clear hG; intro Γ hG
      refine t_pu hG (fun w hC => pu_move rfl) ?_; clear hG; intro Γ hG
      refine t_pu hG (fun w hC => pu_move rfl) ?_; clear hG; intro Γ hG
      refine t_pu hG (fun w hC => pu_mul rfl rfl (by first | exact wrap_i64 (by omega) (by omega) | rfl)) ?_; clear hG; intro Γ hG
      refine t_pu hG (fun w hC => pu_iaddr_sla (j := 4 * k + 0) ha0 slt36 rfl rfl (by omega) (by omega)) ?_; clear hG; intro Γ hG
      refine t_pu hG (fun w hC => pu_load1 one5 rfl (H0 _ hC.st.base)) ?_; clear hG; intro Γ hG
      refine t_pu hG (fun w hC => p32_of8 tyI44 ⟨_, tyI5⟩ rfl) ?_; clear hG; intro Γ hG
      refine t_pu hG (fun w hC => p32_shl (m := 24) rfl rfl rfl) ?_; clear hG; intro Γ hG
      refine t_pu hG (fun w hC => pu_move rfl) ?_; clear hG; intro Γ hG
      refine t_pu hG (fun w hC => pu_move rfl) ?_; clear hG; intro Γ hG
      refine t_pu hG (fun w hC => pu_mul rfl rfl (by first | exact wrap_i64 (by omega) (by omega) | rfl)) ?_; clear hG; intro Γ hG
      refine t_pu hG (fun w hC => pu_add rfl rfl (by first | exact wrap_i64 (by omega) (by omega) | rfl)) ?_; clear hG; intro Γ hG
      refine t_pu hG (fun w hC => pu_iaddr_sla (j := 4 * k + 1) ha1 slt36 rfl rfl (by omega) (by omega)) ?_; clear hG; intro Γ hG
      refine t_pu hG (fun w hC => pu_load1 one5 rfl (H1 _ hC.st.base)) ?_; clear hG; intro Γ hG
      refine t_pu hG (fun w hC => p32_of8 tyI44 ⟨_, tyI5⟩ rfl) ?_; clear hG; intro Γ hG
      refine t_pu hG (fun w hC => p32_shl (m := 16) rfl rfl rfl) ?_; clear hG; intro Γ hG
      refine t_pu hG (fun w hC => p32_or rfl rfl) ?_; clear hG; intro Γ hG
      refine t_pu hG (fun w hC => pu_move rfl) ?_; clear hG; intro Γ hG
      refine t_pu hG (fun w hC => pu_move rfl) ?_; clear hG; intro Γ hG
      refine t_pu hG (fun w hC => pu_mul rfl rfl (by first | exact wrap_i64 (by omega) (by omega) | rfl)) ?_; clear hG; intro Γ hG
      refine t_pu hG (fun w hC => pu_add rfl rfl (by first | exact wrap_i64 (by omega) (by omega) | rfl)) ?_; clear hG; intro Γ hG
      refine t_pu hG (fun w hC => pu_iaddr_sla (j := 4 * k + 2) ha2 slt36 rfl rfl (by omega) (by omega)) ?_; clear hG; intro Γ hG
      refine t_pu hG (fun w hC => pu_load1 one5 rfl (H2 _ hC.st.base)) ?_; clear hG; intro Γ hG
      refine t_pu hG (fun w hC => p32_of8 tyI44 ⟨_, tyI5⟩ rfl) ?_; clear hG; intro Γ hG
      refine t_pu hG (fun w hC => p32_shl (m := 8) rfl rfl rfl) ?_; clear hG; intro Γ hG
      refine t_pu hG (fun w hC => p32_or rfl rfl) ?_; clear hG; intro Γ hG
      refine t_pu hG (fun w hC => pu_move rfl) ?_; clear hG; intro Γ hG
      refine t_pu hG (fun w hC => pu_move rfl) ?_; clear hG; intro Γ hG
      refine t_pu hG (fun w hC => pu_mul rfl rfl (by first | exact wrap_i64 (by omega) (by omega) | rfl)) ?_; clear hG; intro Γ hG
      refine t_pu hG (fun w hC => pu_add rfl rfl (by first | exact wrap_i64 (by omega) (by omega) | rfl)) ?_; clear hG; intro Γ hG
      refine t_pu hG (fun w hC => pu_iaddr_sla (j := 4 * k + 3) ha3 slt36 rfl rfl (by omega) (by omega)) ?_; clear hG; intro Γ hG
      refine t_pu hG (fun w hC => pu_load1 one5 rfl (H3 _ hC.st.base)) ?_; clear hG; intro Γ hG
      refine t_pu hG (fun w hC => p32_of8 tyI44 ⟨_, tyI5⟩ rfl) ?_; clear hG; intro Γ hG
      refine t_pu hG (fun w hC => p32_or rfl rfl) ?_; clear hG; intro Γ hG
      refine t_pu hG (fun w hC => pu_iaddr_arn art53 rfl rfl rfl (by omega)) ?_; clear hG; intro Γ hG
      refine t_end hG ?_; clear hG hF; intro a w hC hE hF hP; replace hS := hC.st; clear hC
      clear hE
      clear hP
      refine s_store (i := 0) hF hS rfl rfl rfl rfl sz44 rfl (by simp [wl_len]; omega) ?_; clear hS hF; intro w a hS hF
      refine c_nil ?_
      refine n_then ?_
      refine c_exit (x_then (x_here ?_))
      refine n_then ?_
      refine c_reg ?_
      refine s_pu hF (pu_move rfl) rfl ?_; clear hF; intro a hF
      refine s_pu hF (pu_add rfl rfl (by first | exact wrap_i64 (by omega) (by omega) | rfl)) rfl ?_; clear hF; intro a hF
      refine s_pu hF (pu_assign rfl) rfl ?_; clear hF; intro a hF
      refine c_nil ?_
      refine ⟨k + 1, ⟨by omega, hF.pick (.cons (k := 4) rfl <| .cons (k := 0) rfl <| .cons (k := 2) rfl <| .cons (k := 3) rfl <| .nil), ?_⟩, by omega⟩
      rw [show 0 + k * 1 = k by omega] at hS
      rw [spl_snoc v32 (wl bl k) 0 _ k (64 - k) (wl_len bl k) (by omega)] at hS
      have e : wl bl (k + 1) = wl bl k ++ [word bl k] := by rw [wl, if_pos (by omega)]
      rw [e, show 64 - (k + 1) = 64 - k - 1 by omega]
      exact hS
    · try simp only [decide_eq_true_eq, decide_eq_false_iff_not, Bool.not_eq_true', Bool.not_eq_false', Bool.not_eq_eq_eq_not, Bool.not_true, Bool.not_false] at hc12
      refine c_skip ?_
      refine n_then ?_
      refine c_seq ?_
      refine region_st 10 hF hS (allV_ne rfl) mix (by kernel_rfl) fun Γ hG => ?_
      refine t_pu hG (fun w hC => pu_move rfl) ?_; clear hG; intro Γ hG
      refine t_pu hG (fun w hC => pu_sub rfl rfl (by first | exact wrap_i64 (by omega) (by omega) | rfl)) ?_; clear hG; intro Γ hG
      refine t_pu hG (fun w hC => pu_iaddr_arn (j := k - 15) art53 rfl rfl (by omega) (by omega)) ?_; clear hG; intro Γ hG
      refine t_pu hG (fun w hC => o_load1 (i := 0) hC.st rfl one44 rfl (by rw [show 0 + (k - 15) * 1 = k - 15 by omega]; exact map_get_app v32 _ _ 0 (by rw [wl_len]; omega))) ?_; clear hG; intro Γ hG
      refine t_pu hG (fun w hC => pu_move rfl) ?_; clear hG; intro Γ hG
      refine t_pu hG (fun w hC => pu_sub rfl rfl (by first | exact wrap_i64 (by omega) (by omega) | rfl)) ?_; clear hG; intro Γ hG
      refine t_pu hG (fun w hC => pu_iaddr_arn (j := k - 2) art53 rfl rfl (by omega) (by omega)) ?_; clear hG; intro Γ hG
      refine t_pu hG (fun w hC => o_load1 (i := 0) hC.st rfl one44 rfl (by rw [show 0 + (k - 2) * 1 = k - 2 by omega]; exact map_get_app v32 _ _ 0 (by rw [wl_len]; omega))) ?_; clear hG; intro Γ hG
      refine t_pu hG (fun w hC => pu_assign rfl) ?_; clear hG; intro Γ hG
      refine t_pu hG (fun w hC => pu_assign rfl) ?_; clear hG; intro Γ hG
      refine t_end hG ?_; clear hG hF; intro a w hC hE hF hP; replace hS := hC.st; clear hC
      clear hE
      clear hP
      refine c_nil ?_
      refine n_then ?_
      refine region_st 29 hF hS (allV_ne rfl) mix (by kernel_rfl) fun Γ hG => ?_
      refine t_pu hG (fun w hC => pu_move rfl) ?_; clear hG; intro Γ hG
      refine t_pu hG (fun w hC => pu_move rfl) ?_; clear hG; intro Γ hG
      refine t_pu hG (fun w hC => pu_sub rfl rfl (by first | exact wrap_i64 (by omega) (by omega) | rfl)) ?_; clear hG; intro Γ hG
      refine t_pu hG (fun w hC => pu_iaddr_arn (j := k - 16) art53 rfl rfl (by omega) (by omega)) ?_; clear hG; intro Γ hG
      refine t_pu hG (fun w hC => o_load1 (i := 0) hC.st rfl one44 rfl (by rw [show 0 + (k - 16) * 1 = k - 16 by omega]; exact map_get_app v32 _ _ 0 (by rw [wl_len]; omega))) ?_; clear hG; intro Γ hG
      refine t_pu hG (fun w hC => pu_move rfl) ?_; clear hG; intro Γ hG
      refine t_callv hG ok26 rfl (fun w hS => (c_turn _ 7 (by omega) (by omega) _ _ hS.view)) ?_; clear hG; intro Γ hG
      refine t_pu hG (fun w hC => pu_move rfl) ?_; clear hG; intro Γ hG
      refine t_callv hG ok26 rfl (fun w hS => (c_turn _ 18 (by omega) (by omega) _ _ hS.view)) ?_; clear hG; intro Γ hG
      refine t_pu hG (fun w hC => p32_xor rfl rfl) ?_; clear hG; intro Γ hG
      refine t_pu hG (fun w hC => pu_move rfl) ?_; clear hG; intro Γ hG
      refine t_pu hG (fun w hC => p32_shr (m := 3) rfl rfl rfl) ?_; clear hG; intro Γ hG
      refine t_pu hG (fun w hC => p32_xor rfl rfl) ?_; clear hG; intro Γ hG
      refine t_pu hG (fun w hC => p32_add rfl rfl) ?_; clear hG; intro Γ hG
      refine t_pu hG (fun w hC => pu_move rfl) ?_; clear hG; intro Γ hG
      refine t_pu hG (fun w hC => pu_sub rfl rfl (by first | exact wrap_i64 (by omega) (by omega) | rfl)) ?_; clear hG; intro Γ hG
      refine t_pu hG (fun w hC => pu_iaddr_arn (j := k - 7) art53 rfl rfl (by omega) (by omega)) ?_; clear hG; intro Γ hG
      refine t_pu hG (fun w hC => o_load1 (i := 0) hC.st rfl one44 rfl (by rw [show 0 + (k - 7) * 1 = k - 7 by omega]; exact map_get_app v32 _ _ 0 (by rw [wl_len]; omega))) ?_; clear hG; intro Γ hG
      refine t_pu hG (fun w hC => p32_add rfl rfl) ?_; clear hG; intro Γ hG
      refine t_pu hG (fun w hC => pu_move rfl) ?_; clear hG; intro Γ hG
      refine t_callv hG ok26 rfl (fun w hS => (c_turn _ 17 (by omega) (by omega) _ _ hS.view)) ?_; clear hG; intro Γ hG
      refine t_pu hG (fun w hC => pu_move rfl) ?_; clear hG; intro Γ hG
      refine t_callv hG ok26 rfl (fun w hS => (c_turn _ 19 (by omega) (by omega) _ _ hS.view)) ?_; clear hG; intro Γ hG
      refine t_pu hG (fun w hC => p32_xor rfl rfl) ?_; clear hG; intro Γ hG
      refine t_pu hG (fun w hC => pu_move rfl) ?_; clear hG; intro Γ hG
      refine t_pu hG (fun w hC => p32_shr (m := 10) rfl rfl rfl) ?_; clear hG; intro Γ hG
      refine t_pu hG (fun w hC => p32_xor rfl rfl) ?_; clear hG; intro Γ hG
      refine t_pu hG (fun w hC => p32_add rfl rfl) ?_; clear hG; intro Γ hG
      refine t_pu hG (fun w hC => pu_iaddr_arn art53 rfl rfl rfl (by omega)) ?_; clear hG; intro Γ hG
      refine t_end hG ?_; clear hG hF; intro a w hC hE hF hP; replace hS := hC.st; clear hC
      clear hE
      clear hP
      refine s_store (i := 0) hF hS rfl rfl rfl rfl sz44 rfl (by simp [wl_len]; omega) ?_; clear hS hF; intro w a hS hF
      refine c_nil ?_
      refine n_block ?_
      refine n_then ?_
      refine c_reg ?_
      refine s_pu hF (pu_move rfl) rfl ?_; clear hF; intro a hF
      refine s_pu hF (pu_add rfl rfl (by first | exact wrap_i64 (by omega) (by omega) | rfl)) rfl ?_; clear hF; intro a hF
      refine s_pu hF (pu_assign rfl) rfl ?_; clear hF; intro a hF
      refine c_nil ?_
      refine ⟨k + 1, ⟨by omega, hF.pick (.cons (k := 4) rfl <| .cons (k := 0) rfl <| .cons (k := 2) rfl <| .cons (k := 3) rfl <| .nil), ?_⟩, by omega⟩
      rw [show 0 + k * 1 = k by omega] at hS
      rw [spl_snoc v32 (wl bl k) 0 _ k (64 - k) (wl_len bl k) (by omega)] at hS
      have e : wl bl (k + 1) = wl bl k ++ [wnext (wl bl k) k] := by rw [wl, if_neg (by omega)]
      rw [e, ← wnext_ref, show 64 - (k + 1) = 64 - k - 1 by omega]
      exact hS
  · try simp only [decide_eq_true_eq, decide_eq_false_iff_not, Bool.not_eq_true', Bool.not_eq_false', Bool.not_eq_eq_eq_not, Bool.not_true, Bool.not_false] at hc8
    obtain rfl : k = 64 := by omega
    rw [show 64 - 64 = 0 from rfl, List.replicate_zero, List.append_nil, show wl bl 64 = sched bl from rfl] at hS
    refine c_exit (x_then (x_then (x_here ?_)))
    refine n_then ?_
    refine c_seq ?_
    refine c_reg ?_
    refine s_pu hF (o_loadA (i := 0) (new := (sched bl).map v32) hS rfl (by rw [List.length_map, sched, wl_len]; exact agg53) rfl (by rw [List.drop_zero]; exact List.take_length)) rfl ?_; clear hF; intro a hF
    refine s_store (i := 1) (new := (sched bl).map v32) hF hS rfl rfl rfl rfl (by rw [List.length_map, sched, wl_len]; exact sz53) (allOne_map _ (fun _ => rfl) _) (by simp [sched, wl_len]) ?_; clear hS hF; intro w a hS hF
    rw [spl_all (by simp [sched, wl_len])] at hS
    refine c_nil ?_
    refine n_then ?_
    refine c_ret ?_
    exact f_ret hF rfl (.cell rfl (o_lvA (cs := (sched bl).map v32) (i := 1) hS rfl (by rw [List.length_map, sched, wl_len]; exact agg53)) (.nil)) (hS.retv rfl)
theorem c_RBlock (h : List (BitVec 32)) (hh : h.length = 8) (ad : Option Addr) (cap : Nat) (bl : List UInt8) (hbl : bl.length = 64) (w0 : World) (h0 : View) (hv : VLe h0 (Full w0)) (hb : SlC 5 1 (flatR fun b => [v8 b]) h0 (.slice ad 64 cap) bl) : Calls Try.prog 20 #[.agg (h.map v32).toArray, .slice ad 64 cap] w0 (Ret w0 h0 fun u _ => u = .agg ((mixS h bl).map v32).toArray) := by
  refine f_enter (args := [.agg (h.map v32).toArray, .slice ad 64 cap]) Try.func20 rfl Try.ntmps20 rfl fun a hF => ?_
  have hS := St.init w0 h0 hv
  refine c_seq ?_
  refine c_reg ?_
  refine s_box (cs := h.map v32) hF hS rfl rfl rfl ?_; clear hS hF; intro b0 w a hS hF
  refine s_alloc hF hS zero45 rfl ?_; clear hS hF; intro b1 w a hS hF
  refine c_nil ?_
  refine n_then ?_
  refine c_seq ?_
  refine c_reg ?_
  refine s_pu hF (pu_move rfl) rfl ?_; clear hF; intro a hF
  refine s_callv hF hS ok25 rfl (c_words ad cap bl hbl _ _ hS.view (hb.monoF hS.base_cv)) rfl ?_; clear hS hF; intro w a hS hF
  refine s_alloc hF hS zero53 rfl ?_; clear hS hF; intro b2 w a hS hF
  refine s_store (i := 0) (new := (sched bl).map v32) hF hS rfl rfl rfl rfl (by rw [List.length_map, sched, wl_len]; exact sz53) (allOne_map _ (fun _ => rfl) _) (by simp [sched, wl_len]) ?_; clear hS hF; intro w a hS hF
  rw [spl_all (by simp [sched, wl_len])] at hS
  refine c_nil ?_
  refine n_then ?_
  refine c_seq ?_
  refine c_reg ?_
  refine s_pu hF (o_loadA (i := 2) (new := h.map v32) hS rfl (by rw [List.length_map, hh]; exact agg45) rfl (by rw [List.drop_zero]; exact List.take_length)) rfl ?_; clear hF; intro a hF
  refine s_alloc hF hS zero45 rfl ?_; clear hS hF; intro b3 w a hS hF
  refine s_store (i := 0) (new := h.map v32) hF hS rfl rfl rfl rfl (by rw [List.length_map, hh]; exact sz45) (allOne_map _ (fun _ => rfl) _) (by simp [hh]) ?_; clear hS hF; intro w a hS hF
  rw [spl_all (by simp [hh])] at hS
  refine c_nil ?_
  refine n_then ?_
  refine c_seq ?_
  refine c_seq ?_
  refine c_reg ?_
  refine s_pu hF (pu_assign rfl) rfl ?_; clear hF; intro a hF
  refine c_nil ?_
  refine n_then ?_
  refine c_block ?_
  refine hS.cut fun O0 F0 hO0 hF0 hS => ?_
  subst hO0
  refine hF.cut (.cons (k := 7) rfl <| .nil) (.cons (k := 2) rfl <| .cons (k := 4) rfl <| .cons (k := 5) rfl <| .cons (k := 6) rfl <| .nil) fun L0 hL0 hF => ?_
  refine c_loop (α := Nat) (fun k a w => k ≤ 64 ∧ Fr a 111 ([(7, .val (.int .i64 k))] ++ L0) ∧ St w0 h0 [] w [(some b3, CellsC 45 ((rnds h bl k).map v32)), (some b2, CellsC 53 ((sched bl).map v32)), (some b1, CellsC 45 (List.replicate 8 (v32 0))), (some b0, CellsC 45 (h.map v32))] F0) (fun k => 64 - k) 0 (⟨by omega, hF, hS⟩) ?_
  subst hF0 hL0
  rintro k a w ⟨hk, hF, hS⟩
  obtain ⟨x0, x1, x2, x3, x4, x5, x6, x7, hx8⟩ := eight (rnds_len hh bl k)
  rw [hx8] at hS
  simp only [List.map_cons, List.map_nil] at hS
  refine c_seq ?_
  refine c_seq ?_
  refine c_reg ?_
  refine s_pu hF (pu_move rfl) rfl ?_; clear hF; intro a hF
  refine s_pu hF (pu_ilt rfl rfl) rfl ?_; clear hF; intro a hF
  refine c_nil ?_
  refine n_then ?_
  refine c_if hF rfl (fun hc17 => ?_) (fun hc17 => ?_)
  · try simp only [decide_eq_true_eq, decide_eq_false_iff_not, Bool.not_eq_true', Bool.not_eq_false', Bool.not_eq_eq_eq_not, Bool.not_true, Bool.not_false] at hc17
    refine c_skip ?_
    refine n_then ?_
    refine c_seq ?_
    refine c_block ?_
    refine c_seq ?_
    refine region_st 6 hF hS (allV_ne rfl) mix (by kernel_rfl) fun Γ hG => ?_
    refine t_pu hG (fun w hC => pu_iaddr_arn (j := 0) art45 rfl rfl rfl (by omega)) ?_; clear hG; intro Γ hG
    refine t_pu hG (fun w hC => o_load1 (i := 0) hC.st rfl one44 rfl rfl) ?_; clear hG; intro Γ hG
    refine t_pu hG (fun w hC => pu_iaddr_arn (j := 4) art45 rfl rfl rfl (by omega)) ?_; clear hG; intro Γ hG
    refine t_pu hG (fun w hC => o_load1 (i := 0) hC.st rfl one44 rfl rfl) ?_; clear hG; intro Γ hG
    refine t_pu hG (fun w hC => pu_assign rfl) ?_; clear hG; intro Γ hG
    refine t_pu hG (fun w hC => pu_assign rfl) ?_; clear hG; intro Γ hG
    refine t_end hG ?_; clear hG hF; intro a w hC hE hF hP; replace hS := hC.st; clear hC
    clear hE
    clear hP
    refine c_nil ?_
    refine n_then ?_
    refine c_seq ?_
    refine region_st 30 hF hS (allV_ne rfl) mix (by kernel_rfl) fun Γ hG => ?_
    refine t_pu hG (fun w hC => pu_iaddr_arn (j := 7) art45 rfl rfl rfl (by omega)) ?_; clear hG; intro Γ hG
    refine t_pu hG (fun w hC => o_load1 (i := 0) hC.st rfl one44 rfl rfl) ?_; clear hG; intro Γ hG
    refine t_pu hG (fun w hC => pu_move rfl) ?_; clear hG; intro Γ hG
    refine t_callv hG ok26 rfl (fun w hS => (c_turn _ 6 (by omega) (by omega) _ _ hS.view)) ?_; clear hG; intro Γ hG
    refine t_pu hG (fun w hC => pu_move rfl) ?_; clear hG; intro Γ hG
    refine t_callv hG ok26 rfl (fun w hS => (c_turn _ 11 (by omega) (by omega) _ _ hS.view)) ?_; clear hG; intro Γ hG
    refine t_pu hG (fun w hC => p32_xor rfl rfl) ?_; clear hG; intro Γ hG
    refine t_pu hG (fun w hC => pu_move rfl) ?_; clear hG; intro Γ hG
    refine t_callv hG ok26 rfl (fun w hS => (c_turn _ 25 (by omega) (by omega) _ _ hS.view)) ?_; clear hG; intro Γ hG
    refine t_pu hG (fun w hC => p32_xor rfl rfl) ?_; clear hG; intro Γ hG
    refine t_pu hG (fun w hC => p32_add rfl rfl) ?_; clear hG; intro Γ hG
    refine t_pu hG (fun w hC => pu_move rfl) ?_; clear hG; intro Γ hG
    refine t_pu hG (fun w hC => pu_iaddr_arn (j := 5) art45 rfl rfl rfl (by omega)) ?_; clear hG; intro Γ hG
    refine t_pu hG (fun w hC => o_load1 (i := 0) hC.st rfl one44 rfl rfl) ?_; clear hG; intro Γ hG
    refine t_pu hG (fun w hC => p32_and rfl rfl) ?_; clear hG; intro Γ hG
    refine t_pu hG (fun w hC => pu_move rfl) ?_; clear hG; intro Γ hG
    refine t_pu hG (fun w hC => p32_xor (a := 4294967295#32) rfl rfl) ?_; clear hG; intro Γ hG
    refine t_pu hG (fun w hC => pu_iaddr_arn (j := 6) art45 rfl rfl rfl (by omega)) ?_; clear hG; intro Γ hG
    refine t_pu hG (fun w hC => o_load1 (i := 0) hC.st rfl one44 rfl rfl) ?_; clear hG; intro Γ hG
    refine t_pu hG (fun w hC => p32_and rfl rfl) ?_; clear hG; intro Γ hG
    refine t_pu hG (fun w hC => p32_xor rfl rfl) ?_; clear hG; intro Γ hG
    refine t_pu hG (fun w hC => p32_add rfl rfl) ?_; clear hG; intro Γ hG
    refine t_pu hG (fun w hC => pu_move rfl) ?_; clear hG; intro Γ hG
    refine t_callv hG ok27 rfl (fun w hS => (c_k k (by omega) _ _ hS.view)) ?_; clear hG; intro Γ hG
    refine t_pu hG (fun w hC => p32_add rfl rfl) ?_; clear hG; intro Γ hG
    refine t_pu hG (fun w hC => pu_move rfl) ?_; clear hG; intro Γ hG
    refine t_pu hG (fun w hC => pu_iaddr_arn art53 rfl rfl rfl (by omega)) ?_; clear hG; intro Γ hG
    refine t_pu hG (fun w hC => o_load1 (i := 1) hC.st rfl one44 rfl (by rw [show 0 + k * 1 = k by omega]; exact map_get v32 (sched bl) 0 (by rw [sched, wl_len]; omega))) ?_; clear hG; intro Γ hG
    refine t_pu hG (fun w hC => p32_add rfl rfl) ?_; clear hG; intro Γ hG
    refine t_pu hG (fun w hC => pu_assign rfl) ?_; clear hG; intro Γ hG
    refine t_end hG ?_; clear hG hF; intro a w hC hE hF hP; replace hS := hC.st; clear hC
    clear hE
    clear hP
    refine c_nil ?_
    refine n_then ?_
    refine c_seq ?_
    refine region_st 25 hF hS (allV_ne rfl) mix (by kernel_rfl) fun Γ hG => ?_
    refine t_pu hG (fun w hC => pu_move rfl) ?_; clear hG; intro Γ hG
    refine t_callv hG ok26 rfl (fun w hS => (c_turn _ 2 (by omega) (by omega) _ _ hS.view)) ?_; clear hG; intro Γ hG
    refine t_pu hG (fun w hC => pu_move rfl) ?_; clear hG; intro Γ hG
    refine t_callv hG ok26 rfl (fun w hS => (c_turn _ 13 (by omega) (by omega) _ _ hS.view)) ?_; clear hG; intro Γ hG
    refine t_pu hG (fun w hC => p32_xor rfl rfl) ?_; clear hG; intro Γ hG
    refine t_pu hG (fun w hC => pu_move rfl) ?_; clear hG; intro Γ hG
    refine t_callv hG ok26 rfl (fun w hS => (c_turn _ 22 (by omega) (by omega) _ _ hS.view)) ?_; clear hG; intro Γ hG
    refine t_pu hG (fun w hC => p32_xor rfl rfl) ?_; clear hG; intro Γ hG
    refine t_pu hG (fun w hC => pu_move rfl) ?_; clear hG; intro Γ hG
    refine t_pu hG (fun w hC => pu_iaddr_arn (j := 1) art45 rfl rfl rfl (by omega)) ?_; clear hG; intro Γ hG
    refine t_pu hG (fun w hC => o_load1 (i := 0) hC.st rfl one44 rfl rfl) ?_; clear hG; intro Γ hG
    refine t_pu hG (fun w hC => p32_and rfl rfl) ?_; clear hG; intro Γ hG
    refine t_pu hG (fun w hC => pu_move rfl) ?_; clear hG; intro Γ hG
    refine t_pu hG (fun w hC => pu_iaddr_arn (j := 2) art45 rfl rfl rfl (by omega)) ?_; clear hG; intro Γ hG
    refine t_pu hG (fun w hC => o_load1 (i := 0) hC.st rfl one44 rfl rfl) ?_; clear hG; intro Γ hG
    refine t_pu hG (fun w hC => p32_and rfl rfl) ?_; clear hG; intro Γ hG
    refine t_pu hG (fun w hC => p32_xor rfl rfl) ?_; clear hG; intro Γ hG
    refine t_pu hG (fun w hC => pu_iaddr_arn (j := 1) art45 rfl rfl rfl (by omega)) ?_; clear hG; intro Γ hG
    refine t_pu hG (fun w hC => o_load1 (i := 0) hC.st rfl one44 rfl rfl) ?_; clear hG; intro Γ hG
    refine t_pu hG (fun w hC => pu_iaddr_arn (j := 2) art45 rfl rfl rfl (by omega)) ?_; clear hG; intro Γ hG
    refine t_pu hG (fun w hC => o_load1 (i := 0) hC.st rfl one44 rfl rfl) ?_; clear hG; intro Γ hG
    refine t_pu hG (fun w hC => p32_and rfl rfl) ?_; clear hG; intro Γ hG
    refine t_pu hG (fun w hC => p32_xor rfl rfl) ?_; clear hG; intro Γ hG
    refine t_pu hG (fun w hC => p32_add rfl rfl) ?_; clear hG; intro Γ hG
    refine t_pu hG (fun w hC => pu_assign rfl) ?_; clear hG; intro Γ hG
    refine t_end hG ?_; clear hG hF; intro a w hC hE hF hP; replace hS := hC.st; clear hC
    clear hE
    clear hP
    refine c_nil ?_
    refine n_then ?_
    refine c_reg ?_
    refine s_pu hF (pu_move rfl) rfl ?_; clear hF; intro a hF
    refine s_pu hF (pu_move rfl) rfl ?_; clear hF; intro a hF
    refine s_pu hF (p32_add rfl rfl) rfl ?_; clear hF; intro a hF
    refine s_pu hF (pu_iaddr_arn (j := 0) art45 rfl rfl rfl (by omega)) rfl ?_; clear hF; intro a hF
    refine s_pu hF (o_load1 (i := 0) hS rfl one44 rfl rfl) rfl ?_; clear hF; intro a hF
    refine s_pu hF (pu_iaddr_arn (j := 1) art45 rfl rfl rfl (by omega)) rfl ?_; clear hF; intro a hF
    refine s_pu hF (o_load1 (i := 0) hS rfl one44 rfl rfl) rfl ?_; clear hF; intro a hF
    refine s_pu hF (pu_iaddr_arn (j := 2) art45 rfl rfl rfl (by omega)) rfl ?_; clear hF; intro a hF
    refine s_pu hF (o_load1 (i := 0) hS rfl one44 rfl rfl) rfl ?_; clear hF; intro a hF
    refine s_pu hF (pu_iaddr_arn (j := 3) art45 rfl rfl rfl (by omega)) rfl ?_; clear hF; intro a hF
    refine s_pu hF (o_load1 (i := 0) hS rfl one44 rfl rfl) rfl ?_; clear hF; intro a hF
    refine s_pu hF (pu_move rfl) rfl ?_; clear hF; intro a hF
    refine s_pu hF (p32_add rfl rfl) rfl ?_; clear hF; intro a hF
    refine s_pu hF (pu_iaddr_arn (j := 4) art45 rfl rfl rfl (by omega)) rfl ?_; clear hF; intro a hF
    refine s_pu hF (o_load1 (i := 0) hS rfl one44 rfl rfl) rfl ?_; clear hF; intro a hF
    refine s_pu hF (pu_iaddr_arn (j := 5) art45 rfl rfl rfl (by omega)) rfl ?_; clear hF; intro a hF
    refine s_pu hF (o_load1 (i := 0) hS rfl one44 rfl rfl) rfl ?_; clear hF; intro a hF
    refine s_pu hF (pu_iaddr_arn (j := 6) art45 rfl rfl rfl (by omega)) rfl ?_; clear hF; intro a hF
    refine s_pu hF (o_load1 (i := 0) hS rfl one44 rfl rfl) rfl ?_; clear hF; intro a hF
    refine s_pu hF (pu_build_ar arrb45 rfl rfl) rfl ?_; clear hF; intro a hF
    refine s_store (i := 0) (new := (rndR [x0, x1, x2, x3, x4, x5, x6, x7] (K.getD k 0) ((sched bl).getD k 0)).map v32) hF hS rfl rfl rfl rfl (by exact sz45) (allOne_map _ (fun _ => rfl) _) (by simp [rndR]) ?_; clear hS hF; intro w a hS hF
    rw [spl_all (by simp [rndR])] at hS
    refine c_nil ?_
    refine n_block ?_
    refine n_then ?_
    refine c_reg ?_
    refine s_pu hF (pu_move rfl) rfl ?_; clear hF; intro a hF
    refine s_pu hF (pu_add rfl rfl (by first | exact wrap_i64 (by omega) (by omega) | rfl)) rfl ?_; clear hF; intro a hF
    refine s_pu hF (pu_assign rfl) rfl ?_; clear hF; intro a hF
    refine c_nil ?_
    have e : rnds h bl (k + 1) = rndR [x0, x1, x2, x3, x4, x5, x6, x7] (K.getD k 0) ((sched bl).getD k 0) := by rw [rnds, hx8, rnd_ref]
    refine ⟨k + 1, ⟨by omega, hF.pick (.cons (k := 7) rfl <| .cons (k := 2) rfl <| .cons (k := 4) rfl <| .cons (k := 5) rfl <| .cons (k := 6) rfl <| .nil), ?_⟩, by omega⟩
    rw [e]
    exact hS
  · try simp only [decide_eq_true_eq, decide_eq_false_iff_not, Bool.not_eq_true', Bool.not_eq_false', Bool.not_eq_eq_eq_not, Bool.not_true, Bool.not_false] at hc17
    obtain rfl : k = 64 := by omega
    have hS : St w0 h0 [] w [(some b3, CellsC 45 ((rnds h bl 64).map v32)), (some b2, CellsC 53 ((sched bl).map v32)), (some b1, CellsC 45 (List.replicate 8 (v32 0))), (some b0, CellsC 45 (h.map v32))] (fun _ => True) := by rw [hx8]; exact hS
    refine c_exit (x_then (x_then (x_here ?_)))
    refine n_then ?_
    refine c_seq ?_
    refine c_seq ?_
    refine c_reg ?_
    refine s_pu hF (pu_assign rfl) rfl ?_; clear hF; intro a hF
    refine c_nil ?_
    refine n_then ?_
    refine c_block ?_
    refine hS.cut fun O1 F1 hO1 hF1 hS => ?_
    subst hO1
    refine hF.cut (.cons (k := 12) rfl <| .nil) (.cons (k := 2) rfl <| .cons (k := 4) rfl <| .cons (k := 6) rfl <| .nil) fun L1 hL1 hF => ?_
    refine c_loop (α := Nat) (fun k a w => k ≤ 8 ∧ Fr a 111 ([(12, .val (.int .i64 k))] ++ L1) ∧ St w0 h0 [] w [(some b3, CellsC 45 ((rnds h bl 64).map v32)), (some b2, CellsC 53 ((sched bl).map v32)), (some b1, CellsC 45 (List.replicate 8 (v32 0))), (some b0, CellsC 45 ((addN h (rnds h bl 64) k).map v32))] F1) (fun k => 8 - k) 0 (⟨by omega, hF, hS⟩) ?_
    subst hF1 hL1
    rintro k a w ⟨hk, hF, hS⟩
    refine c_seq ?_
    refine c_seq ?_
    refine c_reg ?_
    refine s_pu hF (pu_move rfl) rfl ?_; clear hF; intro a hF
    refine s_pu hF (pu_ilt rfl rfl) rfl ?_; clear hF; intro a hF
    refine c_nil ?_
    refine n_then ?_
    refine c_if hF rfl (fun hc98 => ?_) (fun hc98 => ?_)
    · try simp only [decide_eq_true_eq, decide_eq_false_iff_not, Bool.not_eq_true', Bool.not_eq_false', Bool.not_eq_eq_eq_not, Bool.not_true, Bool.not_false] at hc98
      refine c_skip ?_
      refine n_then ?_
      refine c_seq ?_
      refine c_block ?_
      refine region_st 9 hF hS (allV_ne rfl) mix (by kernel_rfl) fun Γ hG => ?_
      refine t_pu hG (fun w hC => pu_move rfl) ?_; clear hG; intro Γ hG
      refine t_pu hG (fun w hC => pu_move rfl) ?_; clear hG; intro Γ hG
      refine t_pu hG (fun w hC => pu_iaddr_arn art45 rfl rfl rfl (by omega)) ?_; clear hG; intro Γ hG
      refine t_pu hG (fun w hC => o_load1 (i := 3) hC.st rfl one44 rfl (by rw [show 0 + k * 1 = k by omega, map_get v32 _ 0 (by rw [addN_len hh (rnds_len hh bl 64) (by omega)]; omega), addN_get hh (rnds_len hh bl 64) (by omega)])) ?_; clear hG; intro Γ hG
      refine t_pu hG (fun w hC => pu_move rfl) ?_; clear hG; intro Γ hG
      refine t_pu hG (fun w hC => pu_iaddr_arn art45 rfl rfl rfl (by omega)) ?_; clear hG; intro Γ hG
      refine t_pu hG (fun w hC => o_load1 (i := 0) hC.st rfl one44 rfl (by rw [show 0 + k * 1 = k by omega]; exact map_get v32 (rnds h bl 64) 0 (by rw [rnds_len hh]; omega))) ?_; clear hG; intro Γ hG
      refine t_pu hG (fun w hC => p32_add rfl rfl) ?_; clear hG; intro Γ hG
      refine t_pu hG (fun w hC => pu_iaddr_arn art45 rfl rfl rfl (by omega)) ?_; clear hG; intro Γ hG
      refine t_end hG ?_; clear hG hF; intro a w hC hE hF hP; replace hS := hC.st; clear hC
      clear hE
      clear hP
      refine s_store (i := 3) hF hS rfl rfl rfl rfl sz44 rfl (by rw [List.length_map, addN_len hh (rnds_len hh bl 64) (by omega)]; simp; omega) ?_; clear hS hF; intro w a hS hF
      rw [show 0 + k * 1 = k by omega, spl_set v32 _ _ k (by rw [addN_len hh (rnds_len hh bl 64) (by omega)]; omega), addN_set hh (rnds_len hh bl 64) (by omega)] at hS
      refine c_nil ?_
      refine n_block ?_
      refine n_then ?_
      refine c_reg ?_
      refine s_pu hF (pu_move rfl) rfl ?_; clear hF; intro a hF
      refine s_pu hF (pu_add rfl rfl (by first | exact wrap_i64 (by omega) (by omega) | rfl)) rfl ?_; clear hF; intro a hF
      refine s_pu hF (pu_assign rfl) rfl ?_; clear hF; intro a hF
      refine c_nil ?_
      exact ⟨k + 1, ⟨by omega, hF.pick (.cons (k := 12) rfl <| .cons (k := 2) rfl <| .cons (k := 4) rfl <| .cons (k := 6) rfl <| .nil), hS⟩, by omega⟩
    · try simp only [decide_eq_true_eq, decide_eq_false_iff_not, Bool.not_eq_true', Bool.not_eq_false', Bool.not_eq_eq_eq_not, Bool.not_true, Bool.not_false] at hc98
      obtain rfl : k = 8 := by omega
      rw [addN_all hh (rnds_len hh bl 64)] at hS
      refine c_exit (x_then (x_then (x_here ?_)))
      refine n_then ?_
      refine c_seq ?_
      refine c_reg ?_
      refine s_pu hF (o_loadA (i := 3) (new := (mixS h bl).map v32) hS rfl (by rw [List.length_map, mixS_len hh]; exact agg45) rfl (by rw [List.drop_zero]; exact List.take_length)) rfl ?_; clear hF; intro a hF
      refine s_store (i := 2) (new := (mixS h bl).map v32) hF hS rfl rfl rfl rfl (by rw [List.length_map, mixS_len hh]; exact sz45) (allOne_map _ (fun _ => rfl) _) (by simp [mixS_len hh]) ?_; clear hS hF; intro w a hS hF
      rw [spl_all (by simp [mixS_len hh])] at hS
      refine c_nil ?_
      refine n_then ?_
      refine c_ret ?_
      exact f_ret hF rfl (.cell rfl (o_lvA (cs := (mixS h bl).map v32) (i := 2) hS rfl (by rw [List.length_map, mixS_len hh]; exact agg45)) (.nil)) (hS.retv rfl)
theorem c_RSum (l : List UInt8) (hl : l.length ≤ 900000000) (w0 : World) (h0 : View) (hv : VLe h0 (Full w0))  : Calls Try.prog 12 #[vs l] w0 (Ret w0 h0 fun u _ => u = vs (dig l)) := by
  refine f_enter (args := [vs l]) Try.func12 rfl Try.ntmps12 rfl fun a hF => ?_
  have hS := St.init w0 h0 hv
  have hXl : (l ++ pad l.length).length ≤ 900000100 := by have := padz_lt l.length; simp [pad, len8]; omega
  refine c_seq ?_
  refine c_reg ?_
  refine s_pu hF (pu_assign rfl) rfl ?_; clear hF; intro a hF
  refine c_nil ?_
  refine n_then ?_
  refine c_seq ?_
  refine c_reg ?_
  refine s_pu hF (pu_build_ar (cs := H0.map v32) (vsl := H0.map v32) arrb45 (by kernel_rfl) (by kernel_rfl)) rfl ?_; clear hF; intro a hF
  refine s_alloc hF hS zero45 rfl ?_; clear hS hF; intro b0 w a hS hF
  refine s_store (i := 0) (new := H0.map v32) hF hS rfl rfl rfl rfl (by exact sz45) (allOne_map _ (fun _ => rfl) _) (by simp [H0]) ?_; clear hS hF; intro w a hS hF
  rw [spl_all (by simp [H0])] at hS
  refine c_nil ?_
  refine n_then ?_
  refine c_seq ?_
  refine c_reg ?_
  refine s_pu hF (pu_move rfl) rfl ?_; clear hF; intro a hF
  refine s_callB hF hS ok19 rfl (c_whole l hl _ _ (VLe.refl _)) rfl ?_; clear hS hF; intro a0 nn c w a hnn hS hF
  have hnn : nn = (l ++ pad l.length).length := by simpa using hnn
  refine s_pu hF (pu_assign rfl) rfl ?_; clear hF; intro a hF
  refine c_nil ?_
  refine n_then ?_
  refine c_seq ?_
  refine c_seq ?_
  refine c_reg ?_
  refine s_pu hF (pu_assign rfl) rfl ?_; clear hF; intro a hF
  refine c_nil ?_
  refine n_then ?_
  refine c_block ?_
  refine hS.cut fun O0 F0 hO0 hF0 hS => ?_
  subst hO0
  have hle := (BufC.le (hS.own _ (List.mem_of_getElem? (rfl : _[0]? = some _)))).2.1
  refine hF.cut (.cons (k := 5) rfl <| .nil) (.cons (k := 3) rfl <| .cons (k := 4) rfl <| .nil) fun L0 hL0 hF => ?_
  refine c_loop (α := Nat) (fun k a w => 64 * k ≤ (l ++ pad l.length).length ∧ Fr a 53 ([(5, .val (.int .i64 ((64 * k : Nat) : Int)))] ++ L0) ∧ St w0 h0 [] w [bufE 5 1 (.slice a0 nn c) ((l ++ pad l.length).map v8), (some b0, CellsC 45 ((blks l k).map v32))] F0) (fun k => (l ++ pad l.length).length - k) 0 (⟨by omega, hF, hS⟩) ?_
  subst hF0 hL0
  rintro k a w ⟨hk, hF, hS⟩
  refine c_seq ?_
  refine c_seq ?_
  refine c_reg ?_
  refine s_pu hF (pu_move rfl) rfl ?_; clear hF; intro a hF
  refine s_pu hF (pu_add rfl rfl (by first | exact wrap_i64 (by omega) (by omega) | rfl)) rfl ?_; clear hF; intro a hF
  refine s_pu hF (pu_move rfl) rfl ?_; clear hF; intro a hF
  refine s_pu hF (pu_len_sl tyL36 rfl rfl) rfl ?_; clear hF; intro a hF
  refine s_pu hF (pu_ile rfl rfl) rfl ?_; clear hF; intro a hF
  refine c_nil ?_
  refine n_then ?_
  refine c_if hF rfl (fun hc15 => ?_) (fun hc15 => ?_)
  · try simp only [decide_eq_true_eq, decide_eq_false_iff_not, Bool.not_eq_true', Bool.not_eq_false', Bool.not_eq_eq_eq_not, Bool.not_true, Bool.not_false] at hc15
    refine c_skip ?_
    refine n_then ?_
    refine c_seq ?_
    refine c_block ?_
    refine region_st 7 hF hS (allV_ne rfl) mix (by kernel_rfl) fun Γ hG => ?_
    refine t_pu hG (fun w hC => o_loadA (i := 1) (new := (blks l k).map v32) hC.st rfl (by rw [List.length_map, blks_len]; exact agg45) rfl (by rw [List.drop_zero]; exact List.take_length)) ?_; clear hG; intro Γ hG
    refine t_pu hG (fun w hC => pu_move rfl) ?_; clear hG; intro Γ hG
    refine t_pu hG (fun w hC => pu_move rfl) ?_; clear hG; intro Γ hG
    refine t_pu hG (fun w hC => pu_move rfl) ?_; clear hG; intro Γ hG
    refine t_pu hG (fun w hC => pu_add rfl rfl (by first | exact wrap_i64 (by omega) (by omega) | rfl)) ?_; clear hG; intro Γ hG
    refine t_pu hG (fun w hC => pu_sl_fton (p := 64 * k) (q := 64 * k + 64) (m := 64) slt36 rfl rfl rfl rfl (by omega) (by omega) (by omega) (by omega)) ?_; clear hG; intro Γ hG
    refine t_calld hG ok20 rfl (fun w1 hS1 => ⟨Full w1, c_RBlock (blks l k) (blks_len l k) _ _ _ (by rw [List.length_take, List.length_drop]; omega) w1 (Full w1) (VLe.refl _) (hS1.bufPart (i := 0) (64 * k) (64 * k + 64) rfl (by omega) (by omega) (by omega))⟩) ?_; clear hG; intro Γ hG
    refine t_end hG ?_; clear hG hF; intro a w hC hE hF hP; replace hS := hC.st; clear hC
    clear hE
    clear hP
    refine s_store (i := 1) (new := (mixS (blks l k) (((l ++ pad l.length).drop (64 * k)).take 64)).map v32) hF hS rfl rfl rfl rfl (by rw [List.length_map, mixS_len (blks_len l k)]; exact sz45) (allOne_map _ (fun _ => rfl) _) (by simp [mixS_len (blks_len l k), blks_len]) ?_; clear hS hF; intro w a hS hF
    rw [spl_all (by simp [mixS_len (blks_len l k), blks_len]), blks_step l k (by omega)] at hS
    refine c_nil ?_
    refine n_block ?_
    refine n_then ?_
    refine c_reg ?_
    refine s_pu hF (pu_move rfl) rfl ?_; clear hF; intro a hF
    refine s_pu hF (pu_add rfl rfl (by first | exact wrap_i64 (by omega) (by omega) | rfl)) rfl ?_; clear hF; intro a hF
    refine s_pu hF (pu_assign rfl) rfl ?_; clear hF; intro a hF
    refine c_nil ?_
    have e : ((64 * k : Nat) : Int) + 64 = ((64 * (k + 1) : Nat) : Int) := by omega
    rw [e] at hF
    exact ⟨k + 1, ⟨by omega, hF.pick (.cons (k := 5) rfl <| .cons (k := 3) rfl <| .cons (k := 4) rfl <| .nil), hS⟩, by omega⟩
  · try simp only [decide_eq_true_eq, decide_eq_false_iff_not, Bool.not_eq_true', Bool.not_eq_false', Bool.not_eq_eq_eq_not, Bool.not_true, Bool.not_false] at hc15
    have hX := blks_all l k (by omega) (by omega)
    obtain ⟨H8, hH8, hl8⟩ : ∃ H, blks l k = H ∧ H.length = 8 := ⟨_, rfl, blks_len l k⟩
    rw [hH8] at hS hX
    refine c_exit (x_then (x_then (x_here ?_)))
    refine n_then ?_
    refine c_seq ?_
    refine c_reg ?_
    refine s_pu hF (pu_assign rfl) rfl ?_; clear hF; intro a hF
    replace hS := hS.newNil 5 1
    refine c_nil ?_
    refine n_then ?_
    refine c_seq ?_
    refine c_seq ?_
    refine c_reg ?_
    refine s_pu hF (pu_assign rfl) rfl ?_; clear hF; intro a hF
    refine c_nil ?_
    refine n_then ?_
    refine c_block ?_
    refine hS.cut fun O1 F1 hO1 hF1 hS => ?_
    subst hO1
    refine hF.cut (.cons (k := 6) rfl <| .cons (k := 7) rfl <| .nil) (.cons (k := 3) rfl <| .nil) fun L1 hL1 hF => ?_
    refine c_loop (α := Nat) (fun k a w => ∃ a1 n1 c1, k ≤ 8 ∧ Fr a 53 ([(6, .val (.slice a1 n1 c1)), (7, .val (.int .i64 k))] ++ L1) ∧ St w0 h0 [] w [bufE 5 1 (.slice a1 n1 c1) ((outS (H8.take k)).map v8), bufE 5 1 (.slice a0 nn c) ((l ++ pad l.length).map v8), (some b0, CellsC 45 (H8.map v32))] F1) (fun k => 8 - k) 0 (⟨_, _, _, by omega, hF, hS⟩) ?_
    subst hF1 hL1
    rintro k a w ⟨a1, n1, c1, hk, hF, hS⟩
    refine c_seq ?_
    refine c_seq ?_
    refine c_reg ?_
    refine s_pu hF (pu_move rfl) rfl ?_; clear hF; intro a hF
    refine s_pu hF (pu_ilt rfl rfl) rfl ?_; clear hF; intro a hF
    refine c_nil ?_
    refine n_then ?_
    refine c_if hF rfl (fun hc26 => ?_) (fun hc26 => ?_)
    · try simp only [decide_eq_true_eq, decide_eq_false_iff_not, Bool.not_eq_true', Bool.not_eq_false', Bool.not_eq_eq_eq_not, Bool.not_true, Bool.not_false] at hc26
      refine c_skip ?_
      refine n_then ?_
      refine c_seq ?_
      refine c_block ?_
      refine region_st 21 hF hS (allV_ne rfl) mix (by kernel_rfl) fun Γ hG => ?_
      refine t_pu hG (fun w hC => pu_move rfl) ?_; clear hG; intro Γ hG
      refine t_pu hG (fun w hC => pu_move rfl) ?_; clear hG; intro Γ hG
      refine t_pu hG (fun w hC => pu_iaddr_arn art45 rfl rfl rfl (by omega)) ?_; clear hG; intro Γ hG
      refine t_pu hG (fun w hC => o_load1 (i := 2) hC.st rfl one44 rfl (by rw [show 0 + k * 1 = k by omega]; exact map_get v32 H8 0 (by omega))) ?_; clear hG; intro Γ hG
      refine t_pu hG (fun w hC => p32_shr (m := 24) rfl rfl rfl) ?_; clear hG; intro Γ hG
      refine t_pu hG (fun w hC => p8_of32 tyI5 ⟨_, tyI44⟩ rfl) ?_; clear hG; intro Γ hG
      refine t_pu hG (fun w hC => pu_move rfl) ?_; clear hG; intro Γ hG
      refine t_pu hG (fun w hC => pu_iaddr_arn art45 rfl rfl rfl (by omega)) ?_; clear hG; intro Γ hG
      refine t_pu hG (fun w hC => o_load1 (i := 2) hC.st rfl one44 rfl (by rw [show 0 + k * 1 = k by omega]; exact map_get v32 H8 0 (by omega))) ?_; clear hG; intro Γ hG
      refine t_pu hG (fun w hC => p32_shr (m := 16) rfl rfl rfl) ?_; clear hG; intro Γ hG
      refine t_pu hG (fun w hC => p8_of32 tyI5 ⟨_, tyI44⟩ rfl) ?_; clear hG; intro Γ hG
      refine t_pu hG (fun w hC => pu_move rfl) ?_; clear hG; intro Γ hG
      refine t_pu hG (fun w hC => pu_iaddr_arn art45 rfl rfl rfl (by omega)) ?_; clear hG; intro Γ hG
      refine t_pu hG (fun w hC => o_load1 (i := 2) hC.st rfl one44 rfl (by rw [show 0 + k * 1 = k by omega]; exact map_get v32 H8 0 (by omega))) ?_; clear hG; intro Γ hG
      refine t_pu hG (fun w hC => p32_shr (m := 8) rfl rfl rfl) ?_; clear hG; intro Γ hG
      refine t_pu hG (fun w hC => p8_of32 tyI5 ⟨_, tyI44⟩ rfl) ?_; clear hG; intro Γ hG
      refine t_pu hG (fun w hC => pu_move rfl) ?_; clear hG; intro Γ hG
      refine t_pu hG (fun w hC => pu_iaddr_arn art45 rfl rfl rfl (by omega)) ?_; clear hG; intro Γ hG
      refine t_pu hG (fun w hC => o_load1 (i := 2) hC.st rfl one44 rfl (by rw [show 0 + k * 1 = k by omega]; exact map_get v32 H8 0 (by omega))) ?_; clear hG; intro Γ hG
      refine t_pu hG (fun w hC => p8_of32 tyI5 ⟨_, tyI44⟩ rfl) ?_; clear hG; intro Γ hG
      refine t_build (xs := [.tmp 34, .tmp 39, .tmp 44, .tmp 48]) hG slt_b36 rfl rfl (by simp [Value.cells]) (by decide) ?_; clear hG; intro Γ hG
      refine t_end hG ?_; clear hG hF; intro a w hC hE hF hP; replace hS := hC.st; clear hC
      clear hE
      obtain ⟨br49, hvr, hrow49⟩ := hP 49 _ rfl; replace hF := hF.openP hvr; clear hvr
      clear hP
      refine s_append (i := 0) hF hS rfl slt_a36_36 rfl rfl (Src.own hrow49.2 rfl rfl) (by simp [cellsL, Value.cells, outS_len]; omega) rfl ?_; clear hS hF; intro a0 nn c0 w a hnn hS hF
      refine s_pu hF (pu_assign rfl) rfl ?_; clear hF; intro a hF
      refine c_nil ?_
      refine n_block ?_
      refine n_then ?_
      refine c_reg ?_
      refine s_pu hF (pu_move rfl) rfl ?_; clear hF; intro a hF
      refine s_pu hF (pu_add rfl rfl (by first | exact wrap_i64 (by omega) (by omega) | rfl)) rfl ?_; clear hF; intro a hF
      refine s_pu hF (pu_assign rfl) rfl ?_; clear hF; intro a hF
      refine c_nil ?_
      refine ⟨k + 1, ⟨_, _, _, by omega, hF.pick (.cons (k := 6) rfl <| .cons (k := 7) rfl <| .cons (k := 3) rfl <| .nil), ?_⟩, by omega⟩
      rw [out_step _ k (by omega)]
      exact hS
    · try simp only [decide_eq_true_eq, decide_eq_false_iff_not, Bool.not_eq_true', Bool.not_eq_false', Bool.not_eq_eq_eq_not, Bool.not_true, Bool.not_false] at hc26
      obtain rfl : k = 8 := by omega
      rw [List.take_of_length_le (by omega)] at hS
      refine c_exit (x_then (x_then (x_here ?_)))
      refine n_then ?_
      refine c_seq ?_
      refine c_reg ?_
      refine s_pu hF (pu_move rfl) rfl ?_; clear hF; intro a hF
      refine s_pu hF (pu_tostr tyL36 tyI5 tyS9 rfl rfl (buf_str (i := 0) hS rfl)) rfl ?_; clear hF; intro a hF
      refine s_pu hF (pu_assign rfl) rfl ?_; clear hF; intro a hF
      refine c_nil ?_
      refine n_then ?_
      refine c_ret ?_
      exact f_ret hF rfl (.tmp rfl (.nil)) (hS.retv (by show vs (outS H8) = _; rw [hX]))
theorem c_RLink (x y : List UInt8) (hsz : x.length + y.length ≤ 900000000) (w0 : World) (h0 : View) (hv : VLe h0 (Full w0))  : Calls Try.prog 24 #[vs x, vs y] w0 (Ret w0 h0 fun u _ => u = vs (linkS x y)) := by
  refine f_enter (args := [vs x, vs y]) Try.func24 rfl Try.ntmps24 rfl fun a hF => ?_
  have hS := St.init w0 h0 hv
  refine c_seq ?_
  refine c_reg ?_
  refine s_pu hF (pu_assign rfl) rfl ?_; clear hF; intro a hF
  refine c_nil ?_
  refine n_then ?_
  refine c_seq ?_
  refine c_reg ?_
  refine s_pu hF (pu_move rfl) rfl ?_; clear hF; intro a hF
  refine s_pu hF (pu_move rfl) rfl ?_; clear hF; intro a hF
  refine s_pu hF (pu_cat rfl rfl (by omega)) rfl ?_; clear hF; intro a hF
  refine s_callv hF hS ok12 rfl (c_RSum (x ++ y) (by rw [List.length_append]; omega) _ _ hS.view) rfl ?_; clear hS hF; intro w a hS hF
  refine s_pu hF (pu_assign rfl) rfl ?_; clear hF; intro a hF
  refine c_nil ?_
  refine n_then ?_
  refine c_ret ?_
  exact f_ret hF rfl (.tmp rfl (.nil)) (hS.retv rfl)
theorem c_RChain (x : List UInt8) (hx : x.length ≤ 1000000) (ad : Option Addr) (cap : Nat) (l : List (List UInt8)) (hsz : ∀ s ∈ l, s.length ≤ 1000000) (hcnt : l.length ≤ 900000000) (w0 : World) (h0 : View) (hv : VLe h0 (Full w0)) (hb : SlC 9 1 (flatR fun s => [vs s]) h0 (.slice ad l.length cap) l) : Calls Try.prog 16 #[vs x, .slice ad l.length cap] w0 (Ret w0 h0 fun u _ => u = vs (chainS x l)) := by
  refine f_enter (args := [vs x, .slice ad l.length cap]) Try.func16 rfl Try.ntmps16 rfl fun a hF => ?_
  have hS := St.init w0 h0 hv
  refine c_seq ?_
  refine c_reg ?_
  refine s_pu hF (pu_assign rfl) rfl ?_; clear hF; intro a hF
  refine c_nil ?_
  refine n_then ?_
  refine c_seq ?_
  refine c_seq ?_
  refine c_reg ?_
  refine s_pu hF (pu_assign rfl) rfl ?_; clear hF; intro a hF
  refine c_nil ?_
  refine n_then ?_
  refine c_block ?_
  refine hS.cut fun O0 F0 hO0 hF0 hS => ?_
  refine hF.cut (.cons (k := 0) rfl <| .cons (k := 5) rfl <| .nil) (.cons (k := 1) rfl <| .nil) fun L0 hL0 hF => ?_
  refine c_loop (α := Nat) (fun k a w => k ≤ l.length ∧ Fr a 19 ([(0, .val (vs (chainS x (l.take k)))), (5, .val (.int .i64 k))] ++ L0) ∧ St w0 h0 [] w O0 F0) (fun k => l.length - k) 0 (⟨by omega, hF, hS⟩) ?_
  subst hO0 hF0 hL0
  rintro k a w ⟨hk, hF, hS⟩
  refine c_seq ?_
  refine c_seq ?_
  refine c_reg ?_
  refine s_pu hF (pu_move rfl) rfl ?_; clear hF; intro a hF
  refine s_pu hF (pu_move rfl) rfl ?_; clear hF; intro a hF
  refine s_pu hF (pu_len_sl tyL22 rfl rfl) rfl ?_; clear hF; intro a hF
  refine s_pu hF (pu_ilt rfl rfl) rfl ?_; clear hF; intro a hF
  refine c_nil ?_
  refine n_then ?_
  refine c_if hF rfl (fun hc9 => ?_) (fun hc9 => ?_)
  · try simp only [decide_eq_true_eq, decide_eq_false_iff_not, Bool.not_eq_true', Bool.not_eq_false', Bool.not_eq_eq_eq_not, Bool.not_true, Bool.not_false] at hc9
    obtain ⟨g, o, ha, hH⟩ := hb.atD [] (i := k) (by omega)
    refine c_skip ?_
    refine n_then ?_
    refine c_seq ?_
    refine c_block ?_
    refine c_reg ?_
    refine s_pu hF (pu_move rfl) rfl ?_; clear hF; intro a hF
    refine s_pu hF (pu_move rfl) rfl ?_; clear hF; intro a hF
    refine s_pu hF (pu_move rfl) rfl ?_; clear hF; intro a hF
    refine s_pu hF (pu_iaddr_sla (j := k) ha slt22 rfl rfl (by omega) (by omega)) rfl ?_; clear hF; intro a hF
    refine s_pu hF (pu_load1 one9 rfl (hH _ hS.base)) rfl ?_; clear hF; intro a hF
    refine s_callv hF hS ok24 rfl (c_RLink _ _ (by have := chain_len x (l.take k) 1000000 hx (by omega); have := hsz _ (getD_mem l k [] (by omega)); omega) _ _ hS.view) rfl ?_; clear hS hF; intro w a hS hF
    refine s_pu hF (pu_assign rfl) rfl ?_; clear hF; intro a hF
    refine c_nil ?_
    refine n_block ?_
    refine n_then ?_
    refine c_reg ?_
    refine s_pu hF (pu_move rfl) rfl ?_; clear hF; intro a hF
    refine s_pu hF (pu_add rfl rfl (by first | exact wrap_i64 (by omega) (by omega) | rfl)) rfl ?_; clear hF; intro a hF
    refine s_pu hF (pu_assign rfl) rfl ?_; clear hF; intro a hF
    refine c_nil ?_
    rw [← chain_step x l k (by omega)] at hF
    exact ⟨k + 1, ⟨by omega, hF.pick (.cons (k := 0) rfl <| .cons (k := 5) rfl <| .cons (k := 1) rfl <| .nil), hS⟩, by omega⟩
  · try simp only [decide_eq_true_eq, decide_eq_false_iff_not, Bool.not_eq_true', Bool.not_eq_false', Bool.not_eq_eq_eq_not, Bool.not_true, Bool.not_false] at hc9
    obtain rfl : k = l.length := by omega
    rw [List.take_length] at hF
    refine c_exit (x_then (x_then (x_here ?_)))
    refine n_then ?_
    refine c_seq ?_
    refine c_reg ?_
    refine s_pu hF (pu_move rfl) rfl ?_; clear hF; intro a hF
    refine s_pu hF (pu_assign rfl) rfl ?_; clear hF; intro a hF
    refine c_nil ?_
    refine n_then ?_
    refine c_ret ?_
    exact f_ret hF rfl (.tmp rfl (.nil)) (hS.retv rfl)
end Go.Proofs.Ytnmhenglealadaa
namespace Go.Proofs.Ytnmhenglealadaa
open Go Go.Dx Go.RowKit
theorem agg29 : AggT Try.prog 29 4 := AggT.of (by kernel_rfl) (by kernel_rfl)
theorem fld29_0 : FldAt Try.prog 29 0 0 := FldAt.of (n := 0) (by kernel_rfl)
theorem fld29_1 : FldAt Try.prog 29 1 1 := FldAt.of (n := 0) (by kernel_rfl)
theorem fld29_2 : FldAt Try.prog 29 2 2 := FldAt.of (n := 0) (by kernel_rfl)
theorem fld29_3 : FldAt Try.prog 29 3 3 := FldAt.of (n := 0) (by kernel_rfl)
theorem ok10 : CallOk Try.prog 10 := CallOk.of (by kernel_rfl)
theorem ok13 : CallOk Try.prog 13 := CallOk.of (by kernel_rfl)
theorem ok14 : CallOk Try.prog 14 := CallOk.of (by kernel_rfl)
theorem ok17 : CallOk Try.prog 17 := CallOk.of (by kernel_rfl)
theorem ok18 : CallOk Try.prog 18 := CallOk.of (by kernel_rfl)
theorem ok22 : CallOk Try.prog 22 := CallOk.of (by kernel_rfl)
theorem strb29 : StrB Try.prog 29 [(0, 1), (1, 1), (2, 1), (3, 1)] [.int .i64 0, .int .i64 0, vs [], vs []] := StrB.of (by kernel_rfl) (by kernel_rfl)
theorem sz29 : SzIs Try.prog 29 4 := SzIs.of (by kernel_rfl)
theorem zero29 : ZeroT Try.prog 29 [.int .i64 0, .int .i64 0, vs [], vs []] := ZeroT.of (by kernel_rfl)
theorem eqM : EqT Try.prog 29 mkC := EqT.of [(0, .i .i64), (1, .i .i64), (2, .s), (3, .s)] (by kernel_rfl) (by kernel_rfl) (by kernel_rfl) (by kernel_rfl)
  (fun a b s hs => by
    simp only [List.mem_cons, List.mem_nil_iff, or_false] at hs
    rcases hs with rfl | rfl | rfl | rfl
    all_goals exact ⟨_, _, rfl, rfl, ⟨_, rfl⟩, ⟨_, rfl⟩⟩)
  (fun a b => by
    obtain ⟨k, n, s, t⟩ := a
    obtain ⟨k', n', s', t'⟩ := b
    simp [mkC, eqC, vs, Bool.and_assoc])
theorem z8 : ∃ i, Try.prog.info? 5 = some i ∧ i.zero = some (.int .u8 0) ∧ i.size = 1 ∧ i.bytes = 1 := by
  have h : (Try.prog.info? 5).map (fun i => (i.zero, i.size, i.bytes)) = some (some (.int .u8 0), 1, 1) := by kernel_rfl
  cases hi : Try.prog.info? 5 with
  | none => simp [hi] at h
  | some i => simp [hi] at h; exact ⟨i, rfl, h.1, h.2.1, h.2.2⟩
theorem c_RChainN (x : List UInt8) (hx : x.length ≤ 1000000) (ad : Option Addr) (cap n : Nat) (l : List (List UInt8)) (hn : n = l.length) (hsz : ∀ s ∈ l, s.length ≤ 1000000) (hcnt : l.length ≤ 900000000) (w0 : World) (h0 : View) (hv : VLe h0 (Full w0)) (hb : SlC 9 1 (flatR fun s => [vs s]) h0 (.slice ad n cap) l) : Calls Try.prog 16 #[vs x, .slice ad n cap] w0 (Ret w0 h0 fun u _ => u = vs (chainS x l)) := by
  subst hn; exact c_RChain x hx ad cap l hsz hcnt w0 h0 hv hb
theorem c_Repeat32 (w0 : World) (h0 : View) (hv : VLe h0 (Full w0)) : Calls Try.prog 22 #[.string ⟨#[0]⟩, .int .i64 32] w0 (Ret w0 h0 fun u _ => u = vs Z32) := by
  have := calls_below (h := h0) (Try.strings_Repeat_main ⟨#[0]⟩ 32 w0 (by decide) (by decide) (by decide) (by decide))
  exact this

theorem c_Check (m : Mk) (w0 : World) (h0 : View) (hv : VLe h0 (Full w0))  : Calls Try.prog 17 #[.agg (mkC m).toArray] w0 (Ret w0 h0 fun u _ => u = .int .i64 (chkM m)) := by
  refine f_enter (args := [.agg (mkC m).toArray]) Try.func17 rfl Try.ntmps17 rfl fun a hF => ?_
  have hS := St.init w0 h0 hv
  refine c_seq ?_
  refine c_reg ?_
  refine s_box hF hS rfl rfl rfl ?_; clear hS hF; intro b0 w a hS hF
  refine s_pu hF (pu_assign rfl) rfl ?_; clear hF; intro a hF
  refine c_nil ?_
  refine n_then ?_
  refine c_seq ?_
  refine c_block ?_
  refine c_seq ?_
  refine c_reg ?_
  refine s_pu hF (pu_faddr fld29_0 rfl) rfl ?_; clear hF; intro a hF
  refine s_pu hF (o_load1 (i := 0) hS rfl one3 rfl rfl) rfl ?_; clear hF; intro a hF
  refine s_pu hF (pu_ilt rfl rfl) rfl ?_; clear hF; intro a hF
  refine s_pu hF (pu_move rfl) rfl ?_; clear hF; intro a hF
  refine w_split hF ⟨_, _, (rfl : _[3]? = some _), rfl, rfl⟩ (fun hg1_3 => ?_) (fun hg1_3 => ?_)
  · have hg1_3p := hg1_3
    try simp only [decide_eq_true_eq, decide_eq_false_iff_not, Bool.not_eq_true', Bool.not_eq_false', Bool.not_eq_eq_eq_not, Bool.not_true, Bool.not_false] at hg1_3p
    refine g_no hF ⟨_, _, (rfl : _[3]? = some _), rfl, rfl⟩ hg1_3 rfl ?_; clear hF; intro a hF
    refine g_no hF ⟨_, _, (rfl : _[3]? = some _), rfl, rfl⟩ hg1_3 rfl ?_; clear hF; intro a hF
    refine g_no hF ⟨_, _, (rfl : _[3]? = some _), rfl, rfl⟩ hg1_3 rfl ?_; clear hF; intro a hF
    refine g_no hF ⟨_, _, (rfl : _[3]? = some _), rfl, rfl⟩ hg1_3 rfl ?_; clear hF; intro a hF
    refine g_no hF ⟨_, _, (rfl : _[3]? = some _), rfl, rfl⟩ hg1_3 rfl ?_; clear hF; intro a hF
    refine s_pu hF (pu_pick_t rfl hg1_3 rfl) rfl ?_; clear hF; intro a hF
    refine s_pu hF (pu_move rfl) rfl ?_; clear hF; intro a hF
    refine g_no hF ⟨_, _, (rfl : _[10]? = some _), rfl, rfl⟩ rfl rfl ?_; clear hF; intro a hF
    refine g_no hF ⟨_, _, (rfl : _[10]? = some _), rfl, rfl⟩ rfl rfl ?_; clear hF; intro a hF
    refine g_no hF ⟨_, _, (rfl : _[10]? = some _), rfl, rfl⟩ rfl rfl ?_; clear hF; intro a hF
    refine s_pu hF (pu_pick_t rfl rfl rfl) rfl ?_; clear hF; intro a hF
    refine s_pu hF (pu_assign rfl) rfl ?_; clear hF; intro a hF
    refine c_nil ?_
    refine n_then ?_
    refine c_ift hF rfl rfl ?_
    refine c_seq ?_
    refine c_reg ?_
    refine s_pu hF (pu_assign rfl) rfl ?_; clear hF; intro a hF
    refine c_nil ?_
    refine n_then ?_
    refine c_ret (r_block (r_then ?_))
    exact f_ret hF rfl (.tmp rfl (.nil)) (hS.retv (congrArg (Value.int .i64) (by rw [chkM, if_neg (by unfold RightM; rintro ⟨h1, h2, h3, h4, h5, h6 | h6⟩ <;> first | omega | exact absurd h6 hc30)])))
  · have hg1_3p := hg1_3
    try simp only [decide_eq_true_eq, decide_eq_false_iff_not, Bool.not_eq_true', Bool.not_eq_false', Bool.not_eq_eq_eq_not, Bool.not_true, Bool.not_false] at hg1_3p
    refine g_pu hF ⟨_, _, (rfl : _[3]? = some _), rfl, rfl⟩ hg1_3 (pu_faddr fld29_0 rfl) rfl ?_; clear hF; intro a hF
    refine g_pu hF ⟨_, _, (rfl : _[3]? = some _), rfl, rfl⟩ hg1_3 (o_load1 (i := 0) hS rfl one3 rfl rfl) rfl ?_; clear hF; intro a hF
    refine g_pu hF ⟨_, _, (rfl : _[3]? = some _), rfl, rfl⟩ hg1_3 (pu_faddr fld29_1 rfl) rfl ?_; clear hF; intro a hF
    refine g_pu hF ⟨_, _, (rfl : _[3]? = some _), rfl, rfl⟩ hg1_3 (o_load1 (i := 0) hS rfl one3 rfl rfl) rfl ?_; clear hF; intro a hF
    refine g_pu hF ⟨_, _, (rfl : _[3]? = some _), rfl, rfl⟩ hg1_3 (pu_igt rfl rfl) rfl ?_; clear hF; intro a hF
    refine s_pu hF (pu_pick_f rfl hg1_3 rfl) rfl ?_; clear hF; intro a hF
    refine s_pu hF (pu_move rfl) rfl ?_; clear hF; intro a hF
    refine w_split hF ⟨_, _, (rfl : _[10]? = some _), rfl, rfl⟩ (fun hg1_10 => ?_) (fun hg1_10 => ?_)
    · have hg1_10p := hg1_10
      try simp only [decide_eq_true_eq, decide_eq_false_iff_not, Bool.not_eq_true', Bool.not_eq_false', Bool.not_eq_eq_eq_not, Bool.not_true, Bool.not_false] at hg1_10p
      refine g_no hF ⟨_, _, (rfl : _[10]? = some _), rfl, rfl⟩ hg1_10 rfl ?_; clear hF; intro a hF
      refine g_no hF ⟨_, _, (rfl : _[10]? = some _), rfl, rfl⟩ hg1_10 rfl ?_; clear hF; intro a hF
      refine g_no hF ⟨_, _, (rfl : _[10]? = some _), rfl, rfl⟩ hg1_10 rfl ?_; clear hF; intro a hF
      refine s_pu hF (pu_pick_t rfl hg1_10 rfl) rfl ?_; clear hF; intro a hF
      refine s_pu hF (pu_assign rfl) rfl ?_; clear hF; intro a hF
      refine c_nil ?_
      refine n_then ?_
      refine c_ift hF rfl rfl ?_
      refine c_seq ?_
      refine c_reg ?_
      refine s_pu hF (pu_assign rfl) rfl ?_; clear hF; intro a hF
      refine c_nil ?_
      refine n_then ?_
      refine c_ret (r_block (r_then ?_))
      exact f_ret hF rfl (.tmp rfl (.nil)) (hS.retv (congrArg (Value.int .i64) (by rw [chkM, if_neg (by unfold RightM; rintro ⟨h1, h2, h3, h4, h5, h6 | h6⟩ <;> first | omega | exact absurd h6 hc30)])))
    · have hg1_10p := hg1_10
      try simp only [decide_eq_true_eq, decide_eq_false_iff_not, Bool.not_eq_true', Bool.not_eq_false', Bool.not_eq_eq_eq_not, Bool.not_true, Bool.not_false] at hg1_10p
      refine g_pu hF ⟨_, _, (rfl : _[10]? = some _), rfl, rfl⟩ hg1_10 (pu_faddr fld29_1 rfl) rfl ?_; clear hF; intro a hF
      refine g_pu hF ⟨_, _, (rfl : _[10]? = some _), rfl, rfl⟩ hg1_10 (o_load1 (i := 0) hS rfl one3 rfl rfl) rfl ?_; clear hF; intro a hF
      refine g_pu hF ⟨_, _, (rfl : _[10]? = some _), rfl, rfl⟩ hg1_10 (pu_igt rfl rfl) rfl ?_; clear hF; intro a hF
      refine s_pu hF (pu_pick_f rfl hg1_10 rfl) rfl ?_; clear hF; intro a hF
      refine s_pu hF (pu_assign rfl) rfl ?_; clear hF; intro a hF
      refine c_nil ?_
      refine n_then ?_
      refine c_if hF rfl (fun hc3 => ?_) (fun hc3 => ?_)
      · try simp only [decide_eq_true_eq, decide_eq_false_iff_not, Bool.not_eq_true', Bool.not_eq_false', Bool.not_eq_eq_eq_not, Bool.not_true, Bool.not_false] at hc3
        refine c_seq ?_
        refine c_reg ?_
        refine s_pu hF (pu_assign rfl) rfl ?_; clear hF; intro a hF
        refine c_nil ?_
        refine n_then ?_
        refine c_ret (r_block (r_then ?_))
        exact f_ret hF rfl (.tmp rfl (.nil)) (hS.retv (congrArg (Value.int .i64) (by rw [chkM, if_neg (by unfold RightM; rintro ⟨h1, h2, h3, h4, h5, h6 | h6⟩ <;> first | omega | exact absurd h6 hc30)])))
      · try simp only [decide_eq_true_eq, decide_eq_false_iff_not, Bool.not_eq_true', Bool.not_eq_false', Bool.not_eq_eq_eq_not, Bool.not_true, Bool.not_false] at hc3
        refine c_seq ?_
        refine c_reg ?_
        refine s_pu hF (pu_faddr fld29_2 rfl) rfl ?_; clear hF; intro a hF
        refine s_pu hF (o_load1 (i := 0) hS rfl one9 rfl rfl) rfl ?_; clear hF; intro a hF
        refine s_pu hF (pu_len_s tyS9 rfl rfl) rfl ?_; clear hF; intro a hF
        refine s_pu hF (pu_ine rfl rfl) rfl ?_; clear hF; intro a hF
        refine s_pu hF (pu_move rfl) rfl ?_; clear hF; intro a hF
        refine w_split hF ⟨_, _, (rfl : _[4]? = some _), rfl, rfl⟩ (fun hg3_4 => ?_) (fun hg3_4 => ?_)
        · have hg3_4p := hg3_4
          try simp only [decide_eq_true_eq, decide_eq_false_iff_not, Bool.not_eq_true', Bool.not_eq_false', Bool.not_eq_eq_eq_not, Bool.not_true, Bool.not_false] at hg3_4p
          refine g_no hF ⟨_, _, (rfl : _[4]? = some _), rfl, rfl⟩ hg3_4 rfl ?_; clear hF; intro a hF
          refine g_no hF ⟨_, _, (rfl : _[4]? = some _), rfl, rfl⟩ hg3_4 rfl ?_; clear hF; intro a hF
          refine g_no hF ⟨_, _, (rfl : _[4]? = some _), rfl, rfl⟩ hg3_4 rfl ?_; clear hF; intro a hF
          refine g_no hF ⟨_, _, (rfl : _[4]? = some _), rfl, rfl⟩ hg3_4 rfl ?_; clear hF; intro a hF
          refine s_pu hF (pu_pick_t rfl hg3_4 rfl) rfl ?_; clear hF; intro a hF
          refine s_pu hF (pu_assign rfl) rfl ?_; clear hF; intro a hF
          refine c_nil ?_
          refine n_then ?_
          refine c_ift hF rfl rfl ?_
          refine c_seq ?_
          refine c_reg ?_
          refine s_pu hF (pu_assign rfl) rfl ?_; clear hF; intro a hF
          refine c_nil ?_
          refine n_then ?_
          refine c_ret (r_block (r_then ?_))
          exact f_ret hF rfl (.tmp rfl (.nil)) (hS.retv (congrArg (Value.int .i64) (by rw [chkM, if_neg (by unfold RightM; rintro ⟨h1, h2, h3, h4, h5, h6 | h6⟩ <;> first | omega | exact absurd h6 hc30)])))
        · have hg3_4p := hg3_4
          try simp only [decide_eq_true_eq, decide_eq_false_iff_not, Bool.not_eq_true', Bool.not_eq_false', Bool.not_eq_eq_eq_not, Bool.not_true, Bool.not_false] at hg3_4p
          refine g_pu hF ⟨_, _, (rfl : _[4]? = some _), rfl, rfl⟩ hg3_4 (pu_faddr fld29_3 rfl) rfl ?_; clear hF; intro a hF
          refine g_pu hF ⟨_, _, (rfl : _[4]? = some _), rfl, rfl⟩ hg3_4 (o_load1 (i := 0) hS rfl one9 rfl rfl) rfl ?_; clear hF; intro a hF
          refine g_pu hF ⟨_, _, (rfl : _[4]? = some _), rfl, rfl⟩ hg3_4 (pu_len_s tyS9 rfl rfl) rfl ?_; clear hF; intro a hF
          refine g_pu hF ⟨_, _, (rfl : _[4]? = some _), rfl, rfl⟩ hg3_4 (pu_ine rfl rfl) rfl ?_; clear hF; intro a hF
          refine s_pu hF (pu_pick_f rfl hg3_4 rfl) rfl ?_; clear hF; intro a hF
          refine s_pu hF (pu_assign rfl) rfl ?_; clear hF; intro a hF
          refine c_nil ?_
          refine n_then ?_
          refine c_if hF rfl (fun hc19 => ?_) (fun hc19 => ?_)
          · try simp only [decide_eq_true_eq, decide_eq_false_iff_not, Bool.not_eq_true', Bool.not_eq_false', Bool.not_eq_eq_eq_not, Bool.not_true, Bool.not_false] at hc19
            refine c_seq ?_
            refine c_reg ?_
            refine s_pu hF (pu_assign rfl) rfl ?_; clear hF; intro a hF
            refine c_nil ?_
            refine n_then ?_
            refine c_ret (r_block (r_then ?_))
            exact f_ret hF rfl (.tmp rfl (.nil)) (hS.retv (congrArg (Value.int .i64) (by rw [chkM, if_neg (by unfold RightM; rintro ⟨h1, h2, h3, h4, h5, h6 | h6⟩ <;> first | omega | exact absurd h6 hc30)])))
          · try simp only [decide_eq_true_eq, decide_eq_false_iff_not, Bool.not_eq_true', Bool.not_eq_false', Bool.not_eq_eq_eq_not, Bool.not_true, Bool.not_false] at hc19
            refine c_seq ?_
            refine c_reg ?_
            refine s_pu hF (pu_faddr fld29_0 rfl) rfl ?_; clear hF; intro a hF
            refine s_pu hF (o_load1 (i := 0) hS rfl one3 rfl rfl) rfl ?_; clear hF; intro a hF
            refine s_pu hF (pu_faddr fld29_1 rfl) rfl ?_; clear hF; intro a hF
            refine s_pu hF (o_load1 (i := 0) hS rfl one3 rfl rfl) rfl ?_; clear hF; intro a hF
            refine s_pu hF (pu_ieq rfl rfl) rfl ?_; clear hF; intro a hF
            refine s_pu hF (pu_move rfl) rfl ?_; clear hF; intro a hF
            refine w_split hF ⟨_, _, (rfl : _[5]? = some _), rfl, rfl⟩ (fun hg5_5 => ?_) (fun hg5_5 => ?_)
            · have hg5_5p := hg5_5
              try simp only [decide_eq_true_eq, decide_eq_false_iff_not, Bool.not_eq_true', Bool.not_eq_false', Bool.not_eq_eq_eq_not, Bool.not_true, Bool.not_false] at hg5_5p
              refine g_pu hF ⟨_, _, (rfl : _[5]? = some _), rfl, rfl⟩ hg5_5 (pu_faddr fld29_2 rfl) rfl ?_; clear hF; intro a hF
              refine g_pu hF ⟨_, _, (rfl : _[5]? = some _), rfl, rfl⟩ hg5_5 (o_load1 (i := 0) hS rfl one9 rfl rfl) rfl ?_; clear hF; intro a hF
              refine g_pu hF ⟨_, _, (rfl : _[5]? = some _), rfl, rfl⟩ hg5_5 (pu_faddr fld29_3 rfl) rfl ?_; clear hF; intro a hF
              refine g_pu hF ⟨_, _, (rfl : _[5]? = some _), rfl, rfl⟩ hg5_5 (o_load1 (i := 0) hS rfl one9 rfl rfl) rfl ?_; clear hF; intro a hF
              refine g_pu hF ⟨_, _, (rfl : _[5]? = some _), rfl, rfl⟩ hg5_5 (pu_sne rfl rfl) rfl ?_; clear hF; intro a hF
              refine s_pu hF (pu_pick_t rfl hg5_5 rfl) rfl ?_; clear hF; intro a hF
              refine s_pu hF (pu_assign rfl) rfl ?_; clear hF; intro a hF
              refine c_nil ?_
              refine n_then ?_
              refine c_if hF rfl (fun hc30 => ?_) (fun hc30 => ?_)
              · try simp only [decide_eq_true_eq, decide_eq_false_iff_not, Bool.not_eq_true', Bool.not_eq_false', Bool.not_eq_eq_eq_not, Bool.not_true, Bool.not_false] at hc30
                refine c_seq ?_
                refine c_reg ?_
                refine s_pu hF (pu_assign rfl) rfl ?_; clear hF; intro a hF
                refine c_nil ?_
                refine n_then ?_
                refine c_ret (r_block (r_then ?_))
                exact f_ret hF rfl (.tmp rfl (.nil)) (hS.retv (congrArg (Value.int .i64) (by rw [chkM, if_neg (by unfold RightM; rintro ⟨h1, h2, h3, h4, h5, h6 | h6⟩ <;> first | omega | exact absurd h6 hc30)])))
              · try simp only [decide_eq_true_eq, decide_eq_false_iff_not, Bool.not_eq_true', Bool.not_eq_false', Bool.not_eq_eq_eq_not, Bool.not_true, Bool.not_false] at hc30
                refine c_skip ?_
                refine n_block ?_
                refine n_then ?_
                refine c_seq ?_
                refine c_reg ?_
                refine s_pu hF (pu_assign rfl) rfl ?_; clear hF; intro a hF
                refine c_nil ?_
                refine n_then ?_
                refine c_ret ?_
                exact f_ret hF rfl (.tmp rfl (.nil)) (hS.retv (congrArg (Value.int .i64) (by rw [chkM, if_pos ⟨by omega, by omega, by omega, by omega, by omega, by first | (left; omega) | (right; exact hc30)⟩])))
            · have hg5_5p := hg5_5
              try simp only [decide_eq_true_eq, decide_eq_false_iff_not, Bool.not_eq_true', Bool.not_eq_false', Bool.not_eq_eq_eq_not, Bool.not_true, Bool.not_false] at hg5_5p
              refine g_no hF ⟨_, _, (rfl : _[5]? = some _), rfl, rfl⟩ hg5_5 rfl ?_; clear hF; intro a hF
              refine g_no hF ⟨_, _, (rfl : _[5]? = some _), rfl, rfl⟩ hg5_5 rfl ?_; clear hF; intro a hF
              refine g_no hF ⟨_, _, (rfl : _[5]? = some _), rfl, rfl⟩ hg5_5 rfl ?_; clear hF; intro a hF
              refine g_no hF ⟨_, _, (rfl : _[5]? = some _), rfl, rfl⟩ hg5_5 rfl ?_; clear hF; intro a hF
              refine g_no hF ⟨_, _, (rfl : _[5]? = some _), rfl, rfl⟩ hg5_5 rfl ?_; clear hF; intro a hF
              refine s_pu hF (pu_pick_f rfl hg5_5 rfl) rfl ?_; clear hF; intro a hF
              refine s_pu hF (pu_assign rfl) rfl ?_; clear hF; intro a hF
              refine c_nil ?_
              refine n_then ?_
              refine c_iff hF rfl rfl ?_
              refine c_skip ?_
              refine n_block ?_
              refine n_then ?_
              refine c_seq ?_
              refine c_reg ?_
              refine s_pu hF (pu_assign rfl) rfl ?_; clear hF; intro a hF
              refine c_nil ?_
              refine n_then ?_
              refine c_ret ?_
              exact f_ret hF rfl (.tmp rfl (.nil)) (hS.retv (congrArg (Value.int .i64) (by rw [chkM, if_pos ⟨by omega, by omega, by omega, by omega, by omega, by first | (left; omega) | (right; exact hc30)⟩])))
set_option maxHeartbeats 1000000 in
theorem c_Verify (m : Mk) (ad : Option Addr) (cap n : Nat) (l : List (List UInt8)) (hn : n = l.length) (hsz : ∀ s ∈ l, s.length ≤ 1000000) (hcnt : l.length ≤ 900000000) (w0 : World) (h0 : View) (hv : VLe h0 (Full w0)) (hb : SlC 9 1 (flatR fun s => [vs s]) h0 (.slice ad n cap) l) : Calls Try.prog 10 #[.agg (mkC m).toArray, .slice ad n cap] w0 (Ret w0 h0 fun u _ => u = .int .i64 (verM m l)) := by
  refine f_enter (args := [.agg (mkC m).toArray, .slice ad n cap]) Try.func10 rfl Try.ntmps10 rfl fun a hF => ?_
  have hS := St.init w0 h0 hv
  refine c_seq ?_
  refine c_reg ?_
  refine s_box hF hS rfl rfl rfl ?_; clear hS hF; intro b0 w a hS hF
  refine s_pu hF (pu_assign rfl) rfl ?_; clear hF; intro a hF
  refine c_nil ?_
  refine n_then ?_
  refine c_seq ?_
  refine c_seq ?_
  refine c_reg ?_
  refine s_pu hF (o_loadA (i := 0) (new := mkC m) hS rfl agg29 rfl (rfl)) rfl ?_; clear hF; intro a hF
  refine s_callv hF hS ok17 rfl (c_Check m _ _ hS.view) rfl ?_; clear hS hF; intro w a hS hF
  refine s_pu hF (pu_assign rfl) rfl ?_; clear hF; intro a hF
  refine c_nil ?_
  refine n_then ?_
  refine c_seq ?_
  refine c_reg ?_
  refine s_pu hF (pu_move rfl) rfl ?_; clear hF; intro a hF
  refine s_pu hF (pu_ine rfl rfl) rfl ?_; clear hF; intro a hF
  refine c_nil ?_
  refine n_then ?_
  refine c_if hF rfl (fun hc9 => ?_) (fun hc9 => ?_)
  · try simp only [decide_eq_true_eq, decide_eq_false_iff_not, Bool.not_eq_true', Bool.not_eq_false', Bool.not_eq_eq_eq_not, Bool.not_true, Bool.not_false] at hc9
    refine c_seq ?_
    refine c_reg ?_
    refine s_pu hF (pu_move rfl) rfl ?_; clear hF; intro a hF
    refine s_pu hF (pu_assign rfl) rfl ?_; clear hF; intro a hF
    refine c_nil ?_
    refine n_then ?_
    refine c_ret (r_then ?_)
    exact f_ret hF rfl (.tmp rfl (.nil)) (hS.retv (congrArg (Value.int .i64) (by rw [verM, if_neg (chk_not hc9), chkM, if_neg (chk_not hc9)])))
  · try simp only [decide_eq_true_eq, decide_eq_false_iff_not, Bool.not_eq_true', Bool.not_eq_false', Bool.not_eq_eq_eq_not, Bool.not_true, Bool.not_false] at hc9
    have hr := chk_right hc9
    have hr2 := hr
    obtain ⟨h1, h2, h3, h4, h5, _⟩ := hr2
    refine c_skip ?_
    refine n_then ?_
    refine c_seq ?_
    refine c_seq ?_
    refine region_st 17 hF hS (allV_ne rfl) mix (by kernel_rfl) fun Γ hG => ?_
    refine t_pu hG (fun w hC => pu_move rfl) ?_; clear hG; intro Γ hG
    refine t_pu hG (fun w hC => pu_len_sl tyL22 rfl rfl) ?_; clear hG; intro Γ hG
    refine t_pu hG (fun w hC => pu_faddr fld29_1 rfl) ?_; clear hG; intro Γ hG
    refine t_pu hG (fun w hC => o_load1 (i := 0) hC.st rfl one3 rfl rfl) ?_; clear hG; intro Γ hG
    refine t_pu hG (fun w hC => pu_faddr fld29_0 rfl) ?_; clear hG; intro Γ hG
    refine t_pu hG (fun w hC => o_load1 (i := 0) hC.st rfl one3 rfl rfl) ?_; clear hG; intro Γ hG
    refine t_pu hG (fun w hC => pu_sub rfl rfl (by first | exact wrap_i64 (by omega) (by omega) | rfl)) ?_; clear hG; intro Γ hG
    refine t_pu hG (fun w hC => pu_ine rfl rfl) ?_; clear hG; intro Γ hG
    refine t_pu hG (fun w hC => pu_move rfl) ?_; clear hG; intro Γ hG
    refine t_split hG ⟨_, _, (rfl : _[8]? = some _), rfl, rfl⟩ (fun hg4_8 => ?_) (fun hg4_8 => ?_)
    · have hg4_8p := hg4_8
      try simp only [decide_eq_true_eq, decide_eq_false_iff_not, Bool.not_eq_true', Bool.not_eq_false', Bool.not_eq_eq_eq_not, Bool.not_true, Bool.not_false] at hg4_8p
      refine tg_no hG ⟨_, _, (rfl : _[8]? = some _), rfl, rfl⟩ hg4_8 ?_; clear hG; intro Γ hG
      refine tg_no hG ⟨_, _, (rfl : _[8]? = some _), rfl, rfl⟩ hg4_8 ?_; clear hG; intro Γ hG
      refine tg_no hG ⟨_, _, (rfl : _[8]? = some _), rfl, rfl⟩ hg4_8 ?_; clear hG; intro Γ hG
      refine tg_no hG ⟨_, _, (rfl : _[8]? = some _), rfl, rfl⟩ hg4_8 ?_; clear hG; intro Γ hG
      refine tg_no hG ⟨_, _, (rfl : _[8]? = some _), rfl, rfl⟩ hg4_8 ?_; clear hG; intro Γ hG
      refine tg_no hG ⟨_, _, (rfl : _[8]? = some _), rfl, rfl⟩ hg4_8 ?_; clear hG; intro Γ hG
      refine tg_no hG ⟨_, _, (rfl : _[8]? = some _), rfl, rfl⟩ hg4_8 ?_; clear hG; intro Γ hG
      refine t_pu hG (fun w hC => pu_pick_t rfl hg4_8 rfl) ?_; clear hG; intro Γ hG
      refine t_end hG ?_; clear hG hF; intro a w hC hE hF hP; replace hS := hC.st; clear hC
      clear hE
      clear hP
      refine c_nil ?_
      refine n_then ?_
      refine c_ift hF rfl rfl ?_
      refine c_seq ?_
      refine c_reg ?_
      refine s_pu hF (pu_assign rfl) rfl ?_; clear hF; intro a hF
      refine c_nil ?_
      refine n_then ?_
      refine c_ret (r_then ?_)
      exact f_ret hF rfl (.tmp rfl (.nil)) (hS.retv (congrArg (Value.int .i64) (by rw [verM, if_pos hr, if_pos (by first | (left; omega) | (right; exact hc27))])))
    · have hg4_8p := hg4_8
      try simp only [decide_eq_true_eq, decide_eq_false_iff_not, Bool.not_eq_true', Bool.not_eq_false', Bool.not_eq_eq_eq_not, Bool.not_true, Bool.not_false] at hg4_8p
      refine tg_pu hG ⟨_, _, (rfl : _[8]? = some _), rfl, rfl⟩ hg4_8 (fun w hC => pu_faddr fld29_2 rfl) ?_; clear hG; intro Γ hG
      refine tg_pu hG ⟨_, _, (rfl : _[8]? = some _), rfl, rfl⟩ hg4_8 (fun w hC => o_load1 (i := 0) hC.st rfl one9 rfl rfl) ?_; clear hG; intro Γ hG
      refine tg_pu hG ⟨_, _, (rfl : _[8]? = some _), rfl, rfl⟩ hg4_8 (fun w hC => pu_move rfl) ?_; clear hG; intro Γ hG
      refine tg_calld hG ⟨_, _, (rfl : _[8]? = some _), rfl, rfl⟩ hg4_8 ok18 rfl (fun w1 hS1 => ⟨_, c_ChainN m.anchor (by omega) ad cap n l hn hsz hcnt w1 h0 hS1.base hb⟩) ?_; clear hG; intro Γ hG
      refine tg_pu hG ⟨_, _, (rfl : _[8]? = some _), rfl, rfl⟩ hg4_8 (fun w hC => pu_faddr fld29_3 rfl) ?_; clear hG; intro Γ hG
      refine tg_pu hG ⟨_, _, (rfl : _[8]? = some _), rfl, rfl⟩ hg4_8 (fun w hC => o_load1 (i := 0) hC.st rfl one9 rfl rfl) ?_; clear hG; intro Γ hG
      refine tg_pu hG ⟨_, _, (rfl : _[8]? = some _), rfl, rfl⟩ hg4_8 (fun w hC => pu_sne rfl rfl) ?_; clear hG; intro Γ hG
      refine t_pu hG (fun w hC => pu_pick_f rfl hg4_8 rfl) ?_; clear hG; intro Γ hG
      refine t_end hG ?_; clear hG hF; intro a w hC hE hF hP; replace hS := hC.st; clear hC
      clear hE
      clear hP
      refine c_nil ?_
      refine n_then ?_
      refine c_if hF rfl (fun hc27 => ?_) (fun hc27 => ?_)
      · try simp only [decide_eq_true_eq, decide_eq_false_iff_not, Bool.not_eq_true', Bool.not_eq_false', Bool.not_eq_eq_eq_not, Bool.not_true, Bool.not_false] at hc27
        refine c_seq ?_
        refine c_reg ?_
        refine s_pu hF (pu_assign rfl) rfl ?_; clear hF; intro a hF
        refine c_nil ?_
        refine n_then ?_
        refine c_ret (r_then ?_)
        exact f_ret hF rfl (.tmp rfl (.nil)) (hS.retv (congrArg (Value.int .i64) (by rw [verM, if_pos hr, if_pos (by first | (left; omega) | (right; exact hc27))])))
      · try simp only [decide_eq_true_eq, decide_eq_false_iff_not, Bool.not_eq_true', Bool.not_eq_false', Bool.not_eq_eq_eq_not, Bool.not_true, Bool.not_false] at hc27
        refine c_skip ?_
        refine n_then ?_
        refine c_seq ?_
        refine c_reg ?_
        refine s_pu hF (pu_assign rfl) rfl ?_; clear hF; intro a hF
        refine c_nil ?_
        refine n_then ?_
        refine c_ret ?_
        exact f_ret hF rfl (.tmp rfl (.nil)) (hS.retv (congrArg (Value.int .i64) (by rw [verM, if_pos hr, if_neg (by rintro (h | h) <;> first | omega | exact h hc27)])))
theorem c_Push (m : Mk) (s : List UInt8) (hs : s.length ≤ 1000000) (w0 : World) (h0 : View) (hv : VLe h0 (Full w0))  : Calls Try.prog 13 #[.agg (mkC m).toArray, vs s] w0 (Ret w0 h0 fun u _ => u = mkV (pushM m s)) := by
  refine f_enter (args := [.agg (mkC m).toArray, vs s]) Try.func13 rfl Try.ntmps13 rfl fun a hF => ?_
  have hS := St.init w0 h0 hv
  refine c_seq ?_
  refine c_reg ?_
  refine s_box hF hS rfl rfl rfl ?_; clear hS hF; intro b0 w a hS hF
  refine s_alloc hF hS zero29 rfl ?_; clear hS hF; intro b1 w a hS hF
  refine s_pu hF (pu_assign rfl) rfl ?_; clear hF; intro a hF
  refine c_nil ?_
  refine n_then ?_
  refine c_seq ?_
  refine c_seq ?_
  refine c_reg ?_
  refine s_pu hF (o_loadA (i := 1) (new := mkC m) hS rfl agg29 rfl (rfl)) rfl ?_; clear hF; intro a hF
  refine s_callv hF hS ok17 rfl (c_Check m _ _ hS.view) rfl ?_; clear hS hF; intro w a hS hF
  refine s_pu hF (pu_assign rfl) rfl ?_; clear hF; intro a hF
  refine c_nil ?_
  refine n_then ?_
  refine c_seq ?_
  refine c_reg ?_
  refine s_pu hF (pu_move rfl) rfl ?_; clear hF; intro a hF
  refine s_pu hF (pu_ine rfl rfl) rfl ?_; clear hF; intro a hF
  refine c_nil ?_
  refine n_then ?_
  refine c_if hF rfl (fun hc10 => ?_) (fun hc10 => ?_)
  · try simp only [decide_eq_true_eq, decide_eq_false_iff_not, Bool.not_eq_true', Bool.not_eq_false', Bool.not_eq_eq_eq_not, Bool.not_true, Bool.not_false] at hc10
    refine c_seq ?_
    refine c_reg ?_
    refine s_pu hF (pu_build_st (cs := mkC mz) strb29 rfl rfl) rfl ?_; clear hF; intro a hF
    refine s_pu hF (pu_move rfl) rfl ?_; clear hF; intro a hF
    refine s_store (i := 0) (new := mkC mz) hF hS rfl rfl rfl rfl (by exact sz29) rfl (by simp [mkC]) ?_; clear hS hF; intro w a hS hF
    rw [spl_all (by simp [mkC])] at hS
    refine s_pu hF (pu_assign rfl) rfl ?_; clear hF; intro a hF
    refine c_nil ?_
    refine n_then ?_
    refine c_ret (r_then ?_)
    exact f_ret hF rfl (.cell rfl (o_lvA (i := 0) hS rfl agg29) (.tmp rfl (.nil))) (hS.retv (by rw [pushM, if_neg (chk_not hc10), chkM, if_neg (chk_not hc10)]; rfl))
  · try simp only [decide_eq_true_eq, decide_eq_false_iff_not, Bool.not_eq_true', Bool.not_eq_false', Bool.not_eq_eq_eq_not, Bool.not_true, Bool.not_false] at hc10
    have hr := chk_right hc10
    have hr2 := hr
    obtain ⟨h1, h2, h3, h4, h5, _⟩ := hr2
    refine c_skip ?_
    refine n_then ?_
    refine c_seq ?_
    refine c_seq ?_
    refine c_reg ?_
    refine s_pu hF (pu_faddr fld29_1 rfl) rfl ?_; clear hF; intro a hF
    refine s_pu hF (o_load1 (i := 1) hS rfl one3 rfl rfl) rfl ?_; clear hF; intro a hF
    refine s_pu hF (pu_ieq rfl rfl) rfl ?_; clear hF; intro a hF
    refine c_nil ?_
    refine n_then ?_
    refine c_if hF rfl (fun hc15 => ?_) (fun hc15 => ?_)
    · try simp only [decide_eq_true_eq, decide_eq_false_iff_not, Bool.not_eq_true', Bool.not_eq_false', Bool.not_eq_eq_eq_not, Bool.not_true, Bool.not_false] at hc15
      refine c_seq ?_
      refine c_reg ?_
      refine s_pu hF (pu_build_st (cs := mkC mz) strb29 rfl rfl) rfl ?_; clear hF; intro a hF
      refine s_store (i := 0) (new := mkC mz) hF hS rfl rfl rfl rfl (by exact sz29) rfl (by simp [mkC]) ?_; clear hS hF; intro w a hS hF
      rw [spl_all (by simp [mkC])] at hS
      refine s_pu hF (pu_assign rfl) rfl ?_; clear hF; intro a hF
      refine c_nil ?_
      refine n_then ?_
      refine c_ret (r_then ?_)
      exact f_ret hF rfl (.cell rfl (o_lvA (i := 0) hS rfl agg29) (.tmp rfl (.nil))) (hS.retv (by rw [pushM, if_pos hr, if_pos hc15]; rfl))
    · try simp only [decide_eq_true_eq, decide_eq_false_iff_not, Bool.not_eq_true', Bool.not_eq_false', Bool.not_eq_eq_eq_not, Bool.not_true, Bool.not_false] at hc15
      refine c_skip ?_
      refine n_then ?_
      refine c_seq ?_
      refine c_reg ?_
      refine s_pu hF (pu_faddr fld29_1 rfl) rfl ?_; clear hF; intro a hF
      refine s_pu hF (o_load1 (i := 1) hS rfl one3 rfl rfl) rfl ?_; clear hF; intro a hF
      refine s_pu hF (pu_add rfl rfl (by first | exact wrap_i64 (by omega) (by omega) | rfl)) rfl ?_; clear hF; intro a hF
      refine s_pu hF (pu_faddr fld29_1 rfl) rfl ?_; clear hF; intro a hF
      refine s_store (i := 1) hF hS rfl rfl rfl rfl sz3 rfl (by first | (simp; done) | exact Nat.le_of_ble_eq_true rfl) ?_; clear hS hF; intro w a hS hF
      rw [show spl (mkC m) (0 + 1) [.int .i64 (m.count + 1)] = mkC ⟨m.base, m.count + 1, m.anchor, m.head⟩ from rfl] at hS
      refine c_nil ?_
      refine n_then ?_
      refine c_seq ?_
      refine c_reg ?_
      refine s_pu hF (pu_faddr fld29_3 rfl) rfl ?_; clear hF; intro a hF
      refine s_pu hF (o_load1 (i := 1) hS rfl one9 rfl rfl) rfl ?_; clear hF; intro a hF
      refine s_pu hF (pu_move rfl) rfl ?_; clear hF; intro a hF
      refine s_callv hF hS ok21 rfl (c_Link m.head s (by omega) _ _ hS.view) rfl ?_; clear hS hF; intro w a hS hF
      refine s_pu hF (pu_faddr fld29_3 rfl) rfl ?_; clear hF; intro a hF
      refine s_store (i := 1) hF hS rfl rfl rfl rfl sz9 rfl (by simp [mkC]) ?_; clear hS hF; intro w a hS hF
      rw [show spl (mkC ⟨m.base, m.count + 1, m.anchor, m.head⟩) (0 + 3) [vs (linkS m.head s)] = mkC ⟨m.base, m.count + 1, m.anchor, linkS m.head s⟩ from rfl] at hS
      refine c_nil ?_
      refine n_then ?_
      refine c_seq ?_
      refine c_reg ?_
      refine s_pu hF (o_loadA (i := 1) (new := mkC ⟨m.base, m.count + 1, m.anchor, linkS m.head s⟩) hS rfl agg29 rfl (rfl)) rfl ?_; clear hF; intro a hF
      refine s_store (i := 0) (new := mkC ⟨m.base, m.count + 1, m.anchor, linkS m.head s⟩) hF hS rfl rfl rfl rfl (by exact sz29) rfl (by simp [mkC]) ?_; clear hS hF; intro w a hS hF
      rw [spl_all (by simp [mkC])] at hS
      refine s_pu hF (pu_assign rfl) rfl ?_; clear hF; intro a hF
      refine c_nil ?_
      refine n_then ?_
      refine c_ret ?_
      exact f_ret hF rfl (.cell rfl (o_lvA (i := 0) hS rfl agg29) (.tmp rfl (.nil))) (hS.retv (by rw [pushM, if_pos hr, if_neg hc15]; rfl))
theorem c_Begin  (w0 : World) (h0 : View) (hv : VLe h0 (Full w0))  : Calls Try.prog 14 #[] w0 (Ret w0 h0 fun u _ => u = .agg (mkC beginM).toArray) := by
  refine f_enter (args := []) Try.func14 rfl Try.ntmps14 rfl fun a hF => ?_
  have hS := St.init w0 h0 hv
  refine c_seq ?_
  refine c_reg ?_
  refine s_alloc hF hS zero29 rfl ?_; clear hS hF; intro b0 w a hS hF
  refine c_nil ?_
  refine n_then ?_
  refine c_seq ?_
  refine c_reg ?_
  refine s_callv hF hS ok22 rfl (c_Repeat32 _ _ hS.view) rfl ?_; clear hS hF; intro w a hS hF
  refine s_pu hF (pu_assign rfl) rfl ?_; clear hF; intro a hF
  refine c_nil ?_
  refine n_then ?_
  refine c_seq ?_
  refine c_reg ?_
  refine s_pu hF (pu_move rfl) rfl ?_; clear hF; intro a hF
  refine s_pu hF (pu_move rfl) rfl ?_; clear hF; intro a hF
  refine s_pu hF (pu_build_st (cs := mkC beginM) strb29 rfl rfl) rfl ?_; clear hF; intro a hF
  refine s_store (i := 0) (new := mkC beginM) hF hS rfl rfl rfl rfl (by exact sz29) rfl (by simp [mkC]) ?_; clear hS hF; intro w a hS hF
  rw [spl_all (by simp [mkC])] at hS
  refine c_nil ?_
  refine n_then ?_
  refine c_ret ?_
  exact f_ret hF rfl (.cell rfl (o_lvA (i := 0) hS rfl agg29) (.nil)) (hS.retv rfl)
theorem c_light (m : Mk) (w0 : World) (h0 : View) (hv : VLe h0 (Full w0))  : Calls Try.prog 9 #[.agg (mkC m).toArray] w0 (Ret w0 h0 fun u _ => u = .bool (lightS m)) := by
  refine f_enter (args := [.agg (mkC m).toArray]) Try.func9 rfl Try.ntmps9 rfl fun a hF => ?_
  have hS := St.init w0 h0 hv
  refine c_seq ?_
  refine c_reg ?_
  refine s_box hF hS rfl rfl rfl ?_; clear hS hF; intro b0 w a hS hF
  refine s_pu hF (pu_assign rfl) rfl ?_; clear hF; intro a hF
  refine c_nil ?_
  refine n_then ?_
  refine c_seq ?_
  refine c_reg ?_
  refine s_pu hF (pu_faddr fld29_2 rfl) rfl ?_; clear hF; intro a hF
  refine s_pu hF (o_load1 (i := 0) hS rfl one9 rfl rfl) rfl ?_; clear hF; intro a hF
  refine s_pu hF (pu_len_s tyS9 rfl rfl) rfl ?_; clear hF; intro a hF
  refine s_pu hF (pu_ile rfl rfl) rfl ?_; clear hF; intro a hF
  refine s_pu hF (pu_move rfl) rfl ?_; clear hF; intro a hF
  refine w_split hF ⟨_, _, (rfl : _[4]? = some _), rfl, rfl⟩ (fun hg1_4 => ?_) (fun hg1_4 => ?_)
  · have hg1_4p := hg1_4
    try simp only [decide_eq_true_eq, decide_eq_false_iff_not, Bool.not_eq_true', Bool.not_eq_false', Bool.not_eq_eq_eq_not, Bool.not_true, Bool.not_false] at hg1_4p
    refine g_pu hF ⟨_, _, (rfl : _[4]? = some _), rfl, rfl⟩ hg1_4 (pu_faddr fld29_3 rfl) rfl ?_; clear hF; intro a hF
    refine g_pu hF ⟨_, _, (rfl : _[4]? = some _), rfl, rfl⟩ hg1_4 (o_load1 (i := 0) hS rfl one9 rfl rfl) rfl ?_; clear hF; intro a hF
    refine g_pu hF ⟨_, _, (rfl : _[4]? = some _), rfl, rfl⟩ hg1_4 (pu_len_s tyS9 rfl rfl) rfl ?_; clear hF; intro a hF
    refine g_pu hF ⟨_, _, (rfl : _[4]? = some _), rfl, rfl⟩ hg1_4 (pu_ile rfl rfl) rfl ?_; clear hF; intro a hF
    refine s_pu hF (pu_pick_t rfl hg1_4 rfl) rfl ?_; clear hF; intro a hF
    refine s_pu hF (pu_assign rfl) rfl ?_; clear hF; intro a hF
    refine c_nil ?_
    refine n_then ?_
    refine c_ret ?_
    exact f_ret hF rfl (.tmp rfl (.nil)) (hS.retv (congrArg Value.bool (by first | (rw [lightS, decide_eq_true (show m.anchor.length ≤ 300 by omega), Bool.true_and]; exact decide_eq_decide.2 (by omega)) | (rw [lightS, decide_eq_false (show ¬ m.anchor.length ≤ 300 by omega)]; rfl))))
  · have hg1_4p := hg1_4
    try simp only [decide_eq_true_eq, decide_eq_false_iff_not, Bool.not_eq_true', Bool.not_eq_false', Bool.not_eq_eq_eq_not, Bool.not_true, Bool.not_false] at hg1_4p
    refine g_no hF ⟨_, _, (rfl : _[4]? = some _), rfl, rfl⟩ hg1_4 rfl ?_; clear hF; intro a hF
    refine g_no hF ⟨_, _, (rfl : _[4]? = some _), rfl, rfl⟩ hg1_4 rfl ?_; clear hF; intro a hF
    refine g_no hF ⟨_, _, (rfl : _[4]? = some _), rfl, rfl⟩ hg1_4 rfl ?_; clear hF; intro a hF
    refine g_no hF ⟨_, _, (rfl : _[4]? = some _), rfl, rfl⟩ hg1_4 rfl ?_; clear hF; intro a hF
    refine s_pu hF (pu_pick_f rfl hg1_4 rfl) rfl ?_; clear hF; intro a hF
    refine s_pu hF (pu_assign rfl) rfl ?_; clear hF; intro a hF
    refine c_nil ?_
    refine n_then ?_
    refine c_ret ?_
    exact f_ret hF rfl (.tmp rfl (.nil)) (hS.retv (congrArg Value.bool (by first | (rw [lightS, decide_eq_true (show m.anchor.length ≤ 300 by omega), Bool.true_and]; exact decide_eq_decide.2 (by omega)) | (rw [lightS, decide_eq_false (show ¬ m.anchor.length ≤ 300 by omega)]; rfl))))
theorem c_long (ad : Option Addr) (cap : Nat) (l : List (List UInt8)) (w0 : World) (h0 : View) (hv : VLe h0 (Full w0)) (hb : SlC 9 1 (flatR fun s => [vs s]) h0 (.slice ad l.length cap) l) : Calls Try.prog 5 #[.slice ad l.length cap] w0 (Ret w0 h0 fun u _ => u = .bool (longS l)) := by
  refine f_enter (args := [.slice ad l.length cap]) Try.func5 rfl Try.ntmps5 rfl fun a hF => ?_
  have hS := St.init w0 h0 hv
  obtain ⟨_, _, _, hlc, hlm⟩ := hb.parts
  simp only [maxLen] at hlm
  refine c_seq ?_
  refine c_reg ?_
  refine s_pu hF (pu_assign rfl) rfl ?_; clear hF; intro a hF
  refine c_nil ?_
  refine n_then ?_
  refine c_seq ?_
  refine c_reg ?_
  refine s_pu hF (pu_assign rfl) rfl ?_; clear hF; intro a hF
  refine c_nil ?_
  refine n_then ?_
  refine c_seq ?_
  refine c_seq ?_
  refine c_reg ?_
  refine s_pu hF (pu_assign rfl) rfl ?_; clear hF; intro a hF
  refine c_nil ?_
  refine n_then ?_
  refine c_block ?_
  refine hS.cut fun O0 F0 hO0 hF0 hS => ?_
  refine hF.cut (.cons (k := 3) rfl <| .cons (k := 4) rfl <| .nil) (.cons (k := 0) rfl <| .nil) fun L0 hL0 hF => ?_
  refine c_loop (α := Nat) (fun k a w => k ≤ l.length ∧ k ≤ 12 ∧ (l.take k).flatten.length ≤ 1500 ∧ Fr a 30 ([(3, .val (.int .i64 ((l.take k).flatten.length : Nat))), (4, .val (.int .i64 k))] ++ L0) ∧ St w0 h0 [] w O0 F0) (fun k => l.length - k) 0 (⟨by omega, by omega, by simp, hF, hS⟩) ?_
  subst hO0 hF0 hL0
  rintro k a w ⟨hk, hk2, hfl, hF, hS⟩
  refine c_seq ?_
  refine c_seq ?_
  refine c_reg ?_
  refine s_pu hF (pu_move rfl) rfl ?_; clear hF; intro a hF
  refine s_pu hF (pu_move rfl) rfl ?_; clear hF; intro a hF
  refine s_pu hF (pu_len_sl tyL22 rfl rfl) rfl ?_; clear hF; intro a hF
  refine s_pu hF (pu_ilt rfl rfl) rfl ?_; clear hF; intro a hF
  refine c_nil ?_
  refine n_then ?_
  refine c_if hF rfl (fun hc8 => ?_) (fun hc8 => ?_)
  · try simp only [decide_eq_true_eq, decide_eq_false_iff_not, Bool.not_eq_true', Bool.not_eq_false', Bool.not_eq_eq_eq_not, Bool.not_true, Bool.not_false] at hc8
    obtain ⟨g, o, ha, hH⟩ := hb.atD [] (i := k) (by omega)
    have hfs : (l.take (k + 1)).flatten.length = (l.take k).flatten.length + (l.getD k []).length := by rw [flat_step l k (by omega), List.length_append]
    have hfl2 := flat_le l (k + 1)
    refine c_skip ?_
    refine n_then ?_
    refine c_seq ?_
    refine c_block ?_
    refine c_seq ?_
    refine c_seq ?_
    refine c_reg ?_
    refine s_pu hF (pu_move rfl) rfl ?_; clear hF; intro a hF
    refine s_pu hF (pu_ige rfl rfl) rfl ?_; clear hF; intro a hF
    refine s_pu hF (pu_move rfl) rfl ?_; clear hF; intro a hF
    refine w_split hF ⟨_, _, (rfl : _[2]? = some _), rfl, rfl⟩ (fun hg5_2 => ?_) (fun hg5_2 => ?_)
    · have hg5_2p := hg5_2
      try simp only [decide_eq_true_eq, decide_eq_false_iff_not, Bool.not_eq_true', Bool.not_eq_false', Bool.not_eq_eq_eq_not, Bool.not_true, Bool.not_false] at hg5_2p
      refine g_no hF ⟨_, _, (rfl : _[2]? = some _), rfl, rfl⟩ hg5_2 rfl ?_; clear hF; intro a hF
      refine g_no hF ⟨_, _, (rfl : _[2]? = some _), rfl, rfl⟩ hg5_2 rfl ?_; clear hF; intro a hF
      refine g_no hF ⟨_, _, (rfl : _[2]? = some _), rfl, rfl⟩ hg5_2 rfl ?_; clear hF; intro a hF
      refine g_no hF ⟨_, _, (rfl : _[2]? = some _), rfl, rfl⟩ hg5_2 rfl ?_; clear hF; intro a hF
      refine g_no hF ⟨_, _, (rfl : _[2]? = some _), rfl, rfl⟩ hg5_2 rfl ?_; clear hF; intro a hF
      refine g_no hF ⟨_, _, (rfl : _[2]? = some _), rfl, rfl⟩ hg5_2 rfl ?_; clear hF; intro a hF
      refine g_no hF ⟨_, _, (rfl : _[2]? = some _), rfl, rfl⟩ hg5_2 rfl ?_; clear hF; intro a hF
      refine g_no hF ⟨_, _, (rfl : _[2]? = some _), rfl, rfl⟩ hg5_2 rfl ?_; clear hF; intro a hF
      refine s_pu hF (pu_pick_t rfl hg5_2 rfl) rfl ?_; clear hF; intro a hF
      refine c_nil ?_
      refine n_then ?_
      refine c_ift hF rfl rfl ?_
      refine c_seq ?_
      refine c_reg ?_
      refine s_pu hF (pu_assign rfl) rfl ?_; clear hF; intro a hF
      refine c_nil ?_
      refine n_then ?_
      refine c_ret (r_then (r_block (r_then (r_then (r_block (r_then ?_))))))
      exact f_ret hF rfl (.tmp rfl (.nil)) (hS.retv (congrArg Value.bool (by first | (rw [longS, decide_eq_true (show 12 < l.length by omega)]; simp; done) | (rw [longS, decide_eq_true (show 1500 < l.flatten.length by omega)]; simp; done))))
    · have hg5_2p := hg5_2
      try simp only [decide_eq_true_eq, decide_eq_false_iff_not, Bool.not_eq_true', Bool.not_eq_false', Bool.not_eq_eq_eq_not, Bool.not_true, Bool.not_false] at hg5_2p
      refine g_pu hF ⟨_, _, (rfl : _[2]? = some _), rfl, rfl⟩ hg5_2 (pu_move rfl) rfl ?_; clear hF; intro a hF
      refine g_pu hF ⟨_, _, (rfl : _[2]? = some _), rfl, rfl⟩ hg5_2 (pu_move rfl) rfl ?_; clear hF; intro a hF
      refine g_pu hF ⟨_, _, (rfl : _[2]? = some _), rfl, rfl⟩ hg5_2 (pu_iaddr_sla (j := k) ha slt22 rfl rfl (by omega) (by omega)) rfl ?_; clear hF; intro a hF
      refine g_pu hF ⟨_, _, (rfl : _[2]? = some _), rfl, rfl⟩ hg5_2 (pu_load1 one9 rfl (hH _ hS.base)) rfl ?_; clear hF; intro a hF
      refine g_pu hF ⟨_, _, (rfl : _[2]? = some _), rfl, rfl⟩ hg5_2 (pu_len_s tyS9 rfl rfl) rfl ?_; clear hF; intro a hF
      refine g_pu hF ⟨_, _, (rfl : _[2]? = some _), rfl, rfl⟩ hg5_2 (pu_move rfl) rfl ?_; clear hF; intro a hF
      refine g_pu hF ⟨_, _, (rfl : _[2]? = some _), rfl, rfl⟩ hg5_2 (pu_sub rfl rfl (by first | exact wrap_i64 (by omega) (by omega) | rfl)) rfl ?_; clear hF; intro a hF
      refine g_pu hF ⟨_, _, (rfl : _[2]? = some _), rfl, rfl⟩ hg5_2 (pu_igt rfl rfl) rfl ?_; clear hF; intro a hF
      refine s_pu hF (pu_pick_f rfl hg5_2 rfl) rfl ?_; clear hF; intro a hF
      refine c_nil ?_
      refine n_then ?_
      refine c_if hF rfl (fun hc22 => ?_) (fun hc22 => ?_)
      · try simp only [decide_eq_true_eq, decide_eq_false_iff_not, Bool.not_eq_true', Bool.not_eq_false', Bool.not_eq_eq_eq_not, Bool.not_true, Bool.not_false] at hc22
        refine c_seq ?_
        refine c_reg ?_
        refine s_pu hF (pu_assign rfl) rfl ?_; clear hF; intro a hF
        refine c_nil ?_
        refine n_then ?_
        refine c_ret (r_then (r_block (r_then (r_then (r_block (r_then ?_))))))
        exact f_ret hF rfl (.tmp rfl (.nil)) (hS.retv (congrArg Value.bool (by first | (rw [longS, decide_eq_true (show 12 < l.length by omega)]; simp; done) | (rw [longS, decide_eq_true (show 1500 < l.flatten.length by omega)]; simp; done))))
      · try simp only [decide_eq_true_eq, decide_eq_false_iff_not, Bool.not_eq_true', Bool.not_eq_false', Bool.not_eq_eq_eq_not, Bool.not_true, Bool.not_false] at hc22
        refine c_skip ?_
        refine n_then ?_
        refine c_reg ?_
        refine s_pu hF (pu_move rfl) rfl ?_; clear hF; intro a hF
        refine s_pu hF (pu_move rfl) rfl ?_; clear hF; intro a hF
        refine s_pu hF (pu_move rfl) rfl ?_; clear hF; intro a hF
        refine s_pu hF (pu_iaddr_sla (j := k) ha slt22 rfl rfl (by omega) (by omega)) rfl ?_; clear hF; intro a hF
        refine s_pu hF (pu_load1 one9 rfl (hH _ hS.base)) rfl ?_; clear hF; intro a hF
        refine s_pu hF (pu_len_s tyS9 rfl rfl) rfl ?_; clear hF; intro a hF
        refine s_pu hF (pu_add rfl rfl (by first | exact wrap_i64 (by omega) (by omega) | rfl)) rfl ?_; clear hF; intro a hF
        refine s_pu hF (pu_assign rfl) rfl ?_; clear hF; intro a hF
        refine c_nil ?_
        refine n_block ?_
        refine n_then ?_
        refine c_reg ?_
        refine s_pu hF (pu_move rfl) rfl ?_; clear hF; intro a hF
        refine s_pu hF (pu_add rfl rfl (by first | exact wrap_i64 (by omega) (by omega) | rfl)) rfl ?_; clear hF; intro a hF
        refine s_pu hF (pu_assign rfl) rfl ?_; clear hF; intro a hF
        refine c_nil ?_
        have e : (((l.take k).flatten.length : Nat) : Int) + ((l.getD k []).length : Nat) = (((l.take (k + 1)).flatten.length : Nat) : Int) := by rw [hfs]; omega
        rw [e] at hF
        exact ⟨k + 1, ⟨by omega, by omega, by omega, hF.pick (.cons (k := 3) rfl <| .cons (k := 4) rfl <| .cons (k := 0) rfl <| .nil), hS⟩, by omega⟩
  · try simp only [decide_eq_true_eq, decide_eq_false_iff_not, Bool.not_eq_true', Bool.not_eq_false', Bool.not_eq_eq_eq_not, Bool.not_true, Bool.not_false] at hc8
    obtain rfl : k = l.length := by omega
    rw [List.take_length] at hfl
    refine c_exit (x_then (x_then (x_here ?_)))
    refine n_then ?_
    refine c_seq ?_
    refine c_reg ?_
    refine s_pu hF (pu_assign rfl) rfl ?_; clear hF; intro a hF
    refine c_nil ?_
    refine n_then ?_
    refine c_ret ?_
    exact f_ret hF rfl (.tmp rfl (.nil)) (hS.retv (congrArg Value.bool (by rw [longS, decide_eq_false (by omega), decide_eq_false (by omega)]; rfl)))
set_option maxHeartbeats 1000000 in
theorem c_lives  (w0 : World) (h0 : View) (hv : VLe h0 (Full w0))  : Calls Try.prog 6 #[] w0 (Ret w0 h0 fun u _ => u = .bool true) := by
  refine f_enter (args := []) Try.func6 rfl Try.ntmps6 rfl fun a hF => ?_
  have hS := St.init w0 h0 hv
  refine c_seq ?_
  refine c_reg ?_
  refine s_pu hF (pu_assign rfl) rfl ?_; clear hF; intro a hF
  refine c_nil ?_
  refine n_then ?_
  refine c_seq ?_
  refine c_reg ?_
  refine s_make8 (m := 32) hF hS tyL36 z8 rfl rfl (by decide) (by decide) rfl ?_; clear hS hF; intro zb w a hS hF
  refine s_pu hF (pu_tostr tyL36 tyI5 tyS9 rfl rfl (buf_str (i := 0) hS rfl)) rfl ?_; clear hF; intro a hF
  refine s_pu hF (pu_assign rfl) rfl ?_; clear hF; intro a hF
  refine c_nil ?_
  refine n_then ?_
  refine c_seq ?_
  refine c_reg ?_
  refine s_callv hF hS ok14 rfl (c_Begin _ _ hS.view) rfl ?_; clear hS hF; intro w a hS hF
  refine s_calld hF hS ok13 rfl (c_Push beginM [120] (by decide) _ (Full w) (VLe.refl _)) rfl ?_; clear hS hF; intro w a hS hF
  rw [push_begin] at hF
  refine s_pu hF (pu_move rfl) rfl ?_; clear hF; intro a hF
  refine s_pu hF (pu_extract rfl rfl) rfl ?_; clear hF; intro a hF
  refine s_pu hF (pu_extract rfl rfl) rfl ?_; clear hF; intro a hF
  refine s_alloc hF hS zero29 rfl ?_; clear hS hF; intro b0 w a hS hF
  refine s_store (i := 0) (new := mkC ⟨0, 1, Z32, linkS Z32 [120]⟩) hF hS rfl rfl rfl rfl (by exact sz29) rfl (by simp [mkC]) ?_; clear hS hF; intro w a hS hF
  rw [spl_all (by simp [mkC])] at hS
  refine s_pu hF (pu_assign rfl) rfl ?_; clear hF; intro a hF
  refine c_nil ?_
  refine n_then ?_
  refine c_seq ?_
  refine region_st 33 hF hS (allV_ne rfl) mix (by kernel_rfl) fun Γ hG => ?_
  refine t_pu hG (fun w hC => pu_faddr fld29_0 rfl) ?_; clear hG; intro Γ hG
  refine t_pu hG (fun w hC => o_load1 (i := 0) hC.st rfl one3 rfl rfl) ?_; clear hG; intro Γ hG
  refine t_pu hG (fun w hC => pu_ieq rfl rfl) ?_; clear hG; intro Γ hG
  refine t_pu hG (fun w hC => pu_move rfl) ?_; clear hG; intro Γ hG
  refine tg_pu hG ⟨_, _, (rfl : _[3]? = some _), rfl, rfl⟩ rfl (fun w hC => pu_faddr fld29_1 rfl) ?_; clear hG; intro Γ hG
  refine tg_pu hG ⟨_, _, (rfl : _[3]? = some _), rfl, rfl⟩ rfl (fun w hC => o_load1 (i := 0) hC.st rfl one3 rfl rfl) ?_; clear hG; intro Γ hG
  refine tg_pu hG ⟨_, _, (rfl : _[3]? = some _), rfl, rfl⟩ rfl (fun w hC => pu_ieq rfl rfl) ?_; clear hG; intro Γ hG
  refine t_pu hG (fun w hC => pu_pick_t rfl rfl rfl) ?_; clear hG; intro Γ hG
  refine t_pu hG (fun w hC => pu_move rfl) ?_; clear hG; intro Γ hG
  refine tg_pu hG ⟨_, _, (rfl : _[8]? = some _), rfl, rfl⟩ rfl (fun w hC => pu_faddr fld29_2 rfl) ?_; clear hG; intro Γ hG
  refine tg_pu hG ⟨_, _, (rfl : _[8]? = some _), rfl, rfl⟩ rfl (fun w hC => o_load1 (i := 0) hC.st rfl one9 rfl rfl) ?_; clear hG; intro Γ hG
  refine tg_pu hG ⟨_, _, (rfl : _[8]? = some _), rfl, rfl⟩ rfl (fun w hC => pu_move rfl) ?_; clear hG; intro Γ hG
  refine tg_pu hG ⟨_, _, (rfl : _[8]? = some _), rfl, rfl⟩ rfl (fun w hC => pu_seq rfl rfl) ?_; clear hG; intro Γ hG
  refine t_pu hG (fun w hC => pu_pick_t rfl rfl rfl) ?_; clear hG; intro Γ hG
  refine t_pu hG (fun w hC => pu_move rfl) ?_; clear hG; intro Γ hG
  refine tg_pu hG ⟨_, _, (rfl : _[14]? = some _), rfl, rfl⟩ (decide_eq_true rfl) (fun w hC => pu_faddr fld29_3 rfl) ?_; clear hG; intro Γ hG
  refine tg_pu hG ⟨_, _, (rfl : _[14]? = some _), rfl, rfl⟩ (decide_eq_true rfl) (fun w hC => o_load1 (i := 0) hC.st rfl one9 rfl rfl) ?_; clear hG; intro Γ hG
  refine tg_pu hG ⟨_, _, (rfl : _[14]? = some _), rfl, rfl⟩ (decide_eq_true rfl) (fun w hC => pu_move rfl) ?_; clear hG; intro Γ hG
  refine tg_pu hG ⟨_, _, (rfl : _[14]? = some _), rfl, rfl⟩ (decide_eq_true rfl) (fun w hC => pu_cat rfl rfl (by simp)) ?_; clear hG; intro Γ hG
  refine tg_callv hG ⟨_, _, (rfl : _[14]? = some _), rfl, rfl⟩ (decide_eq_true rfl) ok12 rfl (fun w hS => (c_RSum (Z32 ++ [120]) (by decide) _ _ hS.view)) ?_; clear hG; intro Γ hG
  refine tg_pu hG ⟨_, _, (rfl : _[14]? = some _), rfl, rfl⟩ (decide_eq_true rfl) (fun w hC => pu_seq rfl rfl) ?_; clear hG; intro Γ hG
  refine t_pu hG (fun w hC => pu_pick_t rfl (decide_eq_true rfl) rfl) ?_; clear hG; intro Γ hG
  refine t_pu hG (fun w hC => pu_move rfl) ?_; clear hG; intro Γ hG
  refine tg_pu hG ⟨_, _, (rfl : _[22]? = some _), rfl, rfl⟩ (decide_eq_true rfl) (fun w hC => pu_move rfl) ?_; clear hG; intro Γ hG
  refine tg_pu hG ⟨_, _, (rfl : _[22]? = some _), rfl, rfl⟩ (decide_eq_true rfl) (fun w hC => pu_ieq rfl rfl) ?_; clear hG; intro Γ hG
  refine t_pu hG (fun w hC => pu_pick_t rfl (decide_eq_true rfl) rfl) ?_; clear hG; intro Γ hG
  refine t_pu hG (fun w hC => pu_move rfl) ?_; clear hG; intro Γ hG
  refine tg_pu hG ⟨_, _, (rfl : _[26]? = some _), rfl, rfl⟩ rfl (fun w hC => o_loadA (i := 0) (new := mkC ⟨0, 1, Z32, linkS Z32 [120]⟩) hC.st rfl agg29 rfl (rfl)) ?_; clear hG; intro Γ hG
  refine tg_build (xs := [.const (.string ⟨#[120]⟩)]) hG ⟨_, _, (rfl : _[26]? = some _), rfl, rfl⟩ rfl slt_b22 rfl rfl (by simp [Value.cells]) (by decide) ?_; clear hG; intro Γ hG
  refine tg_callP (k := 39) (v := .int .i64 (verM ⟨0, 1, Z32, linkS Z32 [120]⟩ [[120]])) hG ⟨_, _, (rfl : _[26]? = some _), rfl, rfl⟩ rfl ok10 rfl (by simp) (fun u => rfl) (fun w1 u hS1 hu => ⟨Full w1, by obtain ⟨br, rfl, hrow⟩ := hu; exact c_Verify ⟨0, 1, Z32, linkS Z32 [120]⟩ _ 1 1 [[120]] rfl (by simp) (by simp) w1 (Full w1) (VLe.refl _) (SlC.ofRow (by simp) (h := Full w1) hrow.2 rfl (by decide) (by decide) rfl)⟩) ?_; clear hG; intro Γ hG
  refine tg_pu hG ⟨_, _, (rfl : _[26]? = some _), rfl, rfl⟩ rfl (fun w hC => pu_ieq rfl rfl) ?_; clear hG; intro Γ hG
  refine t_pu hG (fun w hC => pu_pick_t rfl rfl rfl) ?_; clear hG; intro Γ hG
  refine t_pu hG (fun w hC => pu_assign rfl) ?_; clear hG; intro Γ hG
  refine t_end hG ?_; clear hG hF; intro a w hC hE hF hP; replace hS := hC.st; clear hC
  clear hE
  obtain ⟨br39, hvr, hrow39⟩ := hP 39 _ rfl; replace hF := hF.openP hvr; clear hvr
  clear hP
  refine c_nil ?_
  refine n_then ?_
  refine c_ret ?_
  exact f_ret hF rfl (.tmp rfl (.nil)) (hS.retv (by rw [ver_one]; rfl))
end Go.Proofs.Ytnmhenglealadaa
set_option maxRecDepth 100000
namespace Go.Proofs.Ytnmhenglealadaa
open Go Go.Dx Go.RowKit
theorem slc_lm {α : Type} {T sz n cp : Nat} {f : View → List Value → α → Prop} {h : View} {ad : Option Addr} {l : List α} (hs : SlC T sz f h (.slice ad n cp) l) : l.length ≤ 9223372036854775807 := by
  obtain ⟨_, _, _, h1, h2⟩ := hs.parts
  simp only [maxLen] at h2
  omega
def smF (h : List UInt8) (l : List (List UInt8)) (i : Nat) : List UInt8 := chainS h (l.take i) ++ l.getD i []
/-- what is summed, text by text, and the sum -/
def sumsS (h : List UInt8) (l : List (List UInt8)) : List (List UInt8) := (List.range l.length).map (smF h l) ++ [chainS h l]
theorem sums_len (h : List UInt8) (l : List (List UInt8)) : (sumsS h l).length = l.length + 1 := by simp [sumsS]
theorem sums_at (h : List UInt8) (l : List (List UInt8)) (i : Nat) (hi : i < l.length) : (sumsS h l).getD i [] = smF h l i := by
  simp [sumsS, List.getD, List.getElem?_append, hi]
theorem sums_end (h : List UInt8) (l : List (List UInt8)) : (sumsS h l).getD l.length [] = chainS h l := by
  simp [sumsS, List.getD, List.getElem?_append]
theorem fl1 (l : List (List UInt8)) : (l.map fun t => [vs t]).flatten.length = l.length := by
  induction l <;> simp_all
/-- texts that are gathered, and a sum -/
structure SmG where
  a : Option Addr
  n : Nat
  cp : Nat
  l : List (List UInt8)
  sum : List UInt8
def smR (bc bs : Nat) (s : SmG) (k : Nat := 900) : BL := [(k, .c bc 22 [.slice s.a s.n s.cp]), (901, .e (bufE 9 1 (.slice s.a s.n s.cp) (s.l.map fun s => [vs s]).flatten)), (904, .c bs 9 [vs s.sum])]
def smJ (bc bs l : Nat) (rec : Loop) (s : SmG) : BL := smR bc bs s ++ [(902, .e (some l, LoopC rec))]
set_option maxHeartbeats 1000000 in
/-- what is summed is handed to yield, one by one -/
theorem c_sum1 (bc bs l : Nat) (rec : Loop) (h00 : View) (hy : ∀ (i : Int) (x : List UInt8) (s : SmG), s.n = s.l.length → s.l.length + 1 ≤ 2000000 → ∀ w v, VLe h00 v → VLe v (Full w) → (∀ b ∈ ids (oes (smJ bc bs l rec s)), v b = none) → OwnJ w (oes (smJ bc bs l rec s)) →
      YC Try.prog (smJ bc bs l rec) s l [.int .i64 i, vs x] w fun u s' => u = .bool true ∧ (s'.l = s.l ++ [x] ∧ s'.n = s'.l.length ∧ s'.sum = s.sum))
    (ad : Option Addr) (cap b : Nat) (t : List (List UInt8)) (ht : ∀ x ∈ t, x.length ≤ 1000000) (htl : t.length ≤ 1000000) (s : SmG) (hs0 : s.l = []) (hn : s.n = s.l.length) (hsm : s.sum.length ≤ 1000000) (w0 : World) (h0 : View) (hle : VLe h00 h0) (hv : VLe h0 (Full w0)) (hno : ∀ b ∈ ids (oes (smJ bc bs l rec s)), h0 b = none) (ho : OwnJ w0 (oes (smJ bc bs l rec s)))
    (hb : h0 b = some (.cells #[.slice ad t.length cap] 22 (0, 0))) (hx : SlC 9 1 (flatR fun s => [vs s]) h0 (.slice ad t.length cap) t) :
    Calls Try.prog 35 #[.func (.yield l) #[] #[], .pointer (some ⟨b, 0, none⟩), .pointer (some ⟨bs, 0, none⟩)] w0 (RetJ (smJ bc bs l rec) s w0 fun u s' => u = .tuple #[] ∧ (s'.l = sumsS s.sum t ∧ s'.n = s'.l.length)) := by
  have hlm := slc_lm hx
  refine entJR (smJ bc bs l rec) s (g := fun _ => .tuple #[]) (args := [.func (.yield l) #[] #[], .pointer (some ⟨b, 0, none⟩), .pointer (some ⟨bs, 0, none⟩)]) TT_ok [18, 28] [] [.v (.func (.yield l) #[] #[]), .v (.pointer (some ⟨b, 0, none⟩)), .o 904 0] Try.func35 rfl Try.ntmps35 rfl rfl hv hno ho rfl ?_
  refine ⟨.slice ad t.length cap, gc_mk fun _ => fun v' w g1 _ g3 => by rw [cell_row (g3 _ _ (g1 _ _ hb))]; rfl, ?_⟩
  refine w_loopB TT_ok (fun z : Nat × SmG => [(8, .v (.int .i64 z.1))]) (fun z => smJ bc bs l rec z.2) (0, s) (fun z => z.1 ≤ t.length ∧ z.2.l = (List.range z.1).map (smF s.sum t) ∧ z.2.n = z.2.l.length ∧ z.2.sum = chainS s.sum (t.take z.1)) (fun z => t.length - z.1) ?_
  refine And.intro ⟨⟨Nat.zero_le _, by rw [hs0]; rfl, hn, rfl⟩, gsJ ⟨rfl, rfl, rfl, rfl, trivial⟩⟩ ?_
  rintro ⟨j, y⟩ ⟨hj, hy1, hy2, hy3⟩
  have hj : j ≤ t.length := hj
  have hy1 : y.l = (List.range j).map (smF s.sum t) := hy1
  have hy3 : y.sum = chainS s.sum (t.take j) := hy3
  have hyl : y.l.length = j := by rw [hy1]; simp
  have hcl : y.sum.length ≤ 1000000 := by rw [hy3]; exact chain_len _ _ _ hsm (by decide)
  refine cnd (fun h => ?_) (fun h => ?_)
  · have hj2 : j < t.length := by have : (j : Int) < t.length := h; omega
    have htj := ht _ (getD_mem t j [] hj2)
    refine ixs hx j [] ?_
    refine ct ?_ (by show y.sum.length + (t.getD j []).length ≤ _; omega)
    refine yJ TT_ok (smJ bc bs l rec) y (g := fun _ => .bool true) (fun w v h1 h2 h3 h4 h5 => hy j (y.sum ++ t.getD j []) y hy2 (by omega) w v (hle.trans h1) h3 h4 h5) ?_ (hl := ⟨rfl, rfl, rfl, rfl, trivial⟩)
    rintro z ⟨z1, z2, z3⟩
    refine cndF rfl ?_
    refine cl (c_Link z.sum (t.getD j []) (by rw [z3]; omega)) ?_
    refine wi ?_
    refine ⟨(j + 1, { z with sum := linkS z.sum (t.getD j []) }), ⟨⟨by show j + 1 ≤ _; omega, ?_, z2, ?_⟩, by show t.length - (j + 1) < t.length - j; omega⟩, gsJ ⟨rfl, rfl, rfl, rfl, trivial⟩⟩
    · show z.l = _
      rw [z1, hy1, List.range_succ, List.map_append, hy3]; rfl
    · show linkS z.sum (t.getD j []) = chainS s.sum (t.take (j + 1))
      rw [chain_step s.sum t j hj2, z3, hy3]
  · have hj2 : j = t.length := by have : ¬ (j : Int) < t.length := h; omega
    refine ⟨.slice ad t.length cap, gc_mk fun _ => fun v' w g1 _ g3 => by rw [cell_row (g3 _ _ (g1 _ _ hb))]; rfl, ?_⟩
    refine yJ TT_ok (smJ bc bs l rec) y (g := fun _ => .bool true) (fun w v h1 h2 h3 h4 h5 => hy t.length y.sum y hy2 (by omega) w v (hle.trans h1) h3 h4 h5) ?_ (hl := ⟨rfl, rfl, rfl, rfl, trivial⟩)
    rintro z ⟨z1, z2, z3⟩
    refine ⟨z, rfl, ⟨?_, z2⟩, rfl, rfl, rfl, rfl, rfl, trivial⟩
    rw [z1, hy1, hy3, hj2, List.take_length]; rfl
theorem c_summed (h : List UInt8) (ad : Option Addr) (cap n : Nat) (w0 : World) (h0 : View) (hv : VLe h0 (Full w0)) : Calls Try.prog 23 #[vs h, .slice ad n cap] w0 (RetO w0 h0 (fun x : Nat × Nat => .func (.func 35) #[] #[.pointer (some ⟨x.1, 0, none⟩), .pointer (some ⟨x.2, 0, none⟩)]) (·.2) 9 (fun _ => [vs h]) fun x hh => hh x.1 = some (.cells #[.slice ad n cap] 22 (0, 0))) := by
  refine entO (args := [vs h, .slice ad n cap]) TT_ok [5] [] Try.func23 rfl Try.ntmps23 rfl rfl hv (fun _ _ _ hle hx => hle _ _ hx) ?_
  intro b2 b3
  refine shutG TT_ok (Φ := fun h => h b3 = some (.cells #[.slice ad n cap] 22 (0, 0))) 3 rfl (fun hh _ _ hb => hb) ?_ (fun _ _ hle hx => hle _ _ hx)
  exact ⟨(b3, b2), 2, rfl, rfl, fun v _ hF => hF.2⟩
set_option maxHeartbeats 2000000 in
theorem c_all (h : List UInt8) (hh : h.length ≤ 1000000) (ad : Option Addr) (cap : Nat) (t : List (List UInt8)) (ht : ∀ x ∈ t, x.length ≤ 1000000) (htl : t.length ≤ 1000000) (w0 : World) (h0 : View) (hv : VLe h0 (Full w0)) (hx : SlC 9 1 (flatR fun s => [vs s]) h0 (.slice ad t.length cap) t) :
    Calls Try.prog 15 #[vs h, .slice ad t.length cap] w0 (Ret w0 h0 fun u hh => ∃ a : Option Addr × Nat, u = .slice a.1 (sumsS h t).length a.2 ∧ SlC 9 1 (flatR fun t => [vs t]) hh (.slice a.1 (sumsS h t).length a.2) (sumsS h t)) := by
  refine entDM (E := fun B F us => ∃ a : Option Addr × Nat, tupV us = .slice a.1 (sumsS h t).length a.2 ∧ ∀ v, F v → SlC 9 1 (flatR fun t => [vs t]) v (.slice a.1 (sumsS h t).length a.2) (sumsS h t)) (args := [vs h, .slice ad t.length cap]) TT_ok [] [] 2 Try.func15 rfl Try.ntmps15 rfl rfl hv ?_ ?_
  · rintro B F us w ⟨a, h1, h2⟩ hS
    rw [h1]
    exact hS.st.ret (fun _ _ hle ⟨b, e, hs⟩ => ⟨b, e, hs.monoF hle⟩) fun hh hF => ⟨a, rfl, h2 hh hF⟩
  intro b5
  intro a w hD hS
  refine c_seq (c_seq (hand (c := ⟨Try.prog, TT, .wp, 18, w0, h0, [], fun _ => False, [], []⟩) TT_ok hD hS ?_ (fun _ _ _ h _ _ => h.elim)))
  refine cO TT_ok 904 (fun w v h1 h2 h3 => c_summed h ad cap t.length w v h3) (fun _ _ _ hle hx => hle _ _ hx) (fun be => ?_)
  intro a w hD hS
  refine n_then (c_block ?_)
  have hS := nil_sx (T := 9) (sz := 1) (k := 901) hS
  have hD := nil_dn 901 (bufE 9 1 (.slice none 0 0) []) hD
  have e10 : a.eval (.tmp 10) = .func (.func 35) #[] #[.pointer (some ⟨be.1, 0, none⟩), .pointer (some ⟨be.2, 0, none⟩)] := hD.fr.kv (t := 10) rfl
  have e5 : a.tmps.getD 5 undef = .pointer (some ⟨b5, 0, none⟩) := hD.fr.kv (t := 5) rfl
  have hsz := hD.fr.sz
  have hdf := hD.fr.df
  refine rangeJ TT_ok (fun s => smR b5 be.2 s 5) ⟨none, 0, 0, [], h⟩ 902 903 (Ψ := fun s' => s'.l = sumsS h t ∧ s'.n = s'.l.length) (lb := [.pointer (some ⟨be.1, 0, none⟩), .pointer (some ⟨be.2, 0, none⟩)]) hD hS e10 (TT_ok.call rfl) ⟨rfl, rfl, rfl, trivial⟩ rfl (fun _ _ => rfl) (fun _ => rfl) (fun _ => rfl) ?_ ?_
  · intro rec l hr1 hr2 hr3 hr4 hr5 hr6 w1 v g1 g2 g3 g4 g5
    refine (c_sum1 b5 be.2 l rec v ?_ ad cap be.1 t ht htl ⟨none, 0, 0, [], h⟩ rfl rfl hh w1 v (fun _ _ h => h) g3 g4 g5 g2.2 (Mono.slF _ _ g1 hx)).mono ?_
    · intro i y s hn hl w2 v2 q1 q3 q4 q5
      have hl2 : w2.heap[l]? = some (.loop rec) := q5.own (some l, LoopC rec) (by unfold smJ; rw [oes_app]; exact List.mem_append_right _ (List.mem_singleton.2 rfl))
      refine ⟨_, _, _, _, run_yield2 hl2 hr4, ?_⟩
      obtain ⟨t11, tx11⟩ := set_tmp (v := .int .i64 i) hsz (show 11 < 18 by decide)
      have hsz2 : (a.tmps.setIfInBounds 11 (.int .i64 i)).size = 18 := by rw [Array.size_setIfInBounds]; exact hsz
      obtain ⟨t12, tx12⟩ := set_tmp (v := vs y) hsz2 (show 12 < 18 by decide)
      refine roundJ TT_ok (smR b5 be.2) 902 (Ψ := fun s' => s'.l = s.l ++ [y] ∧ s'.n = s'.l.length ∧ s'.sum = s.sum) hr1 hr2 s [] [] [(12, .v (vs y)), (5, .o 900 0)] (n := 18) q3 q4 q5 (by rw [hr3, Array.size_setIfInBounds]; exact hsz2) ?_ ?_
      · intro t u hu
        rw [hr3]
        show ((a.tmps.setIfInBounds 11 (.int .i64 i)).setIfInBounds 12 (vs y)).getD t undef = u
        by_cases h12 : t = 12
        · subst h12
          rw [t12]; exact Option.some.inj hu
        · rw [tx12 t h12]
          by_cases h5 : t = 5
          · subst h5
            rw [tx11 5 (by decide), e5]; exact Option.some.inj hu
          · have hn : lkA [(12, SV.v (vs y)), (5, SV.o 900 0)] t = none := by rw [lkA_ne (Ne.symm h12), lkA_ne (Ne.symm h5)]; rfl
            rw [kv_none hn] at hu; cases hu
      · generalize LoopC { rec with state := .busy } = LC
        rw [hr5]
        refine ⟨rfl, ?_⟩
        show vcC _ rec.body _ _ _ _ _ _
        rw [hr6]
        intro b15
        refine ap TT_ok 901 (AppT.of (bytes := 16) (sz := 0) (by kernel_rfl) (by kernel_rfl) (by kernel_rfl)) rfl rfl rfl rfl rfl rfl rfl (by rw [fl1]; show (s.l.length + 1) * 17 ≤ 140737488355328; omega) (fun a0 nn cp' hnn => ?_)
        rw [fl1] at hnn
        have hnn : nn * 1 = s.l.length + 1 := hnn
        refine ⟨⟨a0, nn, cp', s.l ++ [y], s.sum⟩, ⟨rfl, by show nn = (s.l ++ [y]).length; rw [List.length_append]; show nn = s.l.length + 1; omega, rfl⟩, rfl, rfl, ?_, rfl, rfl, trivial⟩
        exact congrArg some (by rw [show ((s.l ++ [y]).map fun t => [vs t]).flatten = (s.l.map fun t => [vs t]).flatten ++ [vs y] by simp]; rfl)
    · rintro e w2 ⟨u, s', rfl, ⟨_, h1, h2⟩, h3⟩
      exact ⟨u, s', rfl, ⟨h1, h2⟩, h3⟩
  · rintro s' D w2 ⟨hl, hn⟩ hD2 hS2
    show codeM Md.wp Try.prog _ _ _ _
    rw [hdf]
    generalize hds : [(⟨.collected D, #[]⟩ : Deferred)] = ds
    refine c_seq (regM TT_ok rfl (K := fun L B F => ∀ a w, Dn _ L [] B a → Sx _ B F w → _) hD2 hS2 (fun o ho => ?_) ?_ (fun _ _ _ a w hk hD hS => hk a w hD hS) (fun _ _ _ h _ _ => h.elim))
    · simp only [List.mem_cons, List.not_mem_nil, or_false] at ho
      rcases ho with rfl | rfl
      all_goals exact nodef_quiet rfl
    intro a3 w3 hD3 hS3
    refine n_then (c_ret ?_)
    show LeavesInM Fence.wide 1 Try.prog _ a3.tmps _ ds .returning w3
    rw [← hds]
    refine retM TT_ok (rs := [.tmp 4]) (E := fun B F us => (∃ s' : SmG, tupV us = .slice s'.a s'.n s'.cp ∧ s'.l = sumsS h t ∧ s'.n = s'.l.length ∧ lkA B 901 = some (.e (bufE 9 1 (.slice s'.a s'.n s'.cp) (s'.l.map fun s => [vs s]).flatten))) ∧ delE B 901 fun _ => True) 903 rfl rfl ?_ hD3 hS3 ?_
    · exact ⟨⟨s', rfl, hl, hn, rfl⟩, trivial⟩
    · rintro B F us w ⟨⟨s2, h1, h2, h3, h4⟩, h5⟩ hS
      obtain ⟨B', _, _, hs⟩ := seal_sx (c := ⟨Try.prog, TT, .wp, 18, w0, h0, [], fun _ => False, [], []⟩) (g := fun t => [vs t]) rfl h4 h3 (by intros; rfl) h5
      have hS' := hs w hS
      rw [h1]
      refine hS'.st.ret (fun _ _ hle ⟨b, e, hs⟩ => ⟨b, e, hs.monoF hle⟩) fun hh hF => ⟨(s2.a, s2.cp), ?_, ?_⟩
      · rw [h3, h2]
      · have := hF.2
        rw [h3, h2] at this
        exact this

end Go.Proofs.Ytnmhenglealadaa
set_option maxRecDepth 100000
namespace Go.Proofs.Ytnmhenglealadaa
open Go Go.Dx Go.RowKit
/-- the last place where what is summed is unlike -/
def clG (a b : List UInt8) (l k : List (List UInt8)) : Nat → List UInt8 × List UInt8 × Bool
  | 0 => ([], [], false)
  | n + 1 => if smF a l n ≠ smF b k n then (smF a l n, smF b k n, true) else clG a b l k n
def clS (a b : List UInt8) (l k : List (List UInt8)) : List UInt8 × List UInt8 × Bool := if l.length ≠ k.length ∨ chainS a l ≠ chainS b k then ([], [], false) else clG a b l k l.length
def clV (r : List UInt8 × List UInt8 × Bool) : Value := .tuple #[vs r.1, vs r.2.1, .bool r.2.2]
theorem clG_hit {a b : List UInt8} {l k : List (List UInt8)} {m : Nat} (hm : 0 < m) (h : smF a l (m - 1) ≠ smF b k (m - 1)) : clG a b l k m = (smF a l (m - 1), smF b k (m - 1), true) := by
  obtain ⟨n, rfl⟩ : ∃ n, m = n + 1 := ⟨m - 1, by omega⟩
  rw [clG, if_pos (by simpa using h)]; rfl
theorem clG_miss {a b : List UInt8} {l k : List (List UInt8)} {m : Nat} (hm : 0 < m) (h : smF a l (m - 1) = smF b k (m - 1)) : clG a b l k m = clG a b l k (m - 1) := by
  obtain ⟨n, rfl⟩ : ∃ n, m = n + 1 := ⟨m - 1, by omega⟩
  rw [clG, if_neg (by simpa using h)]; rfl
set_option maxHeartbeats 1000000 in
theorem c_Clash (a b : List UInt8) (ha : a.length ≤ 1000000) (hb : b.length ≤ 1000000) (ad : Option Addr) (cap : Nat) (l : List (List UInt8)) (ad2 : Option Addr) (cap2 : Nat) (k : List (List UInt8)) (hl : ∀ x ∈ l, x.length ≤ 1000000) (hll : l.length ≤ 1000000) (hk : ∀ x ∈ k, x.length ≤ 1000000) (hkl : k.length ≤ 1000000) (w0 : World) (h0 : View) (hv : VLe h0 (Full w0))
    (hx : SlC 9 1 (flatR fun s => [vs s]) h0 (.slice ad l.length cap) l) (hy : SlC 9 1 (flatR fun s => [vs s]) h0 (.slice ad2 k.length cap2) k) :
    Calls Try.prog 7 #[vs a, vs b, .slice ad l.length cap, .slice ad2 k.length cap2] w0 (Ret w0 h0 fun u _ => u = clV (clS a b l k)) := by
  refine ent (args := [vs a, vs b, .slice ad l.length cap, .slice ad2 k.length cap2]) TT_ok [] [] Try.func7 rfl Try.ntmps7 rfl rfl hv ?_
  refine cnd (fun h => ?_) (fun h => ?_)
  · rw [clS, if_pos (.inl (by omega))]; exact rfl
  have hlk : l.length = k.length := by omega
  have s1 := sums_len a l
  have s2 := sums_len b k
  refine cA TT_ok (fun w v h1 h2 h3 => c_all a ha ad cap l hl hll w v h3 (Mono.slF _ _ h1 hx)) (fun _ => Mono.slF) (fun xs => ?_)
  refine cA TT_ok (fun w v h1 h2 h3 => c_all b hb ad2 cap2 k hk hkl w v h3 (Mono.slF _ _ h1 hy)) (fun _ => Mono.slF) (fun ys => ?_)
  refine And.intro (by kernel_rfl) ?_
  refine ixf (fun v hF => hF.1.2) l.length [] ?_
  refine ixf (fun v hF => hF.2) l.length [] ?_
  rw [sums_end, show (sumsS b k).getD l.length [] = chainS b k by rw [hlk]; exact sums_end b k]
  refine cnd (fun h1 => ?_) (fun h1 => ?_)
  · rw [clS, if_pos (.inr (by simpa using h1))]; exact rfl
  have e : clS a b l k = clG a b l k l.length := by rw [clS, if_neg (by rintro (h2 | h2); exact h2 hlk; exact h2 (by simpa using h1))]
  rw [e]
  refine wi ?_
  refine w_loop TT_ok (fun m : Nat => [(14, .v (.int .i64 ((m : Int) - 1)))]) l.length (fun m => m ≤ l.length ∧ clG a b l k l.length = clG a b l k m) (fun m => m) ?_
  refine And.intro ⟨⟨Nat.le_refl _, rfl⟩, gs⟩ ?_
  rintro m ⟨hm, hg⟩
  refine cnd (fun h2 => ?_) (fun h2 => ?_)
  · have hm1 : 0 < m := by omega
    have e1 := sums_at a l (m - 1) (by omega)
    have e2 := sums_at b k (m - 1) (by omega)
    refine And.intro (by kernel_rfl) ?_
    refine ixf (fun v hF => hF.1.2) (m - 1) [] ?_
    refine ixf (fun v hF => hF.2) (m - 1) [] ?_
    rw [e1, e2]
    refine cnd (fun h3 => ?_) (fun h3 => ?_)
    · refine And.intro (by kernel_rfl) ?_
      refine ixf (fun v hF => hF.1.2) (m - 1) [] ?_
      refine ixf (fun v hF => hF.2) (m - 1) [] ?_
      rw [e1, e2, hg, clG_hit hm1 h3]
      exact rfl
    · refine ew (((m - 1 : Nat) : Int) - 1) (show IntKind.i64.wrap ((m : Int) - 1 - 1) = _ by rw [show ((m - 1 : Nat) : Int) - 1 = (m : Int) - 1 - 1 by omega]; exact wrap_i64 (by omega) (by omega)) ?_
      exact ⟨m - 1, ⟨⟨by omega, by rw [hg, clG_miss hm1 h3]⟩, by omega⟩, gs⟩
  · have hm0 : m = 0 := by omega
    subst hm0
    rw [hg]; exact rfl
set_option maxHeartbeats 1000000 in
theorem c_RClash (a b : List UInt8) (ha : a.length ≤ 1000000) (hb : b.length ≤ 1000000) (ad : Option Addr) (cap : Nat) (l : List (List UInt8)) (ad2 : Option Addr) (cap2 : Nat) (k : List (List UInt8)) (hl : ∀ x ∈ l, x.length ≤ 1000000) (hll : l.length ≤ 1000000) (hk : ∀ x ∈ k, x.length ≤ 1000000) (hkl : k.length ≤ 1000000) (w0 : World) (h0 : View) (hv : VLe h0 (Full w0))
    (hx : SlC 9 1 (flatR fun s => [vs s]) h0 (.slice ad l.length cap) l) (hy : SlC 9 1 (flatR fun s => [vs s]) h0 (.slice ad2 k.length cap2) k) :
    Calls Try.prog 8 #[vs a, vs b, .slice ad l.length cap, .slice ad2 k.length cap2] w0 (Ret w0 h0 fun u _ => u = clV (clS a b l k)) := by
  refine ent (args := [vs a, vs b, .slice ad l.length cap, .slice ad2 k.length cap2]) TT_ok [] [] Try.func8 rfl Try.ntmps8 rfl rfl hv ?_
  refine cbg (fun _ w hw => c_RChain a ha ad cap l hl (by omega) w h0 hw hx) ?_
  refine cbg (fun _ w hw => c_RChain b hb ad2 cap2 k hk (by omega) w h0 hw hy) ?_
  refine cnd (fun h => ?_) (fun h => ?_)
  · rw [clS, if_pos (by rcases h with h | h; exact .inl (by omega); exact .inr h)]; exact rfl
  have hlk : l.length = k.length := by omega
  have hlc : l.length ≤ cap := by obtain ⟨_, _, e, h1, _⟩ := hx.parts; cases e; exact h1
  have hkc : k.length ≤ cap2 := by obtain ⟨_, _, e, h1, _⟩ := hy.parts; cases e; exact h1
  have e : clS a b l k = clG a b l k l.length := by rw [clS, if_neg (by rintro (h2 | h2); exact h2 hlk; exact h2 h.2)]
  rw [e]
  refine wi ?_
  refine w_loop TT_ok (fun m : Nat => [(11, .v (.int .i64 ((m : Int) - 1)))]) l.length (fun m => m ≤ l.length ∧ clG a b l k l.length = clG a b l k m) (fun m => m) ?_
  refine And.intro ⟨⟨Nat.le_refl _, rfl⟩, gs⟩ ?_
  rintro m ⟨hm, hg⟩
  refine cnd (fun h2 => ?_) (fun h2 => ?_)
  · have hm1 : 0 < m := by omega
    refine And.intro (by kernel_rfl) ?_
    have hmk : m - 1 < k.length := by omega
    have t1 : (l.take (m - 1)).length = m - 1 := by rw [List.length_take]; omega
    have t2 : (k.take (m - 1)).length = m - 1 := by rw [List.length_take]; omega
    have g1 := chain_len a (l.take (m - 1)) 1000000 ha (by decide)
    have g2 := chain_len b (k.take (m - 1)) 1000000 hb (by decide)
    have g3 := hl _ (getD_mem l (m - 1) [] (by omega))
    have g4 := hk _ (getD_mem k (m - 1) [] hmk)
    refine ixl (m - 1) ?_ (by omega)
    refine cb (fun w hw => c_RChainN a ha ad cap (m - 1) (l.take (m - 1)) t1.symm (fun s hs => hl s (List.mem_of_mem_take hs)) (by omega) w h0 hw (hx.take (by omega))) ?_
    refine ixs hx (m - 1) [] ?_
    refine ct ?_ (by show (chainS a (l.take (m - 1))).length + (l.getD (m - 1) []).length ≤ _; omega)
    refine ixl (m - 1) ?_ (by omega)
    refine cb (fun w hw => c_RChainN b hb ad2 cap2 (m - 1) (k.take (m - 1)) t2.symm (fun s hs => hk s (List.mem_of_mem_take hs)) (by omega) w h0 hw (hy.take (by omega))) ?_
    refine ixs hy (m - 1) [] ?_
    refine ct ?_ (by show (chainS b (k.take (m - 1))).length + (k.getD (m - 1) []).length ≤ _; omega)
    refine cnd (fun h3 => ?_) (fun h3 => ?_)
    · rw [hg, clG_hit hm1 h3]
      exact rfl
    · refine ew (((m - 1 : Nat) : Int) - 1) (show IntKind.i64.wrap ((m : Int) - 1 - 1) = _ by rw [show ((m - 1 : Nat) : Int) - 1 = (m : Int) - 1 - 1 by omega]; exact wrap_i64 (by omega) (by omega)) ?_
      exact ⟨m - 1, ⟨⟨by omega, by rw [hg, clG_miss hm1 h3]⟩, by omega⟩, gs⟩
  · have hm0 : m = 0 := by omega
    subst hm0
    rw [hg]; exact rfl
theorem c_SameTexts (ad ad2 : Option Addr) (cap cap2 : Nat) (l k : List (List UInt8)) (w0 : World) (h0 : View) (hv : VLe h0 (Full w0)) (hb : SlC 9 1 (flatR fun s => [vs s]) h0 (.slice ad l.length cap) l) (hb2 : SlC 9 1 (flatR fun s => [vs s]) h0 (.slice ad2 k.length cap2) k) :
    Calls Try.prog 11 #[.slice ad l.length cap, .slice ad2 k.length cap2] w0 (Ret w0 h0 fun u _ => u = .bool (decide (l = k))) := by
  have hlm := slc_lm hb
  refine ent (args := [.slice ad l.length cap, .slice ad2 k.length cap2]) TT_ok [] [] Try.func11 rfl Try.ntmps11 rfl rfl hv ?_
  refine cnd (fun h => ?_) (fun h => ?_)
  · exact congrArg Value.bool (decide_eq_false fun e => h (by rw [e])).symm
  have hlk : l.length = k.length := by omega
  refine w_loop TT_ok (fun i : Nat => [(5, .v (.int .i64 i))]) 0 (fun i => i ≤ l.length ∧ ∀ j, j < i → l.getD j [] = k.getD j []) (fun i => l.length - i) ?_
  refine And.intro ⟨⟨Nat.zero_le _, fun j hj => absurd hj (Nat.not_lt_zero j)⟩, gs⟩ ?_
  rintro i ⟨hi, hn⟩
  refine cnd (fun h1 => ?_) (fun h1 => ?_)
  · refine And.intro (by kernel_rfl) ?_
    refine ixs hb i [] ?_
    refine ixs hb2 i [] ?_
    refine cnd (fun h2 => ?_) (fun h2 => ?_)
    · exact congrArg Value.bool (decide_eq_false fun e => h2 (by rw [e])).symm
    refine wi ?_
    refine ⟨i + 1, ⟨⟨by omega, fun j hj => ?_⟩, by omega⟩, gs⟩
    by_cases hji : j = i
    · subst hji; simpa using h2
    · exact hn j (by omega)
  · refine congrArg Value.bool (decide_eq_true ?_).symm
    refine List.ext_getElem hlk fun j h1 h2 => ?_
    have := hn j (by omega)
    rwa [getD_lt l j [] h1, getD_lt k j [] h2] at this
/-! the laws -/
theorem cl_same (a : List UInt8) (l : List (List UInt8)) : ∀ n, (clG a a l l n).2.2 = false
  | 0 => rfl
  | n + 1 => by rw [clG, if_neg (by simp)]; exact cl_same a l n
theorem smF_dig (a : List UInt8) (l : List (List UInt8)) (n : Nat) (hn : n < l.length) : dig (smF a l n) = chainS a (l.take (n + 1)) := by
  rw [chain_step a l n hn]; rfl
theorem chain_32 (a : List UInt8) (l : List (List UInt8)) (n : Nat) (h0 : 0 < n) (hn : n ≤ l.length) : (chainS a (l.take n)).length = 32 := by
  obtain ⟨m, rfl⟩ : ∃ m, n = m + 1 := ⟨n - 1, by omega⟩
  rw [chain_step a l m (by omega)]
  exact dig_len _
theorem smF_parts {a : List UInt8} {l k : List (List UInt8)} {n : Nat} (hl : n < l.length) (hk : n < k.length) (h : smF a l n = smF a k n) : chainS a (l.take n) = chainS a (k.take n) ∧ l.getD n [] = k.getD n [] := by
  refine List.append_inj h ?_
  by_cases h0 : n = 0
  · subst h0; rfl
  · rw [chain_32 a l n (by omega) (by omega), chain_32 a k n (by omega) (by omega)]
theorem cl_told {a : List UInt8} {l k : List (List UInt8)} (hlk : l.length = k.length) : ∀ n, n ≤ l.length → chainS a (l.take n) = chainS a (k.take n) →
    ((clG a a l k n).2.2 = true ∧ (clG a a l k n).1 ≠ (clG a a l k n).2.1 ∧ dig (clG a a l k n).1 = dig (clG a a l k n).2.1) ∨ ∀ j, j < n → l.getD j [] = k.getD j []
  | 0, _, _ => .inr fun j hj => absurd hj (Nat.not_lt_zero j)
  | n + 1, hn, hc => by
    have hl : n < l.length := by omega
    have hk : n < k.length := by omega
    by_cases h : smF a l n = smF a k n
    · have e : clG a a l k (n + 1) = clG a a l k n := by rw [clG, if_neg (by simpa using h)]
      rw [e]
      obtain ⟨h1, h2⟩ := smF_parts hl hk h
      rcases cl_told hlk n (by omega) h1 with h3 | h3
      · exact .inl h3
      · refine .inr fun j hj => ?_
        by_cases hjn : j = n
        · subst hjn; exact h2
        · exact h3 j (by omega)
    · have e : clG a a l k (n + 1) = (smF a l n, smF a k n, true) := by rw [clG, if_pos h]
      rw [e]
      refine .inl ⟨rfl, h, ?_⟩
      show dig (smF a l n) = dig (smF a k n)
      rw [smF_dig a l n hl, smF_dig a k n hk]; exact hc
theorem told {a : List UInt8} {l k : List (List UInt8)} (hlk : l.length = k.length) (hc : chainS a l = chainS a k) (hne : l ≠ k) : (clS a a l k).2.2 = true ∧ (clS a a l k).1 ≠ (clS a a l k).2.1 ∧ dig (clS a a l k).1 = dig (clS a a l k).2.1 := by
  have e : clS a a l k = clG a a l k l.length := by rw [clS, if_neg (by rintro (h | h); exact h hlk; exact h hc)]
  rw [e]
  rcases cl_told hlk l.length (Nat.le_refl _) (by rw [List.take_length, hlk, List.take_length]; exact hc) with h | h
  · exact h
  · refine absurd (List.ext_getElem hlk fun j h1 h2 => ?_) hne
    have := h j h1
    rwa [getD_lt l j [] h1, getD_lt k j [] h2] at this
theorem clG_len {a b : List UInt8} {l k : List (List UInt8)} (ha : a.length ≤ 300) (hb : b.length ≤ 300) (hl : ∀ s ∈ l, s.length ≤ 1500) (hk : ∀ s ∈ k, s.length ≤ 1500) : ∀ n, n ≤ l.length → n ≤ k.length → (clG a b l k n).1.length ≤ 1800 ∧ (clG a b l k n).2.1.length ≤ 1800
  | 0, _, _ => ⟨by simp [clG], by simp [clG]⟩
  | n + 1, h1, h2 => by
    rw [clG]
    split
    · have := chain_len a (l.take n) 300 ha (by decide)
      have := chain_len b (k.take n) 300 hb (by decide)
      have := hl _ (getD_mem l n [] (by omega))
      have := hk _ (getD_mem k n [] (by omega))
      unfold smF
      simp only [List.length_append]
      omega
    · exact clG_len ha hb hl hk n (by omega) (by omega)
theorem clS_len {a b : List UInt8} {l k : List (List UInt8)} (ha : a.length ≤ 300) (hb : b.length ≤ 300) (hl : ∀ s ∈ l, s.length ≤ 1500) (hk : ∀ s ∈ k, s.length ≤ 1500) : (clS a b l k).1.length ≤ 1800 ∧ (clS a b l k).2.1.length ≤ 1800 := by
  unfold clS
  split
  · exact ⟨by simp, by simp⟩
  · rename_i h
    exact clG_len ha hb hl hk _ (Nat.le_refl _) (by have := Classical.not_not.1 fun h2 => h (.inl h2); omega)
theorem c_ChainClashes (a b : List UInt8) (ad : Option Addr) (cap : Nat) (l : List (List UInt8)) (ad2 : Option Addr) (cap2 : Nat) (k : List (List UInt8)) (w0 : World) (h0 : View) (hv : VLe h0 (Full w0))
    (hx : SlC 9 1 (flatR fun s => [vs s]) h0 (.slice ad l.length cap) l) (hy : SlC 9 1 (flatR fun s => [vs s]) h0 (.slice ad2 k.length cap2) k) :
    Calls Try.prog 3 #[vs a, vs b, .slice ad l.length cap, .slice ad2 k.length cap2] w0 (Ret w0 h0 fun u _ => u = .bool true) := by
  refine ent (args := [vs a, vs b, .slice ad l.length cap, .slice ad2 k.length cap2]) TT_ok [] [] Try.func3 rfl Try.ntmps3 rfl rfl hv ?_
  refine cbg (fun _ w hw => c_long ad cap l w h0 hw hx) ?_
  refine cbg (fun _ w hw => c_long ad2 cap2 k w h0 hw hy) ?_
  refine cnd (fun h => ?_) (fun h => ?_)
  · refine cl c_lives ?_
    exact rfl
  obtain ⟨l1, _, l2⟩ := long_not (by simpa using h.1.2)
  obtain ⟨k1, _, k2⟩ := long_not (by simpa using h.2)
  have ha : a.length ≤ 1000000 := by omega
  have hb : b.length ≤ 1000000 := by omega
  have hl : ∀ x ∈ l, x.length ≤ 1000000 := fun x hx => by have := l2 x hx; omega
  have hk : ∀ x ∈ k, x.length ≤ 1000000 := fun x hx => by have := k2 x hx; omega
  refine cb (fun w hw => c_Clash a b ha hb ad cap l ad2 cap2 k hl (by omega) hk (by omega) w h0 hw hx hy) ?_
  refine cb (fun w hw => c_RClash a b ha hb ad cap l ad2 cap2 k hl (by omega) hk (by omega) w h0 hw hx hy) ?_
  refine clg (fun _ => c_lives) ?_
  refine congrArg Value.bool ?_
  simp
theorem c_ChainTold (m : Mk) (ad : Option Addr) (cap : Nat) (l : List (List UInt8)) (ad2 : Option Addr) (cap2 : Nat) (k : List (List UInt8)) (hmb : mkB m) (w0 : World) (h0 : View) (hv : VLe h0 (Full w0))
    (hx : SlC 9 1 (flatR fun s => [vs s]) h0 (.slice ad l.length cap) l) (hy : SlC 9 1 (flatR fun s => [vs s]) h0 (.slice ad2 k.length cap2) k) :
    Calls Try.prog 4 #[.agg (mkC m).toArray, .slice ad l.length cap, .slice ad2 k.length cap2] w0 (Ret w0 h0 fun u _ => u = .bool true) := by
  refine ent (args := [.agg (mkC m).toArray, .slice ad l.length cap, .slice ad2 k.length cap2]) TT_ok [] [] Try.func4 rfl Try.ntmps4 rfl rfl hv ?_
  intro b3
  refine cl (c_light m) ?_
  refine cbg (fun _ w hw => c_long ad cap l w h0 hw hx) ?_
  refine cbg (fun _ w hw => c_long ad2 cap2 k w h0 hw hy) ?_
  refine cbg (fun hp w hw => c_Verify m ad cap l.length l rfl (fun s hs => by have := (long_not (l := l) (by simpa using hp.1.2)).2.2 s hs; omega) (by have := (long_not (l := l) (by simpa using hp.1.2)).1; omega) w h0 hw hx) ?_
  refine cbg (fun hp w hw => c_Verify m ad2 cap2 k.length k rfl (fun s hs => by have := (long_not (l := k) (by simpa using hp.1.2)).2.2 s hs; omega) (by have := (long_not (l := k) (by simpa using hp.1.2)).1; omega) w h0 hw hy) ?_
  refine cnd (fun h => ?_) (fun h => ?_)
  · refine cl c_lives ?_
    exact rfl
  obtain ⟨l1, _, l2⟩ := long_not h.1.1.1.2
  obtain ⟨k1, _, k2⟩ := long_not h.1.1.2
  obtain ⟨hr, v1, v2⟩ := ver_ok h.1.2
  obtain ⟨_, v3, v4⟩ := ver_ok h.2
  have hlk : l.length = k.length := by omega
  have hc : chainS m.anchor l = chainS m.anchor k := by rw [v2, v4]
  have h32 : m.anchor.length = 32 := hr.2.2.2.1
  have hl : ∀ x ∈ l, x.length ≤ 1000000 := fun x hx => by have := l2 x hx; omega
  have hk : ∀ x ∈ k, x.length ≤ 1000000 := fun x hx => by have := k2 x hx; omega
  refine cb (fun w hw => c_Clash m.anchor m.anchor (by omega) (by omega) ad cap l ad2 cap2 k hl (by omega) hk (by omega) w h0 hw hx hy) ?_
  refine cb (fun w hw => c_SameTexts ad ad2 cap cap2 l k w h0 hw hx hy) ?_
  have hln := clS_len (a := m.anchor) (b := m.anchor) (l := l) (k := k) (by omega) (by omega) l2 k2
  refine cnd (fun h1 => ?_) (fun h1 => ?_)
  · refine clg (fun _ => c_lives) ?_
    refine congrArg Value.bool ?_
    have h1 : l = k := by simpa using h1
    subst h1
    have : (clS m.anchor m.anchor l l).2.2 = false := by
      unfold clS
      split
      · rfl
      · exact cl_same _ _ _
    rw [this]; rfl
  · have h1 : l ≠ k := by simpa using h1
    obtain ⟨q1, q2, q3⟩ := told hlk hc h1
    refine clg (fun _ => c_RSum _ (by omega)) ?_
    refine clg (fun _ => c_RSum _ (by omega)) ?_
    refine clg (fun _ => c_lives) ?_
    refine congrArg Value.bool ?_
    rw [q1, q3]
    simp [q2]

end Go.Proofs.Ytnmhenglealadaa
