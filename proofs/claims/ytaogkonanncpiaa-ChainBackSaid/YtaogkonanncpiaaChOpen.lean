/- Opening: what a mark that came in holds. No condition. -/
import Derived.Test.YtaogkonanncpiaaDxT
import Derived.Test.YtaogkonanncpiaaChSpec
import Derived.Test.YtaogkonanncpiaaRows
set_option linter.unusedSimpArgs false
set_option linter.unusedVariables false
namespace Go.Proofs.Ytaogkonanncpiaa
open Go Go.Dx Go.RowKit Go.ChangeShapes Go.WideShapes Go.ChangeAt
section
variable {H : Type} {enc : TypeId × Value → H} {W : World}
theorem open_mkC {fuel : Nat} {cs : List Value} {x : DataW H × List MemPlace} (h : DataW.trod enc Try.prog W 0 (fun _ => true) true fuel 23 cs = some x) : ∃ m : Mk, cs = mkC m ∧ mkB m := by
  obtain ⟨hl, n0, y0, _, h0⟩ := trod_at (FldIs.of (P := Try.prog) (t := 23) (i := 0) (off := 0) (ty := 3) (sz := 1) (by kernel_rfl)) h
  obtain ⟨_, n1, y1, _, h1⟩ := trod_at (FldIs.of (P := Try.prog) (t := 23) (i := 1) (off := 1) (ty := 3) (sz := 1) (by kernel_rfl)) h
  obtain ⟨_, n2, y2, _, h2⟩ := trod_at (FldIs.of (P := Try.prog) (t := 23) (i := 2) (off := 2) (ty := 9) (sz := 1) (by kernel_rfl)) h
  obtain ⟨_, n3, y3, _, h3⟩ := trod_at (FldIs.of (P := Try.prog) (t := 23) (i := 3) (off := 3) (ty := 9) (sz := 1) (by kernel_rfl)) h
  have hl' : cs.length = 4 := hl.trans (by kernel_rfl)
  match cs, hl' with
  | [a, b, c, d], _ =>
    obtain ⟨k, e0, b0⟩ := trod_i (by kernel_rfl) h0
    obtain ⟨m, e1, b1⟩ := trod_i (by kernel_rfl) h1
    obtain ⟨s, e2, _⟩ := trod_s (by kernel_rfl) h2
    obtain ⟨t, e3, _⟩ := trod_s (by kernel_rfl) h3
    simp at e0 e1 e2 e3
    subst e0 e1 e2 e3
    exact ⟨⟨k, m, s, t⟩, rfl, b0, b1⟩
set_option maxRecDepth 100000 in
theorem open_mark {v : Value} {d : DataW H} {ps : List MemPlace} {b0 : Nat} (hok : Value.okWide Try.prog W .any b0 23 v) (h : DataW.Trod enc Try.prog W 0 (fun _ => true) true 23 v d ps) : ∃ x : Mk, v = .agg (mkC x).toArray ∧ mkB x := by
  obtain ⟨fs, _, hu, _⟩ := (FldIs.of (P := Try.prog) (t := 23) (i := 0) (off := 0) (ty := 3) (sz := 1) (by kernel_rfl))
  obtain ⟨cs, rfl, _⟩ := okWide_struct (P := Try.prog) (t := 23) hu hok
  obtain ⟨fuel, hf⟩ := h
  obtain ⟨x, hx, hb⟩ := open_mkC hf
  refine ⟨x, ?_, hb⟩
  congr 1
  apply Array.toList_inj.1; simpa [Value.cells] using hx
end
end Go.Proofs.Ytaogkonanncpiaa
