/- What the row's list says of the table of powers of ten. No condition. -/
import Derived.Test.YtopbpdgnjnoddaaDoorVOpen
import Derived.Test.YtopbpdgnjnoddaaDoorT13d
import Derived.LaidSub
set_option linter.unusedSimpArgs false
set_option linter.unusedVariables false
namespace Go.Proofs.YtopbpdgnjnoddaaDoor
open Go Go.Dx Go.RowKit
theorem pow_of_laid {W : World} (h : laidMetH Tryd.prog laidL W) : PowV (Full W) := by
  have h1 := laidMetH.filter (fun x => x.1 == "internal/strconv.uint64pow10") h
  have e : laidL.filter (fun x => x.1 == "internal/strconv.uint64pow10") = [("internal/strconv.uint64pow10", Lib.tabData .u64 Lib.pow10Tab)] := by kernel_rfl
  rw [e] at h1
  have h2 := (laidMetH_iff.1 h1).1
  have e2 : ([("internal/strconv.uint64pow10", (Lib.tabData .u64 Lib.pow10Tab : DataW Unit))].filter fun x => x.2.handleName?.isNone) = [("internal/strconv.uint64pow10", Lib.tabData .u64 Lib.pow10Tab)] := by kernel_rfl
  rw [e2] at h2
  have hn : Tryd.prog.globalNamed "internal/strconv.uint64pow10" = some powG := by kernel_rfl
  have ht := Lib.tabIs_of_head (P := Tryd.prog) (t := 88) (e := 80) (n := 20) hn (by kernel_rfl) (by kernel_rfl) (by kernel_rfl) (by kernel_rfl) (by kernel_rfl) h2
  unfold Lib.TabIs World.var? at ht
  rw [hn, Option.bind_some] at ht
  split at ht
  · rename_i cs T fz hg
    have : cs = (Lib.pow10Tab.map fun z => Value.int .u64 z).toArray := Option.some.inj ht
    subst this
    exact ⟨T, fz, hg⟩
  · cases ht
end Go.Proofs.YtopbpdgnjnoddaaDoor
