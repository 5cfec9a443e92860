/-
  No cell of these rows narrows 'for every input' (looked for: loops, veiled, ifaces, maps, wideKeys, modest, calm, conditions, laid).
  DERIVED. THE GIVEN ROWS OF THIS SEAT. 6 by the template 'for every input the law returns true; each argument reads behind the call as it read before'; 0 by the template 'total and deterministic' (their statements: YtaogkonanncpiaaTotals.lean).
  GIVEN WITH THE SEED: the statements are not yours to turn. If you find one false, say at which input.
  Laid BY PROGRAM, IN A SANDBOX (cutbox-rows.mjs): the forced cells as the released guide's own fill.sh prints them over the translation f596be4d2cf506bf… (all of the seat's roots in one cut). By AI agents, Wed Nov 11 2026. No macro, syntax, notation, axiom, sorry.
-/
import Derived.Test.YtaogkonanncpiaaChecked
import GoSem.Claim
import GoSem.ClaimJoined
import GoSem.ClaimMapViews
import Derived.JoinedTies
import Derived.KernelRfl
namespace Go.Proofs.Ytaogkonanncpiaa
/- THE CELL 'sum', in the pinned program and in every row, IS THE sha256 OF THE DUMP (.gsa) THAT YtaogkonanncpiaaProg.lean LOADS. Nothing in Lean hashes anything: it is a label: what it is worth is what the hold of that sum in a sandbox is worth. -/
noncomputable def Try.pinned : Pinned := { name := "ytaogkonanncpiaa", sum := "f596be4d2cf506bf6df448bbdd688328ad3796eeb24b3ad7d64a3cdcf1e32852", checked := Try.checked }
namespace Rows
def none {H : Type} : Left H := { results := [], args := [] }

/-- 'decretallaw22.ChainCuts': WHATEVER THE INPUT: true; the input reads as it did. -/
def chainCutsSpec : ChangeSpec := { name := "chainCuts", fn := fun _ => fun
  | [d1, d2, d3] => { results := [.lit (.bool true)], args := [d1, d2, d3] }
  | _ => none }
def chainCutsRow : OpenClaim := { program := "ytaogkonanncpiaa", sum := "f596be4d2cf506bf6df448bbdd688328ad3796eeb24b3ad7d64a3cdcf1e32852", func := "decretal/decretallaw22.ChainCuts", spec := "chainCuts", inPlace := ["internal/abi.NoEscape", "internal/bytealg.MakeNoZero"], apart := false }
def ChainCutsSaid : Prop := chainCutsRow.holds Try.pinned (OpenSpec.ofChange chainCutsSpec)

/-- ITS FALSE NEIGHBOUR: 'it returns false'. Refute it at one input. -/
def chainCutsWrong : ChangeSpec := { name := "chainCuts", fn := fun _ => fun
  | [d1, d2, d3] => { results := [.lit (.bool false)], args := [d1, d2, d3] }
  | _ => none }
def ChainCutsWrongFalsely : Prop := chainCutsRow.holds Try.pinned (OpenSpec.ofChange chainCutsWrong)

/-- 'decretallaw22.ChainPushes': WHATEVER THE INPUT: true; the input reads as it did. -/
def chainPushesSpec : ChangeSpec := { name := "chainPushes", fn := fun _ => fun
  | [d1, d2] => { results := [.lit (.bool true)], args := [d1, d2] }
  | _ => none }
def chainPushesRow : OpenClaim := { program := "ytaogkonanncpiaa", sum := "f596be4d2cf506bf6df448bbdd688328ad3796eeb24b3ad7d64a3cdcf1e32852", func := "decretal/decretallaw22.ChainPushes", spec := "chainPushes", inPlace := ["internal/abi.NoEscape", "internal/bytealg.MakeNoZero"], apart := false }
def ChainPushesSaid : Prop := chainPushesRow.holds Try.pinned (OpenSpec.ofChange chainPushesSpec)

/-- ITS FALSE NEIGHBOUR: 'it returns false'. Refute it at one input. -/
def chainPushesWrong : ChangeSpec := { name := "chainPushes", fn := fun _ => fun
  | [d1, d2] => { results := [.lit (.bool false)], args := [d1, d2] }
  | _ => none }
def ChainPushesWrongFalsely : Prop := chainPushesRow.holds Try.pinned (OpenSpec.ofChange chainPushesWrong)

/-- 'decretallaw22.ChainClashes': WHATEVER THE INPUT: true; the input reads as it did. -/
def chainClashesSpec : ChangeSpec := { name := "chainClashes", fn := fun _ => fun
  | [d1, d2, d3, d4] => { results := [.lit (.bool true)], args := [d1, d2, d3, d4] }
  | _ => none }
def chainClashesRow : OpenClaim := { program := "ytaogkonanncpiaa", sum := "f596be4d2cf506bf6df448bbdd688328ad3796eeb24b3ad7d64a3cdcf1e32852", func := "decretal/decretallaw22.ChainClashes", spec := "chainClashes", inPlace := ["internal/abi.NoEscape", "internal/bytealg.MakeNoZero"], unfollowed := true, recurses := true, apart := false }
def ChainClashesSaid : Prop := chainClashesRow.holds Try.pinned (OpenSpec.ofChange chainClashesSpec)

/-- ITS FALSE NEIGHBOUR: 'it returns false'. Refute it at one input. -/
def chainClashesWrong : ChangeSpec := { name := "chainClashes", fn := fun _ => fun
  | [d1, d2, d3, d4] => { results := [.lit (.bool false)], args := [d1, d2, d3, d4] }
  | _ => none }
def ChainClashesWrongFalsely : Prop := chainClashesRow.holds Try.pinned (OpenSpec.ofChange chainClashesWrong)

/-- 'decretallaw22.ChainTold': WHATEVER THE INPUT: true; the input reads as it did. -/
def chainToldSpec : ChangeSpec := { name := "chainTold", fn := fun _ => fun
  | [d1, d2, d3] => { results := [.lit (.bool true)], args := [d1, d2, d3] }
  | _ => none }
def chainToldRow : OpenClaim := { program := "ytaogkonanncpiaa", sum := "f596be4d2cf506bf6df448bbdd688328ad3796eeb24b3ad7d64a3cdcf1e32852", func := "decretal/decretallaw22.ChainTold", spec := "chainTold", inPlace := ["internal/abi.NoEscape", "internal/bytealg.MakeNoZero"], unfollowed := true, recurses := true, apart := false }
def ChainToldSaid : Prop := chainToldRow.holds Try.pinned (OpenSpec.ofChange chainToldSpec)

/-- ITS FALSE NEIGHBOUR: 'it returns false'. Refute it at one input. -/
def chainToldWrong : ChangeSpec := { name := "chainTold", fn := fun _ => fun
  | [d1, d2, d3] => { results := [.lit (.bool false)], args := [d1, d2, d3] }
  | _ => none }
def ChainToldWrongFalsely : Prop := chainToldRow.holds Try.pinned (OpenSpec.ofChange chainToldWrong)

/-- 'decretallaw22.ChainMarks': WHATEVER THE INPUT: true; the input reads as it did. -/
def chainMarksSpec : ChangeSpec := { name := "chainMarks", fn := fun _ => fun
  | [d1, d2, d3] => { results := [.lit (.bool true)], args := [d1, d2, d3] }
  | _ => none }
def chainMarksRow : OpenClaim := { program := "ytaogkonanncpiaa", sum := "f596be4d2cf506bf6df448bbdd688328ad3796eeb24b3ad7d64a3cdcf1e32852", func := "decretal/decretallaw22.ChainMarks", spec := "chainMarks", inPlace := ["internal/abi.NoEscape", "internal/bytealg.MakeNoZero"], apart := false }
def ChainMarksSaid : Prop := chainMarksRow.holds Try.pinned (OpenSpec.ofChange chainMarksSpec)

/-- ITS FALSE NEIGHBOUR: 'it returns false'. Refute it at one input. -/
def chainMarksWrong : ChangeSpec := { name := "chainMarks", fn := fun _ => fun
  | [d1, d2, d3] => { results := [.lit (.bool false)], args := [d1, d2, d3] }
  | _ => none }
def ChainMarksWrongFalsely : Prop := chainMarksRow.holds Try.pinned (OpenSpec.ofChange chainMarksWrong)

/-- 'decretallaw22.ChainBack': WHATEVER THE INPUT: true; the input reads as it did. -/
def chainBackSpec : ChangeSpec := { name := "chainBack", fn := fun _ => fun
  | [d1, d2] => { results := [.lit (.bool true)], args := [d1, d2] }
  | _ => none }
def chainBackRow : OpenClaim := { program := "ytaogkonanncpiaa", sum := "f596be4d2cf506bf6df448bbdd688328ad3796eeb24b3ad7d64a3cdcf1e32852", func := "decretal/decretallaw22.ChainBack", spec := "chainBack", inPlace := ["internal/abi.NoEscape", "internal/bytealg.MakeNoZero"], apart := false }
def ChainBackSaid : Prop := chainBackRow.holds Try.pinned (OpenSpec.ofChange chainBackSpec)

/-- ITS FALSE NEIGHBOUR: 'it returns false'. Refute it at one input. -/
def chainBackWrong : ChangeSpec := { name := "chainBack", fn := fun _ => fun
  | [d1, d2] => { results := [.lit (.bool false)], args := [d1, d2] }
  | _ => none }
def ChainBackWrongFalsely : Prop := chainBackRow.holds Try.pinned (OpenSpec.ofChange chainBackWrong)

/- THE SECOND FORM. 'bulk': how many values and letters a reading holds, each counted each time it is reached (what is shared counts as often as it is met; a slice's spare places count too). A statement '..UptoSaid' is the law's where the arguments, and the package variables that the reading takes, are together of bulk at most 1048576: NARROWER than '..Said'. Prove '..Said' where nothing that the law and all that it calls make is longer than what came in: it says more and counts as full. Else prove '..UptoSaid'. A law counts once. -/
mutual
def uptoBulk {H : Type} : DataW H → Nat
  | .lit (.string bytes) => bytes.length + 1
  | .lit _ => 1
  | .nil => 1
  | .ptr d => uptoBulk d + 1
  | .slice elems spare => uptoBulkAll elems + uptoBulkAll spare + 1
  | .agg parts => uptoBulkAll parts + 1
  | .iface _ d => uptoBulk d + 1
  | .map entries => uptoBulkEntries entries + 1
  | .held _ => 1
def uptoBulkAll {H : Type} : List (DataW H) → Nat
  | [] => 0
  | d :: r => uptoBulk d + uptoBulkAll r
def uptoBulkEntries {H : Type} : List (Lit × DataW H) → Nat
  | [] => 0
  | x :: r => uptoBulkEntry x + uptoBulkEntries r
def uptoBulkEntry {H : Type} : Lit × DataW H → Nat
  | (.string bytes, d) => bytes.length + uptoBulk d + 1
  | (_, d) => uptoBulk d + 1
 end
def uptoSmall : (H : Type) → List (DataW H) → Bool := fun _ ds => decide (uptoBulkAll ds ≤ 1048576)
def OpenSpec.upto (s : _root_.Go.ChangeSpec) : _root_.Go.OpenSpec := { _root_.Go.OpenSpec.ofChange s with cond := some uptoSmall }

/-- 'decretallaw22.ChainCuts', WHERE WHAT IT READS IS OF BULK AT MOST 1048576: true; the input reads as it did. -/
def chainCutsUptoRow : OpenClaim := { program := "ytaogkonanncpiaa", sum := "f596be4d2cf506bf6df448bbdd688328ad3796eeb24b3ad7d64a3cdcf1e32852", func := "decretal/decretallaw22.ChainCuts", spec := "chainCuts", inPlace := ["internal/abi.NoEscape", "internal/bytealg.MakeNoZero"], apart := false, narrowed := true }
def ChainCutsUptoSaid : Prop := chainCutsUptoRow.holds Try.pinned (OpenSpec.upto chainCutsSpec)

/-- 'decretallaw22.ChainPushes', WHERE WHAT IT READS IS OF BULK AT MOST 1048576: true; the input reads as it did. -/
def chainPushesUptoRow : OpenClaim := { program := "ytaogkonanncpiaa", sum := "f596be4d2cf506bf6df448bbdd688328ad3796eeb24b3ad7d64a3cdcf1e32852", func := "decretal/decretallaw22.ChainPushes", spec := "chainPushes", inPlace := ["internal/abi.NoEscape", "internal/bytealg.MakeNoZero"], apart := false, narrowed := true }
def ChainPushesUptoSaid : Prop := chainPushesUptoRow.holds Try.pinned (OpenSpec.upto chainPushesSpec)

/-- 'decretallaw22.ChainClashes', WHERE WHAT IT READS IS OF BULK AT MOST 1048576: true; the input reads as it did. -/
def chainClashesUptoRow : OpenClaim := { program := "ytaogkonanncpiaa", sum := "f596be4d2cf506bf6df448bbdd688328ad3796eeb24b3ad7d64a3cdcf1e32852", func := "decretal/decretallaw22.ChainClashes", spec := "chainClashes", inPlace := ["internal/abi.NoEscape", "internal/bytealg.MakeNoZero"], unfollowed := true, recurses := true, apart := false, narrowed := true }
def ChainClashesUptoSaid : Prop := chainClashesUptoRow.holds Try.pinned (OpenSpec.upto chainClashesSpec)

/-- 'decretallaw22.ChainTold', WHERE WHAT IT READS IS OF BULK AT MOST 1048576: true; the input reads as it did. -/
def chainToldUptoRow : OpenClaim := { program := "ytaogkonanncpiaa", sum := "f596be4d2cf506bf6df448bbdd688328ad3796eeb24b3ad7d64a3cdcf1e32852", func := "decretal/decretallaw22.ChainTold", spec := "chainTold", inPlace := ["internal/abi.NoEscape", "internal/bytealg.MakeNoZero"], unfollowed := true, recurses := true, apart := false, narrowed := true }
def ChainToldUptoSaid : Prop := chainToldUptoRow.holds Try.pinned (OpenSpec.upto chainToldSpec)

/-- 'decretallaw22.ChainMarks', WHERE WHAT IT READS IS OF BULK AT MOST 1048576: true; the input reads as it did. -/
def chainMarksUptoRow : OpenClaim := { program := "ytaogkonanncpiaa", sum := "f596be4d2cf506bf6df448bbdd688328ad3796eeb24b3ad7d64a3cdcf1e32852", func := "decretal/decretallaw22.ChainMarks", spec := "chainMarks", inPlace := ["internal/abi.NoEscape", "internal/bytealg.MakeNoZero"], apart := false, narrowed := true }
def ChainMarksUptoSaid : Prop := chainMarksUptoRow.holds Try.pinned (OpenSpec.upto chainMarksSpec)

/-- 'decretallaw22.ChainBack', WHERE WHAT IT READS IS OF BULK AT MOST 1048576: true; the input reads as it did. -/
def chainBackUptoRow : OpenClaim := { program := "ytaogkonanncpiaa", sum := "f596be4d2cf506bf6df448bbdd688328ad3796eeb24b3ad7d64a3cdcf1e32852", func := "decretal/decretallaw22.ChainBack", spec := "chainBack", inPlace := ["internal/abi.NoEscape", "internal/bytealg.MakeNoZero"], apart := false, narrowed := true }
def ChainBackUptoSaid : Prop := chainBackUptoRow.holds Try.pinned (OpenSpec.upto chainBackSpec)

end Rows
end Go.Proofs.Ytaogkonanncpiaa
