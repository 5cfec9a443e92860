/-
  No cell of these rows narrows 'for every input' (looked for: loops, veiled, ifaces, maps, wideKeys, modest, calm, conditions, laid).
  DERIVED. THE GIVEN ROWS OF THIS SEAT. 5 by the template 'for every input the law returns true; each argument reads behind the call as it read before'; 0 by the template 'total and deterministic' (their statements: YtkkbnjomcgnkpaaGreatTotals.lean).
  GIVEN WITH THE SEED: the statements are not yours to turn. If you find one false, say at which input.
  Laid BY PROGRAM, IN A SANDBOX (cutbox-rows.mjs): the forced cells as the released guide's own fill.sh prints them over the translation 3e0f028f47964672… (all of the seat's roots in one cut). By AI agents, Wed Nov 11 2026. No macro, syntax, notation, axiom, sorry.
-/
import Derived.Test.YtkkbnjomcgnkpaaGreatChecked
import GoSem.Claim
import GoSem.ClaimJoined
import GoSem.ClaimMapViews
import Derived.JoinedTies
import Derived.KernelRfl
namespace Go.Proofs.YtkkbnjomcgnkpaaGreat
/- THE CELL 'sum', in the pinned program and in every row, IS THE sha256 OF THE DUMP (.gsa) THAT YtkkbnjomcgnkpaaGreatProg.lean LOADS. Nothing in Lean hashes anything: it is a label: what it is worth is what the hold of that sum in a sandbox is worth. -/
noncomputable def Tryz.pinned : Pinned := { name := "ytkkbnjomcgnkpaagreat", sum := "3e0f028f4796467249c2a4ca4c9abe3b58cdedf51e33c8e0392889bde47e7d49", checked := Tryz.checked }
namespace Rows
def none {H : Type} : Left H := { results := [], args := [] }

/-- 'decretallaw20.HitDecides': WHATEVER THE INPUT: true; the input reads as it did. -/
def hitDecidesSpec : ChangeSpec := { name := "hitDecides", fn := fun _ => fun
  | [d1, d2] => { results := [.lit (.bool true)], args := [d1, d2] }
  | _ => none }
def hitDecidesRow : OpenClaim := { program := "ytkkbnjomcgnkpaagreat", sum := "3e0f028f4796467249c2a4ca4c9abe3b58cdedf51e33c8e0392889bde47e7d49", func := "decretal/decretallaw20.HitDecides", spec := "hitDecides", inPlace := ["internal/bytealg.abigen_runtime_cmpstring"], unfollowed := true, recurses := true, apart := false }
def HitDecidesSaid : Prop := hitDecidesRow.holds Tryz.pinned (OpenSpec.ofChange hitDecidesSpec)

/-- ITS FALSE NEIGHBOUR: 'it returns false'. Refute it at one input. -/
def hitDecidesWrong : ChangeSpec := { name := "hitDecides", fn := fun _ => fun
  | [d1, d2] => { results := [.lit (.bool false)], args := [d1, d2] }
  | _ => none }
def HitDecidesWrongFalsely : Prop := hitDecidesRow.holds Tryz.pinned (OpenSpec.ofChange hitDecidesWrong)

/-- 'decretallaw20.HitFits': WHATEVER THE INPUT: true; the input reads as it did. -/
def hitFitsSpec : ChangeSpec := { name := "hitFits", fn := fun _ => fun
  | [d1, d2] => { results := [.lit (.bool true)], args := [d1, d2] }
  | _ => none }
def hitFitsRow : OpenClaim := { program := "ytkkbnjomcgnkpaagreat", sum := "3e0f028f4796467249c2a4ca4c9abe3b58cdedf51e33c8e0392889bde47e7d49", func := "decretal/decretallaw20.HitFits", spec := "hitFits", inPlace := ["internal/bytealg.abigen_runtime_cmpstring"], unfollowed := true, recurses := true, apart := false }
def HitFitsSaid : Prop := hitFitsRow.holds Tryz.pinned (OpenSpec.ofChange hitFitsSpec)

/-- ITS FALSE NEIGHBOUR: 'it returns false'. Refute it at one input. -/
def hitFitsWrong : ChangeSpec := { name := "hitFits", fn := fun _ => fun
  | [d1, d2] => { results := [.lit (.bool false)], args := [d1, d2] }
  | _ => none }
def HitFitsWrongFalsely : Prop := hitFitsRow.holds Tryz.pinned (OpenSpec.ofChange hitFitsWrong)

/-- 'decretallaw20.HitPolicies': WHATEVER THE INPUT: true; the input reads as it did. -/
def hitPoliciesSpec : ChangeSpec := { name := "hitPolicies", fn := fun _ => fun
  | [d1, d2] => { results := [.lit (.bool true)], args := [d1, d2] }
  | _ => none }
def hitPoliciesRow : OpenClaim := { program := "ytkkbnjomcgnkpaagreat", sum := "3e0f028f4796467249c2a4ca4c9abe3b58cdedf51e33c8e0392889bde47e7d49", func := "decretal/decretallaw20.HitPolicies", spec := "hitPolicies", inPlace := ["internal/bytealg.abigen_runtime_cmpstring"], unfollowed := true, recurses := true, apart := false }
def HitPoliciesSaid : Prop := hitPoliciesRow.holds Tryz.pinned (OpenSpec.ofChange hitPoliciesSpec)

/-- ITS FALSE NEIGHBOUR: 'it returns false'. Refute it at one input. -/
def hitPoliciesWrong : ChangeSpec := { name := "hitPolicies", fn := fun _ => fun
  | [d1, d2] => { results := [.lit (.bool false)], args := [d1, d2] }
  | _ => none }
def HitPoliciesWrongFalsely : Prop := hitPoliciesRow.holds Tryz.pinned (OpenSpec.ofChange hitPoliciesWrong)

/-- 'decretallaw20.HitLess': WHATEVER THE INPUT: true; the input reads as it did. -/
def hitLessSpec : ChangeSpec := { name := "hitLess", fn := fun _ => fun
  | [d1, d2, d3] => { results := [.lit (.bool true)], args := [d1, d2, d3] }
  | _ => none }
def hitLessRow : OpenClaim := { program := "ytkkbnjomcgnkpaagreat", sum := "3e0f028f4796467249c2a4ca4c9abe3b58cdedf51e33c8e0392889bde47e7d49", func := "decretal/decretallaw20.HitLess", spec := "hitLess", inPlace := ["internal/bytealg.abigen_runtime_cmpstring"], unfollowed := true, recurses := true, apart := false }
def HitLessSaid : Prop := hitLessRow.holds Tryz.pinned (OpenSpec.ofChange hitLessSpec)

/-- ITS FALSE NEIGHBOUR: 'it returns false'. Refute it at one input. -/
def hitLessWrong : ChangeSpec := { name := "hitLess", fn := fun _ => fun
  | [d1, d2, d3] => { results := [.lit (.bool false)], args := [d1, d2, d3] }
  | _ => none }
def HitLessWrongFalsely : Prop := hitLessRow.holds Tryz.pinned (OpenSpec.ofChange hitLessWrong)

/-- 'decretallaw20.HitSame': WHATEVER THE INPUT: true; the input reads as it did. -/
def hitSameSpec : ChangeSpec := { name := "hitSame", fn := fun _ => fun
  | [d1, d2] => { results := [.lit (.bool true)], args := [d1, d2] }
  | _ => none }
def hitSameRow : OpenClaim := { program := "ytkkbnjomcgnkpaagreat", sum := "3e0f028f4796467249c2a4ca4c9abe3b58cdedf51e33c8e0392889bde47e7d49", func := "decretal/decretallaw20.HitSame", spec := "hitSame", inPlace := ["internal/bytealg.abigen_runtime_cmpstring"], unfollowed := true, recurses := true, apart := false }
def HitSameSaid : Prop := hitSameRow.holds Tryz.pinned (OpenSpec.ofChange hitSameSpec)

/-- ITS FALSE NEIGHBOUR: 'it returns false'. Refute it at one input. -/
def hitSameWrong : ChangeSpec := { name := "hitSame", fn := fun _ => fun
  | [d1, d2] => { results := [.lit (.bool false)], args := [d1, d2] }
  | _ => none }
def HitSameWrongFalsely : Prop := hitSameRow.holds Tryz.pinned (OpenSpec.ofChange hitSameWrong)

/- THE SECOND FORM. 'bulk': how many values and letters a reading holds, each counted each time it is reached (what is shared counts as often as it is met; a slice's spare places count too). A statement '..UptoSaid' is the law's where the arguments, and the package variables that the reading takes, are together of bulk at most 1048576: NARROWER than '..Said'. Prove '..Said' where nothing that the law and all that it calls make is longer than what came in: it says more and counts as full. Else prove '..UptoSaid'. A law counts once. -/
mutual
def uptoBulk {H : Type} : DataW H → Nat
  | .lit (.string bytes) => bytes.length + 1
  | .lit _ => 1
  | .nil => 1
  | .ptr d => uptoBulk d + 1
  | .slice elems spare => uptoBulkAll elems + uptoBulkAll spare + 1
  | .agg parts => uptoBulkAll parts + 1
  | .iface _ d => uptoBulk d + 1
  | .map entries => uptoBulkEntries entries + 1
  | .held _ => 1
def uptoBulkAll {H : Type} : List (DataW H) → Nat
  | [] => 0
  | d :: r => uptoBulk d + uptoBulkAll r
def uptoBulkEntries {H : Type} : List (Lit × DataW H) → Nat
  | [] => 0
  | x :: r => uptoBulkEntry x + uptoBulkEntries r
def uptoBulkEntry {H : Type} : Lit × DataW H → Nat
  | (.string bytes, d) => bytes.length + uptoBulk d + 1
  | (_, d) => uptoBulk d + 1
 end
def uptoSmall : (H : Type) → List (DataW H) → Bool := fun _ ds => decide (uptoBulkAll ds ≤ 1048576)
def OpenSpec.upto (s : _root_.Go.ChangeSpec) : _root_.Go.OpenSpec := { _root_.Go.OpenSpec.ofChange s with cond := some uptoSmall }

/-- 'decretallaw20.HitDecides', WHERE WHAT IT READS IS OF BULK AT MOST 1048576: true; the input reads as it did. -/
def hitDecidesUptoRow : OpenClaim := { program := "ytkkbnjomcgnkpaagreat", sum := "3e0f028f4796467249c2a4ca4c9abe3b58cdedf51e33c8e0392889bde47e7d49", func := "decretal/decretallaw20.HitDecides", spec := "hitDecides", inPlace := ["internal/bytealg.abigen_runtime_cmpstring"], unfollowed := true, recurses := true, apart := false, narrowed := true }
def HitDecidesUptoSaid : Prop := hitDecidesUptoRow.holds Tryz.pinned (OpenSpec.upto hitDecidesSpec)

/-- 'decretallaw20.HitFits', WHERE WHAT IT READS IS OF BULK AT MOST 1048576: true; the input reads as it did. -/
def hitFitsUptoRow : OpenClaim := { program := "ytkkbnjomcgnkpaagreat", sum := "3e0f028f4796467249c2a4ca4c9abe3b58cdedf51e33c8e0392889bde47e7d49", func := "decretal/decretallaw20.HitFits", spec := "hitFits", inPlace := ["internal/bytealg.abigen_runtime_cmpstring"], unfollowed := true, recurses := true, apart := false, narrowed := true }
def HitFitsUptoSaid : Prop := hitFitsUptoRow.holds Tryz.pinned (OpenSpec.upto hitFitsSpec)

/-- 'decretallaw20.HitPolicies', WHERE WHAT IT READS IS OF BULK AT MOST 1048576: true; the input reads as it did. -/
def hitPoliciesUptoRow : OpenClaim := { program := "ytkkbnjomcgnkpaagreat", sum := "3e0f028f4796467249c2a4ca4c9abe3b58cdedf51e33c8e0392889bde47e7d49", func := "decretal/decretallaw20.HitPolicies", spec := "hitPolicies", inPlace := ["internal/bytealg.abigen_runtime_cmpstring"], unfollowed := true, recurses := true, apart := false, narrowed := true }
def HitPoliciesUptoSaid : Prop := hitPoliciesUptoRow.holds Tryz.pinned (OpenSpec.upto hitPoliciesSpec)

/-- 'decretallaw20.HitLess', WHERE WHAT IT READS IS OF BULK AT MOST 1048576: true; the input reads as it did. -/
def hitLessUptoRow : OpenClaim := { program := "ytkkbnjomcgnkpaagreat", sum := "3e0f028f4796467249c2a4ca4c9abe3b58cdedf51e33c8e0392889bde47e7d49", func := "decretal/decretallaw20.HitLess", spec := "hitLess", inPlace := ["internal/bytealg.abigen_runtime_cmpstring"], unfollowed := true, recurses := true, apart := false, narrowed := true }
def HitLessUptoSaid : Prop := hitLessUptoRow.holds Tryz.pinned (OpenSpec.upto hitLessSpec)

/-- 'decretallaw20.HitSame', WHERE WHAT IT READS IS OF BULK AT MOST 1048576: true; the input reads as it did. -/
def hitSameUptoRow : OpenClaim := { program := "ytkkbnjomcgnkpaagreat", sum := "3e0f028f4796467249c2a4ca4c9abe3b58cdedf51e33c8e0392889bde47e7d49", func := "decretal/decretallaw20.HitSame", spec := "hitSame", inPlace := ["internal/bytealg.abigen_runtime_cmpstring"], unfollowed := true, recurses := true, apart := false, narrowed := true }
def HitSameUptoSaid : Prop := hitSameUptoRow.holds Tryz.pinned (OpenSpec.upto hitSameSpec)

end Rows
end Go.Proofs.YtkkbnjomcgnkpaaGreat
