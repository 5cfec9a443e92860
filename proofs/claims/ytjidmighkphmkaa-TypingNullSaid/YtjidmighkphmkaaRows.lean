/-
  NARROWER THAN 'FOR EVERY INPUT', by the rows' own cells (each row's printed sentence says how): TypingKinds: loops · TypingNull: loops · TypingNames: loops.
  DERIVED. THE GIVEN ROWS OF THIS SEAT. 5 by the template 'for every input the law returns true; each argument reads behind the call as it read before'; 0 by the template 'total and deterministic' (their statements: YtjidmighkphmkaaTotals.lean).
  GIVEN WITH THE SEED: the statements are not yours to turn. If you find one false, say at which input.
  Laid BY PROGRAM, IN A SANDBOX (cutbox-rows.mjs): the forced cells as the released guide's own fill.sh prints them over the translation 5ce74903f827b088… (all of the seat's roots in one cut). By AI agents, Wed Nov 11 2026. No macro, syntax, notation, axiom, sorry.
-/
import Derived.Test.YtjidmighkphmkaaChecked
import GoSem.Claim
import GoSem.ClaimJoined
import GoSem.ClaimMapViews
import Derived.JoinedTies
import Derived.KernelRfl
namespace Go.Proofs.Ytjidmighkphmkaa
/- THE CELL 'sum', in the pinned program and in every row, IS THE sha256 OF THE DUMP (.gsa) THAT YtjidmighkphmkaaProg.lean LOADS. Nothing in Lean hashes anything: it is a label: what it is worth is what the hold of that sum in a sandbox is worth. -/
noncomputable def Try.pinned : Pinned := { name := "ytjidmighkphmkaa", sum := "5ce74903f827b0884c0b6e7c63cdc16dece5ce5603b65dcfed8fef96680502a5", checked := Try.checked }
namespace Rows
def none {H : Type} : Left H := { results := [], args := [] }

/-- 'decretallaw13.LexReads': WHATEVER THE INPUT: true; the input reads as it did. -/
def lexReadsSpec : ChangeSpec := { name := "lexReads", fn := fun _ => fun
  | [d] => { results := [.lit (.bool true)], args := [d] }
  | _ => none }
def lexReadsRow : OpenClaim := { program := "ytjidmighkphmkaa", sum := "5ce74903f827b0884c0b6e7c63cdc16dece5ce5603b65dcfed8fef96680502a5", func := "decretal/decretallaw13.LexReads", spec := "lexReads", unfollowed := true, recurses := true, apart := false }
def LexReadsSaid : Prop := lexReadsRow.holds Try.pinned (OpenSpec.ofChange lexReadsSpec)

/-- ITS FALSE NEIGHBOUR: 'it returns false'. Refute it at one input. -/
def lexReadsWrong : ChangeSpec := { name := "lexReads", fn := fun _ => fun
  | [d] => { results := [.lit (.bool false)], args := [d] }
  | _ => none }
def LexReadsWrongFalsely : Prop := lexReadsRow.holds Try.pinned (OpenSpec.ofChange lexReadsWrong)

/-- 'decretallaw15.TypingKinds': WHATEVER THE INPUT: true; the input reads as it did. -/
def typingKindsSpec : ChangeSpec := { name := "typingKinds", fn := fun _ => fun
  | [d1, d2] => { results := [.lit (.bool true)], args := [d1, d2] }
  | _ => none }
def typingKindsRow : OpenClaim := { program := "ytjidmighkphmkaa", sum := "5ce74903f827b0884c0b6e7c63cdc16dece5ce5603b65dcfed8fef96680502a5", func := "decretal/decretallaw15.TypingKinds", spec := "typingKinds", unfollowed := true, recurses := true, loops := true, apart := false }
def TypingKindsSaid : Prop := typingKindsRow.holds Try.pinned (OpenSpec.ofChange typingKindsSpec)

/-- ITS FALSE NEIGHBOUR: 'it returns false'. Refute it at one input. -/
def typingKindsWrong : ChangeSpec := { name := "typingKinds", fn := fun _ => fun
  | [d1, d2] => { results := [.lit (.bool false)], args := [d1, d2] }
  | _ => none }
def TypingKindsWrongFalsely : Prop := typingKindsRow.holds Try.pinned (OpenSpec.ofChange typingKindsWrong)

/-- 'decretallaw15.TypingColumns': WHATEVER THE INPUT: true; the input reads as it did. -/
def typingColumnsSpec : ChangeSpec := { name := "typingColumns", fn := fun _ => fun
  | [d1, d2, d3] => { results := [.lit (.bool true)], args := [d1, d2, d3] }
  | _ => none }
def typingColumnsRow : OpenClaim := { program := "ytjidmighkphmkaa", sum := "5ce74903f827b0884c0b6e7c63cdc16dece5ce5603b65dcfed8fef96680502a5", func := "decretal/decretallaw15.TypingColumns", spec := "typingColumns", unfollowed := true, recurses := true, apart := false }
def TypingColumnsSaid : Prop := typingColumnsRow.holds Try.pinned (OpenSpec.ofChange typingColumnsSpec)

/-- ITS FALSE NEIGHBOUR: 'it returns false'. Refute it at one input. -/
def typingColumnsWrong : ChangeSpec := { name := "typingColumns", fn := fun _ => fun
  | [d1, d2, d3] => { results := [.lit (.bool false)], args := [d1, d2, d3] }
  | _ => none }
def TypingColumnsWrongFalsely : Prop := typingColumnsRow.holds Try.pinned (OpenSpec.ofChange typingColumnsWrong)

/-- 'decretallaw15.TypingNull': WHATEVER THE INPUT: true; the input reads as it did. -/
def typingNullSpec : ChangeSpec := { name := "typingNull", fn := fun _ => fun
  | [d1, d2, d3] => { results := [.lit (.bool true)], args := [d1, d2, d3] }
  | _ => none }
def typingNullRow : OpenClaim := { program := "ytjidmighkphmkaa", sum := "5ce74903f827b0884c0b6e7c63cdc16dece5ce5603b65dcfed8fef96680502a5", func := "decretal/decretallaw15.TypingNull", spec := "typingNull", unfollowed := true, recurses := true, loops := true, apart := false }
def TypingNullSaid : Prop := typingNullRow.holds Try.pinned (OpenSpec.ofChange typingNullSpec)

/-- ITS FALSE NEIGHBOUR: 'it returns false'. Refute it at one input. -/
def typingNullWrong : ChangeSpec := { name := "typingNull", fn := fun _ => fun
  | [d1, d2, d3] => { results := [.lit (.bool false)], args := [d1, d2, d3] }
  | _ => none }
def TypingNullWrongFalsely : Prop := typingNullRow.holds Try.pinned (OpenSpec.ofChange typingNullWrong)

/-- 'decretallaw15.TypingNames': WHATEVER THE INPUT: true; the input reads as it did. -/
def typingNamesSpec : ChangeSpec := { name := "typingNames", fn := fun _ => fun
  | [d1, d2, d3] => { results := [.lit (.bool true)], args := [d1, d2, d3] }
  | _ => none }
def typingNamesRow : OpenClaim := { program := "ytjidmighkphmkaa", sum := "5ce74903f827b0884c0b6e7c63cdc16dece5ce5603b65dcfed8fef96680502a5", func := "decretal/decretallaw15.TypingNames", spec := "typingNames", unfollowed := true, recurses := true, loops := true, apart := false }
def TypingNamesSaid : Prop := typingNamesRow.holds Try.pinned (OpenSpec.ofChange typingNamesSpec)

/-- ITS FALSE NEIGHBOUR: 'it returns false'. Refute it at one input. -/
def typingNamesWrong : ChangeSpec := { name := "typingNames", fn := fun _ => fun
  | [d1, d2, d3] => { results := [.lit (.bool false)], args := [d1, d2, d3] }
  | _ => none }
def TypingNamesWrongFalsely : Prop := typingNamesRow.holds Try.pinned (OpenSpec.ofChange typingNamesWrong)

/- THE SECOND FORM. 'bulk': how many values and letters a reading holds, each counted each time it is reached (what is shared counts as often as it is met; a slice's spare places count too). A statement '..UptoSaid' is the law's where the arguments, and the package variables that the reading takes, are together of bulk at most 1048576: NARROWER than '..Said'. Prove '..Said' where nothing that the law and all that it calls make is longer than what came in: it says more and counts as full. Else prove '..UptoSaid'. A law counts once. -/
mutual
def uptoBulk {H : Type} : DataW H → Nat
  | .lit (.string bytes) => bytes.length + 1
  | .lit _ => 1
  | .nil => 1
  | .ptr d => uptoBulk d + 1
  | .slice elems spare => uptoBulkAll elems + uptoBulkAll spare + 1
  | .agg parts => uptoBulkAll parts + 1
  | .iface _ d => uptoBulk d + 1
  | .map entries => uptoBulkEntries entries + 1
  | .held _ => 1
def uptoBulkAll {H : Type} : List (DataW H) → Nat
  | [] => 0
  | d :: r => uptoBulk d + uptoBulkAll r
def uptoBulkEntries {H : Type} : List (Lit × DataW H) → Nat
  | [] => 0
  | x :: r => uptoBulkEntry x + uptoBulkEntries r
def uptoBulkEntry {H : Type} : Lit × DataW H → Nat
  | (.string bytes, d) => bytes.length + uptoBulk d + 1
  | (_, d) => uptoBulk d + 1
 end
def uptoSmall : (H : Type) → List (DataW H) → Bool := fun _ ds => decide (uptoBulkAll ds ≤ 1048576)
def OpenSpec.upto (s : _root_.Go.ChangeSpec) : _root_.Go.OpenSpec := { _root_.Go.OpenSpec.ofChange s with cond := some uptoSmall }

/-- 'decretallaw13.LexReads', WHERE WHAT IT READS IS OF BULK AT MOST 1048576: true; the input reads as it did. -/
def lexReadsUptoRow : OpenClaim := { program := "ytjidmighkphmkaa", sum := "5ce74903f827b0884c0b6e7c63cdc16dece5ce5603b65dcfed8fef96680502a5", func := "decretal/decretallaw13.LexReads", spec := "lexReads", unfollowed := true, recurses := true, apart := false, narrowed := true }
def LexReadsUptoSaid : Prop := lexReadsUptoRow.holds Try.pinned (OpenSpec.upto lexReadsSpec)

/-- 'decretallaw15.TypingKinds', WHERE WHAT IT READS IS OF BULK AT MOST 1048576: true; the input reads as it did. -/
def typingKindsUptoRow : OpenClaim := { program := "ytjidmighkphmkaa", sum := "5ce74903f827b0884c0b6e7c63cdc16dece5ce5603b65dcfed8fef96680502a5", func := "decretal/decretallaw15.TypingKinds", spec := "typingKinds", unfollowed := true, recurses := true, loops := true, apart := false, narrowed := true }
def TypingKindsUptoSaid : Prop := typingKindsUptoRow.holds Try.pinned (OpenSpec.upto typingKindsSpec)

/-- 'decretallaw15.TypingColumns', WHERE WHAT IT READS IS OF BULK AT MOST 1048576: true; the input reads as it did. -/
def typingColumnsUptoRow : OpenClaim := { program := "ytjidmighkphmkaa", sum := "5ce74903f827b0884c0b6e7c63cdc16dece5ce5603b65dcfed8fef96680502a5", func := "decretal/decretallaw15.TypingColumns", spec := "typingColumns", unfollowed := true, recurses := true, apart := false, narrowed := true }
def TypingColumnsUptoSaid : Prop := typingColumnsUptoRow.holds Try.pinned (OpenSpec.upto typingColumnsSpec)

/-- 'decretallaw15.TypingNull', WHERE WHAT IT READS IS OF BULK AT MOST 1048576: true; the input reads as it did. -/
def typingNullUptoRow : OpenClaim := { program := "ytjidmighkphmkaa", sum := "5ce74903f827b0884c0b6e7c63cdc16dece5ce5603b65dcfed8fef96680502a5", func := "decretal/decretallaw15.TypingNull", spec := "typingNull", unfollowed := true, recurses := true, loops := true, apart := false, narrowed := true }
def TypingNullUptoSaid : Prop := typingNullUptoRow.holds Try.pinned (OpenSpec.upto typingNullSpec)

/-- 'decretallaw15.TypingNames', WHERE WHAT IT READS IS OF BULK AT MOST 1048576: true; the input reads as it did. -/
def typingNamesUptoRow : OpenClaim := { program := "ytjidmighkphmkaa", sum := "5ce74903f827b0884c0b6e7c63cdc16dece5ce5603b65dcfed8fef96680502a5", func := "decretal/decretallaw15.TypingNames", spec := "typingNames", unfollowed := true, recurses := true, loops := true, apart := false, narrowed := true }
def TypingNamesUptoSaid : Prop := typingNamesUptoRow.holds Try.pinned (OpenSpec.upto typingNamesSpec)

end Rows
end Go.Proofs.Ytjidmighkphmkaa
