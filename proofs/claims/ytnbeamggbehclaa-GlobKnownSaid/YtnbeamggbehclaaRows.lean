/-
  No cell of these rows narrows 'for every input' (looked for: loops, veiled, ifaces, maps, wideKeys, modest, calm, conditions, laid).
  DERIVED. THE GIVEN ROWS OF THIS SEAT. 6 by the template 'for every input the law returns true; each argument reads behind the call as it read before'; 0 by the template 'total and deterministic' (their statements: YtnbeamggbehclaaTotals.lean).
  GIVEN WITH THE SEED: the statements are not yours to turn. If you find one false, say at which input.
  Laid BY PROGRAM, IN A SANDBOX (cutbox-rows.mjs): the forced cells as the released guide's own fill.sh prints them over the translation c63521da761f2cc3… (all of the seat's roots in one cut). By AI agents, Wed Nov 11 2026. No macro, syntax, notation, axiom, sorry.
-/
import Derived.Test.YtnbeamggbehclaaChecked
import GoSem.Claim
import GoSem.ClaimJoined
import GoSem.ClaimMapViews
import Derived.JoinedTies
import Derived.KernelRfl
namespace Go.Proofs.Ytnbeamggbehclaa
/- THE CELL 'sum', in the pinned program and in every row, IS THE sha256 OF THE DUMP (.gsa) THAT YtnbeamggbehclaaProg.lean LOADS. Nothing in Lean hashes anything: it is a label: what it is worth is what the hold of that sum in a sandbox is worth. -/
noncomputable def Try.pinned : Pinned := { name := "ytnbeamggbehclaa", sum := "c63521da761f2cc39466761beb47423f373187b45d15b5488b675e3a76d7bea4", checked := Try.checked }
namespace Rows
def none {H : Type} : Left H := { results := [], args := [] }

/-- 'caravanlaw07.GlobMatches': WHATEVER THE INPUT: true; the input reads as it did. -/
def globMatchesSpec : ChangeSpec := { name := "globMatches", fn := fun _ => fun
  | [d1, d2] => { results := [.lit (.bool true)], args := [d1, d2] }
  | _ => none }
def globMatchesRow : OpenClaim := { program := "ytnbeamggbehclaa", sum := "c63521da761f2cc39466761beb47423f373187b45d15b5488b675e3a76d7bea4", func := "caravan/caravanlaw07.GlobMatches", spec := "globMatches", unfollowed := true, recurses := true, apart := false }
def GlobMatchesSaid : Prop := globMatchesRow.holds Try.pinned (OpenSpec.ofChange globMatchesSpec)

/-- ITS FALSE NEIGHBOUR: 'it returns false'. Refute it at one input. -/
def globMatchesWrong : ChangeSpec := { name := "globMatches", fn := fun _ => fun
  | [d1, d2] => { results := [.lit (.bool false)], args := [d1, d2] }
  | _ => none }
def GlobMatchesWrongFalsely : Prop := globMatchesRow.holds Try.pinned (OpenSpec.ofChange globMatchesWrong)

/-- 'caravanlaw07.GlobWithin': WHATEVER THE INPUT: true; the input reads as it did. -/
def globWithinSpec : ChangeSpec := { name := "globWithin", fn := fun _ => fun
  | [d1, d2, d3, d4] => { results := [.lit (.bool true)], args := [d1, d2, d3, d4] }
  | _ => none }
def globWithinRow : OpenClaim := { program := "ytnbeamggbehclaa", sum := "c63521da761f2cc39466761beb47423f373187b45d15b5488b675e3a76d7bea4", func := "caravan/caravanlaw07.GlobWithin", spec := "globWithin", unfollowed := true, recurses := true, apart := false }
def GlobWithinSaid : Prop := globWithinRow.holds Try.pinned (OpenSpec.ofChange globWithinSpec)

/-- ITS FALSE NEIGHBOUR: 'it returns false'. Refute it at one input. -/
def globWithinWrong : ChangeSpec := { name := "globWithin", fn := fun _ => fun
  | [d1, d2, d3, d4] => { results := [.lit (.bool false)], args := [d1, d2, d3, d4] }
  | _ => none }
def GlobWithinWrongFalsely : Prop := globWithinRow.holds Try.pinned (OpenSpec.ofChange globWithinWrong)

/-- 'caravanlaw07.GlobPlain': WHATEVER THE INPUT: true; the input reads as it did. -/
def globPlainSpec : ChangeSpec := { name := "globPlain", fn := fun _ => fun
  | [d1, d2] => { results := [.lit (.bool true)], args := [d1, d2] }
  | _ => none }
def globPlainRow : OpenClaim := { program := "ytnbeamggbehclaa", sum := "c63521da761f2cc39466761beb47423f373187b45d15b5488b675e3a76d7bea4", func := "caravan/caravanlaw07.GlobPlain", spec := "globPlain", unfollowed := true, recurses := true, apart := false }
def GlobPlainSaid : Prop := globPlainRow.holds Try.pinned (OpenSpec.ofChange globPlainSpec)

/-- ITS FALSE NEIGHBOUR: 'it returns false'. Refute it at one input. -/
def globPlainWrong : ChangeSpec := { name := "globPlain", fn := fun _ => fun
  | [d1, d2] => { results := [.lit (.bool false)], args := [d1, d2] }
  | _ => none }
def GlobPlainWrongFalsely : Prop := globPlainRow.holds Try.pinned (OpenSpec.ofChange globPlainWrong)

/-- 'caravanlaw07.GlobMarks': WHATEVER THE INPUT: true; the input reads as it did. -/
def globMarksSpec : ChangeSpec := { name := "globMarks", fn := fun _ => fun
  | [d1, d2] => { results := [.lit (.bool true)], args := [d1, d2] }
  | _ => none }
def globMarksRow : OpenClaim := { program := "ytnbeamggbehclaa", sum := "c63521da761f2cc39466761beb47423f373187b45d15b5488b675e3a76d7bea4", func := "caravan/caravanlaw07.GlobMarks", spec := "globMarks", unfollowed := true, recurses := true, apart := false }
def GlobMarksSaid : Prop := globMarksRow.holds Try.pinned (OpenSpec.ofChange globMarksSpec)

/-- ITS FALSE NEIGHBOUR: 'it returns false'. Refute it at one input. -/
def globMarksWrong : ChangeSpec := { name := "globMarks", fn := fun _ => fun
  | [d1, d2] => { results := [.lit (.bool false)], args := [d1, d2] }
  | _ => none }
def GlobMarksWrongFalsely : Prop := globMarksRow.holds Try.pinned (OpenSpec.ofChange globMarksWrong)

/-- 'caravanlaw07.GlobParses': WHATEVER THE INPUT: true; the input reads as it did. -/
def globParsesSpec : ChangeSpec := { name := "globParses", fn := fun _ => fun
  | [d] => { results := [.lit (.bool true)], args := [d] }
  | _ => none }
def globParsesRow : OpenClaim := { program := "ytnbeamggbehclaa", sum := "c63521da761f2cc39466761beb47423f373187b45d15b5488b675e3a76d7bea4", func := "caravan/caravanlaw07.GlobParses", spec := "globParses", unfollowed := true, recurses := true, apart := false }
def GlobParsesSaid : Prop := globParsesRow.holds Try.pinned (OpenSpec.ofChange globParsesSpec)

/-- ITS FALSE NEIGHBOUR: 'it returns false'. Refute it at one input. -/
def globParsesWrong : ChangeSpec := { name := "globParses", fn := fun _ => fun
  | [d] => { results := [.lit (.bool false)], args := [d] }
  | _ => none }
def GlobParsesWrongFalsely : Prop := globParsesRow.holds Try.pinned (OpenSpec.ofChange globParsesWrong)

/-- 'caravanlaw07.GlobKnown': WHATEVER THE INPUT: true; the input reads as it did. -/
def globKnownSpec : ChangeSpec := { name := "globKnown", fn := fun _ => fun
  | [] => { results := [.lit (.bool true)], args := [] }
  | _ => none }
def globKnownRow : OpenClaim := { program := "ytnbeamggbehclaa", sum := "c63521da761f2cc39466761beb47423f373187b45d15b5488b675e3a76d7bea4", func := "caravan/caravanlaw07.GlobKnown", spec := "globKnown", inPlace := ["internal/abi.NoEscape", "internal/bytealg.MakeNoZero"], unfollowed := true, recurses := true, apart := false }
def GlobKnownSaid : Prop := globKnownRow.holds Try.pinned (OpenSpec.ofChange globKnownSpec)

/-- ITS FALSE NEIGHBOUR: 'it returns false'. Refute it at one input. -/
def globKnownWrong : ChangeSpec := { name := "globKnown", fn := fun _ => fun
  | [] => { results := [.lit (.bool false)], args := [] }
  | _ => none }
def GlobKnownWrongFalsely : Prop := globKnownRow.holds Try.pinned (OpenSpec.ofChange globKnownWrong)

/- THE SECOND FORM. 'bulk': how many values and letters a reading holds, each counted each time it is reached (what is shared counts as often as it is met; a slice's spare places count too). A statement '..UptoSaid' is the law's where the arguments, and the package variables that the reading takes, are together of bulk at most 1048576: NARROWER than '..Said'. Prove '..Said' where nothing that the law and all that it calls make is longer than what came in: it says more and counts as full. Else prove '..UptoSaid'. A law counts once. -/
mutual
def uptoBulk {H : Type} : DataW H → Nat
  | .lit (.string bytes) => bytes.length + 1
  | .lit _ => 1
  | .nil => 1
  | .ptr d => uptoBulk d + 1
  | .slice elems spare => uptoBulkAll elems + uptoBulkAll spare + 1
  | .agg parts => uptoBulkAll parts + 1
  | .iface _ d => uptoBulk d + 1
  | .map entries => uptoBulkEntries entries + 1
  | .held _ => 1
def uptoBulkAll {H : Type} : List (DataW H) → Nat
  | [] => 0
  | d :: r => uptoBulk d + uptoBulkAll r
def uptoBulkEntries {H : Type} : List (Lit × DataW H) → Nat
  | [] => 0
  | x :: r => uptoBulkEntry x + uptoBulkEntries r
def uptoBulkEntry {H : Type} : Lit × DataW H → Nat
  | (.string bytes, d) => bytes.length + uptoBulk d + 1
  | (_, d) => uptoBulk d + 1
 end
def uptoSmall : (H : Type) → List (DataW H) → Bool := fun _ ds => decide (uptoBulkAll ds ≤ 1048576)
def OpenSpec.upto (s : _root_.Go.ChangeSpec) : _root_.Go.OpenSpec := { _root_.Go.OpenSpec.ofChange s with cond := some uptoSmall }

/-- 'caravanlaw07.GlobMatches', WHERE WHAT IT READS IS OF BULK AT MOST 1048576: true; the input reads as it did. -/
def globMatchesUptoRow : OpenClaim := { program := "ytnbeamggbehclaa", sum := "c63521da761f2cc39466761beb47423f373187b45d15b5488b675e3a76d7bea4", func := "caravan/caravanlaw07.GlobMatches", spec := "globMatches", unfollowed := true, recurses := true, apart := false, narrowed := true }
def GlobMatchesUptoSaid : Prop := globMatchesUptoRow.holds Try.pinned (OpenSpec.upto globMatchesSpec)

/-- 'caravanlaw07.GlobWithin', WHERE WHAT IT READS IS OF BULK AT MOST 1048576: true; the input reads as it did. -/
def globWithinUptoRow : OpenClaim := { program := "ytnbeamggbehclaa", sum := "c63521da761f2cc39466761beb47423f373187b45d15b5488b675e3a76d7bea4", func := "caravan/caravanlaw07.GlobWithin", spec := "globWithin", unfollowed := true, recurses := true, apart := false, narrowed := true }
def GlobWithinUptoSaid : Prop := globWithinUptoRow.holds Try.pinned (OpenSpec.upto globWithinSpec)

/-- 'caravanlaw07.GlobPlain', WHERE WHAT IT READS IS OF BULK AT MOST 1048576: true; the input reads as it did. -/
def globPlainUptoRow : OpenClaim := { program := "ytnbeamggbehclaa", sum := "c63521da761f2cc39466761beb47423f373187b45d15b5488b675e3a76d7bea4", func := "caravan/caravanlaw07.GlobPlain", spec := "globPlain", unfollowed := true, recurses := true, apart := false, narrowed := true }
def GlobPlainUptoSaid : Prop := globPlainUptoRow.holds Try.pinned (OpenSpec.upto globPlainSpec)

/-- 'caravanlaw07.GlobMarks', WHERE WHAT IT READS IS OF BULK AT MOST 1048576: true; the input reads as it did. -/
def globMarksUptoRow : OpenClaim := { program := "ytnbeamggbehclaa", sum := "c63521da761f2cc39466761beb47423f373187b45d15b5488b675e3a76d7bea4", func := "caravan/caravanlaw07.GlobMarks", spec := "globMarks", unfollowed := true, recurses := true, apart := false, narrowed := true }
def GlobMarksUptoSaid : Prop := globMarksUptoRow.holds Try.pinned (OpenSpec.upto globMarksSpec)

/-- 'caravanlaw07.GlobParses', WHERE WHAT IT READS IS OF BULK AT MOST 1048576: true; the input reads as it did. -/
def globParsesUptoRow : OpenClaim := { program := "ytnbeamggbehclaa", sum := "c63521da761f2cc39466761beb47423f373187b45d15b5488b675e3a76d7bea4", func := "caravan/caravanlaw07.GlobParses", spec := "globParses", unfollowed := true, recurses := true, apart := false, narrowed := true }
def GlobParsesUptoSaid : Prop := globParsesUptoRow.holds Try.pinned (OpenSpec.upto globParsesSpec)

/-- 'caravanlaw07.GlobKnown', WHERE WHAT IT READS IS OF BULK AT MOST 1048576: true; the input reads as it did. -/
def globKnownUptoRow : OpenClaim := { program := "ytnbeamggbehclaa", sum := "c63521da761f2cc39466761beb47423f373187b45d15b5488b675e3a76d7bea4", func := "caravan/caravanlaw07.GlobKnown", spec := "globKnown", inPlace := ["internal/abi.NoEscape", "internal/bytealg.MakeNoZero"], unfollowed := true, recurses := true, apart := false, narrowed := true }
def GlobKnownUptoSaid : Prop := globKnownUptoRow.holds Try.pinned (OpenSpec.upto globKnownSpec)

end Rows
end Go.Proofs.Ytnbeamggbehclaa
