/-
  No cell of these rows narrows 'for every input' (looked for: loops, veiled, ifaces, maps, wideKeys, modest, calm, conditions, laid).
  DERIVED. THE GIVEN ROWS OF THIS SEAT. 5 by the template 'for every input the law returns true; each argument reads behind the call as it read before'; 0 by the template 'total and deterministic' (their statements: YtcapbfhiiiggdaaTotals.lean).
  GIVEN WITH THE SEED: the statements are not yours to turn. If you find one false, say at which input.
  Laid BY PROGRAM, IN A SANDBOX (cutbox-rows.mjs): the forced cells as the released guide's own fill.sh prints them over the translation 7370f631e7410e9c… (all of the seat's roots in one cut). By AI agents, Wed Nov 11 2026. No macro, syntax, notation, axiom, sorry.
-/
import Derived.Test.YtcapbfhiiiggdaaChecked
import GoSem.Claim
import GoSem.ClaimJoined
import GoSem.ClaimMapViews
import Derived.JoinedTies
import Derived.KernelRfl
namespace Go.Proofs.Ytcapbfhiiiggdaa
/- THE CELL 'sum', in the pinned program and in every row, IS THE sha256 OF THE DUMP (.gsa) THAT YtcapbfhiiiggdaaProg.lean LOADS. Nothing in Lean hashes anything: it is a label: what it is worth is what the hold of that sum in a sandbox is worth. -/
noncomputable def Try.pinned : Pinned := { name := "ytcapbfhiiiggdaa", sum := "7370f631e7410e9c564651685d79d7df6db2dbf4ea5f58db6b0c817e7555ab53", checked := Try.checked }
namespace Rows
def none {H : Type} : Left H := { results := [], args := [] }

/-- 'caravanlaw22.FetchFair': WHATEVER THE INPUT: true; the input reads as it did. -/
def fetchFairSpec : ChangeSpec := { name := "fetchFair", fn := fun _ => fun
  | [d1, d2, d3] => { results := [.lit (.bool true)], args := [d1, d2, d3] }
  | _ => none }
def fetchFairRow : OpenClaim := { program := "ytcapbfhiiiggdaa", sum := "7370f631e7410e9c564651685d79d7df6db2dbf4ea5f58db6b0c817e7555ab53", func := "caravan/caravanlaw22.FetchFair", spec := "fetchFair", unfollowed := true, recurses := true, apart := false }
def FetchFairSaid : Prop := fetchFairRow.holds Try.pinned (OpenSpec.ofChange fetchFairSpec)

/-- ITS FALSE NEIGHBOUR: 'it returns false'. Refute it at one input. -/
def fetchFairWrong : ChangeSpec := { name := "fetchFair", fn := fun _ => fun
  | [d1, d2, d3] => { results := [.lit (.bool false)], args := [d1, d2, d3] }
  | _ => none }
def FetchFairWrongFalsely : Prop := fetchFairRow.holds Try.pinned (OpenSpec.ofChange fetchFairWrong)

/-- 'caravanlaw22.FetchEnds': WHATEVER THE INPUT: true; the input reads as it did. -/
def fetchEndsSpec : ChangeSpec := { name := "fetchEnds", fn := fun _ => fun
  | [d1, d2, d3] => { results := [.lit (.bool true)], args := [d1, d2, d3] }
  | _ => none }
def fetchEndsRow : OpenClaim := { program := "ytcapbfhiiiggdaa", sum := "7370f631e7410e9c564651685d79d7df6db2dbf4ea5f58db6b0c817e7555ab53", func := "caravan/caravanlaw22.FetchEnds", spec := "fetchEnds", unfollowed := true, recurses := true, apart := false }
def FetchEndsSaid : Prop := fetchEndsRow.holds Try.pinned (OpenSpec.ofChange fetchEndsSpec)

/-- ITS FALSE NEIGHBOUR: 'it returns false'. Refute it at one input. -/
def fetchEndsWrong : ChangeSpec := { name := "fetchEnds", fn := fun _ => fun
  | [d1, d2, d3] => { results := [.lit (.bool false)], args := [d1, d2, d3] }
  | _ => none }
def FetchEndsWrongFalsely : Prop := fetchEndsRow.holds Try.pinned (OpenSpec.ofChange fetchEndsWrong)

/-- 'caravanlaw22.FetchPlays': WHATEVER THE INPUT: true; the input reads as it did. -/
def fetchPlaysSpec : ChangeSpec := { name := "fetchPlays", fn := fun _ => fun
  | [d1, d2, d3] => { results := [.lit (.bool true)], args := [d1, d2, d3] }
  | _ => none }
def fetchPlaysRow : OpenClaim := { program := "ytcapbfhiiiggdaa", sum := "7370f631e7410e9c564651685d79d7df6db2dbf4ea5f58db6b0c817e7555ab53", func := "caravan/caravanlaw22.FetchPlays", spec := "fetchPlays", unfollowed := true, recurses := true, apart := false }
def FetchPlaysSaid : Prop := fetchPlaysRow.holds Try.pinned (OpenSpec.ofChange fetchPlaysSpec)

/-- ITS FALSE NEIGHBOUR: 'it returns false'. Refute it at one input. -/
def fetchPlaysWrong : ChangeSpec := { name := "fetchPlays", fn := fun _ => fun
  | [d1, d2, d3] => { results := [.lit (.bool false)], args := [d1, d2, d3] }
  | _ => none }
def FetchPlaysWrongFalsely : Prop := fetchPlaysRow.holds Try.pinned (OpenSpec.ofChange fetchPlaysWrong)

/-- 'caravanlaw22.FetchLost': WHATEVER THE INPUT: true; the input reads as it did. -/
def fetchLostSpec : ChangeSpec := { name := "fetchLost", fn := fun _ => fun
  | [d1, d2, d3] => { results := [.lit (.bool true)], args := [d1, d2, d3] }
  | _ => none }
def fetchLostRow : OpenClaim := { program := "ytcapbfhiiiggdaa", sum := "7370f631e7410e9c564651685d79d7df6db2dbf4ea5f58db6b0c817e7555ab53", func := "caravan/caravanlaw22.FetchLost", spec := "fetchLost", unfollowed := true, recurses := true, apart := false }
def FetchLostSaid : Prop := fetchLostRow.holds Try.pinned (OpenSpec.ofChange fetchLostSpec)

/-- ITS FALSE NEIGHBOUR: 'it returns false'. Refute it at one input. -/
def fetchLostWrong : ChangeSpec := { name := "fetchLost", fn := fun _ => fun
  | [d1, d2, d3] => { results := [.lit (.bool false)], args := [d1, d2, d3] }
  | _ => none }
def FetchLostWrongFalsely : Prop := fetchLostRow.holds Try.pinned (OpenSpec.ofChange fetchLostWrong)

/-- 'caravanlaw22.FetchKnown': WHATEVER THE INPUT: true; the input reads as it did. -/
def fetchKnownSpec : ChangeSpec := { name := "fetchKnown", fn := fun _ => fun
  | [] => { results := [.lit (.bool true)], args := [] }
  | _ => none }
def fetchKnownRow : OpenClaim := { program := "ytcapbfhiiiggdaa", sum := "7370f631e7410e9c564651685d79d7df6db2dbf4ea5f58db6b0c817e7555ab53", func := "caravan/caravanlaw22.FetchKnown", spec := "fetchKnown", unfollowed := true, recurses := true, apart := false }
def FetchKnownSaid : Prop := fetchKnownRow.holds Try.pinned (OpenSpec.ofChange fetchKnownSpec)

/-- ITS FALSE NEIGHBOUR: 'it returns false'. Refute it at one input. -/
def fetchKnownWrong : ChangeSpec := { name := "fetchKnown", fn := fun _ => fun
  | [] => { results := [.lit (.bool false)], args := [] }
  | _ => none }
def FetchKnownWrongFalsely : Prop := fetchKnownRow.holds Try.pinned (OpenSpec.ofChange fetchKnownWrong)

/- THE SECOND FORM. 'bulk': how many values and letters a reading holds, each counted each time it is reached (what is shared counts as often as it is met; a slice's spare places count too). A statement '..UptoSaid' is the law's where the arguments, and the package variables that the reading takes, are together of bulk at most 1048576: NARROWER than '..Said'. Prove '..Said' where nothing that the law and all that it calls make is longer than what came in: it says more and counts as full. Else prove '..UptoSaid'. A law counts once. -/
mutual
def uptoBulk {H : Type} : DataW H → Nat
  | .lit (.string bytes) => bytes.length + 1
  | .lit _ => 1
  | .nil => 1
  | .ptr d => uptoBulk d + 1
  | .slice elems spare => uptoBulkAll elems + uptoBulkAll spare + 1
  | .agg parts => uptoBulkAll parts + 1
  | .iface _ d => uptoBulk d + 1
  | .map entries => uptoBulkEntries entries + 1
  | .held _ => 1
def uptoBulkAll {H : Type} : List (DataW H) → Nat
  | [] => 0
  | d :: r => uptoBulk d + uptoBulkAll r
def uptoBulkEntries {H : Type} : List (Lit × DataW H) → Nat
  | [] => 0
  | x :: r => uptoBulkEntry x + uptoBulkEntries r
def uptoBulkEntry {H : Type} : Lit × DataW H → Nat
  | (.string bytes, d) => bytes.length + uptoBulk d + 1
  | (_, d) => uptoBulk d + 1
 end
def uptoSmall : (H : Type) → List (DataW H) → Bool := fun _ ds => decide (uptoBulkAll ds ≤ 1048576)
def OpenSpec.upto (s : _root_.Go.ChangeSpec) : _root_.Go.OpenSpec := { _root_.Go.OpenSpec.ofChange s with cond := some uptoSmall }

/-- 'caravanlaw22.FetchFair', WHERE WHAT IT READS IS OF BULK AT MOST 1048576: true; the input reads as it did. -/
def fetchFairUptoRow : OpenClaim := { program := "ytcapbfhiiiggdaa", sum := "7370f631e7410e9c564651685d79d7df6db2dbf4ea5f58db6b0c817e7555ab53", func := "caravan/caravanlaw22.FetchFair", spec := "fetchFair", unfollowed := true, recurses := true, apart := false, narrowed := true }
def FetchFairUptoSaid : Prop := fetchFairUptoRow.holds Try.pinned (OpenSpec.upto fetchFairSpec)

/-- 'caravanlaw22.FetchEnds', WHERE WHAT IT READS IS OF BULK AT MOST 1048576: true; the input reads as it did. -/
def fetchEndsUptoRow : OpenClaim := { program := "ytcapbfhiiiggdaa", sum := "7370f631e7410e9c564651685d79d7df6db2dbf4ea5f58db6b0c817e7555ab53", func := "caravan/caravanlaw22.FetchEnds", spec := "fetchEnds", unfollowed := true, recurses := true, apart := false, narrowed := true }
def FetchEndsUptoSaid : Prop := fetchEndsUptoRow.holds Try.pinned (OpenSpec.upto fetchEndsSpec)

/-- 'caravanlaw22.FetchPlays', WHERE WHAT IT READS IS OF BULK AT MOST 1048576: true; the input reads as it did. -/
def fetchPlaysUptoRow : OpenClaim := { program := "ytcapbfhiiiggdaa", sum := "7370f631e7410e9c564651685d79d7df6db2dbf4ea5f58db6b0c817e7555ab53", func := "caravan/caravanlaw22.FetchPlays", spec := "fetchPlays", unfollowed := true, recurses := true, apart := false, narrowed := true }
def FetchPlaysUptoSaid : Prop := fetchPlaysUptoRow.holds Try.pinned (OpenSpec.upto fetchPlaysSpec)

/-- 'caravanlaw22.FetchLost', WHERE WHAT IT READS IS OF BULK AT MOST 1048576: true; the input reads as it did. -/
def fetchLostUptoRow : OpenClaim := { program := "ytcapbfhiiiggdaa", sum := "7370f631e7410e9c564651685d79d7df6db2dbf4ea5f58db6b0c817e7555ab53", func := "caravan/caravanlaw22.FetchLost", spec := "fetchLost", unfollowed := true, recurses := true, apart := false, narrowed := true }
def FetchLostUptoSaid : Prop := fetchLostUptoRow.holds Try.pinned (OpenSpec.upto fetchLostSpec)

/-- 'caravanlaw22.FetchKnown', WHERE WHAT IT READS IS OF BULK AT MOST 1048576: true; the input reads as it did. -/
def fetchKnownUptoRow : OpenClaim := { program := "ytcapbfhiiiggdaa", sum := "7370f631e7410e9c564651685d79d7df6db2dbf4ea5f58db6b0c817e7555ab53", func := "caravan/caravanlaw22.FetchKnown", spec := "fetchKnown", unfollowed := true, recurses := true, apart := false, narrowed := true }
def FetchKnownUptoSaid : Prop := fetchKnownUptoRow.holds Try.pinned (OpenSpec.upto fetchKnownSpec)

end Rows
end Go.Proofs.Ytcapbfhiiiggdaa
