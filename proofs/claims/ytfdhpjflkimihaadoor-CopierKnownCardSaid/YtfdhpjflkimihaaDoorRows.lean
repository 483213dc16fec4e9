/-
  NARROWER THAN 'FOR EVERY INPUT', by the rows' own cells (each row's printed sentence says how): BlockSizes: laid · BlockNear: laid · BlockLists: laid · BlockWhole: laid · BlockFinds: laid · BlockKnown: laid · BlockOrder: laid · CopierLess: laid · CopierPlans: laid · CopierBuilds: laid · CopierKnown: laid · CopierEnough: laid.
  DERIVED. THE GIVEN ROWS OF THIS SEAT. 12 by the template 'for every input the law returns true; each argument reads behind the call as it read before'; 0 by the template 'total and deterministic' (their statements: YtfdhpjflkimihaaDoorTotals.lean).
  GIVEN WITH THE SEED: the statements are not yours to turn. If you find one false, say at which input.
  Laid BY PROGRAM, IN A SANDBOX (cutbox-rows.mjs): the forced cells as the released guide's own fill.sh prints them over the translation ccac5b24ed50b714… (all of the seat's roots in one cut). By AI agents, Wed Nov 11 2026. No macro, syntax, notation, axiom, sorry.
-/
import Derived.Test.YtfdhpjflkimihaaDoorChecked
import GoSem.Claim
import GoSem.ClaimJoined
import GoSem.ClaimMapViews
import Derived.JoinedTies
import Derived.KernelRfl
namespace Go.Proofs.YtfdhpjflkimihaaDoor
/- THE CELL 'sum', in the pinned program and in every row, IS THE sha256 OF THE DUMP (.gsa) THAT YtfdhpjflkimihaaDoorProg.lean LOADS. Nothing in Lean hashes anything: it is a label: what it is worth is what the hold of that sum in a sandbox is worth. -/
noncomputable def Tryd.pinned : Pinned := { name := "ytfdhpjflkimihaadoor", sum := "ccac5b24ed50b714301eeded1dbb67f135924d4dcb42302a341129cd1fe61943", checked := Tryd.checked }
namespace Rows
def none {H : Type} : Left H := { results := [], args := [] }

/- WHAT THE LISTED PACKAGE-LEVEL VARIABLES READ AS WHEN THE CALL BEGINS. Each datum BY PROGRAM (the guide's laid-datum.mjs) off the statement by which the dump's own 'gosem.cut.vars' lays the variable. In a bare row this is a premise. The card (YtfdhpjflkimihaaDoorCards.lean) ties it to the program's text. -/
def laid_caravan_sha_first {H : Type} : DataW H := .agg [.lit (.int .u32 1779033703), .lit (.int .u32 3144134277), .lit (.int .u32 1013904242), .lit (.int .u32 2773480762), .lit (.int .u32 1359893119), .lit (.int .u32 2600822924), .lit (.int .u32 528734635), .lit (.int .u32 1541459225)]
def laid_caravan_sha_roots {H : Type} : DataW H := .agg [.lit (.int .u32 1116352408), .lit (.int .u32 1899447441), .lit (.int .u32 3049323471), .lit (.int .u32 3921009573), .lit (.int .u32 961987163), .lit (.int .u32 1508970993), .lit (.int .u32 2453635748), .lit (.int .u32 2870763221), .lit (.int .u32 3624381080), .lit (.int .u32 310598401), .lit (.int .u32 607225278), .lit (.int .u32 1426881987), .lit (.int .u32 1925078388), .lit (.int .u32 2162078206), .lit (.int .u32 2614888103), .lit (.int .u32 3248222580), .lit (.int .u32 3835390401), .lit (.int .u32 4022224774), .lit (.int .u32 264347078), .lit (.int .u32 604807628), .lit (.int .u32 770255983), .lit (.int .u32 1249150122), .lit (.int .u32 1555081692), .lit (.int .u32 1996064986), .lit (.int .u32 2554220882), .lit (.int .u32 2821834349), .lit (.int .u32 2952996808), .lit (.int .u32 3210313671), .lit (.int .u32 3336571891), .lit (.int .u32 3584528711), .lit (.int .u32 113926993), .lit (.int .u32 338241895), .lit (.int .u32 666307205), .lit (.int .u32 773529912), .lit (.int .u32 1294757372), .lit (.int .u32 1396182291), .lit (.int .u32 1695183700), .lit (.int .u32 1986661051), .lit (.int .u32 2177026350), .lit (.int .u32 2456956037), .lit (.int .u32 2730485921), .lit (.int .u32 2820302411), .lit (.int .u32 3259730800), .lit (.int .u32 3345764771), .lit (.int .u32 3516065817), .lit (.int .u32 3600352804), .lit (.int .u32 4094571909), .lit (.int .u32 275423344), .lit (.int .u32 430227734), .lit (.int .u32 506948616), .lit (.int .u32 659060556), .lit (.int .u32 883997877), .lit (.int .u32 958139571), .lit (.int .u32 1322822218), .lit (.int .u32 1537002063), .lit (.int .u32 1747873779), .lit (.int .u32 1955562222), .lit (.int .u32 2024104815), .lit (.int .u32 2227730452), .lit (.int .u32 2361852424), .lit (.int .u32 2428436474), .lit (.int .u32 2756734187), .lit (.int .u32 3204031479), .lit (.int .u32 3329325298)]

/-- 'caravanlaw05.BlockSizes': WHATEVER THE INPUT: true; the input reads as it did. -/
def blockSizesSpec : ChangeSpec := { name := "blockSizes", fn := fun _ => fun
  | [d] => { results := [.lit (.bool true)], args := [d] }
  | _ => none }
def blockSizesRow : OpenClaim := { program := "ytfdhpjflkimihaadoor", sum := "ccac5b24ed50b714301eeded1dbb67f135924d4dcb42302a341129cd1fe61943", func := "caravan/caravanlaw05.BlockSizes", spec := "blockSizes", inPlace := ["internal/abi.NoEscape", "internal/bytealg.MakeNoZero"], unfollowed := true, recurses := true, named := ["caravan/sha.first", "caravan/sha.roots"], plainKeys := false, apart := false, laid := [("caravan/sha.first", laid_caravan_sha_first), ("caravan/sha.roots", laid_caravan_sha_roots)] }
def BlockSizesSaid : Prop := blockSizesRow.holds Tryd.pinned (OpenSpec.ofChange blockSizesSpec)

/-- ITS FALSE NEIGHBOUR: 'it returns false'. Refute it at one input. -/
def blockSizesWrong : ChangeSpec := { name := "blockSizes", fn := fun _ => fun
  | [d] => { results := [.lit (.bool false)], args := [d] }
  | _ => none }
def BlockSizesWrongFalsely : Prop := blockSizesRow.holds Tryd.pinned (OpenSpec.ofChange blockSizesWrong)

/-- 'caravanlaw05.BlockNear': WHATEVER THE INPUT: true; the input reads as it did. -/
def blockNearSpec : ChangeSpec := { name := "blockNear", fn := fun _ => fun
  | [d1, d2, d3] => { results := [.lit (.bool true)], args := [d1, d2, d3] }
  | _ => none }
def blockNearRow : OpenClaim := { program := "ytfdhpjflkimihaadoor", sum := "ccac5b24ed50b714301eeded1dbb67f135924d4dcb42302a341129cd1fe61943", func := "caravan/caravanlaw05.BlockNear", spec := "blockNear", inPlace := ["internal/abi.NoEscape", "internal/bytealg.MakeNoZero"], unfollowed := true, recurses := true, named := ["caravan/sha.first", "caravan/sha.roots"], plainKeys := false, apart := false, laid := [("caravan/sha.first", laid_caravan_sha_first), ("caravan/sha.roots", laid_caravan_sha_roots)] }
def BlockNearSaid : Prop := blockNearRow.holds Tryd.pinned (OpenSpec.ofChange blockNearSpec)

/-- ITS FALSE NEIGHBOUR: 'it returns false'. Refute it at one input. -/
def blockNearWrong : ChangeSpec := { name := "blockNear", fn := fun _ => fun
  | [d1, d2, d3] => { results := [.lit (.bool false)], args := [d1, d2, d3] }
  | _ => none }
def BlockNearWrongFalsely : Prop := blockNearRow.holds Tryd.pinned (OpenSpec.ofChange blockNearWrong)

/-- 'caravanlaw05.BlockLists': WHATEVER THE INPUT: true; the input reads as it did. -/
def blockListsSpec : ChangeSpec := { name := "blockLists", fn := fun _ => fun
  | [d1, d2, d3] => { results := [.lit (.bool true)], args := [d1, d2, d3] }
  | _ => none }
def blockListsRow : OpenClaim := { program := "ytfdhpjflkimihaadoor", sum := "ccac5b24ed50b714301eeded1dbb67f135924d4dcb42302a341129cd1fe61943", func := "caravan/caravanlaw05.BlockLists", spec := "blockLists", inPlace := ["internal/abi.NoEscape", "internal/bytealg.MakeNoZero"], unfollowed := true, recurses := true, named := ["caravan/sha.first", "caravan/sha.roots"], plainKeys := false, apart := false, laid := [("caravan/sha.first", laid_caravan_sha_first), ("caravan/sha.roots", laid_caravan_sha_roots)] }
def BlockListsSaid : Prop := blockListsRow.holds Tryd.pinned (OpenSpec.ofChange blockListsSpec)

/-- ITS FALSE NEIGHBOUR: 'it returns false'. Refute it at one input. -/
def blockListsWrong : ChangeSpec := { name := "blockLists", fn := fun _ => fun
  | [d1, d2, d3] => { results := [.lit (.bool false)], args := [d1, d2, d3] }
  | _ => none }
def BlockListsWrongFalsely : Prop := blockListsRow.holds Tryd.pinned (OpenSpec.ofChange blockListsWrong)

/-- 'caravanlaw05.BlockWhole': WHATEVER THE INPUT: true; the input reads as it did. -/
def blockWholeSpec : ChangeSpec := { name := "blockWhole", fn := fun _ => fun
  | [d] => { results := [.lit (.bool true)], args := [d] }
  | _ => none }
def blockWholeRow : OpenClaim := { program := "ytfdhpjflkimihaadoor", sum := "ccac5b24ed50b714301eeded1dbb67f135924d4dcb42302a341129cd1fe61943", func := "caravan/caravanlaw05.BlockWhole", spec := "blockWhole", inPlace := ["internal/abi.NoEscape", "internal/bytealg.MakeNoZero"], unfollowed := true, recurses := true, named := ["caravan/sha.first", "caravan/sha.roots"], plainKeys := false, apart := false, laid := [("caravan/sha.first", laid_caravan_sha_first), ("caravan/sha.roots", laid_caravan_sha_roots)] }
def BlockWholeSaid : Prop := blockWholeRow.holds Tryd.pinned (OpenSpec.ofChange blockWholeSpec)

/-- ITS FALSE NEIGHBOUR: 'it returns false'. Refute it at one input. -/
def blockWholeWrong : ChangeSpec := { name := "blockWhole", fn := fun _ => fun
  | [d] => { results := [.lit (.bool false)], args := [d] }
  | _ => none }
def BlockWholeWrongFalsely : Prop := blockWholeRow.holds Tryd.pinned (OpenSpec.ofChange blockWholeWrong)

/-- 'caravanlaw05.BlockFinds': WHATEVER THE INPUT: true; the input reads as it did. -/
def blockFindsSpec : ChangeSpec := { name := "blockFinds", fn := fun _ => fun
  | [d1, d2] => { results := [.lit (.bool true)], args := [d1, d2] }
  | _ => none }
def blockFindsRow : OpenClaim := { program := "ytfdhpjflkimihaadoor", sum := "ccac5b24ed50b714301eeded1dbb67f135924d4dcb42302a341129cd1fe61943", func := "caravan/caravanlaw05.BlockFinds", spec := "blockFinds", inPlace := ["internal/abi.NoEscape", "internal/bytealg.MakeNoZero"], unfollowed := true, recurses := true, named := ["caravan/sha.first", "caravan/sha.roots"], plainKeys := false, apart := false, laid := [("caravan/sha.first", laid_caravan_sha_first), ("caravan/sha.roots", laid_caravan_sha_roots)] }
def BlockFindsSaid : Prop := blockFindsRow.holds Tryd.pinned (OpenSpec.ofChange blockFindsSpec)

/-- ITS FALSE NEIGHBOUR: 'it returns false'. Refute it at one input. -/
def blockFindsWrong : ChangeSpec := { name := "blockFinds", fn := fun _ => fun
  | [d1, d2] => { results := [.lit (.bool false)], args := [d1, d2] }
  | _ => none }
def BlockFindsWrongFalsely : Prop := blockFindsRow.holds Tryd.pinned (OpenSpec.ofChange blockFindsWrong)

/-- 'caravanlaw05.BlockKnown': WHATEVER THE INPUT: true; the input reads as it did. -/
def blockKnownSpec : ChangeSpec := { name := "blockKnown", fn := fun _ => fun
  | [] => { results := [.lit (.bool true)], args := [] }
  | _ => none }
def blockKnownRow : OpenClaim := { program := "ytfdhpjflkimihaadoor", sum := "ccac5b24ed50b714301eeded1dbb67f135924d4dcb42302a341129cd1fe61943", func := "caravan/caravanlaw05.BlockKnown", spec := "blockKnown", inPlace := ["internal/abi.NoEscape", "internal/bytealg.MakeNoZero"], unfollowed := true, recurses := true, named := ["caravan/sha.first", "caravan/sha.roots"], plainKeys := false, apart := false, laid := [("caravan/sha.first", laid_caravan_sha_first), ("caravan/sha.roots", laid_caravan_sha_roots)] }
def BlockKnownSaid : Prop := blockKnownRow.holds Tryd.pinned (OpenSpec.ofChange blockKnownSpec)

/-- ITS FALSE NEIGHBOUR: 'it returns false'. Refute it at one input. -/
def blockKnownWrong : ChangeSpec := { name := "blockKnown", fn := fun _ => fun
  | [] => { results := [.lit (.bool false)], args := [] }
  | _ => none }
def BlockKnownWrongFalsely : Prop := blockKnownRow.holds Tryd.pinned (OpenSpec.ofChange blockKnownWrong)

/-- 'caravanlaw05.BlockOrder': WHATEVER THE INPUT: true; the input reads as it did. -/
def blockOrderSpec : ChangeSpec := { name := "blockOrder", fn := fun _ => fun
  | [d] => { results := [.lit (.bool true)], args := [d] }
  | _ => none }
def blockOrderRow : OpenClaim := { program := "ytfdhpjflkimihaadoor", sum := "ccac5b24ed50b714301eeded1dbb67f135924d4dcb42302a341129cd1fe61943", func := "caravan/caravanlaw05.BlockOrder", spec := "blockOrder", inPlace := ["internal/abi.NoEscape", "internal/bytealg.MakeNoZero"], unfollowed := true, recurses := true, named := ["caravan/sha.first", "caravan/sha.roots"], plainKeys := false, apart := false, laid := [("caravan/sha.first", laid_caravan_sha_first), ("caravan/sha.roots", laid_caravan_sha_roots)] }
def BlockOrderSaid : Prop := blockOrderRow.holds Tryd.pinned (OpenSpec.ofChange blockOrderSpec)

/-- ITS FALSE NEIGHBOUR: 'it returns false'. Refute it at one input. -/
def blockOrderWrong : ChangeSpec := { name := "blockOrder", fn := fun _ => fun
  | [d] => { results := [.lit (.bool false)], args := [d] }
  | _ => none }
def BlockOrderWrongFalsely : Prop := blockOrderRow.holds Tryd.pinned (OpenSpec.ofChange blockOrderWrong)

/-- 'caravanlaw21.CopierLess': WHATEVER THE INPUT: true; the input reads as it did. -/
def copierLessSpec : ChangeSpec := { name := "copierLess", fn := fun _ => fun
  | [d1, d2, d3] => { results := [.lit (.bool true)], args := [d1, d2, d3] }
  | _ => none }
def copierLessRow : OpenClaim := { program := "ytfdhpjflkimihaadoor", sum := "ccac5b24ed50b714301eeded1dbb67f135924d4dcb42302a341129cd1fe61943", func := "caravan/caravanlaw21.CopierLess", spec := "copierLess", inPlace := ["internal/abi.NoEscape", "internal/bytealg.MakeNoZero"], unfollowed := true, recurses := true, named := ["caravan/sha.first", "caravan/sha.roots"], plainKeys := false, apart := false, laid := [("caravan/sha.first", laid_caravan_sha_first), ("caravan/sha.roots", laid_caravan_sha_roots)] }
def CopierLessSaid : Prop := copierLessRow.holds Tryd.pinned (OpenSpec.ofChange copierLessSpec)

/-- ITS FALSE NEIGHBOUR: 'it returns false'. Refute it at one input. -/
def copierLessWrong : ChangeSpec := { name := "copierLess", fn := fun _ => fun
  | [d1, d2, d3] => { results := [.lit (.bool false)], args := [d1, d2, d3] }
  | _ => none }
def CopierLessWrongFalsely : Prop := copierLessRow.holds Tryd.pinned (OpenSpec.ofChange copierLessWrong)

/-- 'caravanlaw21.CopierPlans': WHATEVER THE INPUT: true; the input reads as it did. -/
def copierPlansSpec : ChangeSpec := { name := "copierPlans", fn := fun _ => fun
  | [d1, d2, d3, d4, d5] => { results := [.lit (.bool true)], args := [d1, d2, d3, d4, d5] }
  | _ => none }
def copierPlansRow : OpenClaim := { program := "ytfdhpjflkimihaadoor", sum := "ccac5b24ed50b714301eeded1dbb67f135924d4dcb42302a341129cd1fe61943", func := "caravan/caravanlaw21.CopierPlans", spec := "copierPlans", inPlace := ["internal/abi.NoEscape", "internal/bytealg.MakeNoZero"], unfollowed := true, recurses := true, named := ["caravan/sha.first", "caravan/sha.roots"], plainKeys := false, apart := false, laid := [("caravan/sha.first", laid_caravan_sha_first), ("caravan/sha.roots", laid_caravan_sha_roots)] }
def CopierPlansSaid : Prop := copierPlansRow.holds Tryd.pinned (OpenSpec.ofChange copierPlansSpec)

/-- ITS FALSE NEIGHBOUR: 'it returns false'. Refute it at one input. -/
def copierPlansWrong : ChangeSpec := { name := "copierPlans", fn := fun _ => fun
  | [d1, d2, d3, d4, d5] => { results := [.lit (.bool false)], args := [d1, d2, d3, d4, d5] }
  | _ => none }
def CopierPlansWrongFalsely : Prop := copierPlansRow.holds Tryd.pinned (OpenSpec.ofChange copierPlansWrong)

/-- 'caravanlaw21.CopierBuilds': WHATEVER THE INPUT: true; the input reads as it did. -/
def copierBuildsSpec : ChangeSpec := { name := "copierBuilds", fn := fun _ => fun
  | [d1, d2, d3, d4, d5] => { results := [.lit (.bool true)], args := [d1, d2, d3, d4, d5] }
  | _ => none }
def copierBuildsRow : OpenClaim := { program := "ytfdhpjflkimihaadoor", sum := "ccac5b24ed50b714301eeded1dbb67f135924d4dcb42302a341129cd1fe61943", func := "caravan/caravanlaw21.CopierBuilds", spec := "copierBuilds", inPlace := ["internal/abi.NoEscape", "internal/bytealg.MakeNoZero"], unfollowed := true, recurses := true, named := ["caravan/sha.first", "caravan/sha.roots"], plainKeys := false, apart := false, laid := [("caravan/sha.first", laid_caravan_sha_first), ("caravan/sha.roots", laid_caravan_sha_roots)] }
def CopierBuildsSaid : Prop := copierBuildsRow.holds Tryd.pinned (OpenSpec.ofChange copierBuildsSpec)

/-- ITS FALSE NEIGHBOUR: 'it returns false'. Refute it at one input. -/
def copierBuildsWrong : ChangeSpec := { name := "copierBuilds", fn := fun _ => fun
  | [d1, d2, d3, d4, d5] => { results := [.lit (.bool false)], args := [d1, d2, d3, d4, d5] }
  | _ => none }
def CopierBuildsWrongFalsely : Prop := copierBuildsRow.holds Tryd.pinned (OpenSpec.ofChange copierBuildsWrong)

/-- 'caravanlaw21.CopierKnown': WHATEVER THE INPUT: true; the input reads as it did. -/
def copierKnownSpec : ChangeSpec := { name := "copierKnown", fn := fun _ => fun
  | [] => { results := [.lit (.bool true)], args := [] }
  | _ => none }
def copierKnownRow : OpenClaim := { program := "ytfdhpjflkimihaadoor", sum := "ccac5b24ed50b714301eeded1dbb67f135924d4dcb42302a341129cd1fe61943", func := "caravan/caravanlaw21.CopierKnown", spec := "copierKnown", inPlace := ["internal/abi.NoEscape", "internal/bytealg.MakeNoZero"], unfollowed := true, recurses := true, named := ["caravan/sha.first", "caravan/sha.roots"], plainKeys := false, apart := false, laid := [("caravan/sha.first", laid_caravan_sha_first), ("caravan/sha.roots", laid_caravan_sha_roots)] }
def CopierKnownSaid : Prop := copierKnownRow.holds Tryd.pinned (OpenSpec.ofChange copierKnownSpec)

/-- ITS FALSE NEIGHBOUR: 'it returns false'. Refute it at one input. -/
def copierKnownWrong : ChangeSpec := { name := "copierKnown", fn := fun _ => fun
  | [] => { results := [.lit (.bool false)], args := [] }
  | _ => none }
def CopierKnownWrongFalsely : Prop := copierKnownRow.holds Tryd.pinned (OpenSpec.ofChange copierKnownWrong)

/-- 'caravanlaw21.CopierEnough': WHATEVER THE INPUT: true; the input reads as it did. -/
def copierEnoughSpec : ChangeSpec := { name := "copierEnough", fn := fun _ => fun
  | [d1, d2, d3] => { results := [.lit (.bool true)], args := [d1, d2, d3] }
  | _ => none }
def copierEnoughRow : OpenClaim := { program := "ytfdhpjflkimihaadoor", sum := "ccac5b24ed50b714301eeded1dbb67f135924d4dcb42302a341129cd1fe61943", func := "caravan/caravanlaw21.CopierEnough", spec := "copierEnough", inPlace := ["internal/abi.NoEscape", "internal/bytealg.MakeNoZero"], unfollowed := true, recurses := true, named := ["caravan/sha.first", "caravan/sha.roots"], plainKeys := false, apart := false, laid := [("caravan/sha.first", laid_caravan_sha_first), ("caravan/sha.roots", laid_caravan_sha_roots)] }
def CopierEnoughSaid : Prop := copierEnoughRow.holds Tryd.pinned (OpenSpec.ofChange copierEnoughSpec)

/-- ITS FALSE NEIGHBOUR: 'it returns false'. Refute it at one input. -/
def copierEnoughWrong : ChangeSpec := { name := "copierEnough", fn := fun _ => fun
  | [d1, d2, d3] => { results := [.lit (.bool false)], args := [d1, d2, d3] }
  | _ => none }
def CopierEnoughWrongFalsely : Prop := copierEnoughRow.holds Tryd.pinned (OpenSpec.ofChange copierEnoughWrong)

/- THE SECOND FORM. 'bulk': how many values and letters a reading holds, each counted each time it is reached (what is shared counts as often as it is met; a slice's spare places count too). A statement '..UptoSaid' is the law's where the arguments, and the package variables that the reading takes, are together of bulk at most 1048576: NARROWER than '..Said'. Prove '..Said' where nothing that the law and all that it calls make is longer than what came in: it says more and counts as full. Else prove '..UptoSaid'. A law counts once. -/
mutual
def uptoBulk {H : Type} : DataW H → Nat
  | .lit (.string bytes) => bytes.length + 1
  | .lit _ => 1
  | .nil => 1
  | .ptr d => uptoBulk d + 1
  | .slice elems spare => uptoBulkAll elems + uptoBulkAll spare + 1
  | .agg parts => uptoBulkAll parts + 1
  | .iface _ d => uptoBulk d + 1
  | .map entries => uptoBulkEntries entries + 1
  | .held _ => 1
def uptoBulkAll {H : Type} : List (DataW H) → Nat
  | [] => 0
  | d :: r => uptoBulk d + uptoBulkAll r
def uptoBulkEntries {H : Type} : List (Lit × DataW H) → Nat
  | [] => 0
  | x :: r => uptoBulkEntry x + uptoBulkEntries r
def uptoBulkEntry {H : Type} : Lit × DataW H → Nat
  | (.string bytes, d) => bytes.length + uptoBulk d + 1
  | (_, d) => uptoBulk d + 1
 end
def uptoSmall : (H : Type) → List (DataW H) → Bool := fun _ ds => decide (uptoBulkAll ds ≤ 1048576)
def OpenSpec.upto (s : _root_.Go.ChangeSpec) : _root_.Go.OpenSpec := { _root_.Go.OpenSpec.ofChange s with cond := some uptoSmall }

/-- 'caravanlaw05.BlockSizes', WHERE WHAT IT READS IS OF BULK AT MOST 1048576: true; the input reads as it did. -/
def blockSizesUptoRow : OpenClaim := { program := "ytfdhpjflkimihaadoor", sum := "ccac5b24ed50b714301eeded1dbb67f135924d4dcb42302a341129cd1fe61943", func := "caravan/caravanlaw05.BlockSizes", spec := "blockSizes", inPlace := ["internal/abi.NoEscape", "internal/bytealg.MakeNoZero"], unfollowed := true, recurses := true, named := ["caravan/sha.first", "caravan/sha.roots"], plainKeys := false, apart := false, laid := [("caravan/sha.first", laid_caravan_sha_first), ("caravan/sha.roots", laid_caravan_sha_roots)], narrowed := true }
def BlockSizesUptoSaid : Prop := blockSizesUptoRow.holds Tryd.pinned (OpenSpec.upto blockSizesSpec)

/-- 'caravanlaw05.BlockNear', WHERE WHAT IT READS IS OF BULK AT MOST 1048576: true; the input reads as it did. -/
def blockNearUptoRow : OpenClaim := { program := "ytfdhpjflkimihaadoor", sum := "ccac5b24ed50b714301eeded1dbb67f135924d4dcb42302a341129cd1fe61943", func := "caravan/caravanlaw05.BlockNear", spec := "blockNear", inPlace := ["internal/abi.NoEscape", "internal/bytealg.MakeNoZero"], unfollowed := true, recurses := true, named := ["caravan/sha.first", "caravan/sha.roots"], plainKeys := false, apart := false, laid := [("caravan/sha.first", laid_caravan_sha_first), ("caravan/sha.roots", laid_caravan_sha_roots)], narrowed := true }
def BlockNearUptoSaid : Prop := blockNearUptoRow.holds Tryd.pinned (OpenSpec.upto blockNearSpec)

/-- 'caravanlaw05.BlockLists', WHERE WHAT IT READS IS OF BULK AT MOST 1048576: true; the input reads as it did. -/
def blockListsUptoRow : OpenClaim := { program := "ytfdhpjflkimihaadoor", sum := "ccac5b24ed50b714301eeded1dbb67f135924d4dcb42302a341129cd1fe61943", func := "caravan/caravanlaw05.BlockLists", spec := "blockLists", inPlace := ["internal/abi.NoEscape", "internal/bytealg.MakeNoZero"], unfollowed := true, recurses := true, named := ["caravan/sha.first", "caravan/sha.roots"], plainKeys := false, apart := false, laid := [("caravan/sha.first", laid_caravan_sha_first), ("caravan/sha.roots", laid_caravan_sha_roots)], narrowed := true }
def BlockListsUptoSaid : Prop := blockListsUptoRow.holds Tryd.pinned (OpenSpec.upto blockListsSpec)

/-- 'caravanlaw05.BlockWhole', WHERE WHAT IT READS IS OF BULK AT MOST 1048576: true; the input reads as it did. -/
def blockWholeUptoRow : OpenClaim := { program := "ytfdhpjflkimihaadoor", sum := "ccac5b24ed50b714301eeded1dbb67f135924d4dcb42302a341129cd1fe61943", func := "caravan/caravanlaw05.BlockWhole", spec := "blockWhole", inPlace := ["internal/abi.NoEscape", "internal/bytealg.MakeNoZero"], unfollowed := true, recurses := true, named := ["caravan/sha.first", "caravan/sha.roots"], plainKeys := false, apart := false, laid := [("caravan/sha.first", laid_caravan_sha_first), ("caravan/sha.roots", laid_caravan_sha_roots)], narrowed := true }
def BlockWholeUptoSaid : Prop := blockWholeUptoRow.holds Tryd.pinned (OpenSpec.upto blockWholeSpec)

/-- 'caravanlaw05.BlockFinds', WHERE WHAT IT READS IS OF BULK AT MOST 1048576: true; the input reads as it did. -/
def blockFindsUptoRow : OpenClaim := { program := "ytfdhpjflkimihaadoor", sum := "ccac5b24ed50b714301eeded1dbb67f135924d4dcb42302a341129cd1fe61943", func := "caravan/caravanlaw05.BlockFinds", spec := "blockFinds", inPlace := ["internal/abi.NoEscape", "internal/bytealg.MakeNoZero"], unfollowed := true, recurses := true, named := ["caravan/sha.first", "caravan/sha.roots"], plainKeys := false, apart := false, laid := [("caravan/sha.first", laid_caravan_sha_first), ("caravan/sha.roots", laid_caravan_sha_roots)], narrowed := true }
def BlockFindsUptoSaid : Prop := blockFindsUptoRow.holds Tryd.pinned (OpenSpec.upto blockFindsSpec)

/-- 'caravanlaw05.BlockKnown', WHERE WHAT IT READS IS OF BULK AT MOST 1048576: true; the input reads as it did. -/
def blockKnownUptoRow : OpenClaim := { program := "ytfdhpjflkimihaadoor", sum := "ccac5b24ed50b714301eeded1dbb67f135924d4dcb42302a341129cd1fe61943", func := "caravan/caravanlaw05.BlockKnown", spec := "blockKnown", inPlace := ["internal/abi.NoEscape", "internal/bytealg.MakeNoZero"], unfollowed := true, recurses := true, named := ["caravan/sha.first", "caravan/sha.roots"], plainKeys := false, apart := false, laid := [("caravan/sha.first", laid_caravan_sha_first), ("caravan/sha.roots", laid_caravan_sha_roots)], narrowed := true }
def BlockKnownUptoSaid : Prop := blockKnownUptoRow.holds Tryd.pinned (OpenSpec.upto blockKnownSpec)

/-- 'caravanlaw05.BlockOrder', WHERE WHAT IT READS IS OF BULK AT MOST 1048576: true; the input reads as it did. -/
def blockOrderUptoRow : OpenClaim := { program := "ytfdhpjflkimihaadoor", sum := "ccac5b24ed50b714301eeded1dbb67f135924d4dcb42302a341129cd1fe61943", func := "caravan/caravanlaw05.BlockOrder", spec := "blockOrder", inPlace := ["internal/abi.NoEscape", "internal/bytealg.MakeNoZero"], unfollowed := true, recurses := true, named := ["caravan/sha.first", "caravan/sha.roots"], plainKeys := false, apart := false, laid := [("caravan/sha.first", laid_caravan_sha_first), ("caravan/sha.roots", laid_caravan_sha_roots)], narrowed := true }
def BlockOrderUptoSaid : Prop := blockOrderUptoRow.holds Tryd.pinned (OpenSpec.upto blockOrderSpec)

/-- 'caravanlaw21.CopierLess', WHERE WHAT IT READS IS OF BULK AT MOST 1048576: true; the input reads as it did. -/
def copierLessUptoRow : OpenClaim := { program := "ytfdhpjflkimihaadoor", sum := "ccac5b24ed50b714301eeded1dbb67f135924d4dcb42302a341129cd1fe61943", func := "caravan/caravanlaw21.CopierLess", spec := "copierLess", inPlace := ["internal/abi.NoEscape", "internal/bytealg.MakeNoZero"], unfollowed := true, recurses := true, named := ["caravan/sha.first", "caravan/sha.roots"], plainKeys := false, apart := false, laid := [("caravan/sha.first", laid_caravan_sha_first), ("caravan/sha.roots", laid_caravan_sha_roots)], narrowed := true }
def CopierLessUptoSaid : Prop := copierLessUptoRow.holds Tryd.pinned (OpenSpec.upto copierLessSpec)

/-- 'caravanlaw21.CopierPlans', WHERE WHAT IT READS IS OF BULK AT MOST 1048576: true; the input reads as it did. -/
def copierPlansUptoRow : OpenClaim := { program := "ytfdhpjflkimihaadoor", sum := "ccac5b24ed50b714301eeded1dbb67f135924d4dcb42302a341129cd1fe61943", func := "caravan/caravanlaw21.CopierPlans", spec := "copierPlans", inPlace := ["internal/abi.NoEscape", "internal/bytealg.MakeNoZero"], unfollowed := true, recurses := true, named := ["caravan/sha.first", "caravan/sha.roots"], plainKeys := false, apart := false, laid := [("caravan/sha.first", laid_caravan_sha_first), ("caravan/sha.roots", laid_caravan_sha_roots)], narrowed := true }
def CopierPlansUptoSaid : Prop := copierPlansUptoRow.holds Tryd.pinned (OpenSpec.upto copierPlansSpec)

/-- 'caravanlaw21.CopierBuilds', WHERE WHAT IT READS IS OF BULK AT MOST 1048576: true; the input reads as it did. -/
def copierBuildsUptoRow : OpenClaim := { program := "ytfdhpjflkimihaadoor", sum := "ccac5b24ed50b714301eeded1dbb67f135924d4dcb42302a341129cd1fe61943", func := "caravan/caravanlaw21.CopierBuilds", spec := "copierBuilds", inPlace := ["internal/abi.NoEscape", "internal/bytealg.MakeNoZero"], unfollowed := true, recurses := true, named := ["caravan/sha.first", "caravan/sha.roots"], plainKeys := false, apart := false, laid := [("caravan/sha.first", laid_caravan_sha_first), ("caravan/sha.roots", laid_caravan_sha_roots)], narrowed := true }
def CopierBuildsUptoSaid : Prop := copierBuildsUptoRow.holds Tryd.pinned (OpenSpec.upto copierBuildsSpec)

/-- 'caravanlaw21.CopierKnown', WHERE WHAT IT READS IS OF BULK AT MOST 1048576: true; the input reads as it did. -/
def copierKnownUptoRow : OpenClaim := { program := "ytfdhpjflkimihaadoor", sum := "ccac5b24ed50b714301eeded1dbb67f135924d4dcb42302a341129cd1fe61943", func := "caravan/caravanlaw21.CopierKnown", spec := "copierKnown", inPlace := ["internal/abi.NoEscape", "internal/bytealg.MakeNoZero"], unfollowed := true, recurses := true, named := ["caravan/sha.first", "caravan/sha.roots"], plainKeys := false, apart := false, laid := [("caravan/sha.first", laid_caravan_sha_first), ("caravan/sha.roots", laid_caravan_sha_roots)], narrowed := true }
def CopierKnownUptoSaid : Prop := copierKnownUptoRow.holds Tryd.pinned (OpenSpec.upto copierKnownSpec)

/-- 'caravanlaw21.CopierEnough', WHERE WHAT IT READS IS OF BULK AT MOST 1048576: true; the input reads as it did. -/
def copierEnoughUptoRow : OpenClaim := { program := "ytfdhpjflkimihaadoor", sum := "ccac5b24ed50b714301eeded1dbb67f135924d4dcb42302a341129cd1fe61943", func := "caravan/caravanlaw21.CopierEnough", spec := "copierEnough", inPlace := ["internal/abi.NoEscape", "internal/bytealg.MakeNoZero"], unfollowed := true, recurses := true, named := ["caravan/sha.first", "caravan/sha.roots"], plainKeys := false, apart := false, laid := [("caravan/sha.first", laid_caravan_sha_first), ("caravan/sha.roots", laid_caravan_sha_roots)], narrowed := true }
def CopierEnoughUptoSaid : Prop := copierEnoughUptoRow.holds Tryd.pinned (OpenSpec.upto copierEnoughSpec)

end Rows
end Go.Proofs.YtfdhpjflkimihaaDoor
