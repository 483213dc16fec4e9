/-
  DERIVED. GIVEN WITH THE SEED: THE CARDS: each row of YtfdhpjflkimihaaDoorRows.lean that lists a variable, with what it lists TIED to the program's text (the seventh form; the later family's looks); each row that meets fmt, with fmt's text TOLD by the authors' own Lean function (tested against real Go, not proved from fmt's source: count such statements apart). THE CARD IS WHAT COUNTS. Prove the row's statement (the work); the ties are given (YtfdhpjflkimihaaDoorTie.lean); close each card by the builder's one call (the guide's Derived/Test/ToyasCard.lean, 'card_holds'). Laid BY PROGRAM, IN A SANDBOX (cutbox-door.mjs). By AI agents, Wed Nov 11 2026. No macro, syntax, notation, axiom, sorry.
-/
import Derived.Test.YtfdhpjflkimihaaDoorRows
import GoSem.ClaimSeven
namespace Go.Proofs.YtfdhpjflkimihaaDoor
namespace Rows

/-- THE TIED CARD OF 'caravanlaw05.BlockSizes'. -/
def blockSizesCard : Claim7 := { stood := { row := blockSizesRow, standIns := [], harness := (true, "62660ce4aab7672ce840b0d3b67c0c9d78e403fd7109de7ffcb739dcbdb4a35d"), looks := false }, kinds := [], alts := [], laidByText := true, laidKinds := [.data, .data], laidTests := true, laidLooks := .later }
def BlockSizesCardSaid : Prop := Claim7.holds Tryd.pinned (.plain (OpenSpec.ofChange blockSizesSpec)) blockSizesCard

/-- THE TIED CARD OF 'caravanlaw05.BlockNear'. -/
def blockNearCard : Claim7 := { stood := { row := blockNearRow, standIns := [], harness := (true, "62660ce4aab7672ce840b0d3b67c0c9d78e403fd7109de7ffcb739dcbdb4a35d"), looks := false }, kinds := [], alts := [], laidByText := true, laidKinds := [.data, .data], laidTests := true, laidLooks := .later }
def BlockNearCardSaid : Prop := Claim7.holds Tryd.pinned (.plain (OpenSpec.ofChange blockNearSpec)) blockNearCard

/-- THE TIED CARD OF 'caravanlaw05.BlockLists'. -/
def blockListsCard : Claim7 := { stood := { row := blockListsRow, standIns := [], harness := (true, "62660ce4aab7672ce840b0d3b67c0c9d78e403fd7109de7ffcb739dcbdb4a35d"), looks := false }, kinds := [], alts := [], laidByText := true, laidKinds := [.data, .data], laidTests := true, laidLooks := .later }
def BlockListsCardSaid : Prop := Claim7.holds Tryd.pinned (.plain (OpenSpec.ofChange blockListsSpec)) blockListsCard

/-- THE TIED CARD OF 'caravanlaw05.BlockWhole'. -/
def blockWholeCard : Claim7 := { stood := { row := blockWholeRow, standIns := [], harness := (true, "62660ce4aab7672ce840b0d3b67c0c9d78e403fd7109de7ffcb739dcbdb4a35d"), looks := false }, kinds := [], alts := [], laidByText := true, laidKinds := [.data, .data], laidTests := true, laidLooks := .later }
def BlockWholeCardSaid : Prop := Claim7.holds Tryd.pinned (.plain (OpenSpec.ofChange blockWholeSpec)) blockWholeCard

/-- THE TIED CARD OF 'caravanlaw05.BlockFinds'. -/
def blockFindsCard : Claim7 := { stood := { row := blockFindsRow, standIns := [], harness := (true, "62660ce4aab7672ce840b0d3b67c0c9d78e403fd7109de7ffcb739dcbdb4a35d"), looks := false }, kinds := [], alts := [], laidByText := true, laidKinds := [.data, .data], laidTests := true, laidLooks := .later }
def BlockFindsCardSaid : Prop := Claim7.holds Tryd.pinned (.plain (OpenSpec.ofChange blockFindsSpec)) blockFindsCard

/-- THE TIED CARD OF 'caravanlaw05.BlockKnown'. -/
def blockKnownCard : Claim7 := { stood := { row := blockKnownRow, standIns := [], harness := (true, "62660ce4aab7672ce840b0d3b67c0c9d78e403fd7109de7ffcb739dcbdb4a35d"), looks := false }, kinds := [], alts := [], laidByText := true, laidKinds := [.data, .data], laidTests := true, laidLooks := .later }
def BlockKnownCardSaid : Prop := Claim7.holds Tryd.pinned (.plain (OpenSpec.ofChange blockKnownSpec)) blockKnownCard

/-- THE TIED CARD OF 'caravanlaw05.BlockOrder'. -/
def blockOrderCard : Claim7 := { stood := { row := blockOrderRow, standIns := [], harness := (true, "62660ce4aab7672ce840b0d3b67c0c9d78e403fd7109de7ffcb739dcbdb4a35d"), looks := false }, kinds := [], alts := [], laidByText := true, laidKinds := [.data, .data], laidTests := true, laidLooks := .later }
def BlockOrderCardSaid : Prop := Claim7.holds Tryd.pinned (.plain (OpenSpec.ofChange blockOrderSpec)) blockOrderCard

/-- THE TIED CARD OF 'caravanlaw21.CopierLess'. -/
def copierLessCard : Claim7 := { stood := { row := copierLessRow, standIns := [], harness := (true, "62660ce4aab7672ce840b0d3b67c0c9d78e403fd7109de7ffcb739dcbdb4a35d"), looks := false }, kinds := [], alts := [], laidByText := true, laidKinds := [.data, .data], laidTests := true, laidLooks := .later }
def CopierLessCardSaid : Prop := Claim7.holds Tryd.pinned (.plain (OpenSpec.ofChange copierLessSpec)) copierLessCard

/-- THE TIED CARD OF 'caravanlaw21.CopierPlans'. -/
def copierPlansCard : Claim7 := { stood := { row := copierPlansRow, standIns := [], harness := (true, "62660ce4aab7672ce840b0d3b67c0c9d78e403fd7109de7ffcb739dcbdb4a35d"), looks := false }, kinds := [], alts := [], laidByText := true, laidKinds := [.data, .data], laidTests := true, laidLooks := .later }
def CopierPlansCardSaid : Prop := Claim7.holds Tryd.pinned (.plain (OpenSpec.ofChange copierPlansSpec)) copierPlansCard

/-- THE TIED CARD OF 'caravanlaw21.CopierBuilds'. -/
def copierBuildsCard : Claim7 := { stood := { row := copierBuildsRow, standIns := [], harness := (true, "62660ce4aab7672ce840b0d3b67c0c9d78e403fd7109de7ffcb739dcbdb4a35d"), looks := false }, kinds := [], alts := [], laidByText := true, laidKinds := [.data, .data], laidTests := true, laidLooks := .later }
def CopierBuildsCardSaid : Prop := Claim7.holds Tryd.pinned (.plain (OpenSpec.ofChange copierBuildsSpec)) copierBuildsCard

/-- THE TIED CARD OF 'caravanlaw21.CopierKnown'. -/
def copierKnownCard : Claim7 := { stood := { row := copierKnownRow, standIns := [], harness := (true, "62660ce4aab7672ce840b0d3b67c0c9d78e403fd7109de7ffcb739dcbdb4a35d"), looks := false }, kinds := [], alts := [], laidByText := true, laidKinds := [.data, .data], laidTests := true, laidLooks := .later }
def CopierKnownCardSaid : Prop := Claim7.holds Tryd.pinned (.plain (OpenSpec.ofChange copierKnownSpec)) copierKnownCard

/-- THE TIED CARD OF 'caravanlaw21.CopierEnough'. -/
def copierEnoughCard : Claim7 := { stood := { row := copierEnoughRow, standIns := [], harness := (true, "62660ce4aab7672ce840b0d3b67c0c9d78e403fd7109de7ffcb739dcbdb4a35d"), looks := false }, kinds := [], alts := [], laidByText := true, laidKinds := [.data, .data], laidTests := true, laidLooks := .later }
def CopierEnoughCardSaid : Prop := Claim7.holds Tryd.pinned (.plain (OpenSpec.ofChange copierEnoughSpec)) copierEnoughCard

/-- THE SECOND FORM's CARD OF 'caravanlaw05.BlockSizes'. -/
def blockSizesUptoCard : Claim7 := { stood := { row := blockSizesUptoRow, standIns := [], harness := (true, "62660ce4aab7672ce840b0d3b67c0c9d78e403fd7109de7ffcb739dcbdb4a35d"), looks := false }, kinds := [], alts := [], laidByText := true, laidKinds := [.data, .data], laidTests := true, laidLooks := .later }
def BlockSizesUptoCardSaid : Prop := Claim7.holds Tryd.pinned (.plain (OpenSpec.upto blockSizesSpec)) blockSizesUptoCard

/-- THE SECOND FORM's CARD OF 'caravanlaw05.BlockNear'. -/
def blockNearUptoCard : Claim7 := { stood := { row := blockNearUptoRow, standIns := [], harness := (true, "62660ce4aab7672ce840b0d3b67c0c9d78e403fd7109de7ffcb739dcbdb4a35d"), looks := false }, kinds := [], alts := [], laidByText := true, laidKinds := [.data, .data], laidTests := true, laidLooks := .later }
def BlockNearUptoCardSaid : Prop := Claim7.holds Tryd.pinned (.plain (OpenSpec.upto blockNearSpec)) blockNearUptoCard

/-- THE SECOND FORM's CARD OF 'caravanlaw05.BlockLists'. -/
def blockListsUptoCard : Claim7 := { stood := { row := blockListsUptoRow, standIns := [], harness := (true, "62660ce4aab7672ce840b0d3b67c0c9d78e403fd7109de7ffcb739dcbdb4a35d"), looks := false }, kinds := [], alts := [], laidByText := true, laidKinds := [.data, .data], laidTests := true, laidLooks := .later }
def BlockListsUptoCardSaid : Prop := Claim7.holds Tryd.pinned (.plain (OpenSpec.upto blockListsSpec)) blockListsUptoCard

/-- THE SECOND FORM's CARD OF 'caravanlaw05.BlockWhole'. -/
def blockWholeUptoCard : Claim7 := { stood := { row := blockWholeUptoRow, standIns := [], harness := (true, "62660ce4aab7672ce840b0d3b67c0c9d78e403fd7109de7ffcb739dcbdb4a35d"), looks := false }, kinds := [], alts := [], laidByText := true, laidKinds := [.data, .data], laidTests := true, laidLooks := .later }
def BlockWholeUptoCardSaid : Prop := Claim7.holds Tryd.pinned (.plain (OpenSpec.upto blockWholeSpec)) blockWholeUptoCard

/-- THE SECOND FORM's CARD OF 'caravanlaw05.BlockFinds'. -/
def blockFindsUptoCard : Claim7 := { stood := { row := blockFindsUptoRow, standIns := [], harness := (true, "62660ce4aab7672ce840b0d3b67c0c9d78e403fd7109de7ffcb739dcbdb4a35d"), looks := false }, kinds := [], alts := [], laidByText := true, laidKinds := [.data, .data], laidTests := true, laidLooks := .later }
def BlockFindsUptoCardSaid : Prop := Claim7.holds Tryd.pinned (.plain (OpenSpec.upto blockFindsSpec)) blockFindsUptoCard

/-- THE SECOND FORM's CARD OF 'caravanlaw05.BlockKnown'. -/
def blockKnownUptoCard : Claim7 := { stood := { row := blockKnownUptoRow, standIns := [], harness := (true, "62660ce4aab7672ce840b0d3b67c0c9d78e403fd7109de7ffcb739dcbdb4a35d"), looks := false }, kinds := [], alts := [], laidByText := true, laidKinds := [.data, .data], laidTests := true, laidLooks := .later }
def BlockKnownUptoCardSaid : Prop := Claim7.holds Tryd.pinned (.plain (OpenSpec.upto blockKnownSpec)) blockKnownUptoCard

/-- THE SECOND FORM's CARD OF 'caravanlaw05.BlockOrder'. -/
def blockOrderUptoCard : Claim7 := { stood := { row := blockOrderUptoRow, standIns := [], harness := (true, "62660ce4aab7672ce840b0d3b67c0c9d78e403fd7109de7ffcb739dcbdb4a35d"), looks := false }, kinds := [], alts := [], laidByText := true, laidKinds := [.data, .data], laidTests := true, laidLooks := .later }
def BlockOrderUptoCardSaid : Prop := Claim7.holds Tryd.pinned (.plain (OpenSpec.upto blockOrderSpec)) blockOrderUptoCard

/-- THE SECOND FORM's CARD OF 'caravanlaw21.CopierLess'. -/
def copierLessUptoCard : Claim7 := { stood := { row := copierLessUptoRow, standIns := [], harness := (true, "62660ce4aab7672ce840b0d3b67c0c9d78e403fd7109de7ffcb739dcbdb4a35d"), looks := false }, kinds := [], alts := [], laidByText := true, laidKinds := [.data, .data], laidTests := true, laidLooks := .later }
def CopierLessUptoCardSaid : Prop := Claim7.holds Tryd.pinned (.plain (OpenSpec.upto copierLessSpec)) copierLessUptoCard

/-- THE SECOND FORM's CARD OF 'caravanlaw21.CopierPlans'. -/
def copierPlansUptoCard : Claim7 := { stood := { row := copierPlansUptoRow, standIns := [], harness := (true, "62660ce4aab7672ce840b0d3b67c0c9d78e403fd7109de7ffcb739dcbdb4a35d"), looks := false }, kinds := [], alts := [], laidByText := true, laidKinds := [.data, .data], laidTests := true, laidLooks := .later }
def CopierPlansUptoCardSaid : Prop := Claim7.holds Tryd.pinned (.plain (OpenSpec.upto copierPlansSpec)) copierPlansUptoCard

/-- THE SECOND FORM's CARD OF 'caravanlaw21.CopierBuilds'. -/
def copierBuildsUptoCard : Claim7 := { stood := { row := copierBuildsUptoRow, standIns := [], harness := (true, "62660ce4aab7672ce840b0d3b67c0c9d78e403fd7109de7ffcb739dcbdb4a35d"), looks := false }, kinds := [], alts := [], laidByText := true, laidKinds := [.data, .data], laidTests := true, laidLooks := .later }
def CopierBuildsUptoCardSaid : Prop := Claim7.holds Tryd.pinned (.plain (OpenSpec.upto copierBuildsSpec)) copierBuildsUptoCard

/-- THE SECOND FORM's CARD OF 'caravanlaw21.CopierKnown'. -/
def copierKnownUptoCard : Claim7 := { stood := { row := copierKnownUptoRow, standIns := [], harness := (true, "62660ce4aab7672ce840b0d3b67c0c9d78e403fd7109de7ffcb739dcbdb4a35d"), looks := false }, kinds := [], alts := [], laidByText := true, laidKinds := [.data, .data], laidTests := true, laidLooks := .later }
def CopierKnownUptoCardSaid : Prop := Claim7.holds Tryd.pinned (.plain (OpenSpec.upto copierKnownSpec)) copierKnownUptoCard

/-- THE SECOND FORM's CARD OF 'caravanlaw21.CopierEnough'. -/
def copierEnoughUptoCard : Claim7 := { stood := { row := copierEnoughUptoRow, standIns := [], harness := (true, "62660ce4aab7672ce840b0d3b67c0c9d78e403fd7109de7ffcb739dcbdb4a35d"), looks := false }, kinds := [], alts := [], laidByText := true, laidKinds := [.data, .data], laidTests := true, laidLooks := .later }
def CopierEnoughUptoCardSaid : Prop := Claim7.holds Tryd.pinned (.plain (OpenSpec.upto copierEnoughSpec)) copierEnoughUptoCard
end Rows
end Go.Proofs.YtfdhpjflkimihaaDoor
