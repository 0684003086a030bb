/-
  DERIVED. GIVEN WITH THE SEED: THE CARDS: each row of YtilklahopjjhmaaDoorRows.lean that lists a variable, with what it lists TIED to the program's text (the seventh form; the later family's looks); each row that meets fmt, with fmt's text TOLD by the authors' own Lean function (tested against real Go, not proved from fmt's source: count such statements apart). THE CARD IS WHAT COUNTS. Prove the row's statement (the work); the ties are given (YtilklahopjjhmaaDoorTie.lean); close each card by the builder's one call (the guide's Derived/Test/ToyasCard.lean, 'card_holds'). Laid BY PROGRAM, IN A SANDBOX (cutbox-door.mjs). By AI agents, Wed Nov 11 2026. No macro, syntax, notation, axiom, sorry.
-/
import Derived.Test.YtilklahopjjhmaaDoorRows
import GoSem.ClaimSeven
namespace Go.Proofs.YtilklahopjjhmaaDoor
namespace Rows

/-- THE TIED CARD OF 'laws.FnExactPrunedOf'. -/
def fnExactPrunedOfCard : Claim7 := { stood := { row := fnExactPrunedOfRow, standIns := [], harness := (true, "67b5d535eb5ad0ae4c9ec32fa066d4becb643058fa8c1c882ec05839f9258461"), looks := false }, kinds := [], alts := [], laidByText := true, laidKinds := [.data], laidTests := true, laidLooks := .later }
def FnExactPrunedOfCardSaid : Prop := Claim7.holds Tryd.pinned (.plain (OpenSpec.ofChange fnExactPrunedOfSpec)) fnExactPrunedOfCard

/-- THE TIED CARD OF 'laws.FnExactEdgeParts'. -/
def fnExactEdgePartsCard : Claim7 := { stood := { row := fnExactEdgePartsRow, standIns := [], harness := (true, "67b5d535eb5ad0ae4c9ec32fa066d4becb643058fa8c1c882ec05839f9258461"), looks := false }, kinds := [], alts := [], laidByText := true, laidKinds := [.data], laidTests := true, laidLooks := .later }
def FnExactEdgePartsCardSaid : Prop := Claim7.holds Tryd.pinned (.plain (OpenSpec.ofChange fnExactEdgePartsSpec)) fnExactEdgePartsCard

/-- THE SECOND FORM's CARD OF 'laws.FnExactPrunedOf'. -/
def fnExactPrunedOfUptoCard : Claim7 := { stood := { row := fnExactPrunedOfUptoRow, standIns := [], harness := (true, "67b5d535eb5ad0ae4c9ec32fa066d4becb643058fa8c1c882ec05839f9258461"), looks := false }, kinds := [], alts := [], laidByText := true, laidKinds := [.data], laidTests := true, laidLooks := .later }
def FnExactPrunedOfUptoCardSaid : Prop := Claim7.holds Tryd.pinned (.plain (OpenSpec.upto fnExactPrunedOfSpec)) fnExactPrunedOfUptoCard

/-- THE SECOND FORM's CARD OF 'laws.FnExactEdgeParts'. -/
def fnExactEdgePartsUptoCard : Claim7 := { stood := { row := fnExactEdgePartsUptoRow, standIns := [], harness := (true, "67b5d535eb5ad0ae4c9ec32fa066d4becb643058fa8c1c882ec05839f9258461"), looks := false }, kinds := [], alts := [], laidByText := true, laidKinds := [.data], laidTests := true, laidLooks := .later }
def FnExactEdgePartsUptoCardSaid : Prop := Claim7.holds Tryd.pinned (.plain (OpenSpec.upto fnExactEdgePartsSpec)) fnExactEdgePartsUptoCard
end Rows
end Go.Proofs.YtilklahopjjhmaaDoor
