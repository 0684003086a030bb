/-
  DERIVED. GIVEN WITH THE SEED: THE CARDS: each row of YtdkmnmnncccgaaaDoorRows.lean that lists a variable, with what it lists TIED to the program's text (the seventh form; the later family's looks); each row that meets fmt, with fmt's text TOLD by the authors' own Lean function (tested against real Go, not proved from fmt's source: count such statements apart). THE CARD IS WHAT COUNTS. Prove the row's statement (the work); the ties are given (YtdkmnmnncccgaaaDoorTie.lean); close each card by the builder's one call (the guide's Derived/Test/ToyasCard.lean, 'card_holds'). Laid BY PROGRAM, IN A SANDBOX (cutbox-door.mjs). By AI agents, Wed Nov 11 2026. No macro, syntax, notation, axiom, sorry.
-/
import Derived.Test.YtdkmnmnncccgaaaDoorRows
import GoSem.ClaimSeven
namespace Go.Proofs.YtdkmnmnncccgaaaDoor
namespace Rows

/-- THE TIED CARD OF 'laws.FnExactObstacleOf'. -/
def fnExactObstacleOfCard : Claim7 := { stood := { row := fnExactObstacleOfRow, standIns := [], harness := (true, "d3f0cb24abedf35f140f9e7896e72767cc9b273d9b8c5e59c233a458926b13d5"), looks := false }, kinds := [], alts := [], laidByText := true, laidKinds := [.data], laidTests := true, laidLooks := .later }
def FnExactObstacleOfCardSaid : Prop := Claim7.holds Tryd.pinned (.plain (OpenSpec.ofChange fnExactObstacleOfSpec)) fnExactObstacleOfCard

/-- THE TIED CARD OF 'laws.FnExactModulesOf'. -/
def fnExactModulesOfCard : Claim7 := { stood := { row := fnExactModulesOfRow, standIns := [], harness := (true, "d3f0cb24abedf35f140f9e7896e72767cc9b273d9b8c5e59c233a458926b13d5"), looks := false }, kinds := [], alts := [], laidByText := true, laidKinds := [.data], laidTests := true, laidLooks := .later }
def FnExactModulesOfCardSaid : Prop := Claim7.holds Tryd.pinned (.plain (OpenSpec.ofChange fnExactModulesOfSpec)) fnExactModulesOfCard

/-- THE TIED CARD OF 'laws.FnExactCliquesOf'. -/
def fnExactCliquesOfCard : Claim7 := { stood := { row := fnExactCliquesOfRow, standIns := [], harness := (true, "d3f0cb24abedf35f140f9e7896e72767cc9b273d9b8c5e59c233a458926b13d5"), looks := false }, kinds := [], alts := [], laidByText := true, laidKinds := [.data], laidTests := true, laidLooks := .later }
def FnExactCliquesOfCardSaid : Prop := Claim7.holds Tryd.pinned (.plain (OpenSpec.ofChange fnExactCliquesOfSpec)) fnExactCliquesOfCard

/-- THE SECOND FORM's CARD OF 'laws.FnExactObstacleOf'. -/
def fnExactObstacleOfUptoCard : Claim7 := { stood := { row := fnExactObstacleOfUptoRow, standIns := [], harness := (true, "d3f0cb24abedf35f140f9e7896e72767cc9b273d9b8c5e59c233a458926b13d5"), looks := false }, kinds := [], alts := [], laidByText := true, laidKinds := [.data], laidTests := true, laidLooks := .later }
def FnExactObstacleOfUptoCardSaid : Prop := Claim7.holds Tryd.pinned (.plain (OpenSpec.upto fnExactObstacleOfSpec)) fnExactObstacleOfUptoCard

/-- THE SECOND FORM's CARD OF 'laws.FnExactModulesOf'. -/
def fnExactModulesOfUptoCard : Claim7 := { stood := { row := fnExactModulesOfUptoRow, standIns := [], harness := (true, "d3f0cb24abedf35f140f9e7896e72767cc9b273d9b8c5e59c233a458926b13d5"), looks := false }, kinds := [], alts := [], laidByText := true, laidKinds := [.data], laidTests := true, laidLooks := .later }
def FnExactModulesOfUptoCardSaid : Prop := Claim7.holds Tryd.pinned (.plain (OpenSpec.upto fnExactModulesOfSpec)) fnExactModulesOfUptoCard

/-- THE SECOND FORM's CARD OF 'laws.FnExactCliquesOf'. -/
def fnExactCliquesOfUptoCard : Claim7 := { stood := { row := fnExactCliquesOfUptoRow, standIns := [], harness := (true, "d3f0cb24abedf35f140f9e7896e72767cc9b273d9b8c5e59c233a458926b13d5"), looks := false }, kinds := [], alts := [], laidByText := true, laidKinds := [.data], laidTests := true, laidLooks := .later }
def FnExactCliquesOfUptoCardSaid : Prop := Claim7.holds Tryd.pinned (.plain (OpenSpec.upto fnExactCliquesOfSpec)) fnExactCliquesOfUptoCard
end Rows
end Go.Proofs.YtdkmnmnncccgaaaDoor
