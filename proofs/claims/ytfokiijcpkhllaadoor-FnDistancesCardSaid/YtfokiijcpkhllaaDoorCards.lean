/-
  DERIVED. GIVEN WITH THE SEED: THE CARDS: each row of YtfokiijcpkhllaaDoorRows.lean that lists a variable, with what it lists TIED to the program's text (the seventh form; the later family's looks); each row that meets fmt, with fmt's text TOLD by the authors' own Lean function (tested against real Go, not proved from fmt's source: count such statements apart). THE CARD IS WHAT COUNTS. Prove the row's statement (the work); the ties are given (YtfokiijcpkhllaaDoorTie.lean); close each card by the builder's one call (the guide's Derived/Test/ToyasCard.lean, 'card_holds'). Laid BY PROGRAM, IN A SANDBOX (cutbox-door.mjs). By AI agents, Wed Nov 11 2026. No macro, syntax, notation, axiom, sorry.
-/
import Derived.Test.YtfokiijcpkhllaaDoorRows
import GoSem.ClaimSeven
namespace Go.Proofs.YtfokiijcpkhllaaDoor
namespace Rows

/-- THE TIED CARD OF 'laws.FnDistances'. -/
def fnDistancesCard : Claim7 := { stood := { row := fnDistancesRow, standIns := [], harness := (true, "4205e0660bc40a19882b168c44f871f23836c6f2e80c5d264898fc72a56b8288"), looks := false }, kinds := [], alts := [], laidByText := true, laidKinds := [.data], laidTests := true, laidLooks := .later }
def FnDistancesCardSaid : Prop := Claim7.holds Tryd.pinned (.plain (OpenSpec.ofChange fnDistancesSpec)) fnDistancesCard

/-- THE TIED CARD OF 'laws.FnFolded'. -/
def fnFoldedCard : Claim7 := { stood := { row := fnFoldedRow, standIns := [], harness := (true, "4205e0660bc40a19882b168c44f871f23836c6f2e80c5d264898fc72a56b8288"), looks := false }, kinds := [], alts := [], laidByText := true, laidKinds := [.data], laidTests := true, laidLooks := .later }
def FnFoldedCardSaid : Prop := Claim7.holds Tryd.pinned (.plain (OpenSpec.ofChange fnFoldedSpec)) fnFoldedCard

/-- THE TIED CARD OF 'laws.FnFourModels'. -/
def fnFourModelsCard : Claim7 := { stood := { row := fnFourModelsRow, standIns := [], harness := (true, "4205e0660bc40a19882b168c44f871f23836c6f2e80c5d264898fc72a56b8288"), looks := false }, kinds := [], alts := [], laidByText := true, laidKinds := [.data], laidTests := true, laidLooks := .later }
def FnFourModelsCardSaid : Prop := Claim7.holds Tryd.pinned (.plain (OpenSpec.ofChange fnFourModelsSpec)) fnFourModelsCard

/-- THE TIED CARD OF 'laws.FnFullMinors'. -/
def fnFullMinorsCard : Claim7 := { stood := { row := fnFullMinorsRow, standIns := [], harness := (true, "4205e0660bc40a19882b168c44f871f23836c6f2e80c5d264898fc72a56b8288"), looks := false }, kinds := [], alts := [], laidByText := true, laidKinds := [.data], laidTests := true, laidLooks := .later }
def FnFullMinorsCardSaid : Prop := Claim7.holds Tryd.pinned (.plain (OpenSpec.ofChange fnFullMinorsSpec)) fnFullMinorsCard

/-- THE SECOND FORM's CARD OF 'laws.FnDistances'. -/
def fnDistancesUptoCard : Claim7 := { stood := { row := fnDistancesUptoRow, standIns := [], harness := (true, "4205e0660bc40a19882b168c44f871f23836c6f2e80c5d264898fc72a56b8288"), looks := false }, kinds := [], alts := [], laidByText := true, laidKinds := [.data], laidTests := true, laidLooks := .later }
def FnDistancesUptoCardSaid : Prop := Claim7.holds Tryd.pinned (.plain (OpenSpec.upto fnDistancesSpec)) fnDistancesUptoCard

/-- THE SECOND FORM's CARD OF 'laws.FnFolded'. -/
def fnFoldedUptoCard : Claim7 := { stood := { row := fnFoldedUptoRow, standIns := [], harness := (true, "4205e0660bc40a19882b168c44f871f23836c6f2e80c5d264898fc72a56b8288"), looks := false }, kinds := [], alts := [], laidByText := true, laidKinds := [.data], laidTests := true, laidLooks := .later }
def FnFoldedUptoCardSaid : Prop := Claim7.holds Tryd.pinned (.plain (OpenSpec.upto fnFoldedSpec)) fnFoldedUptoCard

/-- THE SECOND FORM's CARD OF 'laws.FnFourModels'. -/
def fnFourModelsUptoCard : Claim7 := { stood := { row := fnFourModelsUptoRow, standIns := [], harness := (true, "4205e0660bc40a19882b168c44f871f23836c6f2e80c5d264898fc72a56b8288"), looks := false }, kinds := [], alts := [], laidByText := true, laidKinds := [.data], laidTests := true, laidLooks := .later }
def FnFourModelsUptoCardSaid : Prop := Claim7.holds Tryd.pinned (.plain (OpenSpec.upto fnFourModelsSpec)) fnFourModelsUptoCard

/-- THE SECOND FORM's CARD OF 'laws.FnFullMinors'. -/
def fnFullMinorsUptoCard : Claim7 := { stood := { row := fnFullMinorsUptoRow, standIns := [], harness := (true, "4205e0660bc40a19882b168c44f871f23836c6f2e80c5d264898fc72a56b8288"), looks := false }, kinds := [], alts := [], laidByText := true, laidKinds := [.data], laidTests := true, laidLooks := .later }
def FnFullMinorsUptoCardSaid : Prop := Claim7.holds Tryd.pinned (.plain (OpenSpec.upto fnFullMinorsSpec)) fnFullMinorsUptoCard
end Rows
end Go.Proofs.YtfokiijcpkhllaaDoor
