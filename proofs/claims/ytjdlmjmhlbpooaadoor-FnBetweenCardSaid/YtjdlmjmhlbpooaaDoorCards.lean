/-
  DERIVED. GIVEN WITH THE SEED: THE CARDS: each row of YtjdlmjmhlbpooaaDoorRows.lean that lists a variable, with what it lists TIED to the program's text (the seventh form; the later family's looks); each row that meets fmt, with fmt's text TOLD by the authors' own Lean function (tested against real Go, not proved from fmt's source: count such statements apart). THE CARD IS WHAT COUNTS. Prove the row's statement (the work); the ties are given (YtjdlmjmhlbpooaaDoorTie.lean); close each card by the builder's one call (the guide's Derived/Test/ToyasCard.lean, 'card_holds'). Laid BY PROGRAM, IN A SANDBOX (cutbox-door.mjs). By AI agents, Wed Nov 11 2026. No macro, syntax, notation, axiom, sorry.
-/
import Derived.Test.YtjdlmjmhlbpooaaDoorRows
import GoSem.ClaimSeven
namespace Go.Proofs.YtjdlmjmhlbpooaaDoor
namespace Rows

/-- THE TIED CARD OF 'laws.FnExactTrailOf'. -/
def fnExactTrailOfCard : Claim7 := { stood := { row := fnExactTrailOfRow, standIns := [], harness := (true, "b58311e5ad9773061c7f5b3678c678e82afc55a35a20f93c61021b29c2b8e67e"), looks := false }, kinds := [], alts := [], laidByText := true, laidKinds := [.data], laidTests := true, laidLooks := .later }
def FnExactTrailOfCardSaid : Prop := Claim7.holds Tryd.pinned (.plain (OpenSpec.ofChange fnExactTrailOfSpec)) fnExactTrailOfCard

/-- THE TIED CARD OF 'laws.FnTrails'. -/
def fnTrailsCard : Claim7 := { stood := { row := fnTrailsRow, standIns := [], harness := (true, "b58311e5ad9773061c7f5b3678c678e82afc55a35a20f93c61021b29c2b8e67e"), looks := false }, kinds := [], alts := [], laidByText := true, laidKinds := [.data], laidTests := true, laidLooks := .later }
def FnTrailsCardSaid : Prop := Claim7.holds Tryd.pinned (.plain (OpenSpec.ofChange fnTrailsSpec)) fnTrailsCard

/-- THE TIED CARD OF 'laws.FnParts'. -/
def fnPartsCard : Claim7 := { stood := { row := fnPartsRow, standIns := [], harness := (true, "b58311e5ad9773061c7f5b3678c678e82afc55a35a20f93c61021b29c2b8e67e"), looks := false }, kinds := [], alts := [], laidByText := true, laidKinds := [.data], laidTests := true, laidLooks := .later }
def FnPartsCardSaid : Prop := Claim7.holds Tryd.pinned (.plain (OpenSpec.ofChange fnPartsSpec)) fnPartsCard

/-- THE TIED CARD OF 'laws.FnEdges'. -/
def fnEdgesCard : Claim7 := { stood := { row := fnEdgesRow, standIns := [], harness := (true, "b58311e5ad9773061c7f5b3678c678e82afc55a35a20f93c61021b29c2b8e67e"), looks := false }, kinds := [], alts := [], laidByText := true, laidKinds := [.data], laidTests := true, laidLooks := .later }
def FnEdgesCardSaid : Prop := Claim7.holds Tryd.pinned (.plain (OpenSpec.ofChange fnEdgesSpec)) fnEdgesCard

/-- THE TIED CARD OF 'laws.FnBetween'. -/
def fnBetweenCard : Claim7 := { stood := { row := fnBetweenRow, standIns := [], harness := (true, "b58311e5ad9773061c7f5b3678c678e82afc55a35a20f93c61021b29c2b8e67e"), looks := false }, kinds := [], alts := [], laidByText := true, laidKinds := [.data], laidTests := true, laidLooks := .later }
def FnBetweenCardSaid : Prop := Claim7.holds Tryd.pinned (.plain (OpenSpec.ofChange fnBetweenSpec)) fnBetweenCard

/-- THE TIED CARD OF 'laws.FnContracted'. -/
def fnContractedCard : Claim7 := { stood := { row := fnContractedRow, standIns := [], harness := (true, "b58311e5ad9773061c7f5b3678c678e82afc55a35a20f93c61021b29c2b8e67e"), looks := false }, kinds := [], alts := [], laidByText := true, laidKinds := [.data], laidTests := true, laidLooks := .later }
def FnContractedCardSaid : Prop := Claim7.holds Tryd.pinned (.plain (OpenSpec.ofChange fnContractedSpec)) fnContractedCard

/-- THE SECOND FORM's CARD OF 'laws.FnExactTrailOf'. -/
def fnExactTrailOfUptoCard : Claim7 := { stood := { row := fnExactTrailOfUptoRow, standIns := [], harness := (true, "b58311e5ad9773061c7f5b3678c678e82afc55a35a20f93c61021b29c2b8e67e"), looks := false }, kinds := [], alts := [], laidByText := true, laidKinds := [.data], laidTests := true, laidLooks := .later }
def FnExactTrailOfUptoCardSaid : Prop := Claim7.holds Tryd.pinned (.plain (OpenSpec.upto fnExactTrailOfSpec)) fnExactTrailOfUptoCard

/-- THE SECOND FORM's CARD OF 'laws.FnTrails'. -/
def fnTrailsUptoCard : Claim7 := { stood := { row := fnTrailsUptoRow, standIns := [], harness := (true, "b58311e5ad9773061c7f5b3678c678e82afc55a35a20f93c61021b29c2b8e67e"), looks := false }, kinds := [], alts := [], laidByText := true, laidKinds := [.data], laidTests := true, laidLooks := .later }
def FnTrailsUptoCardSaid : Prop := Claim7.holds Tryd.pinned (.plain (OpenSpec.upto fnTrailsSpec)) fnTrailsUptoCard

/-- THE SECOND FORM's CARD OF 'laws.FnParts'. -/
def fnPartsUptoCard : Claim7 := { stood := { row := fnPartsUptoRow, standIns := [], harness := (true, "b58311e5ad9773061c7f5b3678c678e82afc55a35a20f93c61021b29c2b8e67e"), looks := false }, kinds := [], alts := [], laidByText := true, laidKinds := [.data], laidTests := true, laidLooks := .later }
def FnPartsUptoCardSaid : Prop := Claim7.holds Tryd.pinned (.plain (OpenSpec.upto fnPartsSpec)) fnPartsUptoCard

/-- THE SECOND FORM's CARD OF 'laws.FnEdges'. -/
def fnEdgesUptoCard : Claim7 := { stood := { row := fnEdgesUptoRow, standIns := [], harness := (true, "b58311e5ad9773061c7f5b3678c678e82afc55a35a20f93c61021b29c2b8e67e"), looks := false }, kinds := [], alts := [], laidByText := true, laidKinds := [.data], laidTests := true, laidLooks := .later }
def FnEdgesUptoCardSaid : Prop := Claim7.holds Tryd.pinned (.plain (OpenSpec.upto fnEdgesSpec)) fnEdgesUptoCard

/-- THE SECOND FORM's CARD OF 'laws.FnBetween'. -/
def fnBetweenUptoCard : Claim7 := { stood := { row := fnBetweenUptoRow, standIns := [], harness := (true, "b58311e5ad9773061c7f5b3678c678e82afc55a35a20f93c61021b29c2b8e67e"), looks := false }, kinds := [], alts := [], laidByText := true, laidKinds := [.data], laidTests := true, laidLooks := .later }
def FnBetweenUptoCardSaid : Prop := Claim7.holds Tryd.pinned (.plain (OpenSpec.upto fnBetweenSpec)) fnBetweenUptoCard

/-- THE SECOND FORM's CARD OF 'laws.FnContracted'. -/
def fnContractedUptoCard : Claim7 := { stood := { row := fnContractedUptoRow, standIns := [], harness := (true, "b58311e5ad9773061c7f5b3678c678e82afc55a35a20f93c61021b29c2b8e67e"), looks := false }, kinds := [], alts := [], laidByText := true, laidKinds := [.data], laidTests := true, laidLooks := .later }
def FnContractedUptoCardSaid : Prop := Claim7.holds Tryd.pinned (.plain (OpenSpec.upto fnContractedSpec)) fnContractedUptoCard
end Rows
end Go.Proofs.YtjdlmjmhlbpooaaDoor
