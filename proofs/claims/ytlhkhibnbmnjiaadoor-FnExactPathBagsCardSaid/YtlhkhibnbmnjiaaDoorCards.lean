/-
  DERIVED. GIVEN WITH THE SEED: THE CARDS: each row of YtlhkhibnbmnjiaaDoorRows.lean that lists a variable, with what it lists TIED to the program's text (the seventh form; the later family's looks); each row that meets fmt, with fmt's text TOLD by the authors' own Lean function (tested against real Go, not proved from fmt's source: count such statements apart). THE CARD IS WHAT COUNTS. Prove the row's statement (the work); the ties are given (YtlhkhibnbmnjiaaDoorTie.lean); close each card by the builder's one call (the guide's Derived/Test/ToyasCard.lean, 'card_holds'). Laid BY PROGRAM, IN A SANDBOX (cutbox-door.mjs). By AI agents, Wed Nov 11 2026. No macro, syntax, notation, axiom, sorry.
-/
import Derived.Test.YtlhkhibnbmnjiaaDoorRows
import GoSem.ClaimSeven
namespace Go.Proofs.YtlhkhibnbmnjiaaDoor
namespace Rows

/-- THE TIED CARD OF 'laws.FnExactPathBags'. -/
def fnExactPathBagsCard : Claim7 := { stood := { row := fnExactPathBagsRow, standIns := [], harness := (true, "520e261c20002c66a44eeb3a4225994f90100442d8e34f770403ffb73d1b6e5b"), looks := false }, kinds := [], alts := [], laidByText := true, laidKinds := [.data], laidTests := true, laidLooks := .later }
def FnExactPathBagsCardSaid : Prop := Claim7.holds Tryd.pinned (.plain (OpenSpec.ofChange fnExactPathBagsSpec)) fnExactPathBagsCard

/-- THE SECOND FORM's CARD OF 'laws.FnExactPathBags'. -/
def fnExactPathBagsUptoCard : Claim7 := { stood := { row := fnExactPathBagsUptoRow, standIns := [], harness := (true, "520e261c20002c66a44eeb3a4225994f90100442d8e34f770403ffb73d1b6e5b"), looks := false }, kinds := [], alts := [], laidByText := true, laidKinds := [.data], laidTests := true, laidLooks := .later }
def FnExactPathBagsUptoCardSaid : Prop := Claim7.holds Tryd.pinned (.plain (OpenSpec.upto fnExactPathBagsSpec)) fnExactPathBagsUptoCard
end Rows
end Go.Proofs.YtlhkhibnbmnjiaaDoor
