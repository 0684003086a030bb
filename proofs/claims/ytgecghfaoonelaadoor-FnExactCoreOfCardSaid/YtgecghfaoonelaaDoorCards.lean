/-
  DERIVED. GIVEN WITH THE SEED: THE CARDS: each row of YtgecghfaoonelaaDoorRows.lean that lists a variable, with what it lists TIED to the program's text (the seventh form; the later family's looks); each row that meets fmt, with fmt's text TOLD by the authors' own Lean function (tested against real Go, not proved from fmt's source: count such statements apart). THE CARD IS WHAT COUNTS. Prove the row's statement (the work); the ties are given (YtgecghfaoonelaaDoorTie.lean); close each card by the builder's one call (the guide's Derived/Test/ToyasCard.lean, 'card_holds'). Laid BY PROGRAM, IN A SANDBOX (cutbox-door.mjs). By AI agents, Wed Nov 11 2026. No macro, syntax, notation, axiom, sorry.
-/
import Derived.Test.YtgecghfaoonelaaDoorRows
import GoSem.ClaimSeven
namespace Go.Proofs.YtgecghfaoonelaaDoor
namespace Rows

/-- THE TIED CARD OF 'laws.FnExactTwoOrder'. -/
def fnExactTwoOrderCard : Claim7 := { stood := { row := fnExactTwoOrderRow, standIns := [], harness := (true, "0bcaad10db703844b28e9e06d781b57dfc8de66cfdbdd281fe6424d0312f16f3"), looks := false }, kinds := [], alts := [], laidByText := true, laidKinds := [.data], laidTests := true, laidLooks := .later }
def FnExactTwoOrderCardSaid : Prop := Claim7.holds Tryd.pinned (.plain (OpenSpec.ofChange fnExactTwoOrderSpec)) fnExactTwoOrderCard

/-- THE TIED CARD OF 'laws.FnExactFoldedOf'. -/
def fnExactFoldedOfCard : Claim7 := { stood := { row := fnExactFoldedOfRow, standIns := [], harness := (true, "0bcaad10db703844b28e9e06d781b57dfc8de66cfdbdd281fe6424d0312f16f3"), looks := false }, kinds := [], alts := [], laidByText := true, laidKinds := [.data], laidTests := true, laidLooks := .later }
def FnExactFoldedOfCardSaid : Prop := Claim7.holds Tryd.pinned (.plain (OpenSpec.ofChange fnExactFoldedOfSpec)) fnExactFoldedOfCard

/-- THE TIED CARD OF 'laws.FnExactThreeColours'. -/
def fnExactThreeColoursCard : Claim7 := { stood := { row := fnExactThreeColoursRow, standIns := [], harness := (true, "0bcaad10db703844b28e9e06d781b57dfc8de66cfdbdd281fe6424d0312f16f3"), looks := false }, kinds := [], alts := [], laidByText := true, laidKinds := [.data], laidTests := true, laidLooks := .later }
def FnExactThreeColoursCardSaid : Prop := Claim7.holds Tryd.pinned (.plain (OpenSpec.ofChange fnExactThreeColoursSpec)) fnExactThreeColoursCard

/-- THE TIED CARD OF 'laws.FnExactCoreOf'. -/
def fnExactCoreOfCard : Claim7 := { stood := { row := fnExactCoreOfRow, standIns := [], harness := (true, "0bcaad10db703844b28e9e06d781b57dfc8de66cfdbdd281fe6424d0312f16f3"), looks := false }, kinds := [], alts := [], laidByText := true, laidKinds := [.data], laidTests := true, laidLooks := .later }
def FnExactCoreOfCardSaid : Prop := Claim7.holds Tryd.pinned (.plain (OpenSpec.ofChange fnExactCoreOfSpec)) fnExactCoreOfCard

/-- THE TIED CARD OF 'laws.FnExactFourModel'. -/
def fnExactFourModelCard : Claim7 := { stood := { row := fnExactFourModelRow, standIns := [], harness := (true, "0bcaad10db703844b28e9e06d781b57dfc8de66cfdbdd281fe6424d0312f16f3"), looks := false }, kinds := [], alts := [], laidByText := true, laidKinds := [.data], laidTests := true, laidLooks := .later }
def FnExactFourModelCardSaid : Prop := Claim7.holds Tryd.pinned (.plain (OpenSpec.ofChange fnExactFourModelSpec)) fnExactFourModelCard

/-- THE SECOND FORM's CARD OF 'laws.FnExactTwoOrder'. -/
def fnExactTwoOrderUptoCard : Claim7 := { stood := { row := fnExactTwoOrderUptoRow, standIns := [], harness := (true, "0bcaad10db703844b28e9e06d781b57dfc8de66cfdbdd281fe6424d0312f16f3"), looks := false }, kinds := [], alts := [], laidByText := true, laidKinds := [.data], laidTests := true, laidLooks := .later }
def FnExactTwoOrderUptoCardSaid : Prop := Claim7.holds Tryd.pinned (.plain (OpenSpec.upto fnExactTwoOrderSpec)) fnExactTwoOrderUptoCard

/-- THE SECOND FORM's CARD OF 'laws.FnExactFoldedOf'. -/
def fnExactFoldedOfUptoCard : Claim7 := { stood := { row := fnExactFoldedOfUptoRow, standIns := [], harness := (true, "0bcaad10db703844b28e9e06d781b57dfc8de66cfdbdd281fe6424d0312f16f3"), looks := false }, kinds := [], alts := [], laidByText := true, laidKinds := [.data], laidTests := true, laidLooks := .later }
def FnExactFoldedOfUptoCardSaid : Prop := Claim7.holds Tryd.pinned (.plain (OpenSpec.upto fnExactFoldedOfSpec)) fnExactFoldedOfUptoCard

/-- THE SECOND FORM's CARD OF 'laws.FnExactThreeColours'. -/
def fnExactThreeColoursUptoCard : Claim7 := { stood := { row := fnExactThreeColoursUptoRow, standIns := [], harness := (true, "0bcaad10db703844b28e9e06d781b57dfc8de66cfdbdd281fe6424d0312f16f3"), looks := false }, kinds := [], alts := [], laidByText := true, laidKinds := [.data], laidTests := true, laidLooks := .later }
def FnExactThreeColoursUptoCardSaid : Prop := Claim7.holds Tryd.pinned (.plain (OpenSpec.upto fnExactThreeColoursSpec)) fnExactThreeColoursUptoCard

/-- THE SECOND FORM's CARD OF 'laws.FnExactCoreOf'. -/
def fnExactCoreOfUptoCard : Claim7 := { stood := { row := fnExactCoreOfUptoRow, standIns := [], harness := (true, "0bcaad10db703844b28e9e06d781b57dfc8de66cfdbdd281fe6424d0312f16f3"), looks := false }, kinds := [], alts := [], laidByText := true, laidKinds := [.data], laidTests := true, laidLooks := .later }
def FnExactCoreOfUptoCardSaid : Prop := Claim7.holds Tryd.pinned (.plain (OpenSpec.upto fnExactCoreOfSpec)) fnExactCoreOfUptoCard

/-- THE SECOND FORM's CARD OF 'laws.FnExactFourModel'. -/
def fnExactFourModelUptoCard : Claim7 := { stood := { row := fnExactFourModelUptoRow, standIns := [], harness := (true, "0bcaad10db703844b28e9e06d781b57dfc8de66cfdbdd281fe6424d0312f16f3"), looks := false }, kinds := [], alts := [], laidByText := true, laidKinds := [.data], laidTests := true, laidLooks := .later }
def FnExactFourModelUptoCardSaid : Prop := Claim7.holds Tryd.pinned (.plain (OpenSpec.upto fnExactFourModelSpec)) fnExactFourModelUptoCard
end Rows
end Go.Proofs.YtgecghfaoonelaaDoor
