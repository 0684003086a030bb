/-
  DERIVED. GIVEN WITH THE SEED: THE CARDS: each row of YtbdcolhmhbfdoaaDoorRows.lean that lists a variable, with what it lists TIED to the program's text (the seventh form; the later family's looks); each row that meets fmt, with fmt's text TOLD by the authors' own Lean function (tested against real Go, not proved from fmt's source: count such statements apart). THE CARD IS WHAT COUNTS. Prove the row's statement (the work); the ties are given (YtbdcolhmhbfdoaaDoorTie.lean); close each card by the builder's one call (the guide's Derived/Test/ToyasCard.lean, 'card_holds'). Laid BY PROGRAM, IN A SANDBOX (cutbox-door.mjs). By AI agents, Wed Nov 11 2026. No macro, syntax, notation, axiom, sorry.
-/
import Derived.Test.YtbdcolhmhbfdoaaDoorRows
import GoSem.ClaimSeven
namespace Go.Proofs.YtbdcolhmhbfdoaaDoor
namespace Rows

/-- THE TIED CARD OF 'laws.FnExactRenamed'. -/
def fnExactRenamedCard : Claim7 := { stood := { row := fnExactRenamedRow, standIns := [], harness := (true, "9d5e95d166c0c867b12b4e3536453b74d1f5e6f918c5b4a31d023cf753146d9b"), looks := false }, kinds := [], alts := [], laidByText := true, laidKinds := [.data], laidTests := true, laidLooks := .later }
def FnExactRenamedCardSaid : Prop := Claim7.holds Tryd.pinned (.plain (OpenSpec.ofChange fnExactRenamedSpec)) fnExactRenamedCard

/-- THE TIED CARD OF 'laws.FnExactFillOf'. -/
def fnExactFillOfCard : Claim7 := { stood := { row := fnExactFillOfRow, standIns := [], harness := (true, "9d5e95d166c0c867b12b4e3536453b74d1f5e6f918c5b4a31d023cf753146d9b"), looks := false }, kinds := [], alts := [], laidByText := true, laidKinds := [.data], laidTests := true, laidLooks := .later }
def FnExactFillOfCardSaid : Prop := Claim7.holds Tryd.pinned (.plain (OpenSpec.ofChange fnExactFillOfSpec)) fnExactFillOfCard

/-- THE TIED CARD OF 'laws.FnExactLaterOf'. -/
def fnExactLaterOfCard : Claim7 := { stood := { row := fnExactLaterOfRow, standIns := [], harness := (true, "9d5e95d166c0c867b12b4e3536453b74d1f5e6f918c5b4a31d023cf753146d9b"), looks := false }, kinds := [], alts := [], laidByText := true, laidKinds := [.data], laidTests := true, laidLooks := .later }
def FnExactLaterOfCardSaid : Prop := Claim7.holds Tryd.pinned (.plain (OpenSpec.ofChange fnExactLaterOfSpec)) fnExactLaterOfCard

/-- THE TIED CARD OF 'laws.FnExactFillMany'. -/
def fnExactFillManyCard : Claim7 := { stood := { row := fnExactFillManyRow, standIns := [], harness := (true, "9d5e95d166c0c867b12b4e3536453b74d1f5e6f918c5b4a31d023cf753146d9b"), looks := false }, kinds := [], alts := [], laidByText := true, laidKinds := [.data], laidTests := true, laidLooks := .later }
def FnExactFillManyCardSaid : Prop := Claim7.holds Tryd.pinned (.plain (OpenSpec.ofChange fnExactFillManySpec)) fnExactFillManyCard

/-- THE TIED CARD OF 'laws.FnExactPerfectIn'. -/
def fnExactPerfectInCard : Claim7 := { stood := { row := fnExactPerfectInRow, standIns := [], harness := (true, "9d5e95d166c0c867b12b4e3536453b74d1f5e6f918c5b4a31d023cf753146d9b"), looks := false }, kinds := [], alts := [], laidByText := true, laidKinds := [.data], laidTests := true, laidLooks := .later }
def FnExactPerfectInCardSaid : Prop := Claim7.holds Tryd.pinned (.plain (OpenSpec.ofChange fnExactPerfectInSpec)) fnExactPerfectInCard

/-- THE TIED CARD OF 'laws.FnExactCrossIn'. -/
def fnExactCrossInCard : Claim7 := { stood := { row := fnExactCrossInRow, standIns := [], harness := (true, "9d5e95d166c0c867b12b4e3536453b74d1f5e6f918c5b4a31d023cf753146d9b"), looks := false }, kinds := [], alts := [], laidByText := true, laidKinds := [.data], laidTests := true, laidLooks := .later }
def FnExactCrossInCardSaid : Prop := Claim7.holds Tryd.pinned (.plain (OpenSpec.ofChange fnExactCrossInSpec)) fnExactCrossInCard

/-- THE TIED CARD OF 'laws.FnExactPermGraph'. -/
def fnExactPermGraphCard : Claim7 := { stood := { row := fnExactPermGraphRow, standIns := [], harness := (true, "9d5e95d166c0c867b12b4e3536453b74d1f5e6f918c5b4a31d023cf753146d9b"), looks := false }, kinds := [], alts := [], laidByText := true, laidKinds := [.data], laidTests := true, laidLooks := .later }
def FnExactPermGraphCardSaid : Prop := Claim7.holds Tryd.pinned (.plain (OpenSpec.ofChange fnExactPermGraphSpec)) fnExactPermGraphCard

/-- THE TIED CARD OF 'laws.FnExactPermsOk'. -/
def fnExactPermsOkCard : Claim7 := { stood := { row := fnExactPermsOkRow, standIns := [], harness := (true, "9d5e95d166c0c867b12b4e3536453b74d1f5e6f918c5b4a31d023cf753146d9b"), looks := false }, kinds := [], alts := [], laidByText := true, laidKinds := [.data], laidTests := true, laidLooks := .later }
def FnExactPermsOkCardSaid : Prop := Claim7.holds Tryd.pinned (.plain (OpenSpec.ofChange fnExactPermsOkSpec)) fnExactPermsOkCard

/-- THE SECOND FORM's CARD OF 'laws.FnExactRenamed'. -/
def fnExactRenamedUptoCard : Claim7 := { stood := { row := fnExactRenamedUptoRow, standIns := [], harness := (true, "9d5e95d166c0c867b12b4e3536453b74d1f5e6f918c5b4a31d023cf753146d9b"), looks := false }, kinds := [], alts := [], laidByText := true, laidKinds := [.data], laidTests := true, laidLooks := .later }
def FnExactRenamedUptoCardSaid : Prop := Claim7.holds Tryd.pinned (.plain (OpenSpec.upto fnExactRenamedSpec)) fnExactRenamedUptoCard

/-- THE SECOND FORM's CARD OF 'laws.FnExactFillOf'. -/
def fnExactFillOfUptoCard : Claim7 := { stood := { row := fnExactFillOfUptoRow, standIns := [], harness := (true, "9d5e95d166c0c867b12b4e3536453b74d1f5e6f918c5b4a31d023cf753146d9b"), looks := false }, kinds := [], alts := [], laidByText := true, laidKinds := [.data], laidTests := true, laidLooks := .later }
def FnExactFillOfUptoCardSaid : Prop := Claim7.holds Tryd.pinned (.plain (OpenSpec.upto fnExactFillOfSpec)) fnExactFillOfUptoCard

/-- THE SECOND FORM's CARD OF 'laws.FnExactLaterOf'. -/
def fnExactLaterOfUptoCard : Claim7 := { stood := { row := fnExactLaterOfUptoRow, standIns := [], harness := (true, "9d5e95d166c0c867b12b4e3536453b74d1f5e6f918c5b4a31d023cf753146d9b"), looks := false }, kinds := [], alts := [], laidByText := true, laidKinds := [.data], laidTests := true, laidLooks := .later }
def FnExactLaterOfUptoCardSaid : Prop := Claim7.holds Tryd.pinned (.plain (OpenSpec.upto fnExactLaterOfSpec)) fnExactLaterOfUptoCard

/-- THE SECOND FORM's CARD OF 'laws.FnExactFillMany'. -/
def fnExactFillManyUptoCard : Claim7 := { stood := { row := fnExactFillManyUptoRow, standIns := [], harness := (true, "9d5e95d166c0c867b12b4e3536453b74d1f5e6f918c5b4a31d023cf753146d9b"), looks := false }, kinds := [], alts := [], laidByText := true, laidKinds := [.data], laidTests := true, laidLooks := .later }
def FnExactFillManyUptoCardSaid : Prop := Claim7.holds Tryd.pinned (.plain (OpenSpec.upto fnExactFillManySpec)) fnExactFillManyUptoCard

/-- THE SECOND FORM's CARD OF 'laws.FnExactPerfectIn'. -/
def fnExactPerfectInUptoCard : Claim7 := { stood := { row := fnExactPerfectInUptoRow, standIns := [], harness := (true, "9d5e95d166c0c867b12b4e3536453b74d1f5e6f918c5b4a31d023cf753146d9b"), looks := false }, kinds := [], alts := [], laidByText := true, laidKinds := [.data], laidTests := true, laidLooks := .later }
def FnExactPerfectInUptoCardSaid : Prop := Claim7.holds Tryd.pinned (.plain (OpenSpec.upto fnExactPerfectInSpec)) fnExactPerfectInUptoCard

/-- THE SECOND FORM's CARD OF 'laws.FnExactCrossIn'. -/
def fnExactCrossInUptoCard : Claim7 := { stood := { row := fnExactCrossInUptoRow, standIns := [], harness := (true, "9d5e95d166c0c867b12b4e3536453b74d1f5e6f918c5b4a31d023cf753146d9b"), looks := false }, kinds := [], alts := [], laidByText := true, laidKinds := [.data], laidTests := true, laidLooks := .later }
def FnExactCrossInUptoCardSaid : Prop := Claim7.holds Tryd.pinned (.plain (OpenSpec.upto fnExactCrossInSpec)) fnExactCrossInUptoCard

/-- THE SECOND FORM's CARD OF 'laws.FnExactPermGraph'. -/
def fnExactPermGraphUptoCard : Claim7 := { stood := { row := fnExactPermGraphUptoRow, standIns := [], harness := (true, "9d5e95d166c0c867b12b4e3536453b74d1f5e6f918c5b4a31d023cf753146d9b"), looks := false }, kinds := [], alts := [], laidByText := true, laidKinds := [.data], laidTests := true, laidLooks := .later }
def FnExactPermGraphUptoCardSaid : Prop := Claim7.holds Tryd.pinned (.plain (OpenSpec.upto fnExactPermGraphSpec)) fnExactPermGraphUptoCard

/-- THE SECOND FORM's CARD OF 'laws.FnExactPermsOk'. -/
def fnExactPermsOkUptoCard : Claim7 := { stood := { row := fnExactPermsOkUptoRow, standIns := [], harness := (true, "9d5e95d166c0c867b12b4e3536453b74d1f5e6f918c5b4a31d023cf753146d9b"), looks := false }, kinds := [], alts := [], laidByText := true, laidKinds := [.data], laidTests := true, laidLooks := .later }
def FnExactPermsOkUptoCardSaid : Prop := Claim7.holds Tryd.pinned (.plain (OpenSpec.upto fnExactPermsOkSpec)) fnExactPermsOkUptoCard
end Rows
end Go.Proofs.YtbdcolhmhbfdoaaDoor
