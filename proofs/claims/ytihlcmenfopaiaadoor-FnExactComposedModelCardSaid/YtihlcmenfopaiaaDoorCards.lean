/-
  DERIVED. GIVEN WITH THE SEED: THE CARDS: each row of YtihlcmenfopaiaaDoorRows.lean that lists a variable, with what it lists TIED to the program's text (the seventh form; the later family's looks); each row that meets fmt, with fmt's text TOLD by the authors' own Lean function (tested against real Go, not proved from fmt's source: count such statements apart). THE CARD IS WHAT COUNTS. Prove the row's statement (the work); the ties are given (YtihlcmenfopaiaaDoorTie.lean); close each card by the builder's one call (the guide's Derived/Test/ToyasCard.lean, 'card_holds'). Laid BY PROGRAM, IN A SANDBOX (cutbox-door.mjs). By AI agents, Wed Nov 11 2026. No macro, syntax, notation, axiom, sorry.
-/
import Derived.Test.YtihlcmenfopaiaaDoorRows
import GoSem.ClaimSeven
namespace Go.Proofs.YtihlcmenfopaiaaDoor
namespace Rows

/-- THE TIED CARD OF 'laws.FnExactCoverOf'. -/
def fnExactCoverOfCard : Claim7 := { stood := { row := fnExactCoverOfRow, standIns := [], harness := (true, "626137158ecd4f763f42ce149f0246075c157c4b794a285a29d761cb75ff260a"), looks := false }, kinds := [], alts := [], laidByText := true, laidKinds := [.data], laidTests := true, laidLooks := .later }
def FnExactCoverOfCardSaid : Prop := Claim7.holds Tryd.pinned (.plain (OpenSpec.ofChange fnExactCoverOfSpec)) fnExactCoverOfCard

/-- THE TIED CARD OF 'laws.FnExactComposedModel'. -/
def fnExactComposedModelCard : Claim7 := { stood := { row := fnExactComposedModelRow, standIns := [], harness := (true, "626137158ecd4f763f42ce149f0246075c157c4b794a285a29d761cb75ff260a"), looks := false }, kinds := [], alts := [], laidByText := true, laidKinds := [.data], laidTests := true, laidLooks := .later }
def FnExactComposedModelCardSaid : Prop := Claim7.holds Tryd.pinned (.plain (OpenSpec.ofChange fnExactComposedModelSpec)) fnExactComposedModelCard

/-- THE TIED CARD OF 'laws.FnExactQuotientAt'. -/
def fnExactQuotientAtCard : Claim7 := { stood := { row := fnExactQuotientAtRow, standIns := [], harness := (true, "626137158ecd4f763f42ce149f0246075c157c4b794a285a29d761cb75ff260a"), looks := false }, kinds := [], alts := [], laidByText := true, laidKinds := [.data], laidTests := true, laidLooks := .later }
def FnExactQuotientAtCardSaid : Prop := Claim7.holds Tryd.pinned (.plain (OpenSpec.ofChange fnExactQuotientAtSpec)) fnExactQuotientAtCard

/-- THE TIED CARD OF 'laws.FnExactGraphOfTree'. -/
def fnExactGraphOfTreeCard : Claim7 := { stood := { row := fnExactGraphOfTreeRow, standIns := [], harness := (true, "626137158ecd4f763f42ce149f0246075c157c4b794a285a29d761cb75ff260a"), looks := false }, kinds := [], alts := [], laidByText := true, laidKinds := [.data], laidTests := true, laidLooks := .later }
def FnExactGraphOfTreeCardSaid : Prop := Claim7.holds Tryd.pinned (.plain (OpenSpec.ofChange fnExactGraphOfTreeSpec)) fnExactGraphOfTreeCard

/-- THE TIED CARD OF 'laws.FnExactMinorIn'. -/
def fnExactMinorInCard : Claim7 := { stood := { row := fnExactMinorInRow, standIns := [], harness := (true, "626137158ecd4f763f42ce149f0246075c157c4b794a285a29d761cb75ff260a"), looks := false }, kinds := [], alts := [], laidByText := true, laidKinds := [.data], laidTests := true, laidLooks := .later }
def FnExactMinorInCardSaid : Prop := Claim7.holds Tryd.pinned (.plain (OpenSpec.ofChange fnExactMinorInSpec)) fnExactMinorInCard

/-- THE TIED CARD OF 'laws.FnExactFindSub'. -/
def fnExactFindSubCard : Claim7 := { stood := { row := fnExactFindSubRow, standIns := [], harness := (true, "626137158ecd4f763f42ce149f0246075c157c4b794a285a29d761cb75ff260a"), looks := false }, kinds := [], alts := [], laidByText := true, laidKinds := [.data], laidTests := true, laidLooks := .later }
def FnExactFindSubCardSaid : Prop := Claim7.holds Tryd.pinned (.plain (OpenSpec.ofChange fnExactFindSubSpec)) fnExactFindSubCard

/-- THE TIED CARD OF 'laws.FnExactForbiddenIn'. -/
def fnExactForbiddenInCard : Claim7 := { stood := { row := fnExactForbiddenInRow, standIns := [], harness := (true, "626137158ecd4f763f42ce149f0246075c157c4b794a285a29d761cb75ff260a"), looks := false }, kinds := [], alts := [], laidByText := true, laidKinds := [.data], laidTests := true, laidLooks := .later }
def FnExactForbiddenInCardSaid : Prop := Claim7.holds Tryd.pinned (.plain (OpenSpec.ofChange fnExactForbiddenInSpec)) fnExactForbiddenInCard

/-- THE TIED CARD OF 'laws.FnExactNotOuter'. -/
def fnExactNotOuterCard : Claim7 := { stood := { row := fnExactNotOuterRow, standIns := [], harness := (true, "626137158ecd4f763f42ce149f0246075c157c4b794a285a29d761cb75ff260a"), looks := false }, kinds := [], alts := [], laidByText := true, laidKinds := [.data], laidTests := true, laidLooks := .later }
def FnExactNotOuterCardSaid : Prop := Claim7.holds Tryd.pinned (.plain (OpenSpec.ofChange fnExactNotOuterSpec)) fnExactNotOuterCard

/-- THE SECOND FORM's CARD OF 'laws.FnExactCoverOf'. -/
def fnExactCoverOfUptoCard : Claim7 := { stood := { row := fnExactCoverOfUptoRow, standIns := [], harness := (true, "626137158ecd4f763f42ce149f0246075c157c4b794a285a29d761cb75ff260a"), looks := false }, kinds := [], alts := [], laidByText := true, laidKinds := [.data], laidTests := true, laidLooks := .later }
def FnExactCoverOfUptoCardSaid : Prop := Claim7.holds Tryd.pinned (.plain (OpenSpec.upto fnExactCoverOfSpec)) fnExactCoverOfUptoCard

/-- THE SECOND FORM's CARD OF 'laws.FnExactComposedModel'. -/
def fnExactComposedModelUptoCard : Claim7 := { stood := { row := fnExactComposedModelUptoRow, standIns := [], harness := (true, "626137158ecd4f763f42ce149f0246075c157c4b794a285a29d761cb75ff260a"), looks := false }, kinds := [], alts := [], laidByText := true, laidKinds := [.data], laidTests := true, laidLooks := .later }
def FnExactComposedModelUptoCardSaid : Prop := Claim7.holds Tryd.pinned (.plain (OpenSpec.upto fnExactComposedModelSpec)) fnExactComposedModelUptoCard

/-- THE SECOND FORM's CARD OF 'laws.FnExactQuotientAt'. -/
def fnExactQuotientAtUptoCard : Claim7 := { stood := { row := fnExactQuotientAtUptoRow, standIns := [], harness := (true, "626137158ecd4f763f42ce149f0246075c157c4b794a285a29d761cb75ff260a"), looks := false }, kinds := [], alts := [], laidByText := true, laidKinds := [.data], laidTests := true, laidLooks := .later }
def FnExactQuotientAtUptoCardSaid : Prop := Claim7.holds Tryd.pinned (.plain (OpenSpec.upto fnExactQuotientAtSpec)) fnExactQuotientAtUptoCard

/-- THE SECOND FORM's CARD OF 'laws.FnExactGraphOfTree'. -/
def fnExactGraphOfTreeUptoCard : Claim7 := { stood := { row := fnExactGraphOfTreeUptoRow, standIns := [], harness := (true, "626137158ecd4f763f42ce149f0246075c157c4b794a285a29d761cb75ff260a"), looks := false }, kinds := [], alts := [], laidByText := true, laidKinds := [.data], laidTests := true, laidLooks := .later }
def FnExactGraphOfTreeUptoCardSaid : Prop := Claim7.holds Tryd.pinned (.plain (OpenSpec.upto fnExactGraphOfTreeSpec)) fnExactGraphOfTreeUptoCard

/-- THE SECOND FORM's CARD OF 'laws.FnExactMinorIn'. -/
def fnExactMinorInUptoCard : Claim7 := { stood := { row := fnExactMinorInUptoRow, standIns := [], harness := (true, "626137158ecd4f763f42ce149f0246075c157c4b794a285a29d761cb75ff260a"), looks := false }, kinds := [], alts := [], laidByText := true, laidKinds := [.data], laidTests := true, laidLooks := .later }
def FnExactMinorInUptoCardSaid : Prop := Claim7.holds Tryd.pinned (.plain (OpenSpec.upto fnExactMinorInSpec)) fnExactMinorInUptoCard

/-- THE SECOND FORM's CARD OF 'laws.FnExactFindSub'. -/
def fnExactFindSubUptoCard : Claim7 := { stood := { row := fnExactFindSubUptoRow, standIns := [], harness := (true, "626137158ecd4f763f42ce149f0246075c157c4b794a285a29d761cb75ff260a"), looks := false }, kinds := [], alts := [], laidByText := true, laidKinds := [.data], laidTests := true, laidLooks := .later }
def FnExactFindSubUptoCardSaid : Prop := Claim7.holds Tryd.pinned (.plain (OpenSpec.upto fnExactFindSubSpec)) fnExactFindSubUptoCard

/-- THE SECOND FORM's CARD OF 'laws.FnExactForbiddenIn'. -/
def fnExactForbiddenInUptoCard : Claim7 := { stood := { row := fnExactForbiddenInUptoRow, standIns := [], harness := (true, "626137158ecd4f763f42ce149f0246075c157c4b794a285a29d761cb75ff260a"), looks := false }, kinds := [], alts := [], laidByText := true, laidKinds := [.data], laidTests := true, laidLooks := .later }
def FnExactForbiddenInUptoCardSaid : Prop := Claim7.holds Tryd.pinned (.plain (OpenSpec.upto fnExactForbiddenInSpec)) fnExactForbiddenInUptoCard

/-- THE SECOND FORM's CARD OF 'laws.FnExactNotOuter'. -/
def fnExactNotOuterUptoCard : Claim7 := { stood := { row := fnExactNotOuterUptoRow, standIns := [], harness := (true, "626137158ecd4f763f42ce149f0246075c157c4b794a285a29d761cb75ff260a"), looks := false }, kinds := [], alts := [], laidByText := true, laidKinds := [.data], laidTests := true, laidLooks := .later }
def FnExactNotOuterUptoCardSaid : Prop := Claim7.holds Tryd.pinned (.plain (OpenSpec.upto fnExactNotOuterSpec)) fnExactNotOuterUptoCard
end Rows
end Go.Proofs.YtihlcmenfopaiaaDoor
