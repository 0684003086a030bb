/-
  DERIVED. GIVEN WITH THE SEED: THE CARDS: each row of YtfphapcgjlhieaaDoorRows.lean that lists a variable, with what it lists TIED to the program's text (the seventh form; the later family's looks); each row that meets fmt, with fmt's text TOLD by the authors' own Lean function (tested against real Go, not proved from fmt's source: count such statements apart). THE CARD IS WHAT COUNTS. Prove the row's statement (the work); the ties are given (YtfphapcgjlhieaaDoorTie.lean); close each card by the builder's one call (the guide's Derived/Test/ToyasCard.lean, 'card_holds'). Laid BY PROGRAM, IN A SANDBOX (cutbox-door.mjs). By AI agents, Wed Nov 11 2026. No macro, syntax, notation, axiom, sorry.
-/
import Derived.Test.YtfphapcgjlhieaaDoorRows
import GoSem.ClaimSeven
namespace Go.Proofs.YtfphapcgjlhieaaDoor
namespace Rows

/-- THE TIED CARD OF 'laws.FnExactGraphOfTree'. -/
def fnExactGraphOfTreeCard : Claim7 := { stood := { row := fnExactGraphOfTreeRow, standIns := [], harness := (true, "cfce777bb670f0509ec415f25afff196cce3df006b8bc28e8c132cac6b8662ce"), looks := false }, kinds := [], alts := [], laidByText := true, laidKinds := [.data], laidTests := true, laidLooks := .later }
def FnExactGraphOfTreeCardSaid : Prop := Claim7.holds Tryd.pinned (.plain (OpenSpec.ofChange fnExactGraphOfTreeSpec)) fnExactGraphOfTreeCard

/-- THE TIED CARD OF 'laws.FnExactQuotientAt'. -/
def fnExactQuotientAtCard : Claim7 := { stood := { row := fnExactQuotientAtRow, standIns := [], harness := (true, "cfce777bb670f0509ec415f25afff196cce3df006b8bc28e8c132cac6b8662ce"), looks := false }, kinds := [], alts := [], laidByText := true, laidKinds := [.data], laidTests := true, laidLooks := .later }
def FnExactQuotientAtCardSaid : Prop := Claim7.holds Tryd.pinned (.plain (OpenSpec.ofChange fnExactQuotientAtSpec)) fnExactQuotientAtCard

/-- THE TIED CARD OF 'laws.FnCoTrees'. -/
def fnCoTreesCard : Claim7 := { stood := { row := fnCoTreesRow, standIns := [], harness := (true, "cfce777bb670f0509ec415f25afff196cce3df006b8bc28e8c132cac6b8662ce"), looks := false }, kinds := [], alts := [], laidByText := true, laidKinds := [.data], laidTests := true, laidLooks := .later }
def FnCoTreesCardSaid : Prop := Claim7.holds Tryd.pinned (.plain (OpenSpec.ofChange fnCoTreesSpec)) fnCoTreesCard

/-- THE TIED CARD OF 'laws.FnMatched'. -/
def fnMatchedCard : Claim7 := { stood := { row := fnMatchedRow, standIns := [], harness := (true, "cfce777bb670f0509ec415f25afff196cce3df006b8bc28e8c132cac6b8662ce"), looks := false }, kinds := [], alts := [], laidByText := true, laidKinds := [.data], laidTests := true, laidLooks := .later }
def FnMatchedCardSaid : Prop := Claim7.holds Tryd.pinned (.plain (OpenSpec.ofChange fnMatchedSpec)) fnMatchedCard

/-- THE SECOND FORM's CARD OF 'laws.FnExactGraphOfTree'. -/
def fnExactGraphOfTreeUptoCard : Claim7 := { stood := { row := fnExactGraphOfTreeUptoRow, standIns := [], harness := (true, "cfce777bb670f0509ec415f25afff196cce3df006b8bc28e8c132cac6b8662ce"), looks := false }, kinds := [], alts := [], laidByText := true, laidKinds := [.data], laidTests := true, laidLooks := .later }
def FnExactGraphOfTreeUptoCardSaid : Prop := Claim7.holds Tryd.pinned (.plain (OpenSpec.upto fnExactGraphOfTreeSpec)) fnExactGraphOfTreeUptoCard

/-- THE SECOND FORM's CARD OF 'laws.FnExactQuotientAt'. -/
def fnExactQuotientAtUptoCard : Claim7 := { stood := { row := fnExactQuotientAtUptoRow, standIns := [], harness := (true, "cfce777bb670f0509ec415f25afff196cce3df006b8bc28e8c132cac6b8662ce"), looks := false }, kinds := [], alts := [], laidByText := true, laidKinds := [.data], laidTests := true, laidLooks := .later }
def FnExactQuotientAtUptoCardSaid : Prop := Claim7.holds Tryd.pinned (.plain (OpenSpec.upto fnExactQuotientAtSpec)) fnExactQuotientAtUptoCard

/-- THE SECOND FORM's CARD OF 'laws.FnCoTrees'. -/
def fnCoTreesUptoCard : Claim7 := { stood := { row := fnCoTreesUptoRow, standIns := [], harness := (true, "cfce777bb670f0509ec415f25afff196cce3df006b8bc28e8c132cac6b8662ce"), looks := false }, kinds := [], alts := [], laidByText := true, laidKinds := [.data], laidTests := true, laidLooks := .later }
def FnCoTreesUptoCardSaid : Prop := Claim7.holds Tryd.pinned (.plain (OpenSpec.upto fnCoTreesSpec)) fnCoTreesUptoCard

/-- THE SECOND FORM's CARD OF 'laws.FnMatched'. -/
def fnMatchedUptoCard : Claim7 := { stood := { row := fnMatchedUptoRow, standIns := [], harness := (true, "cfce777bb670f0509ec415f25afff196cce3df006b8bc28e8c132cac6b8662ce"), looks := false }, kinds := [], alts := [], laidByText := true, laidKinds := [.data], laidTests := true, laidLooks := .later }
def FnMatchedUptoCardSaid : Prop := Claim7.holds Tryd.pinned (.plain (OpenSpec.upto fnMatchedSpec)) fnMatchedUptoCard
end Rows
end Go.Proofs.YtfphapcgjlhieaaDoor
