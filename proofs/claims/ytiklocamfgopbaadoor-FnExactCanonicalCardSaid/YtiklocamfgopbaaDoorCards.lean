/-
  DERIVED. GIVEN WITH THE SEED: THE CARDS: each row of YtiklocamfgopbaaDoorRows.lean that lists a variable, with what it lists TIED to the program's text (the seventh form; the later family's looks); each row that meets fmt, with fmt's text TOLD by the authors' own Lean function (tested against real Go, not proved from fmt's source: count such statements apart). THE CARD IS WHAT COUNTS. Prove the row's statement (the work); the ties are given (YtiklocamfgopbaaDoorTie.lean); close each card by the builder's one call (the guide's Derived/Test/ToyasCard.lean, 'card_holds'). Laid BY PROGRAM, IN A SANDBOX (cutbox-door.mjs). By AI agents, Wed Nov 11 2026. No macro, syntax, notation, axiom, sorry.
-/
import Derived.Test.YtiklocamfgopbaaDoorRows
import GoSem.ClaimSeven
namespace Go.Proofs.YtiklocamfgopbaaDoor
namespace Rows

/-- THE TIED CARD OF 'laws.FnExactFourModel'. -/
def fnExactFourModelCard : Claim7 := { stood := { row := fnExactFourModelRow, standIns := [], harness := (true, "aa16107b8f05691aafa3249566883ffc520d250ecf83940e66f08db0217aede9"), looks := false }, kinds := [], alts := [], laidByText := true, laidKinds := [.data], laidTests := true, laidLooks := .later }
def FnExactFourModelCardSaid : Prop := Claim7.holds Tryd.pinned (.plain (OpenSpec.ofChange fnExactFourModelSpec)) fnExactFourModelCard

/-- THE TIED CARD OF 'laws.FnExactCanonical'. -/
def fnExactCanonicalCard : Claim7 := { stood := { row := fnExactCanonicalRow, standIns := [], harness := (true, "aa16107b8f05691aafa3249566883ffc520d250ecf83940e66f08db0217aede9"), looks := false }, kinds := [], alts := [], laidByText := true, laidKinds := [.data], laidTests := true, laidLooks := .later }
def FnExactCanonicalCardSaid : Prop := Claim7.holds Tryd.pinned (.plain (OpenSpec.ofChange fnExactCanonicalSpec)) fnExactCanonicalCard

/-- THE SECOND FORM's CARD OF 'laws.FnExactFourModel'. -/
def fnExactFourModelUptoCard : Claim7 := { stood := { row := fnExactFourModelUptoRow, standIns := [], harness := (true, "aa16107b8f05691aafa3249566883ffc520d250ecf83940e66f08db0217aede9"), looks := false }, kinds := [], alts := [], laidByText := true, laidKinds := [.data], laidTests := true, laidLooks := .later }
def FnExactFourModelUptoCardSaid : Prop := Claim7.holds Tryd.pinned (.plain (OpenSpec.upto fnExactFourModelSpec)) fnExactFourModelUptoCard

/-- THE SECOND FORM's CARD OF 'laws.FnExactCanonical'. -/
def fnExactCanonicalUptoCard : Claim7 := { stood := { row := fnExactCanonicalUptoRow, standIns := [], harness := (true, "aa16107b8f05691aafa3249566883ffc520d250ecf83940e66f08db0217aede9"), looks := false }, kinds := [], alts := [], laidByText := true, laidKinds := [.data], laidTests := true, laidLooks := .later }
def FnExactCanonicalUptoCardSaid : Prop := Claim7.holds Tryd.pinned (.plain (OpenSpec.upto fnExactCanonicalSpec)) fnExactCanonicalUptoCard
end Rows
end Go.Proofs.YtiklocamfgopbaaDoor
