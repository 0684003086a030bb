/-
  DERIVED. GIVEN WITH THE SEED: THE CARDS: each row of YtkppbmfliejnmaaDoorRows.lean that lists a variable, with what it lists TIED to the program's text (the seventh form; the later family's looks); each row that meets fmt, with fmt's text TOLD by the authors' own Lean function (tested against real Go, not proved from fmt's source: count such statements apart). THE CARD IS WHAT COUNTS. Prove the row's statement (the work); the ties are given (YtkppbmfliejnmaaDoorTie.lean); close each card by the builder's one call (the guide's Derived/Test/ToyasCard.lean, 'card_holds'). Laid BY PROGRAM, IN A SANDBOX (cutbox-door.mjs). By AI agents, Wed Nov 11 2026. No macro, syntax, notation, axiom, sorry.
-/
import Derived.Test.YtkppbmfliejnmaaDoorRows
import GoSem.ClaimSeven
namespace Go.Proofs.YtkppbmfliejnmaaDoor
namespace Rows

/-- THE TIED CARD OF 'laws.FnStables'. -/
def fnStablesCard : Claim7 := { stood := { row := fnStablesRow, standIns := [], harness := (true, "80f2182316841b576a182e00390b0664917ceeda92697838fd7e97b264cff40a"), looks := false }, kinds := [], alts := [], laidByText := true, laidKinds := [.data], laidTests := true, laidLooks := .later }
def FnStablesCardSaid : Prop := Claim7.holds Tryd.pinned (.plain (OpenSpec.ofChange fnStablesSpec)) fnStablesCard

/-- THE TIED CARD OF 'laws.FnStablesMany'. -/
def fnStablesManyCard : Claim7 := { stood := { row := fnStablesManyRow, standIns := [], harness := (true, "80f2182316841b576a182e00390b0664917ceeda92697838fd7e97b264cff40a"), looks := false }, kinds := [], alts := [], laidByText := true, laidKinds := [.data], laidTests := true, laidLooks := .later }
def FnStablesManyCardSaid : Prop := Claim7.holds Tryd.pinned (.plain (OpenSpec.ofChange fnStablesManySpec)) fnStablesManyCard

/-- THE TIED CARD OF 'laws.FnRenamedBack'. -/
def fnRenamedBackCard : Claim7 := { stood := { row := fnRenamedBackRow, standIns := [], harness := (true, "80f2182316841b576a182e00390b0664917ceeda92697838fd7e97b264cff40a"), looks := false }, kinds := [], alts := [], laidByText := true, laidKinds := [.data], laidTests := true, laidLooks := .later }
def FnRenamedBackCardSaid : Prop := Claim7.holds Tryd.pinned (.plain (OpenSpec.ofChange fnRenamedBackSpec)) fnRenamedBackCard

/-- THE TIED CARD OF 'laws.FnCanon'. -/
def fnCanonCard : Claim7 := { stood := { row := fnCanonRow, standIns := [], harness := (true, "80f2182316841b576a182e00390b0664917ceeda92697838fd7e97b264cff40a"), looks := false }, kinds := [], alts := [], laidByText := true, laidKinds := [.data], laidTests := true, laidLooks := .later }
def FnCanonCardSaid : Prop := Claim7.holds Tryd.pinned (.plain (OpenSpec.ofChange fnCanonSpec)) fnCanonCard

/-- THE TIED CARD OF 'laws.FnMade'. -/
def fnMadeCard : Claim7 := { stood := { row := fnMadeRow, standIns := [], harness := (true, "80f2182316841b576a182e00390b0664917ceeda92697838fd7e97b264cff40a"), looks := false }, kinds := [], alts := [], laidByText := true, laidKinds := [.data], laidTests := true, laidLooks := .later }
def FnMadeCardSaid : Prop := Claim7.holds Tryd.pinned (.plain (OpenSpec.ofChange fnMadeSpec)) fnMadeCard

/-- THE TIED CARD OF 'laws.FnKnown'. -/
def fnKnownCard : Claim7 := { stood := { row := fnKnownRow, standIns := [], harness := (true, "80f2182316841b576a182e00390b0664917ceeda92697838fd7e97b264cff40a"), looks := false }, kinds := [], alts := [], laidByText := true, laidKinds := [.data], laidTests := true, laidLooks := .later }
def FnKnownCardSaid : Prop := Claim7.holds Tryd.pinned (.plain (OpenSpec.ofChange fnKnownSpec)) fnKnownCard

/-- THE TIED CARD OF 'laws.FnLoops'. -/
def fnLoopsCard : Claim7 := { stood := { row := fnLoopsRow, standIns := [], harness := (true, "80f2182316841b576a182e00390b0664917ceeda92697838fd7e97b264cff40a"), looks := false }, kinds := [], alts := [], laidByText := true, laidKinds := [.data], laidTests := true, laidLooks := .later }
def FnLoopsCardSaid : Prop := Claim7.holds Tryd.pinned (.plain (OpenSpec.ofChange fnLoopsSpec)) fnLoopsCard

/-- THE TIED CARD OF 'laws.FnBlocks'. -/
def fnBlocksCard : Claim7 := { stood := { row := fnBlocksRow, standIns := [], harness := (true, "80f2182316841b576a182e00390b0664917ceeda92697838fd7e97b264cff40a"), looks := false }, kinds := [], alts := [], laidByText := true, laidKinds := [.data], laidTests := true, laidLooks := .later }
def FnBlocksCardSaid : Prop := Claim7.holds Tryd.pinned (.plain (OpenSpec.ofChange fnBlocksSpec)) fnBlocksCard

/-- THE SECOND FORM's CARD OF 'laws.FnStables'. -/
def fnStablesUptoCard : Claim7 := { stood := { row := fnStablesUptoRow, standIns := [], harness := (true, "80f2182316841b576a182e00390b0664917ceeda92697838fd7e97b264cff40a"), looks := false }, kinds := [], alts := [], laidByText := true, laidKinds := [.data], laidTests := true, laidLooks := .later }
def FnStablesUptoCardSaid : Prop := Claim7.holds Tryd.pinned (.plain (OpenSpec.upto fnStablesSpec)) fnStablesUptoCard

/-- THE SECOND FORM's CARD OF 'laws.FnStablesMany'. -/
def fnStablesManyUptoCard : Claim7 := { stood := { row := fnStablesManyUptoRow, standIns := [], harness := (true, "80f2182316841b576a182e00390b0664917ceeda92697838fd7e97b264cff40a"), looks := false }, kinds := [], alts := [], laidByText := true, laidKinds := [.data], laidTests := true, laidLooks := .later }
def FnStablesManyUptoCardSaid : Prop := Claim7.holds Tryd.pinned (.plain (OpenSpec.upto fnStablesManySpec)) fnStablesManyUptoCard

/-- THE SECOND FORM's CARD OF 'laws.FnRenamedBack'. -/
def fnRenamedBackUptoCard : Claim7 := { stood := { row := fnRenamedBackUptoRow, standIns := [], harness := (true, "80f2182316841b576a182e00390b0664917ceeda92697838fd7e97b264cff40a"), looks := false }, kinds := [], alts := [], laidByText := true, laidKinds := [.data], laidTests := true, laidLooks := .later }
def FnRenamedBackUptoCardSaid : Prop := Claim7.holds Tryd.pinned (.plain (OpenSpec.upto fnRenamedBackSpec)) fnRenamedBackUptoCard

/-- THE SECOND FORM's CARD OF 'laws.FnCanon'. -/
def fnCanonUptoCard : Claim7 := { stood := { row := fnCanonUptoRow, standIns := [], harness := (true, "80f2182316841b576a182e00390b0664917ceeda92697838fd7e97b264cff40a"), looks := false }, kinds := [], alts := [], laidByText := true, laidKinds := [.data], laidTests := true, laidLooks := .later }
def FnCanonUptoCardSaid : Prop := Claim7.holds Tryd.pinned (.plain (OpenSpec.upto fnCanonSpec)) fnCanonUptoCard

/-- THE SECOND FORM's CARD OF 'laws.FnMade'. -/
def fnMadeUptoCard : Claim7 := { stood := { row := fnMadeUptoRow, standIns := [], harness := (true, "80f2182316841b576a182e00390b0664917ceeda92697838fd7e97b264cff40a"), looks := false }, kinds := [], alts := [], laidByText := true, laidKinds := [.data], laidTests := true, laidLooks := .later }
def FnMadeUptoCardSaid : Prop := Claim7.holds Tryd.pinned (.plain (OpenSpec.upto fnMadeSpec)) fnMadeUptoCard

/-- THE SECOND FORM's CARD OF 'laws.FnKnown'. -/
def fnKnownUptoCard : Claim7 := { stood := { row := fnKnownUptoRow, standIns := [], harness := (true, "80f2182316841b576a182e00390b0664917ceeda92697838fd7e97b264cff40a"), looks := false }, kinds := [], alts := [], laidByText := true, laidKinds := [.data], laidTests := true, laidLooks := .later }
def FnKnownUptoCardSaid : Prop := Claim7.holds Tryd.pinned (.plain (OpenSpec.upto fnKnownSpec)) fnKnownUptoCard

/-- THE SECOND FORM's CARD OF 'laws.FnLoops'. -/
def fnLoopsUptoCard : Claim7 := { stood := { row := fnLoopsUptoRow, standIns := [], harness := (true, "80f2182316841b576a182e00390b0664917ceeda92697838fd7e97b264cff40a"), looks := false }, kinds := [], alts := [], laidByText := true, laidKinds := [.data], laidTests := true, laidLooks := .later }
def FnLoopsUptoCardSaid : Prop := Claim7.holds Tryd.pinned (.plain (OpenSpec.upto fnLoopsSpec)) fnLoopsUptoCard

/-- THE SECOND FORM's CARD OF 'laws.FnBlocks'. -/
def fnBlocksUptoCard : Claim7 := { stood := { row := fnBlocksUptoRow, standIns := [], harness := (true, "80f2182316841b576a182e00390b0664917ceeda92697838fd7e97b264cff40a"), looks := false }, kinds := [], alts := [], laidByText := true, laidKinds := [.data], laidTests := true, laidLooks := .later }
def FnBlocksUptoCardSaid : Prop := Claim7.holds Tryd.pinned (.plain (OpenSpec.upto fnBlocksSpec)) fnBlocksUptoCard
end Rows
end Go.Proofs.YtkppbmfliejnmaaDoor
