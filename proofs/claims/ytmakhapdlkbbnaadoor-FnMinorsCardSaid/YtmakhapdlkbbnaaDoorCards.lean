/-
  DERIVED. GIVEN WITH THE SEED: THE CARDS: each row of YtmakhapdlkbbnaaDoorRows.lean that lists a variable, with what it lists TIED to the program's text (the seventh form; the later family's looks); each row that meets fmt, with fmt's text TOLD by the authors' own Lean function (tested against real Go, not proved from fmt's source: count such statements apart). THE CARD IS WHAT COUNTS. Prove the row's statement (the work); the ties are given (YtmakhapdlkbbnaaDoorTie.lean); close each card by the builder's one call (the guide's Derived/Test/ToyasCard.lean, 'card_holds'). Laid BY PROGRAM, IN A SANDBOX (cutbox-door.mjs). By AI agents, Wed Nov 11 2026. No macro, syntax, notation, axiom, sorry.
-/
import Derived.Test.YtmakhapdlkbbnaaDoorRows
import GoSem.ClaimSeven
namespace Go.Proofs.YtmakhapdlkbbnaaDoor
namespace Rows

/-- THE TIED CARD OF 'laws.FnTogether'. -/
def fnTogetherCard : Claim7 := { stood := { row := fnTogetherRow, standIns := [], harness := (true, "e822b80ad2a53aae27200749430efec4da7695f4afecedffe3de1eb0c74db8fb"), looks := false }, kinds := [], alts := [], laidByText := true, laidKinds := [.data], laidTests := true, laidLooks := .later }
def FnTogetherCardSaid : Prop := Claim7.holds Tryd.pinned (.plain (OpenSpec.ofChange fnTogetherSpec)) fnTogetherCard

/-- THE TIED CARD OF 'laws.FnModules'. -/
def fnModulesCard : Claim7 := { stood := { row := fnModulesRow, standIns := [], harness := (true, "e822b80ad2a53aae27200749430efec4da7695f4afecedffe3de1eb0c74db8fb"), looks := false }, kinds := [], alts := [], laidByText := true, laidKinds := [.data], laidTests := true, laidLooks := .later }
def FnModulesCardSaid : Prop := Claim7.holds Tryd.pinned (.plain (OpenSpec.ofChange fnModulesSpec)) fnModulesCard

/-- THE TIED CARD OF 'laws.FnRenamedBack'. -/
def fnRenamedBackCard : Claim7 := { stood := { row := fnRenamedBackRow, standIns := [], harness := (true, "e822b80ad2a53aae27200749430efec4da7695f4afecedffe3de1eb0c74db8fb"), looks := false }, kinds := [], alts := [], laidByText := true, laidKinds := [.data], laidTests := true, laidLooks := .later }
def FnRenamedBackCardSaid : Prop := Claim7.holds Tryd.pinned (.plain (OpenSpec.ofChange fnRenamedBackSpec)) fnRenamedBackCard

/-- THE TIED CARD OF 'laws.FnExactMinorIn'. -/
def fnExactMinorInCard : Claim7 := { stood := { row := fnExactMinorInRow, standIns := [], harness := (true, "e822b80ad2a53aae27200749430efec4da7695f4afecedffe3de1eb0c74db8fb"), looks := false }, kinds := [], alts := [], laidByText := true, laidKinds := [.data], laidTests := true, laidLooks := .later }
def FnExactMinorInCardSaid : Prop := Claim7.holds Tryd.pinned (.plain (OpenSpec.ofChange fnExactMinorInSpec)) fnExactMinorInCard

/-- THE TIED CARD OF 'laws.FnComposedModels'. -/
def fnComposedModelsCard : Claim7 := { stood := { row := fnComposedModelsRow, standIns := [], harness := (true, "e822b80ad2a53aae27200749430efec4da7695f4afecedffe3de1eb0c74db8fb"), looks := false }, kinds := [], alts := [], laidByText := true, laidKinds := [.data], laidTests := true, laidLooks := .later }
def FnComposedModelsCardSaid : Prop := Claim7.holds Tryd.pinned (.plain (OpenSpec.ofChange fnComposedModelsSpec)) fnComposedModelsCard

/-- THE TIED CARD OF 'laws.FnMinors'. -/
def fnMinorsCard : Claim7 := { stood := { row := fnMinorsRow, standIns := [], harness := (true, "e822b80ad2a53aae27200749430efec4da7695f4afecedffe3de1eb0c74db8fb"), looks := false }, kinds := [], alts := [], laidByText := true, laidKinds := [.data], laidTests := true, laidLooks := .later }
def FnMinorsCardSaid : Prop := Claim7.holds Tryd.pinned (.plain (OpenSpec.ofChange fnMinorsSpec)) fnMinorsCard

/-- THE TIED CARD OF 'laws.FnStablesMany'. -/
def fnStablesManyCard : Claim7 := { stood := { row := fnStablesManyRow, standIns := [], harness := (true, "e822b80ad2a53aae27200749430efec4da7695f4afecedffe3de1eb0c74db8fb"), looks := false }, kinds := [], alts := [], laidByText := true, laidKinds := [.data], laidTests := true, laidLooks := .later }
def FnStablesManyCardSaid : Prop := Claim7.holds Tryd.pinned (.plain (OpenSpec.ofChange fnStablesManySpec)) fnStablesManyCard

/-- THE TIED CARD OF 'laws.FnStables'. -/
def fnStablesCard : Claim7 := { stood := { row := fnStablesRow, standIns := [], harness := (true, "e822b80ad2a53aae27200749430efec4da7695f4afecedffe3de1eb0c74db8fb"), looks := false }, kinds := [], alts := [], laidByText := true, laidKinds := [.data], laidTests := true, laidLooks := .later }
def FnStablesCardSaid : Prop := Claim7.holds Tryd.pinned (.plain (OpenSpec.ofChange fnStablesSpec)) fnStablesCard

/-- THE SECOND FORM's CARD OF 'laws.FnTogether'. -/
def fnTogetherUptoCard : Claim7 := { stood := { row := fnTogetherUptoRow, standIns := [], harness := (true, "e822b80ad2a53aae27200749430efec4da7695f4afecedffe3de1eb0c74db8fb"), looks := false }, kinds := [], alts := [], laidByText := true, laidKinds := [.data], laidTests := true, laidLooks := .later }
def FnTogetherUptoCardSaid : Prop := Claim7.holds Tryd.pinned (.plain (OpenSpec.upto fnTogetherSpec)) fnTogetherUptoCard

/-- THE SECOND FORM's CARD OF 'laws.FnModules'. -/
def fnModulesUptoCard : Claim7 := { stood := { row := fnModulesUptoRow, standIns := [], harness := (true, "e822b80ad2a53aae27200749430efec4da7695f4afecedffe3de1eb0c74db8fb"), looks := false }, kinds := [], alts := [], laidByText := true, laidKinds := [.data], laidTests := true, laidLooks := .later }
def FnModulesUptoCardSaid : Prop := Claim7.holds Tryd.pinned (.plain (OpenSpec.upto fnModulesSpec)) fnModulesUptoCard

/-- THE SECOND FORM's CARD OF 'laws.FnRenamedBack'. -/
def fnRenamedBackUptoCard : Claim7 := { stood := { row := fnRenamedBackUptoRow, standIns := [], harness := (true, "e822b80ad2a53aae27200749430efec4da7695f4afecedffe3de1eb0c74db8fb"), looks := false }, kinds := [], alts := [], laidByText := true, laidKinds := [.data], laidTests := true, laidLooks := .later }
def FnRenamedBackUptoCardSaid : Prop := Claim7.holds Tryd.pinned (.plain (OpenSpec.upto fnRenamedBackSpec)) fnRenamedBackUptoCard

/-- THE SECOND FORM's CARD OF 'laws.FnExactMinorIn'. -/
def fnExactMinorInUptoCard : Claim7 := { stood := { row := fnExactMinorInUptoRow, standIns := [], harness := (true, "e822b80ad2a53aae27200749430efec4da7695f4afecedffe3de1eb0c74db8fb"), looks := false }, kinds := [], alts := [], laidByText := true, laidKinds := [.data], laidTests := true, laidLooks := .later }
def FnExactMinorInUptoCardSaid : Prop := Claim7.holds Tryd.pinned (.plain (OpenSpec.upto fnExactMinorInSpec)) fnExactMinorInUptoCard

/-- THE SECOND FORM's CARD OF 'laws.FnComposedModels'. -/
def fnComposedModelsUptoCard : Claim7 := { stood := { row := fnComposedModelsUptoRow, standIns := [], harness := (true, "e822b80ad2a53aae27200749430efec4da7695f4afecedffe3de1eb0c74db8fb"), looks := false }, kinds := [], alts := [], laidByText := true, laidKinds := [.data], laidTests := true, laidLooks := .later }
def FnComposedModelsUptoCardSaid : Prop := Claim7.holds Tryd.pinned (.plain (OpenSpec.upto fnComposedModelsSpec)) fnComposedModelsUptoCard

/-- THE SECOND FORM's CARD OF 'laws.FnMinors'. -/
def fnMinorsUptoCard : Claim7 := { stood := { row := fnMinorsUptoRow, standIns := [], harness := (true, "e822b80ad2a53aae27200749430efec4da7695f4afecedffe3de1eb0c74db8fb"), looks := false }, kinds := [], alts := [], laidByText := true, laidKinds := [.data], laidTests := true, laidLooks := .later }
def FnMinorsUptoCardSaid : Prop := Claim7.holds Tryd.pinned (.plain (OpenSpec.upto fnMinorsSpec)) fnMinorsUptoCard

/-- THE SECOND FORM's CARD OF 'laws.FnStablesMany'. -/
def fnStablesManyUptoCard : Claim7 := { stood := { row := fnStablesManyUptoRow, standIns := [], harness := (true, "e822b80ad2a53aae27200749430efec4da7695f4afecedffe3de1eb0c74db8fb"), looks := false }, kinds := [], alts := [], laidByText := true, laidKinds := [.data], laidTests := true, laidLooks := .later }
def FnStablesManyUptoCardSaid : Prop := Claim7.holds Tryd.pinned (.plain (OpenSpec.upto fnStablesManySpec)) fnStablesManyUptoCard

/-- THE SECOND FORM's CARD OF 'laws.FnStables'. -/
def fnStablesUptoCard : Claim7 := { stood := { row := fnStablesUptoRow, standIns := [], harness := (true, "e822b80ad2a53aae27200749430efec4da7695f4afecedffe3de1eb0c74db8fb"), looks := false }, kinds := [], alts := [], laidByText := true, laidKinds := [.data], laidTests := true, laidLooks := .later }
def FnStablesUptoCardSaid : Prop := Claim7.holds Tryd.pinned (.plain (OpenSpec.upto fnStablesSpec)) fnStablesUptoCard
end Rows
end Go.Proofs.YtmakhapdlkbbnaaDoor
