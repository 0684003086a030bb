/-
  DERIVED. GIVEN WITH THE SEED: THE CARDS: each row of YtiooindlpinjhaaDoorRows.lean that lists a variable, with what it lists TIED to the program's text (the seventh form; the later family's looks); each row that meets fmt, with fmt's text TOLD by the authors' own Lean function (tested against real Go, not proved from fmt's source: count such statements apart). THE CARD IS WHAT COUNTS. Prove the row's statement (the work); the ties are given (YtiooindlpinjhaaDoorTie.lean); close each card by the builder's one call (the guide's Derived/Test/ToyasCard.lean, 'card_holds'). Laid BY PROGRAM, IN A SANDBOX (cutbox-door.mjs). By AI agents, Wed Nov 11 2026. No macro, syntax, notation, axiom, sorry.
-/
import Derived.Test.YtiooindlpinjhaaDoorRows
import GoSem.ClaimSeven
namespace Go.Proofs.YtiooindlpinjhaaDoor
namespace Rows

/-- THE TIED CARD OF 'laws.FnExactBarrierOf'. -/
def fnExactBarrierOfCard : Claim7 := { stood := { row := fnExactBarrierOfRow, standIns := [], harness := (true, "70d45ddee5d9dc3f9c393c73fe12b4ab24c444635a35bc1645af3185b062c52e"), looks := false }, kinds := [], alts := [], laidByText := true, laidKinds := [.data], laidTests := true, laidLooks := .later }
def FnExactBarrierOfCardSaid : Prop := Claim7.holds Tryd.pinned (.plain (OpenSpec.ofChange fnExactBarrierOfSpec)) fnExactBarrierOfCard

/-- THE TIED CARD OF 'laws.FnMatched'. -/
def fnMatchedCard : Claim7 := { stood := { row := fnMatchedRow, standIns := [], harness := (true, "70d45ddee5d9dc3f9c393c73fe12b4ab24c444635a35bc1645af3185b062c52e"), looks := false }, kinds := [], alts := [], laidByText := true, laidKinds := [.data], laidTests := true, laidLooks := .later }
def FnMatchedCardSaid : Prop := Claim7.holds Tryd.pinned (.plain (OpenSpec.ofChange fnMatchedSpec)) fnMatchedCard

/-- THE TIED CARD OF 'laws.FnExactBestBramble'. -/
def fnExactBestBrambleCard : Claim7 := { stood := { row := fnExactBestBrambleRow, standIns := [], harness := (true, "70d45ddee5d9dc3f9c393c73fe12b4ab24c444635a35bc1645af3185b062c52e"), looks := false }, kinds := [], alts := [], laidByText := true, laidKinds := [.data], laidTests := true, laidLooks := .later }
def FnExactBestBrambleCardSaid : Prop := Claim7.holds Tryd.pinned (.plain (OpenSpec.ofChange fnExactBestBrambleSpec)) fnExactBestBrambleCard

/-- THE TIED CARD OF 'laws.FnWidthLess'. -/
def fnWidthLessCard : Claim7 := { stood := { row := fnWidthLessRow, standIns := [], harness := (true, "70d45ddee5d9dc3f9c393c73fe12b4ab24c444635a35bc1645af3185b062c52e"), looks := false }, kinds := [], alts := [], laidByText := true, laidKinds := [.data], laidTests := true, laidLooks := .later }
def FnWidthLessCardSaid : Prop := Claim7.holds Tryd.pinned (.plain (OpenSpec.ofChange fnWidthLessSpec)) fnWidthLessCard

/-- THE SECOND FORM's CARD OF 'laws.FnExactBarrierOf'. -/
def fnExactBarrierOfUptoCard : Claim7 := { stood := { row := fnExactBarrierOfUptoRow, standIns := [], harness := (true, "70d45ddee5d9dc3f9c393c73fe12b4ab24c444635a35bc1645af3185b062c52e"), looks := false }, kinds := [], alts := [], laidByText := true, laidKinds := [.data], laidTests := true, laidLooks := .later }
def FnExactBarrierOfUptoCardSaid : Prop := Claim7.holds Tryd.pinned (.plain (OpenSpec.upto fnExactBarrierOfSpec)) fnExactBarrierOfUptoCard

/-- THE SECOND FORM's CARD OF 'laws.FnMatched'. -/
def fnMatchedUptoCard : Claim7 := { stood := { row := fnMatchedUptoRow, standIns := [], harness := (true, "70d45ddee5d9dc3f9c393c73fe12b4ab24c444635a35bc1645af3185b062c52e"), looks := false }, kinds := [], alts := [], laidByText := true, laidKinds := [.data], laidTests := true, laidLooks := .later }
def FnMatchedUptoCardSaid : Prop := Claim7.holds Tryd.pinned (.plain (OpenSpec.upto fnMatchedSpec)) fnMatchedUptoCard

/-- THE SECOND FORM's CARD OF 'laws.FnExactBestBramble'. -/
def fnExactBestBrambleUptoCard : Claim7 := { stood := { row := fnExactBestBrambleUptoRow, standIns := [], harness := (true, "70d45ddee5d9dc3f9c393c73fe12b4ab24c444635a35bc1645af3185b062c52e"), looks := false }, kinds := [], alts := [], laidByText := true, laidKinds := [.data], laidTests := true, laidLooks := .later }
def FnExactBestBrambleUptoCardSaid : Prop := Claim7.holds Tryd.pinned (.plain (OpenSpec.upto fnExactBestBrambleSpec)) fnExactBestBrambleUptoCard

/-- THE SECOND FORM's CARD OF 'laws.FnWidthLess'. -/
def fnWidthLessUptoCard : Claim7 := { stood := { row := fnWidthLessUptoRow, standIns := [], harness := (true, "70d45ddee5d9dc3f9c393c73fe12b4ab24c444635a35bc1645af3185b062c52e"), looks := false }, kinds := [], alts := [], laidByText := true, laidKinds := [.data], laidTests := true, laidLooks := .later }
def FnWidthLessUptoCardSaid : Prop := Claim7.holds Tryd.pinned (.plain (OpenSpec.upto fnWidthLessSpec)) fnWidthLessUptoCard
end Rows
end Go.Proofs.YtiooindlpinjhaaDoor
