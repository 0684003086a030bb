/-
  NARROWER THAN 'FOR EVERY INPUT', by the rows' own cells (each row's printed sentence says how): FnExactBarrierOf: laid · FnMatched: laid · FnExactBestBramble: laid · FnWidthLess: laid.
  DERIVED. THE GIVEN ROWS OF THIS SEAT. 4 by the template 'for every input the law returns true; each argument reads behind the call as it read before'; 0 by the template 'total and deterministic' (their statements: YtiooindlpinjhaaDoorTotals.lean).
  GIVEN WITH THE SEED: the statements are not yours to turn. If you find one false, say at which input.
  Laid BY PROGRAM, IN A SANDBOX (cutbox-rows.mjs): the forced cells as the released guide's own fill.sh prints them over the translation 4c1fada9392563e2… (all of the seat's roots in one cut). By AI agents, Wed Nov 11 2026. No macro, syntax, notation, axiom, sorry.
-/
import Derived.Test.YtiooindlpinjhaaDoorChecked
import GoSem.Claim
import GoSem.ClaimJoined
import GoSem.ClaimMapViews
import Derived.JoinedTies
import Derived.KernelRfl
namespace Go.Proofs.YtiooindlpinjhaaDoor
/- THE CELL 'sum', in the pinned program and in every row, IS THE sha256 OF THE DUMP (.gsa) THAT YtiooindlpinjhaaDoorProg.lean LOADS. Nothing in Lean hashes anything: it is a label: what it is worth is what the hold of that sum in a sandbox is worth. -/
noncomputable def Tryd.pinned : Pinned := { name := "ytiooindlpinjhaadoor", sum := "4c1fada9392563e2ff869600f68f2a65a0e22a1381178dc8a50df07848792227", checked := Tryd.checked }
namespace Rows
def none {H : Type} : Left H := { results := [], args := [] }

/- WHAT THE LISTED PACKAGE-LEVEL VARIABLES READ AS WHEN THE CALL BEGINS. Each datum BY PROGRAM (the guide's laid-datum.mjs) off the statement by which the dump's own 'gosem.cut.vars' lays the variable. In a bare row this is a premise. The card (YtiooindlpinjhaaDoorCards.lean) ties it to the program's text. -/
def laid_math_bits_deBruijn32tab {H : Type} : DataW H := .agg [.lit (.int .u8 0), .lit (.int .u8 1), .lit (.int .u8 28), .lit (.int .u8 2), .lit (.int .u8 29), .lit (.int .u8 14), .lit (.int .u8 24), .lit (.int .u8 3), .lit (.int .u8 30), .lit (.int .u8 22), .lit (.int .u8 20), .lit (.int .u8 15), .lit (.int .u8 25), .lit (.int .u8 17), .lit (.int .u8 4), .lit (.int .u8 8), .lit (.int .u8 31), .lit (.int .u8 27), .lit (.int .u8 13), .lit (.int .u8 23), .lit (.int .u8 21), .lit (.int .u8 19), .lit (.int .u8 16), .lit (.int .u8 7), .lit (.int .u8 26), .lit (.int .u8 12), .lit (.int .u8 18), .lit (.int .u8 6), .lit (.int .u8 11), .lit (.int .u8 5), .lit (.int .u8 10), .lit (.int .u8 9)]

/-- 'laws.FnExactBarrierOf': WHATEVER THE INPUT: true; the input reads as it did. -/
def fnExactBarrierOfSpec : ChangeSpec := { name := "fnExactBarrierOf", fn := fun _ => fun
  | [d] => { results := [.lit (.bool true)], args := [d] }
  | _ => none }
def fnExactBarrierOfRow : OpenClaim := { program := "ytiooindlpinjhaadoor", sum := "4c1fada9392563e2ff869600f68f2a65a0e22a1381178dc8a50df07848792227", func := "loop.example/g00871/laws.FnExactBarrierOf", spec := "fnExactBarrierOf", unfollowed := true, recurses := true, named := ["math/bits.deBruijn32tab"], apart := false, laid := [("math/bits.deBruijn32tab", laid_math_bits_deBruijn32tab)] }
def FnExactBarrierOfSaid : Prop := fnExactBarrierOfRow.holds Tryd.pinned (OpenSpec.ofChange fnExactBarrierOfSpec)

/-- ITS FALSE NEIGHBOUR: 'it returns false'. Refute it at one input. -/
def fnExactBarrierOfWrong : ChangeSpec := { name := "fnExactBarrierOf", fn := fun _ => fun
  | [d] => { results := [.lit (.bool false)], args := [d] }
  | _ => none }
def FnExactBarrierOfWrongFalsely : Prop := fnExactBarrierOfRow.holds Tryd.pinned (OpenSpec.ofChange fnExactBarrierOfWrong)

/-- 'laws.FnMatched': WHATEVER THE INPUT: true; the input reads as it did. -/
def fnMatchedSpec : ChangeSpec := { name := "fnMatched", fn := fun _ => fun
  | [d] => { results := [.lit (.bool true)], args := [d] }
  | _ => none }
def fnMatchedRow : OpenClaim := { program := "ytiooindlpinjhaadoor", sum := "4c1fada9392563e2ff869600f68f2a65a0e22a1381178dc8a50df07848792227", func := "loop.example/g00871/laws.FnMatched", spec := "fnMatched", unfollowed := true, recurses := true, named := ["math/bits.deBruijn32tab"], apart := false, laid := [("math/bits.deBruijn32tab", laid_math_bits_deBruijn32tab)] }
def FnMatchedSaid : Prop := fnMatchedRow.holds Tryd.pinned (OpenSpec.ofChange fnMatchedSpec)

/-- ITS FALSE NEIGHBOUR: 'it returns false'. Refute it at one input. -/
def fnMatchedWrong : ChangeSpec := { name := "fnMatched", fn := fun _ => fun
  | [d] => { results := [.lit (.bool false)], args := [d] }
  | _ => none }
def FnMatchedWrongFalsely : Prop := fnMatchedRow.holds Tryd.pinned (OpenSpec.ofChange fnMatchedWrong)

/-- 'laws.FnExactBestBramble': WHATEVER THE INPUT: true; the input reads as it did. -/
def fnExactBestBrambleSpec : ChangeSpec := { name := "fnExactBestBramble", fn := fun _ => fun
  | [d] => { results := [.lit (.bool true)], args := [d] }
  | _ => none }
def fnExactBestBrambleRow : OpenClaim := { program := "ytiooindlpinjhaadoor", sum := "4c1fada9392563e2ff869600f68f2a65a0e22a1381178dc8a50df07848792227", func := "loop.example/g00871/laws.FnExactBestBramble", spec := "fnExactBestBramble", unfollowed := true, recurses := true, named := ["math/bits.deBruijn32tab"], apart := false, laid := [("math/bits.deBruijn32tab", laid_math_bits_deBruijn32tab)] }
def FnExactBestBrambleSaid : Prop := fnExactBestBrambleRow.holds Tryd.pinned (OpenSpec.ofChange fnExactBestBrambleSpec)

/-- ITS FALSE NEIGHBOUR: 'it returns false'. Refute it at one input. -/
def fnExactBestBrambleWrong : ChangeSpec := { name := "fnExactBestBramble", fn := fun _ => fun
  | [d] => { results := [.lit (.bool false)], args := [d] }
  | _ => none }
def FnExactBestBrambleWrongFalsely : Prop := fnExactBestBrambleRow.holds Tryd.pinned (OpenSpec.ofChange fnExactBestBrambleWrong)

/-- 'laws.FnWidthLess': WHATEVER THE INPUT: true; the input reads as it did. -/
def fnWidthLessSpec : ChangeSpec := { name := "fnWidthLess", fn := fun _ => fun
  | [d] => { results := [.lit (.bool true)], args := [d] }
  | _ => none }
def fnWidthLessRow : OpenClaim := { program := "ytiooindlpinjhaadoor", sum := "4c1fada9392563e2ff869600f68f2a65a0e22a1381178dc8a50df07848792227", func := "loop.example/g00871/laws.FnWidthLess", spec := "fnWidthLess", recurses := true, named := ["math/bits.deBruijn32tab"], apart := false, laid := [("math/bits.deBruijn32tab", laid_math_bits_deBruijn32tab)] }
def FnWidthLessSaid : Prop := fnWidthLessRow.holds Tryd.pinned (OpenSpec.ofChange fnWidthLessSpec)

/-- ITS FALSE NEIGHBOUR: 'it returns false'. Refute it at one input. -/
def fnWidthLessWrong : ChangeSpec := { name := "fnWidthLess", fn := fun _ => fun
  | [d] => { results := [.lit (.bool false)], args := [d] }
  | _ => none }
def FnWidthLessWrongFalsely : Prop := fnWidthLessRow.holds Tryd.pinned (OpenSpec.ofChange fnWidthLessWrong)

/- THE SECOND FORM. 'bulk': how many values and letters a reading holds, each counted each time it is reached (what is shared counts as often as it is met; a slice's spare places count too). A statement '..UptoSaid' is the law's where the arguments, and the package variables that the reading takes, are together of bulk at most 1048576: NARROWER than '..Said'. Prove '..Said' where nothing that the law and all that it calls make is longer than what came in: it says more and counts as full. Else prove '..UptoSaid'. A law counts once. -/
mutual
def uptoBulk {H : Type} : DataW H → Nat
  | .lit (.string bytes) => bytes.length + 1
  | .lit _ => 1
  | .nil => 1
  | .ptr d => uptoBulk d + 1
  | .slice elems spare => uptoBulkAll elems + uptoBulkAll spare + 1
  | .agg parts => uptoBulkAll parts + 1
  | .iface _ d => uptoBulk d + 1
  | .map entries => uptoBulkEntries entries + 1
  | .held _ => 1
def uptoBulkAll {H : Type} : List (DataW H) → Nat
  | [] => 0
  | d :: r => uptoBulk d + uptoBulkAll r
def uptoBulkEntries {H : Type} : List (Lit × DataW H) → Nat
  | [] => 0
  | x :: r => uptoBulkEntry x + uptoBulkEntries r
def uptoBulkEntry {H : Type} : Lit × DataW H → Nat
  | (.string bytes, d) => bytes.length + uptoBulk d + 1
  | (_, d) => uptoBulk d + 1
 end
def uptoSmall : (H : Type) → List (DataW H) → Bool := fun _ ds => decide (uptoBulkAll ds ≤ 1048576)
def OpenSpec.upto (s : _root_.Go.ChangeSpec) : _root_.Go.OpenSpec := { _root_.Go.OpenSpec.ofChange s with cond := some uptoSmall }

/-- 'laws.FnExactBarrierOf', WHERE WHAT IT READS IS OF BULK AT MOST 1048576: true; the input reads as it did. -/
def fnExactBarrierOfUptoRow : OpenClaim := { program := "ytiooindlpinjhaadoor", sum := "4c1fada9392563e2ff869600f68f2a65a0e22a1381178dc8a50df07848792227", func := "loop.example/g00871/laws.FnExactBarrierOf", spec := "fnExactBarrierOf", unfollowed := true, recurses := true, named := ["math/bits.deBruijn32tab"], apart := false, laid := [("math/bits.deBruijn32tab", laid_math_bits_deBruijn32tab)], narrowed := true }
def FnExactBarrierOfUptoSaid : Prop := fnExactBarrierOfUptoRow.holds Tryd.pinned (OpenSpec.upto fnExactBarrierOfSpec)

/-- 'laws.FnMatched', WHERE WHAT IT READS IS OF BULK AT MOST 1048576: true; the input reads as it did. -/
def fnMatchedUptoRow : OpenClaim := { program := "ytiooindlpinjhaadoor", sum := "4c1fada9392563e2ff869600f68f2a65a0e22a1381178dc8a50df07848792227", func := "loop.example/g00871/laws.FnMatched", spec := "fnMatched", unfollowed := true, recurses := true, named := ["math/bits.deBruijn32tab"], apart := false, laid := [("math/bits.deBruijn32tab", laid_math_bits_deBruijn32tab)], narrowed := true }
def FnMatchedUptoSaid : Prop := fnMatchedUptoRow.holds Tryd.pinned (OpenSpec.upto fnMatchedSpec)

/-- 'laws.FnExactBestBramble', WHERE WHAT IT READS IS OF BULK AT MOST 1048576: true; the input reads as it did. -/
def fnExactBestBrambleUptoRow : OpenClaim := { program := "ytiooindlpinjhaadoor", sum := "4c1fada9392563e2ff869600f68f2a65a0e22a1381178dc8a50df07848792227", func := "loop.example/g00871/laws.FnExactBestBramble", spec := "fnExactBestBramble", unfollowed := true, recurses := true, named := ["math/bits.deBruijn32tab"], apart := false, laid := [("math/bits.deBruijn32tab", laid_math_bits_deBruijn32tab)], narrowed := true }
def FnExactBestBrambleUptoSaid : Prop := fnExactBestBrambleUptoRow.holds Tryd.pinned (OpenSpec.upto fnExactBestBrambleSpec)

/-- 'laws.FnWidthLess', WHERE WHAT IT READS IS OF BULK AT MOST 1048576: true; the input reads as it did. -/
def fnWidthLessUptoRow : OpenClaim := { program := "ytiooindlpinjhaadoor", sum := "4c1fada9392563e2ff869600f68f2a65a0e22a1381178dc8a50df07848792227", func := "loop.example/g00871/laws.FnWidthLess", spec := "fnWidthLess", recurses := true, named := ["math/bits.deBruijn32tab"], apart := false, laid := [("math/bits.deBruijn32tab", laid_math_bits_deBruijn32tab)], narrowed := true }
def FnWidthLessUptoSaid : Prop := fnWidthLessUptoRow.holds Tryd.pinned (OpenSpec.upto fnWidthLessSpec)

end Rows
end Go.Proofs.YtiooindlpinjhaaDoor
