/-
  NARROWER THAN 'FOR EVERY INPUT', by the rows' own cells (each row's printed sentence says how): FnExactRenamed: laid · FnExactFillOf: laid · FnExactLaterOf: laid · FnExactFillMany: laid · FnExactPerfectIn: laid · FnExactCrossIn: laid · FnExactPermGraph: laid · FnExactPermsOk: laid.
  DERIVED. THE GIVEN ROWS OF THIS SEAT. 8 by the template 'for every input the law returns true; each argument reads behind the call as it read before'; 0 by the template 'total and deterministic' (their statements: YtbdcolhmhbfdoaaDoorTotals.lean).
  GIVEN WITH THE SEED: the statements are not yours to turn. If you find one false, say at which input.
  Laid BY PROGRAM, IN A SANDBOX (cutbox-rows.mjs): the forced cells as the released guide's own fill.sh prints them over the translation 3c1d8037ec745afc… (all of the seat's roots in one cut). By AI agents, Wed Nov 11 2026. No macro, syntax, notation, axiom, sorry.
-/
import Derived.Test.YtbdcolhmhbfdoaaDoorChecked
import GoSem.Claim
import GoSem.ClaimJoined
import GoSem.ClaimMapViews
import Derived.JoinedTies
import Derived.KernelRfl
namespace Go.Proofs.YtbdcolhmhbfdoaaDoor
/- THE CELL 'sum', in the pinned program and in every row, IS THE sha256 OF THE DUMP (.gsa) THAT YtbdcolhmhbfdoaaDoorProg.lean LOADS. Nothing in Lean hashes anything: it is a label: what it is worth is what the hold of that sum in a sandbox is worth. -/
noncomputable def Tryd.pinned : Pinned := { name := "ytbdcolhmhbfdoaadoor", sum := "3c1d8037ec745afc79e93f083fc5fc5dfe31f44cd2661645983592d3e4a6c33b", checked := Tryd.checked }
namespace Rows
def none {H : Type} : Left H := { results := [], args := [] }

/- WHAT THE LISTED PACKAGE-LEVEL VARIABLES READ AS WHEN THE CALL BEGINS. Each datum BY PROGRAM (the guide's laid-datum.mjs) off the statement by which the dump's own 'gosem.cut.vars' lays the variable. In a bare row this is a premise. The card (YtbdcolhmhbfdoaaDoorCards.lean) ties it to the program's text. -/
def laid_math_bits_deBruijn32tab {H : Type} : DataW H := .agg [.lit (.int .u8 0), .lit (.int .u8 1), .lit (.int .u8 28), .lit (.int .u8 2), .lit (.int .u8 29), .lit (.int .u8 14), .lit (.int .u8 24), .lit (.int .u8 3), .lit (.int .u8 30), .lit (.int .u8 22), .lit (.int .u8 20), .lit (.int .u8 15), .lit (.int .u8 25), .lit (.int .u8 17), .lit (.int .u8 4), .lit (.int .u8 8), .lit (.int .u8 31), .lit (.int .u8 27), .lit (.int .u8 13), .lit (.int .u8 23), .lit (.int .u8 21), .lit (.int .u8 19), .lit (.int .u8 16), .lit (.int .u8 7), .lit (.int .u8 26), .lit (.int .u8 12), .lit (.int .u8 18), .lit (.int .u8 6), .lit (.int .u8 11), .lit (.int .u8 5), .lit (.int .u8 10), .lit (.int .u8 9)]

/-- 'laws.FnExactRenamed': WHATEVER THE INPUT: true; the input reads as it did. -/
def fnExactRenamedSpec : ChangeSpec := { name := "fnExactRenamed", fn := fun _ => fun
  | [d1, d2] => { results := [.lit (.bool true)], args := [d1, d2] }
  | _ => none }
def fnExactRenamedRow : OpenClaim := { program := "ytbdcolhmhbfdoaadoor", sum := "3c1d8037ec745afc79e93f083fc5fc5dfe31f44cd2661645983592d3e4a6c33b", func := "loop.example/g00871/laws.FnExactRenamed", spec := "fnExactRenamed", unfollowed := true, recurses := true, named := ["math/bits.deBruijn32tab"], apart := false, laid := [("math/bits.deBruijn32tab", laid_math_bits_deBruijn32tab)] }
def FnExactRenamedSaid : Prop := fnExactRenamedRow.holds Tryd.pinned (OpenSpec.ofChange fnExactRenamedSpec)

/-- ITS FALSE NEIGHBOUR: 'it returns false'. Refute it at one input. -/
def fnExactRenamedWrong : ChangeSpec := { name := "fnExactRenamed", fn := fun _ => fun
  | [d1, d2] => { results := [.lit (.bool false)], args := [d1, d2] }
  | _ => none }
def FnExactRenamedWrongFalsely : Prop := fnExactRenamedRow.holds Tryd.pinned (OpenSpec.ofChange fnExactRenamedWrong)

/-- 'laws.FnExactFillOf': WHATEVER THE INPUT: true; the input reads as it did. -/
def fnExactFillOfSpec : ChangeSpec := { name := "fnExactFillOf", fn := fun _ => fun
  | [d1, d2] => { results := [.lit (.bool true)], args := [d1, d2] }
  | _ => none }
def fnExactFillOfRow : OpenClaim := { program := "ytbdcolhmhbfdoaadoor", sum := "3c1d8037ec745afc79e93f083fc5fc5dfe31f44cd2661645983592d3e4a6c33b", func := "loop.example/g00871/laws.FnExactFillOf", spec := "fnExactFillOf", unfollowed := true, recurses := true, named := ["math/bits.deBruijn32tab"], apart := false, laid := [("math/bits.deBruijn32tab", laid_math_bits_deBruijn32tab)] }
def FnExactFillOfSaid : Prop := fnExactFillOfRow.holds Tryd.pinned (OpenSpec.ofChange fnExactFillOfSpec)

/-- ITS FALSE NEIGHBOUR: 'it returns false'. Refute it at one input. -/
def fnExactFillOfWrong : ChangeSpec := { name := "fnExactFillOf", fn := fun _ => fun
  | [d1, d2] => { results := [.lit (.bool false)], args := [d1, d2] }
  | _ => none }
def FnExactFillOfWrongFalsely : Prop := fnExactFillOfRow.holds Tryd.pinned (OpenSpec.ofChange fnExactFillOfWrong)

/-- 'laws.FnExactLaterOf': WHATEVER THE INPUT: true; the input reads as it did. -/
def fnExactLaterOfSpec : ChangeSpec := { name := "fnExactLaterOf", fn := fun _ => fun
  | [d1, d2] => { results := [.lit (.bool true)], args := [d1, d2] }
  | _ => none }
def fnExactLaterOfRow : OpenClaim := { program := "ytbdcolhmhbfdoaadoor", sum := "3c1d8037ec745afc79e93f083fc5fc5dfe31f44cd2661645983592d3e4a6c33b", func := "loop.example/g00871/laws.FnExactLaterOf", spec := "fnExactLaterOf", unfollowed := true, recurses := true, named := ["math/bits.deBruijn32tab"], apart := false, laid := [("math/bits.deBruijn32tab", laid_math_bits_deBruijn32tab)] }
def FnExactLaterOfSaid : Prop := fnExactLaterOfRow.holds Tryd.pinned (OpenSpec.ofChange fnExactLaterOfSpec)

/-- ITS FALSE NEIGHBOUR: 'it returns false'. Refute it at one input. -/
def fnExactLaterOfWrong : ChangeSpec := { name := "fnExactLaterOf", fn := fun _ => fun
  | [d1, d2] => { results := [.lit (.bool false)], args := [d1, d2] }
  | _ => none }
def FnExactLaterOfWrongFalsely : Prop := fnExactLaterOfRow.holds Tryd.pinned (OpenSpec.ofChange fnExactLaterOfWrong)

/-- 'laws.FnExactFillMany': WHATEVER THE INPUT: true; the input reads as it did. -/
def fnExactFillManySpec : ChangeSpec := { name := "fnExactFillMany", fn := fun _ => fun
  | [d1, d2] => { results := [.lit (.bool true)], args := [d1, d2] }
  | _ => none }
def fnExactFillManyRow : OpenClaim := { program := "ytbdcolhmhbfdoaadoor", sum := "3c1d8037ec745afc79e93f083fc5fc5dfe31f44cd2661645983592d3e4a6c33b", func := "loop.example/g00871/laws.FnExactFillMany", spec := "fnExactFillMany", unfollowed := true, recurses := true, named := ["math/bits.deBruijn32tab"], apart := false, laid := [("math/bits.deBruijn32tab", laid_math_bits_deBruijn32tab)] }
def FnExactFillManySaid : Prop := fnExactFillManyRow.holds Tryd.pinned (OpenSpec.ofChange fnExactFillManySpec)

/-- ITS FALSE NEIGHBOUR: 'it returns false'. Refute it at one input. -/
def fnExactFillManyWrong : ChangeSpec := { name := "fnExactFillMany", fn := fun _ => fun
  | [d1, d2] => { results := [.lit (.bool false)], args := [d1, d2] }
  | _ => none }
def FnExactFillManyWrongFalsely : Prop := fnExactFillManyRow.holds Tryd.pinned (OpenSpec.ofChange fnExactFillManyWrong)

/-- 'laws.FnExactPerfectIn': WHATEVER THE INPUT: true; the input reads as it did. -/
def fnExactPerfectInSpec : ChangeSpec := { name := "fnExactPerfectIn", fn := fun _ => fun
  | [d1, d2] => { results := [.lit (.bool true)], args := [d1, d2] }
  | _ => none }
def fnExactPerfectInRow : OpenClaim := { program := "ytbdcolhmhbfdoaadoor", sum := "3c1d8037ec745afc79e93f083fc5fc5dfe31f44cd2661645983592d3e4a6c33b", func := "loop.example/g00871/laws.FnExactPerfectIn", spec := "fnExactPerfectIn", unfollowed := true, recurses := true, named := ["math/bits.deBruijn32tab"], apart := false, laid := [("math/bits.deBruijn32tab", laid_math_bits_deBruijn32tab)] }
def FnExactPerfectInSaid : Prop := fnExactPerfectInRow.holds Tryd.pinned (OpenSpec.ofChange fnExactPerfectInSpec)

/-- ITS FALSE NEIGHBOUR: 'it returns false'. Refute it at one input. -/
def fnExactPerfectInWrong : ChangeSpec := { name := "fnExactPerfectIn", fn := fun _ => fun
  | [d1, d2] => { results := [.lit (.bool false)], args := [d1, d2] }
  | _ => none }
def FnExactPerfectInWrongFalsely : Prop := fnExactPerfectInRow.holds Tryd.pinned (OpenSpec.ofChange fnExactPerfectInWrong)

/-- 'laws.FnExactCrossIn': WHATEVER THE INPUT: true; the input reads as it did. -/
def fnExactCrossInSpec : ChangeSpec := { name := "fnExactCrossIn", fn := fun _ => fun
  | [d1, d2, d3, d4] => { results := [.lit (.bool true)], args := [d1, d2, d3, d4] }
  | _ => none }
def fnExactCrossInRow : OpenClaim := { program := "ytbdcolhmhbfdoaadoor", sum := "3c1d8037ec745afc79e93f083fc5fc5dfe31f44cd2661645983592d3e4a6c33b", func := "loop.example/g00871/laws.FnExactCrossIn", spec := "fnExactCrossIn", unfollowed := true, recurses := true, named := ["math/bits.deBruijn32tab"], apart := false, laid := [("math/bits.deBruijn32tab", laid_math_bits_deBruijn32tab)] }
def FnExactCrossInSaid : Prop := fnExactCrossInRow.holds Tryd.pinned (OpenSpec.ofChange fnExactCrossInSpec)

/-- ITS FALSE NEIGHBOUR: 'it returns false'. Refute it at one input. -/
def fnExactCrossInWrong : ChangeSpec := { name := "fnExactCrossIn", fn := fun _ => fun
  | [d1, d2, d3, d4] => { results := [.lit (.bool false)], args := [d1, d2, d3, d4] }
  | _ => none }
def FnExactCrossInWrongFalsely : Prop := fnExactCrossInRow.holds Tryd.pinned (OpenSpec.ofChange fnExactCrossInWrong)

/-- 'laws.FnExactPermGraph': WHATEVER THE INPUT: true; the input reads as it did. -/
def fnExactPermGraphSpec : ChangeSpec := { name := "fnExactPermGraph", fn := fun _ => fun
  | [d1, d2] => { results := [.lit (.bool true)], args := [d1, d2] }
  | _ => none }
def fnExactPermGraphRow : OpenClaim := { program := "ytbdcolhmhbfdoaadoor", sum := "3c1d8037ec745afc79e93f083fc5fc5dfe31f44cd2661645983592d3e4a6c33b", func := "loop.example/g00871/laws.FnExactPermGraph", spec := "fnExactPermGraph", unfollowed := true, recurses := true, named := ["math/bits.deBruijn32tab"], apart := false, laid := [("math/bits.deBruijn32tab", laid_math_bits_deBruijn32tab)] }
def FnExactPermGraphSaid : Prop := fnExactPermGraphRow.holds Tryd.pinned (OpenSpec.ofChange fnExactPermGraphSpec)

/-- ITS FALSE NEIGHBOUR: 'it returns false'. Refute it at one input. -/
def fnExactPermGraphWrong : ChangeSpec := { name := "fnExactPermGraph", fn := fun _ => fun
  | [d1, d2] => { results := [.lit (.bool false)], args := [d1, d2] }
  | _ => none }
def FnExactPermGraphWrongFalsely : Prop := fnExactPermGraphRow.holds Tryd.pinned (OpenSpec.ofChange fnExactPermGraphWrong)

/-- 'laws.FnExactPermsOk': WHATEVER THE INPUT: true; the input reads as it did. -/
def fnExactPermsOkSpec : ChangeSpec := { name := "fnExactPermsOk", fn := fun _ => fun
  | [d1, d2, d3] => { results := [.lit (.bool true)], args := [d1, d2, d3] }
  | _ => none }
def fnExactPermsOkRow : OpenClaim := { program := "ytbdcolhmhbfdoaadoor", sum := "3c1d8037ec745afc79e93f083fc5fc5dfe31f44cd2661645983592d3e4a6c33b", func := "loop.example/g00871/laws.FnExactPermsOk", spec := "fnExactPermsOk", unfollowed := true, recurses := true, named := ["math/bits.deBruijn32tab"], apart := false, laid := [("math/bits.deBruijn32tab", laid_math_bits_deBruijn32tab)] }
def FnExactPermsOkSaid : Prop := fnExactPermsOkRow.holds Tryd.pinned (OpenSpec.ofChange fnExactPermsOkSpec)

/-- ITS FALSE NEIGHBOUR: 'it returns false'. Refute it at one input. -/
def fnExactPermsOkWrong : ChangeSpec := { name := "fnExactPermsOk", fn := fun _ => fun
  | [d1, d2, d3] => { results := [.lit (.bool false)], args := [d1, d2, d3] }
  | _ => none }
def FnExactPermsOkWrongFalsely : Prop := fnExactPermsOkRow.holds Tryd.pinned (OpenSpec.ofChange fnExactPermsOkWrong)

/- THE SECOND FORM. 'bulk': how many values and letters a reading holds, each counted each time it is reached (what is shared counts as often as it is met; a slice's spare places count too). A statement '..UptoSaid' is the law's where the arguments, and the package variables that the reading takes, are together of bulk at most 1048576: NARROWER than '..Said'. Prove '..Said' where nothing that the law and all that it calls make is longer than what came in: it says more and counts as full. Else prove '..UptoSaid'. A law counts once. -/
mutual
def uptoBulk {H : Type} : DataW H → Nat
  | .lit (.string bytes) => bytes.length + 1
  | .lit _ => 1
  | .nil => 1
  | .ptr d => uptoBulk d + 1
  | .slice elems spare => uptoBulkAll elems + uptoBulkAll spare + 1
  | .agg parts => uptoBulkAll parts + 1
  | .iface _ d => uptoBulk d + 1
  | .map entries => uptoBulkEntries entries + 1
  | .held _ => 1
def uptoBulkAll {H : Type} : List (DataW H) → Nat
  | [] => 0
  | d :: r => uptoBulk d + uptoBulkAll r
def uptoBulkEntries {H : Type} : List (Lit × DataW H) → Nat
  | [] => 0
  | x :: r => uptoBulkEntry x + uptoBulkEntries r
def uptoBulkEntry {H : Type} : Lit × DataW H → Nat
  | (.string bytes, d) => bytes.length + uptoBulk d + 1
  | (_, d) => uptoBulk d + 1
 end
def uptoSmall : (H : Type) → List (DataW H) → Bool := fun _ ds => decide (uptoBulkAll ds ≤ 1048576)
def OpenSpec.upto (s : _root_.Go.ChangeSpec) : _root_.Go.OpenSpec := { _root_.Go.OpenSpec.ofChange s with cond := some uptoSmall }

/-- 'laws.FnExactRenamed', WHERE WHAT IT READS IS OF BULK AT MOST 1048576: true; the input reads as it did. -/
def fnExactRenamedUptoRow : OpenClaim := { program := "ytbdcolhmhbfdoaadoor", sum := "3c1d8037ec745afc79e93f083fc5fc5dfe31f44cd2661645983592d3e4a6c33b", func := "loop.example/g00871/laws.FnExactRenamed", spec := "fnExactRenamed", unfollowed := true, recurses := true, named := ["math/bits.deBruijn32tab"], apart := false, laid := [("math/bits.deBruijn32tab", laid_math_bits_deBruijn32tab)], narrowed := true }
def FnExactRenamedUptoSaid : Prop := fnExactRenamedUptoRow.holds Tryd.pinned (OpenSpec.upto fnExactRenamedSpec)

/-- 'laws.FnExactFillOf', WHERE WHAT IT READS IS OF BULK AT MOST 1048576: true; the input reads as it did. -/
def fnExactFillOfUptoRow : OpenClaim := { program := "ytbdcolhmhbfdoaadoor", sum := "3c1d8037ec745afc79e93f083fc5fc5dfe31f44cd2661645983592d3e4a6c33b", func := "loop.example/g00871/laws.FnExactFillOf", spec := "fnExactFillOf", unfollowed := true, recurses := true, named := ["math/bits.deBruijn32tab"], apart := false, laid := [("math/bits.deBruijn32tab", laid_math_bits_deBruijn32tab)], narrowed := true }
def FnExactFillOfUptoSaid : Prop := fnExactFillOfUptoRow.holds Tryd.pinned (OpenSpec.upto fnExactFillOfSpec)

/-- 'laws.FnExactLaterOf', WHERE WHAT IT READS IS OF BULK AT MOST 1048576: true; the input reads as it did. -/
def fnExactLaterOfUptoRow : OpenClaim := { program := "ytbdcolhmhbfdoaadoor", sum := "3c1d8037ec745afc79e93f083fc5fc5dfe31f44cd2661645983592d3e4a6c33b", func := "loop.example/g00871/laws.FnExactLaterOf", spec := "fnExactLaterOf", unfollowed := true, recurses := true, named := ["math/bits.deBruijn32tab"], apart := false, laid := [("math/bits.deBruijn32tab", laid_math_bits_deBruijn32tab)], narrowed := true }
def FnExactLaterOfUptoSaid : Prop := fnExactLaterOfUptoRow.holds Tryd.pinned (OpenSpec.upto fnExactLaterOfSpec)

/-- 'laws.FnExactFillMany', WHERE WHAT IT READS IS OF BULK AT MOST 1048576: true; the input reads as it did. -/
def fnExactFillManyUptoRow : OpenClaim := { program := "ytbdcolhmhbfdoaadoor", sum := "3c1d8037ec745afc79e93f083fc5fc5dfe31f44cd2661645983592d3e4a6c33b", func := "loop.example/g00871/laws.FnExactFillMany", spec := "fnExactFillMany", unfollowed := true, recurses := true, named := ["math/bits.deBruijn32tab"], apart := false, laid := [("math/bits.deBruijn32tab", laid_math_bits_deBruijn32tab)], narrowed := true }
def FnExactFillManyUptoSaid : Prop := fnExactFillManyUptoRow.holds Tryd.pinned (OpenSpec.upto fnExactFillManySpec)

/-- 'laws.FnExactPerfectIn', WHERE WHAT IT READS IS OF BULK AT MOST 1048576: true; the input reads as it did. -/
def fnExactPerfectInUptoRow : OpenClaim := { program := "ytbdcolhmhbfdoaadoor", sum := "3c1d8037ec745afc79e93f083fc5fc5dfe31f44cd2661645983592d3e4a6c33b", func := "loop.example/g00871/laws.FnExactPerfectIn", spec := "fnExactPerfectIn", unfollowed := true, recurses := true, named := ["math/bits.deBruijn32tab"], apart := false, laid := [("math/bits.deBruijn32tab", laid_math_bits_deBruijn32tab)], narrowed := true }
def FnExactPerfectInUptoSaid : Prop := fnExactPerfectInUptoRow.holds Tryd.pinned (OpenSpec.upto fnExactPerfectInSpec)

/-- 'laws.FnExactCrossIn', WHERE WHAT IT READS IS OF BULK AT MOST 1048576: true; the input reads as it did. -/
def fnExactCrossInUptoRow : OpenClaim := { program := "ytbdcolhmhbfdoaadoor", sum := "3c1d8037ec745afc79e93f083fc5fc5dfe31f44cd2661645983592d3e4a6c33b", func := "loop.example/g00871/laws.FnExactCrossIn", spec := "fnExactCrossIn", unfollowed := true, recurses := true, named := ["math/bits.deBruijn32tab"], apart := false, laid := [("math/bits.deBruijn32tab", laid_math_bits_deBruijn32tab)], narrowed := true }
def FnExactCrossInUptoSaid : Prop := fnExactCrossInUptoRow.holds Tryd.pinned (OpenSpec.upto fnExactCrossInSpec)

/-- 'laws.FnExactPermGraph', WHERE WHAT IT READS IS OF BULK AT MOST 1048576: true; the input reads as it did. -/
def fnExactPermGraphUptoRow : OpenClaim := { program := "ytbdcolhmhbfdoaadoor", sum := "3c1d8037ec745afc79e93f083fc5fc5dfe31f44cd2661645983592d3e4a6c33b", func := "loop.example/g00871/laws.FnExactPermGraph", spec := "fnExactPermGraph", unfollowed := true, recurses := true, named := ["math/bits.deBruijn32tab"], apart := false, laid := [("math/bits.deBruijn32tab", laid_math_bits_deBruijn32tab)], narrowed := true }
def FnExactPermGraphUptoSaid : Prop := fnExactPermGraphUptoRow.holds Tryd.pinned (OpenSpec.upto fnExactPermGraphSpec)

/-- 'laws.FnExactPermsOk', WHERE WHAT IT READS IS OF BULK AT MOST 1048576: true; the input reads as it did. -/
def fnExactPermsOkUptoRow : OpenClaim := { program := "ytbdcolhmhbfdoaadoor", sum := "3c1d8037ec745afc79e93f083fc5fc5dfe31f44cd2661645983592d3e4a6c33b", func := "loop.example/g00871/laws.FnExactPermsOk", spec := "fnExactPermsOk", unfollowed := true, recurses := true, named := ["math/bits.deBruijn32tab"], apart := false, laid := [("math/bits.deBruijn32tab", laid_math_bits_deBruijn32tab)], narrowed := true }
def FnExactPermsOkUptoSaid : Prop := fnExactPermsOkUptoRow.holds Tryd.pinned (OpenSpec.upto fnExactPermsOkSpec)

end Rows
end Go.Proofs.YtbdcolhmhbfdoaaDoor
