/-
  NARROWER THAN 'FOR EVERY INPUT', by the rows' own cells (each row's printed sentence says how): FnExactCoverOf: laid · FnExactComposedModel: laid · FnExactQuotientAt: laid · FnExactGraphOfTree: laid · FnExactMinorIn: laid · FnExactFindSub: laid · FnExactForbiddenIn: laid · FnExactNotOuter: laid.
  DERIVED. THE GIVEN ROWS OF THIS SEAT. 8 by the template 'for every input the law returns true; each argument reads behind the call as it read before'; 0 by the template 'total and deterministic' (their statements: YtihlcmenfopaiaaDoorTotals.lean).
  GIVEN WITH THE SEED: the statements are not yours to turn. If you find one false, say at which input.
  Laid BY PROGRAM, IN A SANDBOX (cutbox-rows.mjs): the forced cells as the released guide's own fill.sh prints them over the translation 0015dc5948edc4dc… (all of the seat's roots in one cut). By AI agents, Wed Nov 11 2026. No macro, syntax, notation, axiom, sorry.
-/
import Derived.Test.YtihlcmenfopaiaaDoorChecked
import GoSem.Claim
import GoSem.ClaimJoined
import GoSem.ClaimMapViews
import Derived.JoinedTies
import Derived.KernelRfl
namespace Go.Proofs.YtihlcmenfopaiaaDoor
/- THE CELL 'sum', in the pinned program and in every row, IS THE sha256 OF THE DUMP (.gsa) THAT YtihlcmenfopaiaaDoorProg.lean LOADS. Nothing in Lean hashes anything: it is a label: what it is worth is what the hold of that sum in a sandbox is worth. -/
noncomputable def Tryd.pinned : Pinned := { name := "ytihlcmenfopaiaadoor", sum := "0015dc5948edc4dc6aa1dec097252e90bab68e5c31852985fee183137722915e", checked := Tryd.checked }
namespace Rows
def none {H : Type} : Left H := { results := [], args := [] }

/- WHAT THE LISTED PACKAGE-LEVEL VARIABLES READ AS WHEN THE CALL BEGINS. Each datum BY PROGRAM (the guide's laid-datum.mjs) off the statement by which the dump's own 'gosem.cut.vars' lays the variable. In a bare row this is a premise. The card (YtihlcmenfopaiaaDoorCards.lean) ties it to the program's text. -/
def laid_math_bits_deBruijn32tab {H : Type} : DataW H := .agg [.lit (.int .u8 0), .lit (.int .u8 1), .lit (.int .u8 28), .lit (.int .u8 2), .lit (.int .u8 29), .lit (.int .u8 14), .lit (.int .u8 24), .lit (.int .u8 3), .lit (.int .u8 30), .lit (.int .u8 22), .lit (.int .u8 20), .lit (.int .u8 15), .lit (.int .u8 25), .lit (.int .u8 17), .lit (.int .u8 4), .lit (.int .u8 8), .lit (.int .u8 31), .lit (.int .u8 27), .lit (.int .u8 13), .lit (.int .u8 23), .lit (.int .u8 21), .lit (.int .u8 19), .lit (.int .u8 16), .lit (.int .u8 7), .lit (.int .u8 26), .lit (.int .u8 12), .lit (.int .u8 18), .lit (.int .u8 6), .lit (.int .u8 11), .lit (.int .u8 5), .lit (.int .u8 10), .lit (.int .u8 9)]

/-- 'laws.FnExactCoverOf': WHATEVER THE INPUT: true; the input reads as it did. -/
def fnExactCoverOfSpec : ChangeSpec := { name := "fnExactCoverOf", fn := fun _ => fun
  | [d1, d2] => { results := [.lit (.bool true)], args := [d1, d2] }
  | _ => none }
def fnExactCoverOfRow : OpenClaim := { program := "ytihlcmenfopaiaadoor", sum := "0015dc5948edc4dc6aa1dec097252e90bab68e5c31852985fee183137722915e", func := "loop.example/g00871/laws.FnExactCoverOf", spec := "fnExactCoverOf", unfollowed := true, recurses := true, named := ["math/bits.deBruijn32tab"], apart := false, laid := [("math/bits.deBruijn32tab", laid_math_bits_deBruijn32tab)] }
def FnExactCoverOfSaid : Prop := fnExactCoverOfRow.holds Tryd.pinned (OpenSpec.ofChange fnExactCoverOfSpec)

/-- ITS FALSE NEIGHBOUR: 'it returns false'. Refute it at one input. -/
def fnExactCoverOfWrong : ChangeSpec := { name := "fnExactCoverOf", fn := fun _ => fun
  | [d1, d2] => { results := [.lit (.bool false)], args := [d1, d2] }
  | _ => none }
def FnExactCoverOfWrongFalsely : Prop := fnExactCoverOfRow.holds Tryd.pinned (OpenSpec.ofChange fnExactCoverOfWrong)

/-- 'laws.FnExactComposedModel': WHATEVER THE INPUT: true; the input reads as it did. -/
def fnExactComposedModelSpec : ChangeSpec := { name := "fnExactComposedModel", fn := fun _ => fun
  | [d1, d2, d3, d4, d5] => { results := [.lit (.bool true)], args := [d1, d2, d3, d4, d5] }
  | _ => none }
def fnExactComposedModelRow : OpenClaim := { program := "ytihlcmenfopaiaadoor", sum := "0015dc5948edc4dc6aa1dec097252e90bab68e5c31852985fee183137722915e", func := "loop.example/g00871/laws.FnExactComposedModel", spec := "fnExactComposedModel", unfollowed := true, recurses := true, named := ["math/bits.deBruijn32tab"], apart := false, laid := [("math/bits.deBruijn32tab", laid_math_bits_deBruijn32tab)] }
def FnExactComposedModelSaid : Prop := fnExactComposedModelRow.holds Tryd.pinned (OpenSpec.ofChange fnExactComposedModelSpec)

/-- ITS FALSE NEIGHBOUR: 'it returns false'. Refute it at one input. -/
def fnExactComposedModelWrong : ChangeSpec := { name := "fnExactComposedModel", fn := fun _ => fun
  | [d1, d2, d3, d4, d5] => { results := [.lit (.bool false)], args := [d1, d2, d3, d4, d5] }
  | _ => none }
def FnExactComposedModelWrongFalsely : Prop := fnExactComposedModelRow.holds Tryd.pinned (OpenSpec.ofChange fnExactComposedModelWrong)

/-- 'laws.FnExactQuotientAt': WHATEVER THE INPUT: true; the input reads as it did. -/
def fnExactQuotientAtSpec : ChangeSpec := { name := "fnExactQuotientAt", fn := fun _ => fun
  | [d1, d2, d3] => { results := [.lit (.bool true)], args := [d1, d2, d3] }
  | _ => none }
def fnExactQuotientAtRow : OpenClaim := { program := "ytihlcmenfopaiaadoor", sum := "0015dc5948edc4dc6aa1dec097252e90bab68e5c31852985fee183137722915e", func := "loop.example/g00871/laws.FnExactQuotientAt", spec := "fnExactQuotientAt", recurses := true, named := ["math/bits.deBruijn32tab"], apart := false, laid := [("math/bits.deBruijn32tab", laid_math_bits_deBruijn32tab)] }
def FnExactQuotientAtSaid : Prop := fnExactQuotientAtRow.holds Tryd.pinned (OpenSpec.ofChange fnExactQuotientAtSpec)

/-- ITS FALSE NEIGHBOUR: 'it returns false'. Refute it at one input. -/
def fnExactQuotientAtWrong : ChangeSpec := { name := "fnExactQuotientAt", fn := fun _ => fun
  | [d1, d2, d3] => { results := [.lit (.bool false)], args := [d1, d2, d3] }
  | _ => none }
def FnExactQuotientAtWrongFalsely : Prop := fnExactQuotientAtRow.holds Tryd.pinned (OpenSpec.ofChange fnExactQuotientAtWrong)

/-- 'laws.FnExactGraphOfTree': WHATEVER THE INPUT: true; the input reads as it did. -/
def fnExactGraphOfTreeSpec : ChangeSpec := { name := "fnExactGraphOfTree", fn := fun _ => fun
  | [d] => { results := [.lit (.bool true)], args := [d] }
  | _ => none }
def fnExactGraphOfTreeRow : OpenClaim := { program := "ytihlcmenfopaiaadoor", sum := "0015dc5948edc4dc6aa1dec097252e90bab68e5c31852985fee183137722915e", func := "loop.example/g00871/laws.FnExactGraphOfTree", spec := "fnExactGraphOfTree", unfollowed := true, recurses := true, named := ["math/bits.deBruijn32tab"], apart := false, laid := [("math/bits.deBruijn32tab", laid_math_bits_deBruijn32tab)] }
def FnExactGraphOfTreeSaid : Prop := fnExactGraphOfTreeRow.holds Tryd.pinned (OpenSpec.ofChange fnExactGraphOfTreeSpec)

/-- ITS FALSE NEIGHBOUR: 'it returns false'. Refute it at one input. -/
def fnExactGraphOfTreeWrong : ChangeSpec := { name := "fnExactGraphOfTree", fn := fun _ => fun
  | [d] => { results := [.lit (.bool false)], args := [d] }
  | _ => none }
def FnExactGraphOfTreeWrongFalsely : Prop := fnExactGraphOfTreeRow.holds Tryd.pinned (OpenSpec.ofChange fnExactGraphOfTreeWrong)

/-- 'laws.FnExactMinorIn': WHATEVER THE INPUT: true; the input reads as it did. -/
def fnExactMinorInSpec : ChangeSpec := { name := "fnExactMinorIn", fn := fun _ => fun
  | [d1, d2] => { results := [.lit (.bool true)], args := [d1, d2] }
  | _ => none }
def fnExactMinorInRow : OpenClaim := { program := "ytihlcmenfopaiaadoor", sum := "0015dc5948edc4dc6aa1dec097252e90bab68e5c31852985fee183137722915e", func := "loop.example/g00871/laws.FnExactMinorIn", spec := "fnExactMinorIn", recurses := true, named := ["math/bits.deBruijn32tab"], apart := false, laid := [("math/bits.deBruijn32tab", laid_math_bits_deBruijn32tab)] }
def FnExactMinorInSaid : Prop := fnExactMinorInRow.holds Tryd.pinned (OpenSpec.ofChange fnExactMinorInSpec)

/-- ITS FALSE NEIGHBOUR: 'it returns false'. Refute it at one input. -/
def fnExactMinorInWrong : ChangeSpec := { name := "fnExactMinorIn", fn := fun _ => fun
  | [d1, d2] => { results := [.lit (.bool false)], args := [d1, d2] }
  | _ => none }
def FnExactMinorInWrongFalsely : Prop := fnExactMinorInRow.holds Tryd.pinned (OpenSpec.ofChange fnExactMinorInWrong)

/-- 'laws.FnExactFindSub': WHATEVER THE INPUT: true; the input reads as it did. -/
def fnExactFindSubSpec : ChangeSpec := { name := "fnExactFindSub", fn := fun _ => fun
  | [d1, d2] => { results := [.lit (.bool true)], args := [d1, d2] }
  | _ => none }
def fnExactFindSubRow : OpenClaim := { program := "ytihlcmenfopaiaadoor", sum := "0015dc5948edc4dc6aa1dec097252e90bab68e5c31852985fee183137722915e", func := "loop.example/g00871/laws.FnExactFindSub", spec := "fnExactFindSub", unfollowed := true, recurses := true, named := ["math/bits.deBruijn32tab"], apart := false, laid := [("math/bits.deBruijn32tab", laid_math_bits_deBruijn32tab)] }
def FnExactFindSubSaid : Prop := fnExactFindSubRow.holds Tryd.pinned (OpenSpec.ofChange fnExactFindSubSpec)

/-- ITS FALSE NEIGHBOUR: 'it returns false'. Refute it at one input. -/
def fnExactFindSubWrong : ChangeSpec := { name := "fnExactFindSub", fn := fun _ => fun
  | [d1, d2] => { results := [.lit (.bool false)], args := [d1, d2] }
  | _ => none }
def FnExactFindSubWrongFalsely : Prop := fnExactFindSubRow.holds Tryd.pinned (OpenSpec.ofChange fnExactFindSubWrong)

/-- 'laws.FnExactForbiddenIn': WHATEVER THE INPUT: true; the input reads as it did. -/
def fnExactForbiddenInSpec : ChangeSpec := { name := "fnExactForbiddenIn", fn := fun _ => fun
  | [d] => { results := [.lit (.bool true)], args := [d] }
  | _ => none }
def fnExactForbiddenInRow : OpenClaim := { program := "ytihlcmenfopaiaadoor", sum := "0015dc5948edc4dc6aa1dec097252e90bab68e5c31852985fee183137722915e", func := "loop.example/g00871/laws.FnExactForbiddenIn", spec := "fnExactForbiddenIn", unfollowed := true, recurses := true, named := ["math/bits.deBruijn32tab"], apart := false, laid := [("math/bits.deBruijn32tab", laid_math_bits_deBruijn32tab)] }
def FnExactForbiddenInSaid : Prop := fnExactForbiddenInRow.holds Tryd.pinned (OpenSpec.ofChange fnExactForbiddenInSpec)

/-- ITS FALSE NEIGHBOUR: 'it returns false'. Refute it at one input. -/
def fnExactForbiddenInWrong : ChangeSpec := { name := "fnExactForbiddenIn", fn := fun _ => fun
  | [d] => { results := [.lit (.bool false)], args := [d] }
  | _ => none }
def FnExactForbiddenInWrongFalsely : Prop := fnExactForbiddenInRow.holds Tryd.pinned (OpenSpec.ofChange fnExactForbiddenInWrong)

/-- 'laws.FnExactNotOuter': WHATEVER THE INPUT: true; the input reads as it did. -/
def fnExactNotOuterSpec : ChangeSpec := { name := "fnExactNotOuter", fn := fun _ => fun
  | [d] => { results := [.lit (.bool true)], args := [d] }
  | _ => none }
def fnExactNotOuterRow : OpenClaim := { program := "ytihlcmenfopaiaadoor", sum := "0015dc5948edc4dc6aa1dec097252e90bab68e5c31852985fee183137722915e", func := "loop.example/g00871/laws.FnExactNotOuter", spec := "fnExactNotOuter", unfollowed := true, recurses := true, named := ["math/bits.deBruijn32tab"], apart := false, laid := [("math/bits.deBruijn32tab", laid_math_bits_deBruijn32tab)] }
def FnExactNotOuterSaid : Prop := fnExactNotOuterRow.holds Tryd.pinned (OpenSpec.ofChange fnExactNotOuterSpec)

/-- ITS FALSE NEIGHBOUR: 'it returns false'. Refute it at one input. -/
def fnExactNotOuterWrong : ChangeSpec := { name := "fnExactNotOuter", fn := fun _ => fun
  | [d] => { results := [.lit (.bool false)], args := [d] }
  | _ => none }
def FnExactNotOuterWrongFalsely : Prop := fnExactNotOuterRow.holds Tryd.pinned (OpenSpec.ofChange fnExactNotOuterWrong)

/- THE SECOND FORM. 'bulk': how many values and letters a reading holds, each counted each time it is reached (what is shared counts as often as it is met; a slice's spare places count too). A statement '..UptoSaid' is the law's where the arguments, and the package variables that the reading takes, are together of bulk at most 1048576: NARROWER than '..Said'. Prove '..Said' where nothing that the law and all that it calls make is longer than what came in: it says more and counts as full. Else prove '..UptoSaid'. A law counts once. -/
mutual
def uptoBulk {H : Type} : DataW H → Nat
  | .lit (.string bytes) => bytes.length + 1
  | .lit _ => 1
  | .nil => 1
  | .ptr d => uptoBulk d + 1
  | .slice elems spare => uptoBulkAll elems + uptoBulkAll spare + 1
  | .agg parts => uptoBulkAll parts + 1
  | .iface _ d => uptoBulk d + 1
  | .map entries => uptoBulkEntries entries + 1
  | .held _ => 1
def uptoBulkAll {H : Type} : List (DataW H) → Nat
  | [] => 0
  | d :: r => uptoBulk d + uptoBulkAll r
def uptoBulkEntries {H : Type} : List (Lit × DataW H) → Nat
  | [] => 0
  | x :: r => uptoBulkEntry x + uptoBulkEntries r
def uptoBulkEntry {H : Type} : Lit × DataW H → Nat
  | (.string bytes, d) => bytes.length + uptoBulk d + 1
  | (_, d) => uptoBulk d + 1
 end
def uptoSmall : (H : Type) → List (DataW H) → Bool := fun _ ds => decide (uptoBulkAll ds ≤ 1048576)
def OpenSpec.upto (s : _root_.Go.ChangeSpec) : _root_.Go.OpenSpec := { _root_.Go.OpenSpec.ofChange s with cond := some uptoSmall }

/-- 'laws.FnExactCoverOf', WHERE WHAT IT READS IS OF BULK AT MOST 1048576: true; the input reads as it did. -/
def fnExactCoverOfUptoRow : OpenClaim := { program := "ytihlcmenfopaiaadoor", sum := "0015dc5948edc4dc6aa1dec097252e90bab68e5c31852985fee183137722915e", func := "loop.example/g00871/laws.FnExactCoverOf", spec := "fnExactCoverOf", unfollowed := true, recurses := true, named := ["math/bits.deBruijn32tab"], apart := false, laid := [("math/bits.deBruijn32tab", laid_math_bits_deBruijn32tab)], narrowed := true }
def FnExactCoverOfUptoSaid : Prop := fnExactCoverOfUptoRow.holds Tryd.pinned (OpenSpec.upto fnExactCoverOfSpec)

/-- 'laws.FnExactComposedModel', WHERE WHAT IT READS IS OF BULK AT MOST 1048576: true; the input reads as it did. -/
def fnExactComposedModelUptoRow : OpenClaim := { program := "ytihlcmenfopaiaadoor", sum := "0015dc5948edc4dc6aa1dec097252e90bab68e5c31852985fee183137722915e", func := "loop.example/g00871/laws.FnExactComposedModel", spec := "fnExactComposedModel", unfollowed := true, recurses := true, named := ["math/bits.deBruijn32tab"], apart := false, laid := [("math/bits.deBruijn32tab", laid_math_bits_deBruijn32tab)], narrowed := true }
def FnExactComposedModelUptoSaid : Prop := fnExactComposedModelUptoRow.holds Tryd.pinned (OpenSpec.upto fnExactComposedModelSpec)

/-- 'laws.FnExactQuotientAt', WHERE WHAT IT READS IS OF BULK AT MOST 1048576: true; the input reads as it did. -/
def fnExactQuotientAtUptoRow : OpenClaim := { program := "ytihlcmenfopaiaadoor", sum := "0015dc5948edc4dc6aa1dec097252e90bab68e5c31852985fee183137722915e", func := "loop.example/g00871/laws.FnExactQuotientAt", spec := "fnExactQuotientAt", recurses := true, named := ["math/bits.deBruijn32tab"], apart := false, laid := [("math/bits.deBruijn32tab", laid_math_bits_deBruijn32tab)], narrowed := true }
def FnExactQuotientAtUptoSaid : Prop := fnExactQuotientAtUptoRow.holds Tryd.pinned (OpenSpec.upto fnExactQuotientAtSpec)

/-- 'laws.FnExactGraphOfTree', WHERE WHAT IT READS IS OF BULK AT MOST 1048576: true; the input reads as it did. -/
def fnExactGraphOfTreeUptoRow : OpenClaim := { program := "ytihlcmenfopaiaadoor", sum := "0015dc5948edc4dc6aa1dec097252e90bab68e5c31852985fee183137722915e", func := "loop.example/g00871/laws.FnExactGraphOfTree", spec := "fnExactGraphOfTree", unfollowed := true, recurses := true, named := ["math/bits.deBruijn32tab"], apart := false, laid := [("math/bits.deBruijn32tab", laid_math_bits_deBruijn32tab)], narrowed := true }
def FnExactGraphOfTreeUptoSaid : Prop := fnExactGraphOfTreeUptoRow.holds Tryd.pinned (OpenSpec.upto fnExactGraphOfTreeSpec)

/-- 'laws.FnExactMinorIn', WHERE WHAT IT READS IS OF BULK AT MOST 1048576: true; the input reads as it did. -/
def fnExactMinorInUptoRow : OpenClaim := { program := "ytihlcmenfopaiaadoor", sum := "0015dc5948edc4dc6aa1dec097252e90bab68e5c31852985fee183137722915e", func := "loop.example/g00871/laws.FnExactMinorIn", spec := "fnExactMinorIn", recurses := true, named := ["math/bits.deBruijn32tab"], apart := false, laid := [("math/bits.deBruijn32tab", laid_math_bits_deBruijn32tab)], narrowed := true }
def FnExactMinorInUptoSaid : Prop := fnExactMinorInUptoRow.holds Tryd.pinned (OpenSpec.upto fnExactMinorInSpec)

/-- 'laws.FnExactFindSub', WHERE WHAT IT READS IS OF BULK AT MOST 1048576: true; the input reads as it did. -/
def fnExactFindSubUptoRow : OpenClaim := { program := "ytihlcmenfopaiaadoor", sum := "0015dc5948edc4dc6aa1dec097252e90bab68e5c31852985fee183137722915e", func := "loop.example/g00871/laws.FnExactFindSub", spec := "fnExactFindSub", unfollowed := true, recurses := true, named := ["math/bits.deBruijn32tab"], apart := false, laid := [("math/bits.deBruijn32tab", laid_math_bits_deBruijn32tab)], narrowed := true }
def FnExactFindSubUptoSaid : Prop := fnExactFindSubUptoRow.holds Tryd.pinned (OpenSpec.upto fnExactFindSubSpec)

/-- 'laws.FnExactForbiddenIn', WHERE WHAT IT READS IS OF BULK AT MOST 1048576: true; the input reads as it did. -/
def fnExactForbiddenInUptoRow : OpenClaim := { program := "ytihlcmenfopaiaadoor", sum := "0015dc5948edc4dc6aa1dec097252e90bab68e5c31852985fee183137722915e", func := "loop.example/g00871/laws.FnExactForbiddenIn", spec := "fnExactForbiddenIn", unfollowed := true, recurses := true, named := ["math/bits.deBruijn32tab"], apart := false, laid := [("math/bits.deBruijn32tab", laid_math_bits_deBruijn32tab)], narrowed := true }
def FnExactForbiddenInUptoSaid : Prop := fnExactForbiddenInUptoRow.holds Tryd.pinned (OpenSpec.upto fnExactForbiddenInSpec)

/-- 'laws.FnExactNotOuter', WHERE WHAT IT READS IS OF BULK AT MOST 1048576: true; the input reads as it did. -/
def fnExactNotOuterUptoRow : OpenClaim := { program := "ytihlcmenfopaiaadoor", sum := "0015dc5948edc4dc6aa1dec097252e90bab68e5c31852985fee183137722915e", func := "loop.example/g00871/laws.FnExactNotOuter", spec := "fnExactNotOuter", unfollowed := true, recurses := true, named := ["math/bits.deBruijn32tab"], apart := false, laid := [("math/bits.deBruijn32tab", laid_math_bits_deBruijn32tab)], narrowed := true }
def FnExactNotOuterUptoSaid : Prop := fnExactNotOuterUptoRow.holds Tryd.pinned (OpenSpec.upto fnExactNotOuterSpec)

end Rows
end Go.Proofs.YtihlcmenfopaiaaDoor
