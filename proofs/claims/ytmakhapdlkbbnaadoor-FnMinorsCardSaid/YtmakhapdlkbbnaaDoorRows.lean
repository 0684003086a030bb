/-
  NARROWER THAN 'FOR EVERY INPUT', by the rows' own cells (each row's printed sentence says how): FnTogether: laid · FnModules: laid · FnRenamedBack: laid · FnExactMinorIn: laid · FnComposedModels: laid · FnMinors: laid · FnStablesMany: laid · FnStables: laid.
  DERIVED. THE GIVEN ROWS OF THIS SEAT. 8 by the template 'for every input the law returns true; each argument reads behind the call as it read before'; 0 by the template 'total and deterministic' (their statements: YtmakhapdlkbbnaaDoorTotals.lean).
  GIVEN WITH THE SEED: the statements are not yours to turn. If you find one false, say at which input.
  Laid BY PROGRAM, IN A SANDBOX (cutbox-rows.mjs): the forced cells as the released guide's own fill.sh prints them over the translation ce7f653921347458… (all of the seat's roots in one cut). By AI agents, Wed Nov 11 2026. No macro, syntax, notation, axiom, sorry.
-/
import Derived.Test.YtmakhapdlkbbnaaDoorChecked
import GoSem.Claim
import GoSem.ClaimJoined
import GoSem.ClaimMapViews
import Derived.JoinedTies
import Derived.KernelRfl
namespace Go.Proofs.YtmakhapdlkbbnaaDoor
/- THE CELL 'sum', in the pinned program and in every row, IS THE sha256 OF THE DUMP (.gsa) THAT YtmakhapdlkbbnaaDoorProg.lean LOADS. Nothing in Lean hashes anything: it is a label: what it is worth is what the hold of that sum in a sandbox is worth. -/
noncomputable def Tryd.pinned : Pinned := { name := "ytmakhapdlkbbnaadoor", sum := "ce7f65392134745840e224ee248f72d2f4a5e4e79332739d9d6a60149b7183a1", checked := Tryd.checked }
namespace Rows
def none {H : Type} : Left H := { results := [], args := [] }

/- WHAT THE LISTED PACKAGE-LEVEL VARIABLES READ AS WHEN THE CALL BEGINS. Each datum BY PROGRAM (the guide's laid-datum.mjs) off the statement by which the dump's own 'gosem.cut.vars' lays the variable. In a bare row this is a premise. The card (YtmakhapdlkbbnaaDoorCards.lean) ties it to the program's text. -/
def laid_math_bits_deBruijn32tab {H : Type} : DataW H := .agg [.lit (.int .u8 0), .lit (.int .u8 1), .lit (.int .u8 28), .lit (.int .u8 2), .lit (.int .u8 29), .lit (.int .u8 14), .lit (.int .u8 24), .lit (.int .u8 3), .lit (.int .u8 30), .lit (.int .u8 22), .lit (.int .u8 20), .lit (.int .u8 15), .lit (.int .u8 25), .lit (.int .u8 17), .lit (.int .u8 4), .lit (.int .u8 8), .lit (.int .u8 31), .lit (.int .u8 27), .lit (.int .u8 13), .lit (.int .u8 23), .lit (.int .u8 21), .lit (.int .u8 19), .lit (.int .u8 16), .lit (.int .u8 7), .lit (.int .u8 26), .lit (.int .u8 12), .lit (.int .u8 18), .lit (.int .u8 6), .lit (.int .u8 11), .lit (.int .u8 5), .lit (.int .u8 10), .lit (.int .u8 9)]

/-- 'laws.FnTogether': WHATEVER THE INPUT: true; the input reads as it did. -/
def fnTogetherSpec : ChangeSpec := { name := "fnTogether", fn := fun _ => fun
  | [d] => { results := [.lit (.bool true)], args := [d] }
  | _ => none }
def fnTogetherRow : OpenClaim := { program := "ytmakhapdlkbbnaadoor", sum := "ce7f65392134745840e224ee248f72d2f4a5e4e79332739d9d6a60149b7183a1", func := "loop.example/g00871/laws.FnTogether", spec := "fnTogether", unfollowed := true, recurses := true, named := ["math/bits.deBruijn32tab"], apart := false, laid := [("math/bits.deBruijn32tab", laid_math_bits_deBruijn32tab)] }
def FnTogetherSaid : Prop := fnTogetherRow.holds Tryd.pinned (OpenSpec.ofChange fnTogetherSpec)

/-- ITS FALSE NEIGHBOUR: 'it returns false'. Refute it at one input. -/
def fnTogetherWrong : ChangeSpec := { name := "fnTogether", fn := fun _ => fun
  | [d] => { results := [.lit (.bool false)], args := [d] }
  | _ => none }
def FnTogetherWrongFalsely : Prop := fnTogetherRow.holds Tryd.pinned (OpenSpec.ofChange fnTogetherWrong)

/-- 'laws.FnModules': WHATEVER THE INPUT: true; the input reads as it did. -/
def fnModulesSpec : ChangeSpec := { name := "fnModules", fn := fun _ => fun
  | [d] => { results := [.lit (.bool true)], args := [d] }
  | _ => none }
def fnModulesRow : OpenClaim := { program := "ytmakhapdlkbbnaadoor", sum := "ce7f65392134745840e224ee248f72d2f4a5e4e79332739d9d6a60149b7183a1", func := "loop.example/g00871/laws.FnModules", spec := "fnModules", unfollowed := true, recurses := true, named := ["math/bits.deBruijn32tab"], apart := false, laid := [("math/bits.deBruijn32tab", laid_math_bits_deBruijn32tab)] }
def FnModulesSaid : Prop := fnModulesRow.holds Tryd.pinned (OpenSpec.ofChange fnModulesSpec)

/-- ITS FALSE NEIGHBOUR: 'it returns false'. Refute it at one input. -/
def fnModulesWrong : ChangeSpec := { name := "fnModules", fn := fun _ => fun
  | [d] => { results := [.lit (.bool false)], args := [d] }
  | _ => none }
def FnModulesWrongFalsely : Prop := fnModulesRow.holds Tryd.pinned (OpenSpec.ofChange fnModulesWrong)

/-- 'laws.FnRenamedBack': WHATEVER THE INPUT: true; the input reads as it did. -/
def fnRenamedBackSpec : ChangeSpec := { name := "fnRenamedBack", fn := fun _ => fun
  | [d] => { results := [.lit (.bool true)], args := [d] }
  | _ => none }
def fnRenamedBackRow : OpenClaim := { program := "ytmakhapdlkbbnaadoor", sum := "ce7f65392134745840e224ee248f72d2f4a5e4e79332739d9d6a60149b7183a1", func := "loop.example/g00871/laws.FnRenamedBack", spec := "fnRenamedBack", unfollowed := true, recurses := true, named := ["math/bits.deBruijn32tab"], apart := false, laid := [("math/bits.deBruijn32tab", laid_math_bits_deBruijn32tab)] }
def FnRenamedBackSaid : Prop := fnRenamedBackRow.holds Tryd.pinned (OpenSpec.ofChange fnRenamedBackSpec)

/-- ITS FALSE NEIGHBOUR: 'it returns false'. Refute it at one input. -/
def fnRenamedBackWrong : ChangeSpec := { name := "fnRenamedBack", fn := fun _ => fun
  | [d] => { results := [.lit (.bool false)], args := [d] }
  | _ => none }
def FnRenamedBackWrongFalsely : Prop := fnRenamedBackRow.holds Tryd.pinned (OpenSpec.ofChange fnRenamedBackWrong)

/-- 'laws.FnExactMinorIn': WHATEVER THE INPUT: true; the input reads as it did. -/
def fnExactMinorInSpec : ChangeSpec := { name := "fnExactMinorIn", fn := fun _ => fun
  | [d1, d2] => { results := [.lit (.bool true)], args := [d1, d2] }
  | _ => none }
def fnExactMinorInRow : OpenClaim := { program := "ytmakhapdlkbbnaadoor", sum := "ce7f65392134745840e224ee248f72d2f4a5e4e79332739d9d6a60149b7183a1", func := "loop.example/g00871/laws.FnExactMinorIn", spec := "fnExactMinorIn", recurses := true, named := ["math/bits.deBruijn32tab"], apart := false, laid := [("math/bits.deBruijn32tab", laid_math_bits_deBruijn32tab)] }
def FnExactMinorInSaid : Prop := fnExactMinorInRow.holds Tryd.pinned (OpenSpec.ofChange fnExactMinorInSpec)

/-- ITS FALSE NEIGHBOUR: 'it returns false'. Refute it at one input. -/
def fnExactMinorInWrong : ChangeSpec := { name := "fnExactMinorIn", fn := fun _ => fun
  | [d1, d2] => { results := [.lit (.bool false)], args := [d1, d2] }
  | _ => none }
def FnExactMinorInWrongFalsely : Prop := fnExactMinorInRow.holds Tryd.pinned (OpenSpec.ofChange fnExactMinorInWrong)

/-- 'laws.FnComposedModels': WHATEVER THE INPUT: true; the input reads as it did. -/
def fnComposedModelsSpec : ChangeSpec := { name := "fnComposedModels", fn := fun _ => fun
  | [d] => { results := [.lit (.bool true)], args := [d] }
  | _ => none }
def fnComposedModelsRow : OpenClaim := { program := "ytmakhapdlkbbnaadoor", sum := "ce7f65392134745840e224ee248f72d2f4a5e4e79332739d9d6a60149b7183a1", func := "loop.example/g00871/laws.FnComposedModels", spec := "fnComposedModels", unfollowed := true, recurses := true, named := ["math/bits.deBruijn32tab"], apart := false, laid := [("math/bits.deBruijn32tab", laid_math_bits_deBruijn32tab)] }
def FnComposedModelsSaid : Prop := fnComposedModelsRow.holds Tryd.pinned (OpenSpec.ofChange fnComposedModelsSpec)

/-- ITS FALSE NEIGHBOUR: 'it returns false'. Refute it at one input. -/
def fnComposedModelsWrong : ChangeSpec := { name := "fnComposedModels", fn := fun _ => fun
  | [d] => { results := [.lit (.bool false)], args := [d] }
  | _ => none }
def FnComposedModelsWrongFalsely : Prop := fnComposedModelsRow.holds Tryd.pinned (OpenSpec.ofChange fnComposedModelsWrong)

/-- 'laws.FnMinors': WHATEVER THE INPUT: true; the input reads as it did. -/
def fnMinorsSpec : ChangeSpec := { name := "fnMinors", fn := fun _ => fun
  | [d] => { results := [.lit (.bool true)], args := [d] }
  | _ => none }
def fnMinorsRow : OpenClaim := { program := "ytmakhapdlkbbnaadoor", sum := "ce7f65392134745840e224ee248f72d2f4a5e4e79332739d9d6a60149b7183a1", func := "loop.example/g00871/laws.FnMinors", spec := "fnMinors", unfollowed := true, recurses := true, named := ["math/bits.deBruijn32tab"], apart := false, laid := [("math/bits.deBruijn32tab", laid_math_bits_deBruijn32tab)] }
def FnMinorsSaid : Prop := fnMinorsRow.holds Tryd.pinned (OpenSpec.ofChange fnMinorsSpec)

/-- ITS FALSE NEIGHBOUR: 'it returns false'. Refute it at one input. -/
def fnMinorsWrong : ChangeSpec := { name := "fnMinors", fn := fun _ => fun
  | [d] => { results := [.lit (.bool false)], args := [d] }
  | _ => none }
def FnMinorsWrongFalsely : Prop := fnMinorsRow.holds Tryd.pinned (OpenSpec.ofChange fnMinorsWrong)

/-- 'laws.FnStablesMany': WHATEVER THE INPUT: true; the input reads as it did. -/
def fnStablesManySpec : ChangeSpec := { name := "fnStablesMany", fn := fun _ => fun
  | [d] => { results := [.lit (.bool true)], args := [d] }
  | _ => none }
def fnStablesManyRow : OpenClaim := { program := "ytmakhapdlkbbnaadoor", sum := "ce7f65392134745840e224ee248f72d2f4a5e4e79332739d9d6a60149b7183a1", func := "loop.example/g00871/laws.FnStablesMany", spec := "fnStablesMany", unfollowed := true, recurses := true, named := ["math/bits.deBruijn32tab"], apart := false, laid := [("math/bits.deBruijn32tab", laid_math_bits_deBruijn32tab)] }
def FnStablesManySaid : Prop := fnStablesManyRow.holds Tryd.pinned (OpenSpec.ofChange fnStablesManySpec)

/-- ITS FALSE NEIGHBOUR: 'it returns false'. Refute it at one input. -/
def fnStablesManyWrong : ChangeSpec := { name := "fnStablesMany", fn := fun _ => fun
  | [d] => { results := [.lit (.bool false)], args := [d] }
  | _ => none }
def FnStablesManyWrongFalsely : Prop := fnStablesManyRow.holds Tryd.pinned (OpenSpec.ofChange fnStablesManyWrong)

/-- 'laws.FnStables': WHATEVER THE INPUT: true; the input reads as it did. -/
def fnStablesSpec : ChangeSpec := { name := "fnStables", fn := fun _ => fun
  | [d] => { results := [.lit (.bool true)], args := [d] }
  | _ => none }
def fnStablesRow : OpenClaim := { program := "ytmakhapdlkbbnaadoor", sum := "ce7f65392134745840e224ee248f72d2f4a5e4e79332739d9d6a60149b7183a1", func := "loop.example/g00871/laws.FnStables", spec := "fnStables", unfollowed := true, recurses := true, named := ["math/bits.deBruijn32tab"], apart := false, laid := [("math/bits.deBruijn32tab", laid_math_bits_deBruijn32tab)] }
def FnStablesSaid : Prop := fnStablesRow.holds Tryd.pinned (OpenSpec.ofChange fnStablesSpec)

/-- ITS FALSE NEIGHBOUR: 'it returns false'. Refute it at one input. -/
def fnStablesWrong : ChangeSpec := { name := "fnStables", fn := fun _ => fun
  | [d] => { results := [.lit (.bool false)], args := [d] }
  | _ => none }
def FnStablesWrongFalsely : Prop := fnStablesRow.holds Tryd.pinned (OpenSpec.ofChange fnStablesWrong)

/- THE SECOND FORM. 'bulk': how many values and letters a reading holds, each counted each time it is reached (what is shared counts as often as it is met; a slice's spare places count too). A statement '..UptoSaid' is the law's where the arguments, and the package variables that the reading takes, are together of bulk at most 1048576: NARROWER than '..Said'. Prove '..Said' where nothing that the law and all that it calls make is longer than what came in: it says more and counts as full. Else prove '..UptoSaid'. A law counts once. -/
mutual
def uptoBulk {H : Type} : DataW H → Nat
  | .lit (.string bytes) => bytes.length + 1
  | .lit _ => 1
  | .nil => 1
  | .ptr d => uptoBulk d + 1
  | .slice elems spare => uptoBulkAll elems + uptoBulkAll spare + 1
  | .agg parts => uptoBulkAll parts + 1
  | .iface _ d => uptoBulk d + 1
  | .map entries => uptoBulkEntries entries + 1
  | .held _ => 1
def uptoBulkAll {H : Type} : List (DataW H) → Nat
  | [] => 0
  | d :: r => uptoBulk d + uptoBulkAll r
def uptoBulkEntries {H : Type} : List (Lit × DataW H) → Nat
  | [] => 0
  | x :: r => uptoBulkEntry x + uptoBulkEntries r
def uptoBulkEntry {H : Type} : Lit × DataW H → Nat
  | (.string bytes, d) => bytes.length + uptoBulk d + 1
  | (_, d) => uptoBulk d + 1
 end
def uptoSmall : (H : Type) → List (DataW H) → Bool := fun _ ds => decide (uptoBulkAll ds ≤ 1048576)
def OpenSpec.upto (s : _root_.Go.ChangeSpec) : _root_.Go.OpenSpec := { _root_.Go.OpenSpec.ofChange s with cond := some uptoSmall }

/-- 'laws.FnTogether', WHERE WHAT IT READS IS OF BULK AT MOST 1048576: true; the input reads as it did. -/
def fnTogetherUptoRow : OpenClaim := { program := "ytmakhapdlkbbnaadoor", sum := "ce7f65392134745840e224ee248f72d2f4a5e4e79332739d9d6a60149b7183a1", func := "loop.example/g00871/laws.FnTogether", spec := "fnTogether", unfollowed := true, recurses := true, named := ["math/bits.deBruijn32tab"], apart := false, laid := [("math/bits.deBruijn32tab", laid_math_bits_deBruijn32tab)], narrowed := true }
def FnTogetherUptoSaid : Prop := fnTogetherUptoRow.holds Tryd.pinned (OpenSpec.upto fnTogetherSpec)

/-- 'laws.FnModules', WHERE WHAT IT READS IS OF BULK AT MOST 1048576: true; the input reads as it did. -/
def fnModulesUptoRow : OpenClaim := { program := "ytmakhapdlkbbnaadoor", sum := "ce7f65392134745840e224ee248f72d2f4a5e4e79332739d9d6a60149b7183a1", func := "loop.example/g00871/laws.FnModules", spec := "fnModules", unfollowed := true, recurses := true, named := ["math/bits.deBruijn32tab"], apart := false, laid := [("math/bits.deBruijn32tab", laid_math_bits_deBruijn32tab)], narrowed := true }
def FnModulesUptoSaid : Prop := fnModulesUptoRow.holds Tryd.pinned (OpenSpec.upto fnModulesSpec)

/-- 'laws.FnRenamedBack', WHERE WHAT IT READS IS OF BULK AT MOST 1048576: true; the input reads as it did. -/
def fnRenamedBackUptoRow : OpenClaim := { program := "ytmakhapdlkbbnaadoor", sum := "ce7f65392134745840e224ee248f72d2f4a5e4e79332739d9d6a60149b7183a1", func := "loop.example/g00871/laws.FnRenamedBack", spec := "fnRenamedBack", unfollowed := true, recurses := true, named := ["math/bits.deBruijn32tab"], apart := false, laid := [("math/bits.deBruijn32tab", laid_math_bits_deBruijn32tab)], narrowed := true }
def FnRenamedBackUptoSaid : Prop := fnRenamedBackUptoRow.holds Tryd.pinned (OpenSpec.upto fnRenamedBackSpec)

/-- 'laws.FnExactMinorIn', WHERE WHAT IT READS IS OF BULK AT MOST 1048576: true; the input reads as it did. -/
def fnExactMinorInUptoRow : OpenClaim := { program := "ytmakhapdlkbbnaadoor", sum := "ce7f65392134745840e224ee248f72d2f4a5e4e79332739d9d6a60149b7183a1", func := "loop.example/g00871/laws.FnExactMinorIn", spec := "fnExactMinorIn", recurses := true, named := ["math/bits.deBruijn32tab"], apart := false, laid := [("math/bits.deBruijn32tab", laid_math_bits_deBruijn32tab)], narrowed := true }
def FnExactMinorInUptoSaid : Prop := fnExactMinorInUptoRow.holds Tryd.pinned (OpenSpec.upto fnExactMinorInSpec)

/-- 'laws.FnComposedModels', WHERE WHAT IT READS IS OF BULK AT MOST 1048576: true; the input reads as it did. -/
def fnComposedModelsUptoRow : OpenClaim := { program := "ytmakhapdlkbbnaadoor", sum := "ce7f65392134745840e224ee248f72d2f4a5e4e79332739d9d6a60149b7183a1", func := "loop.example/g00871/laws.FnComposedModels", spec := "fnComposedModels", unfollowed := true, recurses := true, named := ["math/bits.deBruijn32tab"], apart := false, laid := [("math/bits.deBruijn32tab", laid_math_bits_deBruijn32tab)], narrowed := true }
def FnComposedModelsUptoSaid : Prop := fnComposedModelsUptoRow.holds Tryd.pinned (OpenSpec.upto fnComposedModelsSpec)

/-- 'laws.FnMinors', WHERE WHAT IT READS IS OF BULK AT MOST 1048576: true; the input reads as it did. -/
def fnMinorsUptoRow : OpenClaim := { program := "ytmakhapdlkbbnaadoor", sum := "ce7f65392134745840e224ee248f72d2f4a5e4e79332739d9d6a60149b7183a1", func := "loop.example/g00871/laws.FnMinors", spec := "fnMinors", unfollowed := true, recurses := true, named := ["math/bits.deBruijn32tab"], apart := false, laid := [("math/bits.deBruijn32tab", laid_math_bits_deBruijn32tab)], narrowed := true }
def FnMinorsUptoSaid : Prop := fnMinorsUptoRow.holds Tryd.pinned (OpenSpec.upto fnMinorsSpec)

/-- 'laws.FnStablesMany', WHERE WHAT IT READS IS OF BULK AT MOST 1048576: true; the input reads as it did. -/
def fnStablesManyUptoRow : OpenClaim := { program := "ytmakhapdlkbbnaadoor", sum := "ce7f65392134745840e224ee248f72d2f4a5e4e79332739d9d6a60149b7183a1", func := "loop.example/g00871/laws.FnStablesMany", spec := "fnStablesMany", unfollowed := true, recurses := true, named := ["math/bits.deBruijn32tab"], apart := false, laid := [("math/bits.deBruijn32tab", laid_math_bits_deBruijn32tab)], narrowed := true }
def FnStablesManyUptoSaid : Prop := fnStablesManyUptoRow.holds Tryd.pinned (OpenSpec.upto fnStablesManySpec)

/-- 'laws.FnStables', WHERE WHAT IT READS IS OF BULK AT MOST 1048576: true; the input reads as it did. -/
def fnStablesUptoRow : OpenClaim := { program := "ytmakhapdlkbbnaadoor", sum := "ce7f65392134745840e224ee248f72d2f4a5e4e79332739d9d6a60149b7183a1", func := "loop.example/g00871/laws.FnStables", spec := "fnStables", unfollowed := true, recurses := true, named := ["math/bits.deBruijn32tab"], apart := false, laid := [("math/bits.deBruijn32tab", laid_math_bits_deBruijn32tab)], narrowed := true }
def FnStablesUptoSaid : Prop := fnStablesUptoRow.holds Tryd.pinned (OpenSpec.upto fnStablesSpec)

end Rows
end Go.Proofs.YtmakhapdlkbbnaaDoor
