/-
  NARROWER THAN 'FOR EVERY INPUT', by the rows' own cells (each row's printed sentence says how): FnStables: laid · FnStablesMany: laid · FnRenamedBack: laid · FnCanon: laid · FnMade: laid · FnKnown: laid · FnLoops: laid · FnBlocks: laid.
  DERIVED. THE GIVEN ROWS OF THIS SEAT. 8 by the template 'for every input the law returns true; each argument reads behind the call as it read before'; 0 by the template 'total and deterministic' (their statements: YtkppbmfliejnmaaDoorTotals.lean).
  GIVEN WITH THE SEED: the statements are not yours to turn. If you find one false, say at which input.
  Laid BY PROGRAM, IN A SANDBOX (cutbox-rows.mjs): the forced cells as the released guide's own fill.sh prints them over the translation 9e8a30d8451336f5… (all of the seat's roots in one cut). By AI agents, Wed Nov 11 2026. No macro, syntax, notation, axiom, sorry.
-/
import Derived.Test.YtkppbmfliejnmaaDoorChecked
import GoSem.Claim
import GoSem.ClaimJoined
import GoSem.ClaimMapViews
import Derived.JoinedTies
import Derived.KernelRfl
namespace Go.Proofs.YtkppbmfliejnmaaDoor
/- THE CELL 'sum', in the pinned program and in every row, IS THE sha256 OF THE DUMP (.gsa) THAT YtkppbmfliejnmaaDoorProg.lean LOADS. Nothing in Lean hashes anything: it is a label: what it is worth is what the hold of that sum in a sandbox is worth. -/
noncomputable def Tryd.pinned : Pinned := { name := "ytkppbmfliejnmaadoor", sum := "9e8a30d8451336f57dd25bd10a434a1d7834719d71fc87e656de3b4e389cf386", checked := Tryd.checked }
namespace Rows
def none {H : Type} : Left H := { results := [], args := [] }

/- WHAT THE LISTED PACKAGE-LEVEL VARIABLES READ AS WHEN THE CALL BEGINS. Each datum BY PROGRAM (the guide's laid-datum.mjs) off the statement by which the dump's own 'gosem.cut.vars' lays the variable. In a bare row this is a premise. The card (YtkppbmfliejnmaaDoorCards.lean) ties it to the program's text. -/
def laid_math_bits_deBruijn32tab {H : Type} : DataW H := .agg [.lit (.int .u8 0), .lit (.int .u8 1), .lit (.int .u8 28), .lit (.int .u8 2), .lit (.int .u8 29), .lit (.int .u8 14), .lit (.int .u8 24), .lit (.int .u8 3), .lit (.int .u8 30), .lit (.int .u8 22), .lit (.int .u8 20), .lit (.int .u8 15), .lit (.int .u8 25), .lit (.int .u8 17), .lit (.int .u8 4), .lit (.int .u8 8), .lit (.int .u8 31), .lit (.int .u8 27), .lit (.int .u8 13), .lit (.int .u8 23), .lit (.int .u8 21), .lit (.int .u8 19), .lit (.int .u8 16), .lit (.int .u8 7), .lit (.int .u8 26), .lit (.int .u8 12), .lit (.int .u8 18), .lit (.int .u8 6), .lit (.int .u8 11), .lit (.int .u8 5), .lit (.int .u8 10), .lit (.int .u8 9)]

/-- 'laws.FnStables': WHATEVER THE INPUT: true; the input reads as it did. -/
def fnStablesSpec : ChangeSpec := { name := "fnStables", fn := fun _ => fun
  | [d] => { results := [.lit (.bool true)], args := [d] }
  | _ => none }
def fnStablesRow : OpenClaim := { program := "ytkppbmfliejnmaadoor", sum := "9e8a30d8451336f57dd25bd10a434a1d7834719d71fc87e656de3b4e389cf386", func := "loop.example/g00871/laws.FnStables", spec := "fnStables", unfollowed := true, recurses := true, named := ["math/bits.deBruijn32tab"], apart := false, laid := [("math/bits.deBruijn32tab", laid_math_bits_deBruijn32tab)] }
def FnStablesSaid : Prop := fnStablesRow.holds Tryd.pinned (OpenSpec.ofChange fnStablesSpec)

/-- ITS FALSE NEIGHBOUR: 'it returns false'. Refute it at one input. -/
def fnStablesWrong : ChangeSpec := { name := "fnStables", fn := fun _ => fun
  | [d] => { results := [.lit (.bool false)], args := [d] }
  | _ => none }
def FnStablesWrongFalsely : Prop := fnStablesRow.holds Tryd.pinned (OpenSpec.ofChange fnStablesWrong)

/-- 'laws.FnStablesMany': WHATEVER THE INPUT: true; the input reads as it did. -/
def fnStablesManySpec : ChangeSpec := { name := "fnStablesMany", fn := fun _ => fun
  | [d] => { results := [.lit (.bool true)], args := [d] }
  | _ => none }
def fnStablesManyRow : OpenClaim := { program := "ytkppbmfliejnmaadoor", sum := "9e8a30d8451336f57dd25bd10a434a1d7834719d71fc87e656de3b4e389cf386", func := "loop.example/g00871/laws.FnStablesMany", spec := "fnStablesMany", unfollowed := true, recurses := true, named := ["math/bits.deBruijn32tab"], apart := false, laid := [("math/bits.deBruijn32tab", laid_math_bits_deBruijn32tab)] }
def FnStablesManySaid : Prop := fnStablesManyRow.holds Tryd.pinned (OpenSpec.ofChange fnStablesManySpec)

/-- ITS FALSE NEIGHBOUR: 'it returns false'. Refute it at one input. -/
def fnStablesManyWrong : ChangeSpec := { name := "fnStablesMany", fn := fun _ => fun
  | [d] => { results := [.lit (.bool false)], args := [d] }
  | _ => none }
def FnStablesManyWrongFalsely : Prop := fnStablesManyRow.holds Tryd.pinned (OpenSpec.ofChange fnStablesManyWrong)

/-- 'laws.FnRenamedBack': WHATEVER THE INPUT: true; the input reads as it did. -/
def fnRenamedBackSpec : ChangeSpec := { name := "fnRenamedBack", fn := fun _ => fun
  | [d] => { results := [.lit (.bool true)], args := [d] }
  | _ => none }
def fnRenamedBackRow : OpenClaim := { program := "ytkppbmfliejnmaadoor", sum := "9e8a30d8451336f57dd25bd10a434a1d7834719d71fc87e656de3b4e389cf386", func := "loop.example/g00871/laws.FnRenamedBack", spec := "fnRenamedBack", unfollowed := true, recurses := true, named := ["math/bits.deBruijn32tab"], apart := false, laid := [("math/bits.deBruijn32tab", laid_math_bits_deBruijn32tab)] }
def FnRenamedBackSaid : Prop := fnRenamedBackRow.holds Tryd.pinned (OpenSpec.ofChange fnRenamedBackSpec)

/-- ITS FALSE NEIGHBOUR: 'it returns false'. Refute it at one input. -/
def fnRenamedBackWrong : ChangeSpec := { name := "fnRenamedBack", fn := fun _ => fun
  | [d] => { results := [.lit (.bool false)], args := [d] }
  | _ => none }
def FnRenamedBackWrongFalsely : Prop := fnRenamedBackRow.holds Tryd.pinned (OpenSpec.ofChange fnRenamedBackWrong)

/-- 'laws.FnCanon': WHATEVER THE INPUT: true; the input reads as it did. -/
def fnCanonSpec : ChangeSpec := { name := "fnCanon", fn := fun _ => fun
  | [d] => { results := [.lit (.bool true)], args := [d] }
  | _ => none }
def fnCanonRow : OpenClaim := { program := "ytkppbmfliejnmaadoor", sum := "9e8a30d8451336f57dd25bd10a434a1d7834719d71fc87e656de3b4e389cf386", func := "loop.example/g00871/laws.FnCanon", spec := "fnCanon", unfollowed := true, recurses := true, named := ["math/bits.deBruijn32tab"], apart := false, laid := [("math/bits.deBruijn32tab", laid_math_bits_deBruijn32tab)] }
def FnCanonSaid : Prop := fnCanonRow.holds Tryd.pinned (OpenSpec.ofChange fnCanonSpec)

/-- ITS FALSE NEIGHBOUR: 'it returns false'. Refute it at one input. -/
def fnCanonWrong : ChangeSpec := { name := "fnCanon", fn := fun _ => fun
  | [d] => { results := [.lit (.bool false)], args := [d] }
  | _ => none }
def FnCanonWrongFalsely : Prop := fnCanonRow.holds Tryd.pinned (OpenSpec.ofChange fnCanonWrong)

/-- 'laws.FnMade': WHATEVER THE INPUT: true; the input reads as it did. -/
def fnMadeSpec : ChangeSpec := { name := "fnMade", fn := fun _ => fun
  | [d] => { results := [.lit (.bool true)], args := [d] }
  | _ => none }
def fnMadeRow : OpenClaim := { program := "ytkppbmfliejnmaadoor", sum := "9e8a30d8451336f57dd25bd10a434a1d7834719d71fc87e656de3b4e389cf386", func := "loop.example/g00871/laws.FnMade", spec := "fnMade", unfollowed := true, recurses := true, named := ["math/bits.deBruijn32tab"], apart := false, laid := [("math/bits.deBruijn32tab", laid_math_bits_deBruijn32tab)] }
def FnMadeSaid : Prop := fnMadeRow.holds Tryd.pinned (OpenSpec.ofChange fnMadeSpec)

/-- ITS FALSE NEIGHBOUR: 'it returns false'. Refute it at one input. -/
def fnMadeWrong : ChangeSpec := { name := "fnMade", fn := fun _ => fun
  | [d] => { results := [.lit (.bool false)], args := [d] }
  | _ => none }
def FnMadeWrongFalsely : Prop := fnMadeRow.holds Tryd.pinned (OpenSpec.ofChange fnMadeWrong)

/-- 'laws.FnKnown': WHATEVER THE INPUT: true; the input reads as it did. -/
def fnKnownSpec : ChangeSpec := { name := "fnKnown", fn := fun _ => fun
  | [d] => { results := [.lit (.bool true)], args := [d] }
  | _ => none }
def fnKnownRow : OpenClaim := { program := "ytkppbmfliejnmaadoor", sum := "9e8a30d8451336f57dd25bd10a434a1d7834719d71fc87e656de3b4e389cf386", func := "loop.example/g00871/laws.FnKnown", spec := "fnKnown", recurses := true, named := ["math/bits.deBruijn32tab"], apart := false, laid := [("math/bits.deBruijn32tab", laid_math_bits_deBruijn32tab)] }
def FnKnownSaid : Prop := fnKnownRow.holds Tryd.pinned (OpenSpec.ofChange fnKnownSpec)

/-- ITS FALSE NEIGHBOUR: 'it returns false'. Refute it at one input. -/
def fnKnownWrong : ChangeSpec := { name := "fnKnown", fn := fun _ => fun
  | [d] => { results := [.lit (.bool false)], args := [d] }
  | _ => none }
def FnKnownWrongFalsely : Prop := fnKnownRow.holds Tryd.pinned (OpenSpec.ofChange fnKnownWrong)

/-- 'laws.FnLoops': WHATEVER THE INPUT: true; the input reads as it did. -/
def fnLoopsSpec : ChangeSpec := { name := "fnLoops", fn := fun _ => fun
  | [d] => { results := [.lit (.bool true)], args := [d] }
  | _ => none }
def fnLoopsRow : OpenClaim := { program := "ytkppbmfliejnmaadoor", sum := "9e8a30d8451336f57dd25bd10a434a1d7834719d71fc87e656de3b4e389cf386", func := "loop.example/g00871/laws.FnLoops", spec := "fnLoops", unfollowed := true, recurses := true, named := ["math/bits.deBruijn32tab"], apart := false, laid := [("math/bits.deBruijn32tab", laid_math_bits_deBruijn32tab)] }
def FnLoopsSaid : Prop := fnLoopsRow.holds Tryd.pinned (OpenSpec.ofChange fnLoopsSpec)

/-- ITS FALSE NEIGHBOUR: 'it returns false'. Refute it at one input. -/
def fnLoopsWrong : ChangeSpec := { name := "fnLoops", fn := fun _ => fun
  | [d] => { results := [.lit (.bool false)], args := [d] }
  | _ => none }
def FnLoopsWrongFalsely : Prop := fnLoopsRow.holds Tryd.pinned (OpenSpec.ofChange fnLoopsWrong)

/-- 'laws.FnBlocks': WHATEVER THE INPUT: true; the input reads as it did. -/
def fnBlocksSpec : ChangeSpec := { name := "fnBlocks", fn := fun _ => fun
  | [d] => { results := [.lit (.bool true)], args := [d] }
  | _ => none }
def fnBlocksRow : OpenClaim := { program := "ytkppbmfliejnmaadoor", sum := "9e8a30d8451336f57dd25bd10a434a1d7834719d71fc87e656de3b4e389cf386", func := "loop.example/g00871/laws.FnBlocks", spec := "fnBlocks", unfollowed := true, recurses := true, named := ["math/bits.deBruijn32tab"], apart := false, laid := [("math/bits.deBruijn32tab", laid_math_bits_deBruijn32tab)] }
def FnBlocksSaid : Prop := fnBlocksRow.holds Tryd.pinned (OpenSpec.ofChange fnBlocksSpec)

/-- ITS FALSE NEIGHBOUR: 'it returns false'. Refute it at one input. -/
def fnBlocksWrong : ChangeSpec := { name := "fnBlocks", fn := fun _ => fun
  | [d] => { results := [.lit (.bool false)], args := [d] }
  | _ => none }
def FnBlocksWrongFalsely : Prop := fnBlocksRow.holds Tryd.pinned (OpenSpec.ofChange fnBlocksWrong)

/- THE SECOND FORM. 'bulk': how many values and letters a reading holds, each counted each time it is reached (what is shared counts as often as it is met; a slice's spare places count too). A statement '..UptoSaid' is the law's where the arguments, and the package variables that the reading takes, are together of bulk at most 1048576: NARROWER than '..Said'. Prove '..Said' where nothing that the law and all that it calls make is longer than what came in: it says more and counts as full. Else prove '..UptoSaid'. A law counts once. -/
mutual
def uptoBulk {H : Type} : DataW H → Nat
  | .lit (.string bytes) => bytes.length + 1
  | .lit _ => 1
  | .nil => 1
  | .ptr d => uptoBulk d + 1
  | .slice elems spare => uptoBulkAll elems + uptoBulkAll spare + 1
  | .agg parts => uptoBulkAll parts + 1
  | .iface _ d => uptoBulk d + 1
  | .map entries => uptoBulkEntries entries + 1
  | .held _ => 1
def uptoBulkAll {H : Type} : List (DataW H) → Nat
  | [] => 0
  | d :: r => uptoBulk d + uptoBulkAll r
def uptoBulkEntries {H : Type} : List (Lit × DataW H) → Nat
  | [] => 0
  | x :: r => uptoBulkEntry x + uptoBulkEntries r
def uptoBulkEntry {H : Type} : Lit × DataW H → Nat
  | (.string bytes, d) => bytes.length + uptoBulk d + 1
  | (_, d) => uptoBulk d + 1
 end
def uptoSmall : (H : Type) → List (DataW H) → Bool := fun _ ds => decide (uptoBulkAll ds ≤ 1048576)
def OpenSpec.upto (s : _root_.Go.ChangeSpec) : _root_.Go.OpenSpec := { _root_.Go.OpenSpec.ofChange s with cond := some uptoSmall }

/-- 'laws.FnStables', WHERE WHAT IT READS IS OF BULK AT MOST 1048576: true; the input reads as it did. -/
def fnStablesUptoRow : OpenClaim := { program := "ytkppbmfliejnmaadoor", sum := "9e8a30d8451336f57dd25bd10a434a1d7834719d71fc87e656de3b4e389cf386", func := "loop.example/g00871/laws.FnStables", spec := "fnStables", unfollowed := true, recurses := true, named := ["math/bits.deBruijn32tab"], apart := false, laid := [("math/bits.deBruijn32tab", laid_math_bits_deBruijn32tab)], narrowed := true }
def FnStablesUptoSaid : Prop := fnStablesUptoRow.holds Tryd.pinned (OpenSpec.upto fnStablesSpec)

/-- 'laws.FnStablesMany', WHERE WHAT IT READS IS OF BULK AT MOST 1048576: true; the input reads as it did. -/
def fnStablesManyUptoRow : OpenClaim := { program := "ytkppbmfliejnmaadoor", sum := "9e8a30d8451336f57dd25bd10a434a1d7834719d71fc87e656de3b4e389cf386", func := "loop.example/g00871/laws.FnStablesMany", spec := "fnStablesMany", unfollowed := true, recurses := true, named := ["math/bits.deBruijn32tab"], apart := false, laid := [("math/bits.deBruijn32tab", laid_math_bits_deBruijn32tab)], narrowed := true }
def FnStablesManyUptoSaid : Prop := fnStablesManyUptoRow.holds Tryd.pinned (OpenSpec.upto fnStablesManySpec)

/-- 'laws.FnRenamedBack', WHERE WHAT IT READS IS OF BULK AT MOST 1048576: true; the input reads as it did. -/
def fnRenamedBackUptoRow : OpenClaim := { program := "ytkppbmfliejnmaadoor", sum := "9e8a30d8451336f57dd25bd10a434a1d7834719d71fc87e656de3b4e389cf386", func := "loop.example/g00871/laws.FnRenamedBack", spec := "fnRenamedBack", unfollowed := true, recurses := true, named := ["math/bits.deBruijn32tab"], apart := false, laid := [("math/bits.deBruijn32tab", laid_math_bits_deBruijn32tab)], narrowed := true }
def FnRenamedBackUptoSaid : Prop := fnRenamedBackUptoRow.holds Tryd.pinned (OpenSpec.upto fnRenamedBackSpec)

/-- 'laws.FnCanon', WHERE WHAT IT READS IS OF BULK AT MOST 1048576: true; the input reads as it did. -/
def fnCanonUptoRow : OpenClaim := { program := "ytkppbmfliejnmaadoor", sum := "9e8a30d8451336f57dd25bd10a434a1d7834719d71fc87e656de3b4e389cf386", func := "loop.example/g00871/laws.FnCanon", spec := "fnCanon", unfollowed := true, recurses := true, named := ["math/bits.deBruijn32tab"], apart := false, laid := [("math/bits.deBruijn32tab", laid_math_bits_deBruijn32tab)], narrowed := true }
def FnCanonUptoSaid : Prop := fnCanonUptoRow.holds Tryd.pinned (OpenSpec.upto fnCanonSpec)

/-- 'laws.FnMade', WHERE WHAT IT READS IS OF BULK AT MOST 1048576: true; the input reads as it did. -/
def fnMadeUptoRow : OpenClaim := { program := "ytkppbmfliejnmaadoor", sum := "9e8a30d8451336f57dd25bd10a434a1d7834719d71fc87e656de3b4e389cf386", func := "loop.example/g00871/laws.FnMade", spec := "fnMade", unfollowed := true, recurses := true, named := ["math/bits.deBruijn32tab"], apart := false, laid := [("math/bits.deBruijn32tab", laid_math_bits_deBruijn32tab)], narrowed := true }
def FnMadeUptoSaid : Prop := fnMadeUptoRow.holds Tryd.pinned (OpenSpec.upto fnMadeSpec)

/-- 'laws.FnKnown', WHERE WHAT IT READS IS OF BULK AT MOST 1048576: true; the input reads as it did. -/
def fnKnownUptoRow : OpenClaim := { program := "ytkppbmfliejnmaadoor", sum := "9e8a30d8451336f57dd25bd10a434a1d7834719d71fc87e656de3b4e389cf386", func := "loop.example/g00871/laws.FnKnown", spec := "fnKnown", recurses := true, named := ["math/bits.deBruijn32tab"], apart := false, laid := [("math/bits.deBruijn32tab", laid_math_bits_deBruijn32tab)], narrowed := true }
def FnKnownUptoSaid : Prop := fnKnownUptoRow.holds Tryd.pinned (OpenSpec.upto fnKnownSpec)

/-- 'laws.FnLoops', WHERE WHAT IT READS IS OF BULK AT MOST 1048576: true; the input reads as it did. -/
def fnLoopsUptoRow : OpenClaim := { program := "ytkppbmfliejnmaadoor", sum := "9e8a30d8451336f57dd25bd10a434a1d7834719d71fc87e656de3b4e389cf386", func := "loop.example/g00871/laws.FnLoops", spec := "fnLoops", unfollowed := true, recurses := true, named := ["math/bits.deBruijn32tab"], apart := false, laid := [("math/bits.deBruijn32tab", laid_math_bits_deBruijn32tab)], narrowed := true }
def FnLoopsUptoSaid : Prop := fnLoopsUptoRow.holds Tryd.pinned (OpenSpec.upto fnLoopsSpec)

/-- 'laws.FnBlocks', WHERE WHAT IT READS IS OF BULK AT MOST 1048576: true; the input reads as it did. -/
def fnBlocksUptoRow : OpenClaim := { program := "ytkppbmfliejnmaadoor", sum := "9e8a30d8451336f57dd25bd10a434a1d7834719d71fc87e656de3b4e389cf386", func := "loop.example/g00871/laws.FnBlocks", spec := "fnBlocks", unfollowed := true, recurses := true, named := ["math/bits.deBruijn32tab"], apart := false, laid := [("math/bits.deBruijn32tab", laid_math_bits_deBruijn32tab)], narrowed := true }
def FnBlocksUptoSaid : Prop := fnBlocksUptoRow.holds Tryd.pinned (OpenSpec.upto fnBlocksSpec)

end Rows
end Go.Proofs.YtkppbmfliejnmaaDoor
