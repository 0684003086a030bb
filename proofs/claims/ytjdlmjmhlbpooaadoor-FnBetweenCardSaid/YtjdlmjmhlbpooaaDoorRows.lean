/-
  NARROWER THAN 'FOR EVERY INPUT', by the rows' own cells (each row's printed sentence says how): FnExactTrailOf: laid · FnTrails: laid · FnParts: laid · FnEdges: laid · FnBetween: laid · FnContracted: laid.
  DERIVED. THE GIVEN ROWS OF THIS SEAT. 6 by the template 'for every input the law returns true; each argument reads behind the call as it read before'; 0 by the template 'total and deterministic' (their statements: YtjdlmjmhlbpooaaDoorTotals.lean).
  GIVEN WITH THE SEED: the statements are not yours to turn. If you find one false, say at which input.
  Laid BY PROGRAM, IN A SANDBOX (cutbox-rows.mjs): the forced cells as the released guide's own fill.sh prints them over the translation b576eb0e917372da… (all of the seat's roots in one cut). By AI agents, Wed Nov 11 2026. No macro, syntax, notation, axiom, sorry.
-/
import Derived.Test.YtjdlmjmhlbpooaaDoorChecked
import GoSem.Claim
import GoSem.ClaimJoined
import GoSem.ClaimMapViews
import Derived.JoinedTies
import Derived.KernelRfl
namespace Go.Proofs.YtjdlmjmhlbpooaaDoor
/- THE CELL 'sum', in the pinned program and in every row, IS THE sha256 OF THE DUMP (.gsa) THAT YtjdlmjmhlbpooaaDoorProg.lean LOADS. Nothing in Lean hashes anything: it is a label: what it is worth is what the hold of that sum in a sandbox is worth. -/
noncomputable def Tryd.pinned : Pinned := { name := "ytjdlmjmhlbpooaadoor", sum := "b576eb0e917372daca9726f8e6b0a417ac69ce63232e5eaac7e3b44669378c1b", checked := Tryd.checked }
namespace Rows
def none {H : Type} : Left H := { results := [], args := [] }

/- WHAT THE LISTED PACKAGE-LEVEL VARIABLES READ AS WHEN THE CALL BEGINS. Each datum BY PROGRAM (the guide's laid-datum.mjs) off the statement by which the dump's own 'gosem.cut.vars' lays the variable. In a bare row this is a premise. The card (YtjdlmjmhlbpooaaDoorCards.lean) ties it to the program's text. -/
def laid_math_bits_deBruijn32tab {H : Type} : DataW H := .agg [.lit (.int .u8 0), .lit (.int .u8 1), .lit (.int .u8 28), .lit (.int .u8 2), .lit (.int .u8 29), .lit (.int .u8 14), .lit (.int .u8 24), .lit (.int .u8 3), .lit (.int .u8 30), .lit (.int .u8 22), .lit (.int .u8 20), .lit (.int .u8 15), .lit (.int .u8 25), .lit (.int .u8 17), .lit (.int .u8 4), .lit (.int .u8 8), .lit (.int .u8 31), .lit (.int .u8 27), .lit (.int .u8 13), .lit (.int .u8 23), .lit (.int .u8 21), .lit (.int .u8 19), .lit (.int .u8 16), .lit (.int .u8 7), .lit (.int .u8 26), .lit (.int .u8 12), .lit (.int .u8 18), .lit (.int .u8 6), .lit (.int .u8 11), .lit (.int .u8 5), .lit (.int .u8 10), .lit (.int .u8 9)]

/-- 'laws.FnExactTrailOf': WHATEVER THE INPUT: true; the input reads as it did. -/
def fnExactTrailOfSpec : ChangeSpec := { name := "fnExactTrailOf", fn := fun _ => fun
  | [d] => { results := [.lit (.bool true)], args := [d] }
  | _ => none }
def fnExactTrailOfRow : OpenClaim := { program := "ytjdlmjmhlbpooaadoor", sum := "b576eb0e917372daca9726f8e6b0a417ac69ce63232e5eaac7e3b44669378c1b", func := "loop.example/g00871/laws.FnExactTrailOf", spec := "fnExactTrailOf", unfollowed := true, recurses := true, named := ["math/bits.deBruijn32tab"], apart := false, laid := [("math/bits.deBruijn32tab", laid_math_bits_deBruijn32tab)] }
def FnExactTrailOfSaid : Prop := fnExactTrailOfRow.holds Tryd.pinned (OpenSpec.ofChange fnExactTrailOfSpec)

/-- ITS FALSE NEIGHBOUR: 'it returns false'. Refute it at one input. -/
def fnExactTrailOfWrong : ChangeSpec := { name := "fnExactTrailOf", fn := fun _ => fun
  | [d] => { results := [.lit (.bool false)], args := [d] }
  | _ => none }
def FnExactTrailOfWrongFalsely : Prop := fnExactTrailOfRow.holds Tryd.pinned (OpenSpec.ofChange fnExactTrailOfWrong)

/-- 'laws.FnTrails': WHATEVER THE INPUT: true; the input reads as it did. -/
def fnTrailsSpec : ChangeSpec := { name := "fnTrails", fn := fun _ => fun
  | [d] => { results := [.lit (.bool true)], args := [d] }
  | _ => none }
def fnTrailsRow : OpenClaim := { program := "ytjdlmjmhlbpooaadoor", sum := "b576eb0e917372daca9726f8e6b0a417ac69ce63232e5eaac7e3b44669378c1b", func := "loop.example/g00871/laws.FnTrails", spec := "fnTrails", unfollowed := true, recurses := true, named := ["math/bits.deBruijn32tab"], apart := false, laid := [("math/bits.deBruijn32tab", laid_math_bits_deBruijn32tab)] }
def FnTrailsSaid : Prop := fnTrailsRow.holds Tryd.pinned (OpenSpec.ofChange fnTrailsSpec)

/-- ITS FALSE NEIGHBOUR: 'it returns false'. Refute it at one input. -/
def fnTrailsWrong : ChangeSpec := { name := "fnTrails", fn := fun _ => fun
  | [d] => { results := [.lit (.bool false)], args := [d] }
  | _ => none }
def FnTrailsWrongFalsely : Prop := fnTrailsRow.holds Tryd.pinned (OpenSpec.ofChange fnTrailsWrong)

/-- 'laws.FnParts': WHATEVER THE INPUT: true; the input reads as it did. -/
def fnPartsSpec : ChangeSpec := { name := "fnParts", fn := fun _ => fun
  | [d] => { results := [.lit (.bool true)], args := [d] }
  | _ => none }
def fnPartsRow : OpenClaim := { program := "ytjdlmjmhlbpooaadoor", sum := "b576eb0e917372daca9726f8e6b0a417ac69ce63232e5eaac7e3b44669378c1b", func := "loop.example/g00871/laws.FnParts", spec := "fnParts", named := ["math/bits.deBruijn32tab"], apart := false, laid := [("math/bits.deBruijn32tab", laid_math_bits_deBruijn32tab)] }
def FnPartsSaid : Prop := fnPartsRow.holds Tryd.pinned (OpenSpec.ofChange fnPartsSpec)

/-- ITS FALSE NEIGHBOUR: 'it returns false'. Refute it at one input. -/
def fnPartsWrong : ChangeSpec := { name := "fnParts", fn := fun _ => fun
  | [d] => { results := [.lit (.bool false)], args := [d] }
  | _ => none }
def FnPartsWrongFalsely : Prop := fnPartsRow.holds Tryd.pinned (OpenSpec.ofChange fnPartsWrong)

/-- 'laws.FnEdges': WHATEVER THE INPUT: true; the input reads as it did. -/
def fnEdgesSpec : ChangeSpec := { name := "fnEdges", fn := fun _ => fun
  | [d] => { results := [.lit (.bool true)], args := [d] }
  | _ => none }
def fnEdgesRow : OpenClaim := { program := "ytjdlmjmhlbpooaadoor", sum := "b576eb0e917372daca9726f8e6b0a417ac69ce63232e5eaac7e3b44669378c1b", func := "loop.example/g00871/laws.FnEdges", spec := "fnEdges", unfollowed := true, recurses := true, named := ["math/bits.deBruijn32tab"], apart := false, laid := [("math/bits.deBruijn32tab", laid_math_bits_deBruijn32tab)] }
def FnEdgesSaid : Prop := fnEdgesRow.holds Tryd.pinned (OpenSpec.ofChange fnEdgesSpec)

/-- ITS FALSE NEIGHBOUR: 'it returns false'. Refute it at one input. -/
def fnEdgesWrong : ChangeSpec := { name := "fnEdges", fn := fun _ => fun
  | [d] => { results := [.lit (.bool false)], args := [d] }
  | _ => none }
def FnEdgesWrongFalsely : Prop := fnEdgesRow.holds Tryd.pinned (OpenSpec.ofChange fnEdgesWrong)

/-- 'laws.FnBetween': WHATEVER THE INPUT: true; the input reads as it did. -/
def fnBetweenSpec : ChangeSpec := { name := "fnBetween", fn := fun _ => fun
  | [d] => { results := [.lit (.bool true)], args := [d] }
  | _ => none }
def fnBetweenRow : OpenClaim := { program := "ytjdlmjmhlbpooaadoor", sum := "b576eb0e917372daca9726f8e6b0a417ac69ce63232e5eaac7e3b44669378c1b", func := "loop.example/g00871/laws.FnBetween", spec := "fnBetween", named := ["math/bits.deBruijn32tab"], apart := false, laid := [("math/bits.deBruijn32tab", laid_math_bits_deBruijn32tab)] }
def FnBetweenSaid : Prop := fnBetweenRow.holds Tryd.pinned (OpenSpec.ofChange fnBetweenSpec)

/-- ITS FALSE NEIGHBOUR: 'it returns false'. Refute it at one input. -/
def fnBetweenWrong : ChangeSpec := { name := "fnBetween", fn := fun _ => fun
  | [d] => { results := [.lit (.bool false)], args := [d] }
  | _ => none }
def FnBetweenWrongFalsely : Prop := fnBetweenRow.holds Tryd.pinned (OpenSpec.ofChange fnBetweenWrong)

/-- 'laws.FnContracted': WHATEVER THE INPUT: true; the input reads as it did. -/
def fnContractedSpec : ChangeSpec := { name := "fnContracted", fn := fun _ => fun
  | [d] => { results := [.lit (.bool true)], args := [d] }
  | _ => none }
def fnContractedRow : OpenClaim := { program := "ytjdlmjmhlbpooaadoor", sum := "b576eb0e917372daca9726f8e6b0a417ac69ce63232e5eaac7e3b44669378c1b", func := "loop.example/g00871/laws.FnContracted", spec := "fnContracted", unfollowed := true, recurses := true, named := ["math/bits.deBruijn32tab"], apart := false, laid := [("math/bits.deBruijn32tab", laid_math_bits_deBruijn32tab)] }
def FnContractedSaid : Prop := fnContractedRow.holds Tryd.pinned (OpenSpec.ofChange fnContractedSpec)

/-- ITS FALSE NEIGHBOUR: 'it returns false'. Refute it at one input. -/
def fnContractedWrong : ChangeSpec := { name := "fnContracted", fn := fun _ => fun
  | [d] => { results := [.lit (.bool false)], args := [d] }
  | _ => none }
def FnContractedWrongFalsely : Prop := fnContractedRow.holds Tryd.pinned (OpenSpec.ofChange fnContractedWrong)

/- THE SECOND FORM. 'bulk': how many values and letters a reading holds, each counted each time it is reached (what is shared counts as often as it is met; a slice's spare places count too). A statement '..UptoSaid' is the law's where the arguments, and the package variables that the reading takes, are together of bulk at most 1048576: NARROWER than '..Said'. Prove '..Said' where nothing that the law and all that it calls make is longer than what came in: it says more and counts as full. Else prove '..UptoSaid'. A law counts once. -/
mutual
def uptoBulk {H : Type} : DataW H → Nat
  | .lit (.string bytes) => bytes.length + 1
  | .lit _ => 1
  | .nil => 1
  | .ptr d => uptoBulk d + 1
  | .slice elems spare => uptoBulkAll elems + uptoBulkAll spare + 1
  | .agg parts => uptoBulkAll parts + 1
  | .iface _ d => uptoBulk d + 1
  | .map entries => uptoBulkEntries entries + 1
  | .held _ => 1
def uptoBulkAll {H : Type} : List (DataW H) → Nat
  | [] => 0
  | d :: r => uptoBulk d + uptoBulkAll r
def uptoBulkEntries {H : Type} : List (Lit × DataW H) → Nat
  | [] => 0
  | x :: r => uptoBulkEntry x + uptoBulkEntries r
def uptoBulkEntry {H : Type} : Lit × DataW H → Nat
  | (.string bytes, d) => bytes.length + uptoBulk d + 1
  | (_, d) => uptoBulk d + 1
 end
def uptoSmall : (H : Type) → List (DataW H) → Bool := fun _ ds => decide (uptoBulkAll ds ≤ 1048576)
def OpenSpec.upto (s : _root_.Go.ChangeSpec) : _root_.Go.OpenSpec := { _root_.Go.OpenSpec.ofChange s with cond := some uptoSmall }

/-- 'laws.FnExactTrailOf', WHERE WHAT IT READS IS OF BULK AT MOST 1048576: true; the input reads as it did. -/
def fnExactTrailOfUptoRow : OpenClaim := { program := "ytjdlmjmhlbpooaadoor", sum := "b576eb0e917372daca9726f8e6b0a417ac69ce63232e5eaac7e3b44669378c1b", func := "loop.example/g00871/laws.FnExactTrailOf", spec := "fnExactTrailOf", unfollowed := true, recurses := true, named := ["math/bits.deBruijn32tab"], apart := false, laid := [("math/bits.deBruijn32tab", laid_math_bits_deBruijn32tab)], narrowed := true }
def FnExactTrailOfUptoSaid : Prop := fnExactTrailOfUptoRow.holds Tryd.pinned (OpenSpec.upto fnExactTrailOfSpec)

/-- 'laws.FnTrails', WHERE WHAT IT READS IS OF BULK AT MOST 1048576: true; the input reads as it did. -/
def fnTrailsUptoRow : OpenClaim := { program := "ytjdlmjmhlbpooaadoor", sum := "b576eb0e917372daca9726f8e6b0a417ac69ce63232e5eaac7e3b44669378c1b", func := "loop.example/g00871/laws.FnTrails", spec := "fnTrails", unfollowed := true, recurses := true, named := ["math/bits.deBruijn32tab"], apart := false, laid := [("math/bits.deBruijn32tab", laid_math_bits_deBruijn32tab)], narrowed := true }
def FnTrailsUptoSaid : Prop := fnTrailsUptoRow.holds Tryd.pinned (OpenSpec.upto fnTrailsSpec)

/-- 'laws.FnParts', WHERE WHAT IT READS IS OF BULK AT MOST 1048576: true; the input reads as it did. -/
def fnPartsUptoRow : OpenClaim := { program := "ytjdlmjmhlbpooaadoor", sum := "b576eb0e917372daca9726f8e6b0a417ac69ce63232e5eaac7e3b44669378c1b", func := "loop.example/g00871/laws.FnParts", spec := "fnParts", named := ["math/bits.deBruijn32tab"], apart := false, laid := [("math/bits.deBruijn32tab", laid_math_bits_deBruijn32tab)], narrowed := true }
def FnPartsUptoSaid : Prop := fnPartsUptoRow.holds Tryd.pinned (OpenSpec.upto fnPartsSpec)

/-- 'laws.FnEdges', WHERE WHAT IT READS IS OF BULK AT MOST 1048576: true; the input reads as it did. -/
def fnEdgesUptoRow : OpenClaim := { program := "ytjdlmjmhlbpooaadoor", sum := "b576eb0e917372daca9726f8e6b0a417ac69ce63232e5eaac7e3b44669378c1b", func := "loop.example/g00871/laws.FnEdges", spec := "fnEdges", unfollowed := true, recurses := true, named := ["math/bits.deBruijn32tab"], apart := false, laid := [("math/bits.deBruijn32tab", laid_math_bits_deBruijn32tab)], narrowed := true }
def FnEdgesUptoSaid : Prop := fnEdgesUptoRow.holds Tryd.pinned (OpenSpec.upto fnEdgesSpec)

/-- 'laws.FnBetween', WHERE WHAT IT READS IS OF BULK AT MOST 1048576: true; the input reads as it did. -/
def fnBetweenUptoRow : OpenClaim := { program := "ytjdlmjmhlbpooaadoor", sum := "b576eb0e917372daca9726f8e6b0a417ac69ce63232e5eaac7e3b44669378c1b", func := "loop.example/g00871/laws.FnBetween", spec := "fnBetween", named := ["math/bits.deBruijn32tab"], apart := false, laid := [("math/bits.deBruijn32tab", laid_math_bits_deBruijn32tab)], narrowed := true }
def FnBetweenUptoSaid : Prop := fnBetweenUptoRow.holds Tryd.pinned (OpenSpec.upto fnBetweenSpec)

/-- 'laws.FnContracted', WHERE WHAT IT READS IS OF BULK AT MOST 1048576: true; the input reads as it did. -/
def fnContractedUptoRow : OpenClaim := { program := "ytjdlmjmhlbpooaadoor", sum := "b576eb0e917372daca9726f8e6b0a417ac69ce63232e5eaac7e3b44669378c1b", func := "loop.example/g00871/laws.FnContracted", spec := "fnContracted", unfollowed := true, recurses := true, named := ["math/bits.deBruijn32tab"], apart := false, laid := [("math/bits.deBruijn32tab", laid_math_bits_deBruijn32tab)], narrowed := true }
def FnContractedUptoSaid : Prop := fnContractedUptoRow.holds Tryd.pinned (OpenSpec.upto fnContractedSpec)

end Rows
end Go.Proofs.YtjdlmjmhlbpooaaDoor
