/- Walk: the program's parts of a set. -/
import Derived.Test.YtlhkhibnbmnjiaaDoorRchA
namespace Go.Proofs.YtlhkhibnbmnjiaaDoor
open Go.RowKit

theorem ty_vsets : SlTy Tryd.prog 42 59 (.int .u32 0) 1 4 := ⟨Tryd.underlying42, by kernel_rfl, rfl, by decide, by decide⟩

theorem Tab.grownP {w w' : World} {r : Option Nat} (h : Tab w) (hg : w.grownBy w' r) (hr : some 0 ≠ r) : Tab w' := fun j hj => hg.cell (a := ⟨_, j, none⟩) (h j hj) hr

/-- Lists, as masks. -/
def mskL (ps : List (List Nat)) : List Nat := ps.map fun l => mask (natInts l)
theorem mskL_snoc (ps : List (List Nat)) (l : List Nat) : mskL (ps ++ [l]) = mskL ps ++ [mask (natInts l)] := by simp [mskL]
theorem mskL_length (ps : List (List Nat)) : (mskL ps).length = ps.length := by simp [mskL]


end Go.Proofs.YtlhkhibnbmnjiaaDoor
