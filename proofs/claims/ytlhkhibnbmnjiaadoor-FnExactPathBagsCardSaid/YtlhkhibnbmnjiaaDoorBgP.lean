/- Plain law: the bags of an order. -/
import Derived.Test.YtlhkhibnbmnjiaaDoorEdgesP
namespace Go.Proofs.YtlhkhibnbmnjiaaDoor
open Go.RowKit

def openB (n : Nat) (E : Nat → Nat → Bool) (pre : List Nat) (v : Nat) : Bool := decide (v ∈ pre) && (List.range n).any fun y => E v y && !decide (y ∈ pre)
theorem openB_iff {n : Nat} {E : Nat → Nat → Bool} {pre : List Nat} {v : Nat} : openB n E pre v = true ↔ v ∈ pre ∧ ∃ y, y < n ∧ E v y = true ∧ y ∉ pre := by
  simp [openB]
def opensP (n : Nat) (E : Nat → Nat → Bool) (pre : List Nat) : List Nat := (List.range n).filter (openB n E pre)
theorem mem_opensP {n : Nat} {E : Nat → Nat → Bool} {pre : List Nat} {x : Nat} : x ∈ opensP n E pre ↔ x < n ∧ openB n E pre x = true := by simp [opensP]
theorem opensP_rising (n : Nat) (E : Nat → Nat → Bool) (pre : List Nat) : (opensP n E pre).Pairwise (· < ·) := List.Pairwise.filter _ List.pairwise_lt_range
theorem opensP_length (n : Nat) (E : Nat → Nat → Bool) (pre : List Nat) : (opensP n E pre).length ≤ n := Nat.le_trans (List.length_filter_le _ _) (by simp)
def bagP (n : Nat) (E : Nat → Nat → Bool) (l : List Nat) (m : Nat) : List Nat := (List.range n).filter fun v => decide (l[m]? = some v) || openB n E (l.take m) v
theorem mem_bagP {n : Nat} {E : Nat → Nat → Bool} {l : List Nat} {m x : Nat} : x ∈ bagP n E l m ↔ x < n ∧ (l[m]? = some x ∨ openB n E (l.take m) x = true) := by simp [bagP]
theorem bagP_rising (n : Nat) (E : Nat → Nat → Bool) (l : List Nat) (m : Nat) : (bagP n E l m).Pairwise (· < ·) := List.Pairwise.filter _ List.pairwise_lt_range
theorem bagP_length (n : Nat) (E : Nat → Nat → Bool) (l : List Nat) (m : Nat) : (bagP n E l m).length ≤ n := Nat.le_trans (List.length_filter_le _ _) (by simp)
def bagsP (n : Nat) (E : Nat → Nat → Bool) (l : List Nat) (k : Nat) : List (List Nat) := (List.range k).map (bagP n E l)
theorem bagsP_length (n : Nat) (E : Nat → Nat → Bool) (l : List Nat) (k : Nat) : (bagsP n E l k).length = k := by simp [bagsP]
theorem bagsP_succ (n : Nat) (E : Nat → Nat → Bool) (l : List Nat) (k : Nat) : bagsP n E l (k + 1) = bagsP n E l k ++ [bagP n E l k] := by simp [bagsP, List.range_succ]
theorem mem_bagsP {n : Nat} {E : Nat → Nat → Bool} {l : List Nat} {k : Nat} {b : List Nat} (h : b ∈ bagsP n E l k) : b.Pairwise (· < ·) ∧ b.length ≤ n ∧ ∀ x ∈ b, x < n := by
  obtain ⟨m, _, rfl⟩ := List.mem_map.1 h
  exact ⟨bagP_rising _ _ _ _, bagP_length _ _ _ _, fun x hx => (mem_bagP.1 hx).1⟩

/-- What PathBags returns. -/
def PbS (g : List (List Int)) (l : List Int) (gg : List (List Int)) : Prop :=
  (GOk g ∧ OrdOk g.length l ∧ gg = (bagsP g.length (ofG g) (l.map Int.toNat) l.length).map natInts) ∨ (gg = [] ∧ ¬ (GOk g ∧ OrdOk g.length l))
theorem pbS_det {g : List (List Int)} {l : List Int} {gg hh : List (List Int)} (h : PbS g l gg) (h2 : PbS g l hh) : gg = hh := by
  rcases h with ⟨a, b, rfl⟩ | ⟨rfl, a⟩ <;> rcases h2 with ⟨c, d, rfl⟩ | ⟨rfl, c⟩
  · rfl
  · exact absurd ⟨a, b⟩ c
  · exact absurd ⟨c, d⟩ a
  · rfl

end Go.Proofs.YtlhkhibnbmnjiaaDoor
