/- Plain: the later neighbours along an order. -/
import Derived.Test.YtbdcolhmhbfdoaaDoorFillE
namespace Go.Proofs.YtbdcolhmhbfdoaaDoor

theorem fill_stay {E : Nat → Nat → Bool} {l : List Nat} {k : Nat} (hk : k < l.length) (x : Nat) : ∀ m, k ≤ m → fillP E l m l[k] x = fillP E l k l[k] x := by
  intro m h
  induction m with
  | zero => obtain rfl : k = 0 := by omega
            rfl
  | succ m ih =>
    by_cases e : k = m + 1
    · subst e; rfl
    · rw [← ih (by omega)]
      have hm : l[k] ∈ l.take (m + 1) := List.mem_take_iff_getElem.2 ⟨k, by omega, rfl⟩
      show elimE _ _ _ _ = _
      simp [elimE, laterE, hm]

theorem late_final {n : Nat} {E : Nat → Nat → Bool} {l : List Nat} {k : Nat} (hk : k < l.length) : ((List.range n).filter (fillP E l l.length l[k])).filter (fun x => !decide (x ∈ l.take (k + 1))) = lateL n E l k := by
  have e : fillP E l l.length l[k] = fillP E l k l[k] := funext fun x => fill_stay hk x _ (by omega)
  rw [e]
  unfold lateL
  rw [List.filter_filter, getD_nat hk]
  congr 1
  funext x
  unfold laterE
  rw [Bool.eq_iff_iff]
  simp only [Bool.and_eq_true, Bool.not_eq_true', decide_eq_false_iff_not, decide_eq_true_eq]
  exact and_comm

/-- The rows of the later neighbours behind k eliminations. -/
def laterRows (n : Nat) (E : Nat → Nat → Bool) (l : List Nat) (k : Nat) : List (List Int) := (List.range n).map fun v => natInts (bitsOf ((laterN n E l k).getD v 0))
theorem laterRows_length (n : Nat) (E : Nat → Nat → Bool) (l : List Nat) (k : Nat) : (laterRows n E l k).length = n := by simp [laterRows]
theorem row_laterRows {n : Nat} {E : Nat → Nat → Bool} {l : List Nat} {k v : Nat} (hv : v < n) : row (laterRows n E l k) v = natInts (bitsOf ((laterN n E l k).getD v 0)) := by
  simp [row, laterRows, hv]
theorem laterRows_start (n : Nat) (E : Nat → Nat → Bool) (l : List Nat) : laterRows n E l 0 = List.replicate n [] := by
  refine List.ext_getElem (by simp [laterRows]) fun j h1 h2 => ?_
  have hj : j < n := by simpa [laterRows] using h1
  simp [laterRows, laterN, hj, bitsOf_zero, natInts]
theorem laterRows_step {n : Nat} (hn : n ≤ 16) {E : Nat → Nat → Bool} {l : List Nat} (hl : ∀ v ∈ l, v < n) {k : Nat} (hk : k < l.length) :
    (laterRows n E l k).set l[k] (natInts (lateL n E l k)) = laterRows n E l (k + 1) := by
  have hv := hl _ (List.getElem_mem hk)
  refine List.ext_getElem (by simp [laterRows]) fun j h1 h2 => ?_
  have hj : j < n := by simpa [laterRows] using h2
  have e : ∀ m, (laterRows n E l m)[j]'(by rw [laterRows_length]; exact hj) = natInts (bitsOf ((laterN n E l m).getD j 0)) := fun m => by simp [laterRows]
  rw [List.getElem_set, e, e]
  show _ = natInts (bitsOf (((laterN n E l k).set (l.getD k 0) (mask (natInts (lateL n E l k)))).getD j 0))
  rw [getD_nat hk, getD_set _ _ _ _ (by rw [laterN_length]; exact hv)]
  by_cases h : l[k] = j
  · rw [if_pos h, if_pos h.symm, later_bits hn]
  · rw [if_neg h, if_neg (fun e => h e.symm)]
theorem laterN_lt {n : Nat} (hn : n ≤ 16) (E : Nat → Nat → Bool) (l : List Nat) : ∀ k, ∀ s ∈ laterN n E l k, s < 65536
  | 0, s, hs => by
    simp only [laterN, List.mem_replicate] at hs
    omega
  | k + 1, s, hs => by
    rcases List.mem_or_eq_of_mem_set hs with h | rfl
    · exact laterN_lt hn E l k s h
    · exact mask_nat_lt16 fun i hi => by have := (mem_lateL.1 hi).1; omega
theorem laterRows_le {n : Nat} {E : Nat → Nat → Bool} {l : List Nat} {k j : Nat} : (row (laterRows n E l k) j).length ≤ 32 := by
  by_cases h : j < n
  · rw [row_laterRows h, natInts_length]
    exact bitsOf_length _
  · rw [row_out (by rw [laterRows_length]; exact h)]; simp

/-- What LaterOf returns. -/
def LaterS (g : List (List Int)) (l : List Int) (rs : List (List Int)) : Prop :=
  (GOk g ∧ OrdOk g.length l ∧ rs = laterRows g.length (ofG g) (l.map Int.toNat) l.length) ∨ (rs = [] ∧ ¬ (GOk g ∧ OrdOk g.length l))
theorem laterS_det {g gg hh : List (List Int)} {l : List Int} (h : LaterS g l gg) (h' : LaterS g l hh) : gg = hh := by
  rcases h with ⟨h1, h2, rfl⟩ | ⟨rfl, h⟩ <;> rcases h' with ⟨h1', h2', rfl⟩ | ⟨rfl, h'⟩
  · rfl
  · exact absurd ⟨h1, h2⟩ h'
  · exact absurd ⟨h1', h2'⟩ h
  · rfl

end Go.Proofs.YtbdcolhmhbfdoaaDoor
