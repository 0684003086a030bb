/- Plain: the greatest cliques, in the order in which both find them. -/
import Derived.Test.YtkppbmfliejnmaaDoorRbQ20
namespace Go.Proofs.YtkppbmfliejnmaaDoor

/-- What is found with a set, those that are left, and those that may not come. -/
def clF (E : Nat → Nat → Bool) : Nat → List Nat → List Nat → List Nat → List (List Nat)
  | 0, _, _, _ => []
  | k + 1, set, left, out => if left = [] ∧ out = [] then [set] else
    (List.range left.length).flatMap fun i => clF E k (set ++ [left.getD i 0]) ((left.drop (i + 1)).filter (E (left.getD i 0))) ((out ++ left.take i).filter (E (left.getD i 0)))
def clTo (E : Nat → Nat → Bool) (k : Nat) (set left out : List Nat) (m : Nat) : List (List Nat) :=
  (List.range m).flatMap fun i => clF E k (set ++ [left.getD i 0]) ((left.drop (i + 1)).filter (E (left.getD i 0))) ((out ++ left.take i).filter (E (left.getD i 0)))
theorem clTo_zero (E : Nat → Nat → Bool) (k : Nat) (set left out : List Nat) : clTo E k set left out 0 = [] := rfl
theorem clTo_succ (E : Nat → Nat → Bool) (k : Nat) (set left out : List Nat) (m : Nat) :
    clTo E k set left out (m + 1) = clTo E k set left out m ++ clF E k (set ++ [left.getD m 0]) ((left.drop (m + 1)).filter (E (left.getD m 0))) ((out ++ left.take m).filter (E (left.getD m 0))) := by
  simp [clTo, List.range_succ, List.flatMap_append]
theorem clF_one (E : Nat → Nat → Bool) (k : Nat) (set : List Nat) : clF E (k + 1) set [] [] = [set] := by simp [clF]
theorem clF_none (E : Nat → Nat → Bool) (k : Nat) (set out : List Nat) (h : out ≠ []) : clF E (k + 1) set [] out = [] := by simp [clF, h]
theorem clF_more (E : Nat → Nat → Bool) (k : Nat) (set left out : List Nat) (h : ¬ (left = [] ∧ out = [])) : clF E (k + 1) set left out = clTo E k set left out left.length := by
  rw [clF, if_neg h]
  rfl

theorem clF_len (E : Nat → Nat → Bool) : ∀ (k : Nat) (set left out : List Nat), (clF E k set left out).length ≤ 2 ^ left.length
  | 0, _, _, _ => Nat.zero_le _
  | k + 1, set, left, out => by
    by_cases h : left = [] ∧ out = []
    · obtain ⟨rfl, rfl⟩ := h
      rw [clF_one]
      exact Nat.le_refl _
    · rw [clF_more E k set left out h]
      have main : ∀ i, i ≤ left.length → (clTo E k set left out i).length + 2 ^ (left.length - i) ≤ 2 ^ left.length := by
        intro i
        induction i with
        | zero => intro _; rw [clTo_zero]; simp
        | succ i ih =>
          intro hi
          have h1 := ih (by omega)
          have h2 := clF_len E k (set ++ [left.getD i 0]) ((left.drop (i + 1)).filter (E (left.getD i 0))) ((out ++ left.take i).filter (E (left.getD i 0)))
          have h3 : ((left.drop (i + 1)).filter (E (left.getD i 0))).length ≤ left.length - (i + 1) := Nat.le_trans (List.length_filter_le _ _) (by rw [List.length_drop]; omega)
          have h4 := Nat.pow_le_pow_right (show 0 < 2 by decide) h3
          have h5 : 2 ^ (left.length - i) = 2 ^ (left.length - (i + 1)) * 2 := by
            rw [show left.length - i = left.length - (i + 1) + 1 by omega, Nat.pow_succ]
          rw [clTo_succ, List.length_append]
          omega
      exact Nat.le_trans (Nat.le_add_right _ _) (main left.length (Nat.le_refl _))
theorem clTo_len {E : Nat → Nat → Bool} {k : Nat} {set left out : List Nat} : ∀ {i : Nat}, i ≤ left.length → (clTo E k set left out i).length + 2 ^ (left.length - i) ≤ 2 ^ left.length
  | 0, _ => by rw [clTo_zero]; simp
  | i + 1, hi => by
    have h1 := clTo_len (E := E) (k := k) (set := set) (left := left) (out := out) (i := i) (by omega)
    have h2 := clF_len E k (set ++ [left.getD i 0]) ((left.drop (i + 1)).filter (E (left.getD i 0))) ((out ++ left.take i).filter (E (left.getD i 0)))
    have h3 : ((left.drop (i + 1)).filter (E (left.getD i 0))).length ≤ left.length - (i + 1) := Nat.le_trans (List.length_filter_le _ _) (by rw [List.length_drop]; omega)
    have h4 := Nat.pow_le_pow_right (show 0 < 2 by decide) h3
    have h5 : 2 ^ (left.length - i) = 2 ^ (left.length - (i + 1)) * 2 := by
      rw [show left.length - i = left.length - (i + 1) + 1 by omega, Nat.pow_succ]
    rw [clTo_succ, List.length_append]
    omega

theorem lexL_app : ∀ (s a b : List Nat), lexL (s ++ a) (s ++ b) ↔ lexL a b
  | [], _, _ => Iff.rfl
  | x :: s, a, b => by
    simp only [List.cons_append, lexL]
    rw [lexL_app s a b]
    exact ⟨fun h => h.elim (fun h => absurd h (Nat.lt_irrefl _)) fun h => h.2, fun h => .inr ⟨trivial, h⟩⟩

/-- Each goes on from the set by some that are left, in their order. -/
theorem clF_mem (E : Nat → Nat → Bool) : ∀ (k : Nat) (set left out : List Nat), left.Pairwise (· < ·) → ∀ x ∈ clF E k set left out, ∃ T, x = set ++ T ∧ T.Pairwise (· < ·) ∧ ∀ y ∈ T, y ∈ left
  | 0, _, _, _, _, _, h => by simp [clF] at h
  | k + 1, set, left, out, hr, x, h => by
    by_cases hh : left = [] ∧ out = []
    · obtain ⟨rfl, rfl⟩ := hh
      rw [clF_one] at h
      obtain rfl : x = set := by simpa using h
      exact ⟨[], by simp, by simp, by simp⟩
    · rw [clF_more E k set left out hh, clTo, List.mem_flatMap] at h
      obtain ⟨i, hi, h⟩ := h
      rw [List.mem_range] at hi
      have hg : left.getD i 0 = left[i] := by simp [hi]
      rw [hg] at h
      obtain ⟨T, rfl, h1, h2⟩ := clF_mem E k _ _ _ ((hr.sublist (List.drop_sublist _ _)).filter _) x h
      refine ⟨left[i] :: T, by simp, List.pairwise_cons.2 ⟨fun y hy => ?_, h1⟩, fun y hy => ?_⟩
      · have hm := (List.mem_filter.1 (h2 y hy)).1
        obtain ⟨j, hj, rfl⟩ := List.getElem_of_mem hm
        rw [List.length_drop] at hj
        rw [List.getElem_drop]
        exact List.pairwise_iff_getElem.1 hr i (i + 1 + j) hi (by omega) (by omega)
      · rcases List.mem_cons.1 hy with rfl | hy
        · exact List.getElem_mem hi
        · exact List.mem_of_mem_drop (List.mem_filter.1 (h2 y hy)).1
theorem clF_sorted (E : Nat → Nat → Bool) : ∀ (k : Nat) (set left out : List Nat), left.Pairwise (· < ·) → (clF E k set left out).Pairwise lexL
  | 0, _, _, _, _ => by simp [clF]
  | k + 1, set, left, out, hr => by
    by_cases hh : left = [] ∧ out = []
    · obtain ⟨rfl, rfl⟩ := hh
      rw [clF_one]
      simp
    · rw [clF_more E k set left out hh, clTo, List.pairwise_flatMap]
      refine ⟨fun i hi => clF_sorted E k _ _ _ ((hr.sublist (List.drop_sublist _ _)).filter _), ?_⟩
      refine List.Pairwise.imp_of_mem (fun {i j} hi hj hij x hx y hy => ?_) List.pairwise_lt_range
      rw [List.mem_range] at hi hj
      obtain ⟨T, rfl, _⟩ := clF_mem E k _ _ _ ((hr.sublist (List.drop_sublist _ _)).filter _) x hx
      obtain ⟨U, rfl, _⟩ := clF_mem E k _ _ _ ((hr.sublist (List.drop_sublist _ _)).filter _) y hy
      have h1 : left.getD i 0 = left[i] := by simp [hi]
      have h2 : left.getD j 0 = left[j] := by simp [hj]
      rw [List.append_assoc, List.append_assoc, lexL_app, h1, h2]
      exact .inl (List.pairwise_iff_getElem.1 hr i j hi hj hij)

/-- What CliquesOf finds. -/
def clsP (n : Nat) (E : Nat → Nat → Bool) : List (List Nat) := clF E (n + 1) [] (List.range n) []
theorem clsP_len (n : Nat) (E : Nat → Nat → Bool) : (clsP n E).length ≤ 2 ^ n := by
  have := clF_len E (n + 1) [] (List.range n) []
  rwa [List.length_range] at this
theorem clsP_mem {n : Nat} {E : Nat → Nat → Bool} {x : List Nat} (h : x ∈ clsP n E) : x.Pairwise (· < ·) ∧ ∀ y ∈ x, y < n := by
  obtain ⟨T, rfl, h1, h2⟩ := clF_mem E _ _ _ _ List.pairwise_lt_range x h
  exact ⟨by simpa using h1, fun y hy => List.mem_range.1 (h2 y (by simpa using hy))⟩
theorem clsP_sorted (n : Nat) (E : Nat → Nat → Bool) : (clsP n E).Pairwise lexL := clF_sorted E _ _ _ _ List.pairwise_lt_range

/-- -1, 0, 1: how two lists stand to each other. -/
noncomputable def cmpL (a b : List Nat) : Int := open Classical in if lexL a b then -1 else if lexL b a then 1 else 0
theorem cmpL_lt {a b : List Nat} : cmpL a b < 0 ↔ lexL a b := by
  unfold cmpL
  by_cases h : lexL a b
  · rw [if_pos h]; exact ⟨fun _ => h, fun _ => by decide⟩
  · rw [if_neg h]
    refine ⟨fun k => ?_, fun k => absurd k h⟩
    split at k <;> exact absurd k (by decide)

/-- A sorted arrangement of what was sorted strictly is the same. -/
theorem sorted_same {α : Type} (lt : α → α → Prop) (hirr : ∀ x, ¬ lt x x) (htr : ∀ {x y z}, lt x y → lt y z → lt x z) : ∀ (l m : List α), l.Perm m → l.Pairwise lt → m.Pairwise (fun x y => ¬ lt y x) → l = m
  | [], m, hp, _, _ => (List.Perm.nil_eq hp)
  | a :: l, [], hp, _, _ => absurd hp.length_eq (by simp)
  | a :: l, b :: m, hp, hl, hm => by
    have hab : a = b := by
      have h1 : b ∈ a :: l := hp.mem_iff.2 (by simp)
      have h2 : a ∈ b :: m := hp.mem_iff.1 (by simp)
      rcases List.mem_cons.1 h1 with h | h1
      · exact h.symm
      · rcases List.mem_cons.1 h2 with h | h2
        · exact h
        · exact absurd ((List.pairwise_cons.1 hl).1 b h1) ((List.pairwise_cons.1 hm).1 a h2)
    subst hab
    rw [sorted_same lt hirr htr l m hp.cons_inv hl.of_cons hm.of_cons]

end Go.Proofs.YtkppbmfliejnmaaDoor
