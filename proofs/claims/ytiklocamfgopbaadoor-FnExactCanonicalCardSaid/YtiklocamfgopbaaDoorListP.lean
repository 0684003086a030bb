/- Plain facts, with no program in sight: the reference's list operations. -/
import Derived.Test.YtiklocamfgopbaaDoorPlain
namespace Go.Proofs.YtiklocamfgopbaaDoor

/-- A list without a number. -/
def lessL (s : List Int) (v : Int) : List Int := s.filter (fun x => x != v)
/-- A rising list with one more. -/
def intoL : List Int → Int → List Int
  | [], n => [n]
  | x :: xs, n => if x < n then x :: intoL xs n else if x = n then x :: xs else n :: x :: xs
/-- 0, 1, .., n - 1. -/
def allL (n : Nat) : List Int := (List.range n).map (fun (i : Nat) => (i : Int))

theorem allL_length (n : Nat) : (allL n).length = n := by simp [allL]
theorem allL_succ (n : Nat) : allL (n + 1) = allL n ++ [(n : Int)] := by simp [allL, List.range_succ]
theorem mem_allL {n : Nat} {x : Int} : x ∈ allL n ↔ 0 ≤ x ∧ x < n := by
  simp only [allL, List.mem_map, List.mem_range]
  constructor
  · rintro ⟨i, hi, rfl⟩; omega
  · rintro ⟨h1, h2⟩; exact ⟨x.toNat, by omega, by omega⟩
theorem allL_rising (n : Nat) : (allL n).Pairwise (· < ·) := by
  unfold allL
  rw [List.pairwise_map]
  exact List.Pairwise.imp (fun h => by omega) List.pairwise_lt_range

theorem mem_lessL {s : List Int} {v x : Int} : x ∈ lessL s v ↔ x ∈ s ∧ x ≠ v := by simp [lessL]
theorem lessL_length (s : List Int) (v : Int) : (lessL s v).length ≤ s.length := List.length_filter_le _ _
theorem lessL_snoc (s : List Int) (v x : Int) : lessL (s ++ [x]) v = if x = v then lessL s v else lessL s v ++ [x] := by
  by_cases h : x = v
  · simp [lessL, h, List.filter_append]
  · simp [lessL, h, List.filter_append]
theorem lessL_rising {s : List Int} (h : s.Pairwise (· < ·)) (v : Int) : (lessL s v).Pairwise (· < ·) := h.filter _

theorem intoL_cut : ∀ (l : List Int) (n : Int) (k : Nat), k ≤ l.length → (∀ j (hj : j < l.length), j < k → l[j] < n) → (∀ h : k < l.length, ¬ l[k] < n) →
    intoL l n = if ∃ h : k < l.length, l[k] = n then l else l.take k ++ n :: l.drop k
  | [], n, k, hk, _, _ => by
    obtain rfl : k = 0 := by simpa using hk
    simp [intoL]
  | x :: xs, n, 0, hk, _, h2 => by
    have h3 : ¬ x < n := h2 (by simp)
    unfold intoL
    rw [if_neg h3]
    by_cases e : x = n
    · simp [e]
    · simp [e]
  | x :: xs, n, k + 1, hk, h1, h2 => by
    have h3 : x < n := h1 0 (by simp) (by omega)
    unfold intoL
    rw [if_pos h3, intoL_cut xs n k (by simpa using hk) (fun j hj hjk => h1 (j + 1) (by simpa using hj) (by omega)) (fun h => h2 (by simpa using h))]
    by_cases e : ∃ h : k < xs.length, xs[k] = n
    · rw [if_pos e, if_pos (by obtain ⟨a, b⟩ := e; exact ⟨by simpa using a, by simpa using b⟩)]
    · rw [if_neg e, if_neg (by rintro ⟨a, b⟩; exact e ⟨by simpa using a, by simpa using b⟩)]
      simp

theorem intoL_eq {l : List Int} {n : Int} {k : Nat} (hk : k < l.length) (h1 : ∀ j (hj : j < l.length), j < k → l[j] < n) (h2 : ¬ l[k] < n) (h3 : l[k] = n) : intoL l n = l := by
  rw [intoL_cut l n k (by omega) h1 (fun _ => h2), if_pos ⟨hk, h3⟩]
theorem intoL_new {l : List Int} {n : Int} {k : Nat} (hk : k ≤ l.length) (h1 : ∀ j (hj : j < l.length), j < k → l[j] < n) (h2 : ∀ h : k < l.length, ¬ l[k] < n) (h3 : ∀ h : k < l.length, l[k] ≠ n) : intoL l n = l.take k ++ n :: l.drop k := by
  rw [intoL_cut l n k hk h1 h2, if_neg (by rintro ⟨a, b⟩; exact h3 a b)]

theorem mem_intoL {n x : Int} : ∀ {l : List Int}, x ∈ intoL l n ↔ x ∈ l ∨ x = n
  | [] => by simp [intoL]
  | y :: l => by
    unfold intoL
    split
    · simp only [List.mem_cons, mem_intoL (l := l)]; exact ⟨fun h => by rcases h with h | h | h <;> simp [h], fun h => by rcases h with (h | h) | h <;> simp [h]⟩
    · split
      · rename_i h; subst h; simp only [List.mem_cons]; exact ⟨fun h => .inl h, fun h => by rcases h with h | h; exact h; exact .inl h⟩
      · simp only [List.mem_cons]; exact ⟨fun h => by rcases h with h | h | h <;> simp [h], fun h => by rcases h with (h | h) | h <;> simp [h]⟩

theorem intoL_rising {n : Int} : ∀ {l : List Int}, l.Pairwise (· < ·) → (intoL l n).Pairwise (· < ·)
  | [], _ => by simp [intoL]
  | y :: l, h => by
    rw [List.pairwise_cons] at h
    unfold intoL
    split
    · rename_i hy
      rw [List.pairwise_cons]
      refine ⟨fun z hz => ?_, intoL_rising h.2⟩
      rcases mem_intoL.1 hz with hz | rfl
      · exact h.1 z hz
      · exact hy
    · split
      · rw [List.pairwise_cons]; exact h
      · rw [List.pairwise_cons, List.pairwise_cons]
        refine ⟨fun z hz => ?_, h⟩
        rcases List.mem_cons.1 hz with rfl | hz
        · omega
        · have := h.1 z hz; omega

theorem intoL_length (l : List Int) (n : Int) : (intoL l n).length ≤ l.length + 1 := by
  induction l with
  | nil => simp [intoL]
  | cons x l ih =>
    unfold intoL
    split
    · simp; omega
    · split <;> simp

end Go.Proofs.YtiklocamfgopbaaDoor
