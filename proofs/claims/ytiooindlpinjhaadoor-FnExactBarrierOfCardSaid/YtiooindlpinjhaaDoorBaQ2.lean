/- Plain facts, with no program in sight: valid graphs as lists of rows. -/
import Derived.Test.YtiooindlpinjhaaDoorBaQ1
namespace Go.Proofs.YtiooindlpinjhaaDoor

noncomputable def dec (p : Prop) : Bool := @decide p (Classical.propDecidable p)
theorem dec_true {p : Prop} (h : p) : dec p = true := by unfold dec; simp [h]
theorem dec_false {p : Prop} (h : ¬ p) : dec p = false := by unfold dec; simp [h]
theorem dec_iff {p : Prop} : dec p = true ↔ p := by unfold dec; simp
theorem dec_congr {p q : Prop} (h : p ↔ q) : dec p = dec q := by rw [propext h]
@[simp] theorem dec_True : dec True = true := dec_true trivial
@[simp] theorem dec_False : dec False = false := dec_false id
theorem decide_dec {p : Prop} [Decidable p] : decide p = dec p := by unfold dec; congr
theorem true_dec {p : Prop} (h : p) : true = dec p := (dec_true h).symm
theorem false_dec {p : Prop} (h : ¬ p) : false = dec p := (dec_false h).symm

/-- A strictly rising list of numbers from 0 to n - 1. -/
def SetIn (n : Int) (s : List Int) : Prop := (∀ x ∈ s, 0 ≤ x ∧ x < n) ∧ s.Pairwise (· < ·)

theorem setIn_nil (n : Int) : SetIn n [] := ⟨by simp, by simp⟩

theorem setIn_snoc {n : Int} {l : List Int} {x : Int} : SetIn n (l ++ [x]) ↔ SetIn n l ∧ (0 ≤ x ∧ x < n) ∧ ∀ y ∈ l, y < x := by
  unfold SetIn
  rw [List.pairwise_append]
  constructor
  · rintro ⟨h1, h2, _, h3⟩
    exact ⟨⟨fun y hy => h1 y (by simp [hy]), h2⟩, h1 x (by simp), fun y hy => h3 y hy x (by simp)⟩
  · rintro ⟨⟨h1, h2⟩, h3, h4⟩
    refine ⟨fun y hy => ?_, h2, by simp, fun y hy z hz => ?_⟩
    · rcases List.mem_append.1 hy with h | h
      · exact h1 y h
      · simp at h; subst h; exact h3
    · simp at hz; subst hz; exact h4 y hy

theorem pairwise_last {s : List Int} (h : s.Pairwise (· < ·)) (hl : 0 < s.length) : ∀ y ∈ s, y ≤ s[s.length - 1] := by
  intro y hy
  obtain ⟨i, hi, rfl⟩ := List.mem_iff_getElem.1 hy
  by_cases e : i = s.length - 1
  · subst e; exact Int.le_refl _
  · have := (List.pairwise_iff_getElem.1 h) i (s.length - 1) hi (by omega) (by omega)
    omega

theorem setIn_step {n : Int} {s : List Int} {k : Nat} (hk : k < s.length) :
    SetIn n (s.take (k + 1)) ↔ SetIn n (s.take k) ∧ (0 ≤ s[k] ∧ s[k] < n) ∧ (0 < k → s[k - 1]'(by omega) < s[k]) := by
  rw [List.take_succ_eq_append_getElem hk, setIn_snoc]
  constructor
  · rintro ⟨h1, h2, h3⟩
    refine ⟨h1, h2, fun h0 => h3 _ ?_⟩
    rw [List.mem_iff_getElem]
    exact ⟨k - 1, by rw [List.length_take]; omega, by simp⟩
  · rintro ⟨h1, h2, h3⟩
    refine ⟨h1, h2, fun y hy => ?_⟩
    have hl : (s.take k).length = k := by rw [List.length_take]; omega
    have h0 : 0 < k := by
      cases k with
      | zero => simp at hy
      | succ k => omega
    have h4 := pairwise_last h1.2 (by omega) y hy
    have h5 : (s.take k)[(s.take k).length - 1]'(by omega) = s[k - 1]'(by omega) := by simp [hl]
    rw [h5] at h4
    have := h3 h0
    omega

theorem setIn_take {n : Int} {s : List Int} (h : SetIn n s) (k : Nat) : SetIn n (s.take k) :=
  ⟨fun x hx => h.1 x (List.mem_of_mem_take hx), h.2.sublist (List.take_sublist _ _)⟩

theorem setIn_ge {n : Int} {s : List Int} (h : SetIn n s) : ∀ i (hi : i < s.length), (i : Int) ≤ s[i] := by
  intro i
  induction i with
  | zero => intro hi; exact (h.1 _ (List.getElem_mem hi)).1
  | succ i ih =>
    intro hi
    have h1 := ih (by omega)
    have h2 := (List.pairwise_iff_getElem.1 h.2) i (i + 1) (by omega) hi (by omega)
    omega

theorem setIn_length {n : Int} (hn : 0 ≤ n) {s : List Int} (h : SetIn n s) : (s.length : Int) ≤ n := by
  by_cases h0 : s.length = 0
  · omega
  · have h1 := setIn_ge h (s.length - 1) (by omega)
    have h2 := (h.1 _ (List.getElem_mem (show s.length - 1 < s.length by omega))).2
    omega

/-- Two strictly rising lists with the same members are equal. -/
theorem rising_ext_int : ∀ (l m : List Int), l.Pairwise (· < ·) → m.Pairwise (· < ·) → (∀ x, x ∈ l ↔ x ∈ m) → l = m
  | [], [], _, _, _ => rfl
  | [], b :: m, _, _, h => by have := (h b).2 (by simp); simp at this
  | a :: l, [], _, _, h => by have := (h a).1 (by simp); simp at this
  | a :: l, b :: m, hl, hm, h => by
    rw [List.pairwise_cons] at hl hm
    have hab : a = b := by
      have h1 := (h a).1 (by simp)
      have h2 := (h b).2 (by simp)
      simp only [List.mem_cons] at h1 h2
      rcases h1 with h1 | h1
      · exact h1
      · rcases h2 with h2 | h2
        · exact h2.symm
        · have := hm.1 a h1; have := hl.1 b h2; omega
    subst hab
    congr 1
    refine rising_ext_int l m hl.2 hm.2 fun x => ?_
    have hx := h x
    simp only [List.mem_cons] at hx
    constructor
    · intro hxl
      have := hl.1 x hxl
      rcases hx.1 (.inr hxl) with e | e
      · omega
      · exact e
    · intro hxm
      have := hm.1 x hxm
      rcases hx.2 (.inr hxm) with e | e
      · omega
      · exact e

/-- Row v of a graph. -/
def row (g : List (List Int)) (v : Nat) : List Int := g.getD v []

/-- A graph is valid. -/
structure GOk (g : List (List Int)) : Prop where
  pos : 1 ≤ g.length
  le : g.length ≤ 16
  sets : ∀ v, v < g.length → SetIn g.length (row g v) ∧ ((v : Int) ∉ row g v)
  both : ∀ v, v < g.length → ∀ u ∈ row g v, (v : Int) ∈ row g u.toNat

theorem take_snoc' {α : Type} (l : List α) (k : Nat) (h : k < l.length) : l.take (k + 1) = l.take k ++ [l[k]] := List.take_succ_eq_append_getElem h

theorem not_mem_take_succ {x : Int} {s : List Int} {k : Nat} (hk : k < s.length) (h : x ∉ s.take k) (h2 : s[k] ≠ x) : x ∉ s.take (k + 1) := by
  rw [take_snoc' s k hk]
  simp only [List.mem_append, List.mem_singleton, not_or]
  exact ⟨h, fun e => h2 e.symm⟩

theorem mem_of_getElem {x : Int} {s : List Int} {k : Nat} (hk : k < s.length) (h : s[k] = x) : x ∈ s := h ▸ List.getElem_mem hk

end Go.Proofs.YtiooindlpinjhaaDoor

/- Plain facts, with no program in sight: the reference's list operations. -/
namespace Go.Proofs.YtiooindlpinjhaaDoor

/-- A list without a number. -/
def lessL (s : List Int) (v : Int) : List Int := s.filter (fun x => x != v)
/-- A rising list with one more. -/
def intoL : List Int → Int → List Int
  | [], n => [n]
  | x :: xs, n => if x < n then x :: intoL xs n else if x = n then x :: xs else n :: x :: xs
/-- 0, 1, .., n - 1. -/
def allL (n : Nat) : List Int := (List.range n).map (fun (i : Nat) => (i : Int))

theorem allL_length (n : Nat) : (allL n).length = n := by simp [allL]
theorem allL_succ (n : Nat) : allL (n + 1) = allL n ++ [(n : Int)] := by simp [allL, List.range_succ]
theorem mem_allL {n : Nat} {x : Int} : x ∈ allL n ↔ 0 ≤ x ∧ x < n := by
  simp only [allL, List.mem_map, List.mem_range]
  constructor
  · rintro ⟨i, hi, rfl⟩; omega
  · rintro ⟨h1, h2⟩; exact ⟨x.toNat, by omega, by omega⟩
theorem allL_rising (n : Nat) : (allL n).Pairwise (· < ·) := by
  unfold allL
  rw [List.pairwise_map]
  exact List.Pairwise.imp (fun h => by omega) List.pairwise_lt_range

theorem mem_lessL {s : List Int} {v x : Int} : x ∈ lessL s v ↔ x ∈ s ∧ x ≠ v := by simp [lessL]
theorem lessL_length (s : List Int) (v : Int) : (lessL s v).length ≤ s.length := List.length_filter_le _ _
theorem lessL_snoc (s : List Int) (v x : Int) : lessL (s ++ [x]) v = if x = v then lessL s v else lessL s v ++ [x] := by
  by_cases h : x = v
  · simp [lessL, h, List.filter_append]
  · simp [lessL, h, List.filter_append]
theorem lessL_rising {s : List Int} (h : s.Pairwise (· < ·)) (v : Int) : (lessL s v).Pairwise (· < ·) := h.filter _

theorem intoL_cut : ∀ (l : List Int) (n : Int) (k : Nat), k ≤ l.length → (∀ j (hj : j < l.length), j < k → l[j] < n) → (∀ h : k < l.length, ¬ l[k] < n) →
    intoL l n = if ∃ h : k < l.length, l[k] = n then l else l.take k ++ n :: l.drop k
  | [], n, k, hk, _, _ => by
    obtain rfl : k = 0 := by simpa using hk
    simp [intoL]
  | x :: xs, n, 0, hk, _, h2 => by
    have h3 : ¬ x < n := h2 (by simp)
    unfold intoL
    rw [if_neg h3]
    by_cases e : x = n
    · simp [e]
    · simp [e]
  | x :: xs, n, k + 1, hk, h1, h2 => by
    have h3 : x < n := h1 0 (by simp) (by omega)
    unfold intoL
    rw [if_pos h3, intoL_cut xs n k (by simpa using hk) (fun j hj hjk => h1 (j + 1) (by simpa using hj) (by omega)) (fun h => h2 (by simpa using h))]
    by_cases e : ∃ h : k < xs.length, xs[k] = n
    · rw [if_pos e, if_pos (by obtain ⟨a, b⟩ := e; exact ⟨by simpa using a, by simpa using b⟩)]
    · rw [if_neg e, if_neg (by rintro ⟨a, b⟩; exact e ⟨by simpa using a, by simpa using b⟩)]
      simp

theorem intoL_eq {l : List Int} {n : Int} {k : Nat} (hk : k < l.length) (h1 : ∀ j (hj : j < l.length), j < k → l[j] < n) (h2 : ¬ l[k] < n) (h3 : l[k] = n) : intoL l n = l := by
  rw [intoL_cut l n k (by omega) h1 (fun _ => h2), if_pos ⟨hk, h3⟩]
theorem intoL_new {l : List Int} {n : Int} {k : Nat} (hk : k ≤ l.length) (h1 : ∀ j (hj : j < l.length), j < k → l[j] < n) (h2 : ∀ h : k < l.length, ¬ l[k] < n) (h3 : ∀ h : k < l.length, l[k] ≠ n) : intoL l n = l.take k ++ n :: l.drop k := by
  rw [intoL_cut l n k hk h1 h2, if_neg (by rintro ⟨a, b⟩; exact h3 a b)]

theorem mem_intoL {n x : Int} : ∀ {l : List Int}, x ∈ intoL l n ↔ x ∈ l ∨ x = n
  | [] => by simp [intoL]
  | y :: l => by
    unfold intoL
    split
    · simp only [List.mem_cons, mem_intoL (l := l)]; exact ⟨fun h => by rcases h with h | h | h <;> simp [h], fun h => by rcases h with (h | h) | h <;> simp [h]⟩
    · split
      · rename_i h; subst h; simp only [List.mem_cons]; exact ⟨fun h => .inl h, fun h => by rcases h with h | h; exact h; exact .inl h⟩
      · simp only [List.mem_cons]; exact ⟨fun h => by rcases h with h | h | h <;> simp [h], fun h => by rcases h with (h | h) | h <;> simp [h]⟩

theorem intoL_rising {n : Int} : ∀ {l : List Int}, l.Pairwise (· < ·) → (intoL l n).Pairwise (· < ·)
  | [], _ => by simp [intoL]
  | y :: l, h => by
    rw [List.pairwise_cons] at h
    unfold intoL
    split
    · rename_i hy
      rw [List.pairwise_cons]
      refine ⟨fun z hz => ?_, intoL_rising h.2⟩
      rcases mem_intoL.1 hz with hz | rfl
      · exact h.1 z hz
      · exact hy
    · split
      · rw [List.pairwise_cons]; exact h
      · rw [List.pairwise_cons, List.pairwise_cons]
        refine ⟨fun z hz => ?_, h⟩
        rcases List.mem_cons.1 hz with rfl | hz
        · omega
        · have := h.1 z hz; omega

theorem intoL_length (l : List Int) (n : Int) : (intoL l n).length ≤ l.length + 1 := by
  induction l with
  | nil => simp [intoL]
  | cons x l ih =>
    unfold intoL
    split
    · simp; omega
    · split <;> simp

end Go.Proofs.YtiooindlpinjhaaDoor
