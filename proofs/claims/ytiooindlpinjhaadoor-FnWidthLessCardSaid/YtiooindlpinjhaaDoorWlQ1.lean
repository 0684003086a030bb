/- Plain facts, with no program in sight: sets of small numbers as bits of a number, strictly rising lists. -/
import Derived.Lib.TrailingZeros
namespace Go.Proofs.YtiooindlpinjhaaDoor

/-- Two strictly rising lists with the same members are equal. -/
theorem rising_ext : ∀ (l m : List Nat), l.Pairwise (· < ·) → m.Pairwise (· < ·) → (∀ x, x ∈ l ↔ x ∈ m) → l = m
  | [], [], _, _, _ => rfl
  | [], b :: m, _, _, h => by have := (h b).2 (by simp); simp at this
  | a :: l, [], _, _, h => by have := (h a).1 (by simp); simp at this
  | a :: l, b :: m, hl, hm, h => by
    rw [List.pairwise_cons] at hl hm
    have hab : a = b := by
      have h1 := (h a).1 (by simp)
      have h2 := (h b).2 (by simp)
      simp only [List.mem_cons] at h1 h2
      rcases h1 with h1 | h1
      · exact h1
      · rcases h2 with h2 | h2
        · exact h2.symm
        · have := hm.1 a h1; have := hl.1 b h2; omega
    subst hab
    congr 1
    refine rising_ext l m hl.2 hm.2 fun x => ?_
    have hx := h x
    simp only [List.mem_cons] at hx
    constructor
    · intro hxl
      have := hl.1 x hxl
      rcases hx.1 (.inr hxl) with e | e
      · omega
      · exact e
    · intro hxm
      have := hm.1 x hxm
      rcases hx.2 (.inr hxm) with e | e
      · omega
      · exact e

/-- The numbers of the bits that are set, rising. -/
def bitsOf (s : Nat) : List Nat := (List.range 32).filter (fun i => s.testBit i)

theorem bitsOf_rising (s : Nat) : (bitsOf s).Pairwise (· < ·) := List.Pairwise.filter _ List.pairwise_lt_range

theorem mem_bitsOf {s i : Nat} : i ∈ bitsOf s ↔ i < 32 ∧ s.testBit i = true := by simp [bitsOf]

theorem mem_bitsOf' {s i : Nat} (h : s < 4294967296) : i ∈ bitsOf s ↔ s.testBit i = true := by
  rw [mem_bitsOf]
  constructor
  · exact fun x => x.2
  · intro hi
    refine ⟨?_, hi⟩
    apply Nat.lt_of_not_le
    intro hle
    have : s.testBit i = false := Nat.testBit_lt_two_pow (Nat.lt_of_lt_of_le h (by have := Nat.pow_le_pow_right (n := 2) (by decide) hle; simpa using this))
    rw [this] at hi; cases hi

theorem bitsOf_length (s : Nat) : (bitsOf s).length ≤ 32 := by
  have := List.length_filter_le (fun i => s.testBit i) (List.range 32)
  simpa [bitsOf] using this

theorem bitsOf_zero : bitsOf 0 = [] := by simp [bitsOf]

theorem testBit_lowest (k m j : Nat) : (2 ^ k * (2 * m + 1)).testBit j = (decide (k = j) || (decide (k < j) && (2 ^ k * (2 * m)).testBit j)) := by
  rw [Nat.mul_comm (2 ^ k), Nat.mul_comm (2 ^ k), Nat.testBit_mul_two_pow, Nat.testBit_mul_two_pow]
  by_cases h1 : k = j
  · subst h1; simp
  · by_cases h2 : k < j
    · obtain ⟨d, rfl⟩ : ∃ d, j = k + (d + 1) := ⟨j - k - 1, by omega⟩
      have e3 : k + (d + 1) - k = d + 1 := by omega
      have d1 : (2 * m + 1) / 2 = m := by omega
      have d2 : (2 * m) / 2 = m := by omega
      rw [e3, Nat.testBit_succ, Nat.testBit_succ, d1, d2]
      have : (k = k + (d + 1)) = False := by simp
      simp [this, h2, show k ≤ k + (d + 1) by omega]
    · have : ¬ k ≤ j := by omega
      simp [h1, h2, this]

/-- 's & (s - 1)' takes the lowest bit away. -/
theorem testBit_drop_low (s : Nat) (hs : s ≠ 0) (h : s < 4294967296) (j : Nat) :
    (s &&& (s - 1)).testBit j = (s.testBit j && !decide (Lib.ctz 32 s = j)) := by
  obtain ⟨m, hm, hk⟩ := Lib.ctzFrom_spec 32 s (by omega) (by simpa using h)
  have hc : Lib.ctz 32 s = Lib.ctzFrom 32 s := by simp [Lib.ctz, hs]
  rw [hc]
  generalize Lib.ctzFrom 32 s = k at *
  have h1 : s - 1 = 2 ^ k * (2 * m) + (2 ^ k - 1) := by
    have hp : 0 < 2 ^ k := Nat.two_pow_pos k
    have e : 2 ^ k * (2 * m + 1) = 2 ^ k * (2 * m) + 2 ^ k := by rw [Nat.mul_add, Nat.mul_one]
    omega
  have hp : 2 ^ k - 1 < 2 ^ k := by have := Nat.two_pow_pos k; omega
  rw [Nat.testBit_and, h1, Nat.testBit_two_pow_mul_add _ hp, hm]
  rw [testBit_lowest]
  by_cases e1 : k = j
  · subst e1
    simp [Nat.testBit_two_pow_mul, Nat.mul_comm]
  · by_cases e2 : k < j
    · have : ¬ j < k := by omega
      simp only [e1, e2, decide_true, decide_false, Bool.false_or, Bool.true_and, Bool.not_false, Bool.and_true, this, if_false, ite_false]
      rw [Nat.mul_comm (2 ^ k), Nat.testBit_mul_two_pow]
      simp [show k ≤ j by omega]
    · simp [e1, e2]

theorem testBit_ctz (s : Nat) (hs : s ≠ 0) (h : s < 4294967296) : s.testBit (Lib.ctz 32 s) = true ∧ Lib.ctz 32 s < 32 ∧ ∀ j, j < Lib.ctz 32 s → s.testBit j = false := by
  obtain ⟨m, hm, hk⟩ := Lib.ctzFrom_spec 32 s (by omega) (by simpa using h)
  have hc : Lib.ctz 32 s = Lib.ctzFrom 32 s := by simp [Lib.ctz, hs]
  rw [hc]
  generalize Lib.ctzFrom 32 s = k at *
  rw [hm]
  refine ⟨by rw [testBit_lowest]; simp, hk, fun j hj => ?_⟩
  rw [testBit_lowest]
  have h1 : ¬ k = j := by omega
  have h2 : ¬ k < j := by omega
  simp [h1, h2]

theorem and_lt32 (a b : Nat) (h : a < 4294967296) : a &&& b < 4294967296 := Nat.lt_of_le_of_lt Nat.and_le_left h
theorem or_lt32 (a b : Nat) (h : a < 4294967296) (h' : b < 4294967296) : a ||| b < 4294967296 := Nat.or_lt_two_pow (n := 32) h h'
theorem and_lt16 (a b : Nat) (h : a < 65536) : a &&& b < 65536 := Nat.lt_of_le_of_lt Nat.and_le_left h
theorem or_lt16 (a b : Nat) (h : a < 65536) (h' : b < 65536) : a ||| b < 65536 := Nat.or_lt_two_pow (n := 16) h h'
theorem pow_lt32 (v : Nat) (h : v < 32) : 2 ^ v < 4294967296 := Nat.pow_lt_pow_right (n := 32) (by decide) h
theorem pow_lt16 (v : Nat) (h : v < 16) : 2 ^ v < 65536 := Nat.pow_lt_pow_right (n := 16) (by decide) h

theorem bitsOf_step (s : Nat) (hs : s ≠ 0) (h : s < 4294967296) : bitsOf s = Lib.ctz 32 s :: bitsOf (s &&& (s - 1)) := by
  obtain ⟨h1, h2, h3⟩ := testBit_ctz s hs h
  have hlt := and_lt32 s (s - 1) h
  refine rising_ext _ _ (bitsOf_rising s) ?_ fun x => ?_
  · rw [List.pairwise_cons]
    refine ⟨fun a ha => ?_, bitsOf_rising _⟩
    rw [mem_bitsOf' hlt, testBit_drop_low s hs h] at ha
    simp only [Bool.and_eq_true, Bool.not_eq_true', decide_eq_false_iff_not] at ha
    apply Nat.lt_of_not_le
    intro hle
    have := h3 a (by omega)
    rw [this] at ha
    simp at ha
  · rw [mem_bitsOf' h, List.mem_cons, mem_bitsOf' hlt, testBit_drop_low s hs h]
    by_cases e : x = Lib.ctz 32 s
    · subst e; simp [h1]
    · have e' : ¬ Lib.ctz 32 s = x := fun q => e q.symm
      simp [e, e']

theorem bitsOf_lt16 {s : Nat} (h : s < 65536) {i : Nat} (hi : i ∈ bitsOf s) : i < 16 := by
  rw [mem_bitsOf] at hi
  apply Nat.lt_of_not_le
  intro hle
  have : s.testBit i = false := Nat.testBit_lt_two_pow (Nat.lt_of_lt_of_le h (by have := Nat.pow_le_pow_right (n := 2) (by decide) hle; simpa using this))
  rw [this] at hi; simp at hi

theorem bit_ext16 {s t : Nat} (h : ∀ i, s.testBit i = t.testBit i) : s = t := Nat.eq_of_testBit_eq h

theorem testBit_pow (v j : Nat) : (2 ^ v).testBit j = decide (v = j) := Nat.testBit_two_pow ..

theorem testBit_firstOf (n j : Nat) : (2 ^ n - 1).testBit j = decide (j < n) := Nat.testBit_two_pow_sub_one ..

theorem testBit_andNot (a b : Nat) (hb : b < 4294967296) (ha : a < 4294967296) (j : Nat) : (a &&& (4294967295 - b)).testBit j = (a.testBit j && !b.testBit j) := by
  have hx : 4294967295 - b = 2 ^ 32 - (b + 1) := by omega
  rw [Nat.testBit_and, hx, Nat.testBit_two_pow_sub_succ (by simpa using hb)]
  by_cases h : j < 32
  · simp [h]
  · have : a.testBit j = false := Nat.testBit_lt_two_pow (Nat.lt_of_lt_of_le ha (by have := Nat.pow_le_pow_right (n := 2) (show 0 < 2 by decide) (show 32 ≤ j by omega); simpa using this))
    simp [this]

/-- a without b. -/
def sub (a b : Nat) : Nat := a &&& (4294967295 - b)
theorem testBit_sub (a b : Nat) (ha : a < 4294967296) (hb : b < 4294967296) (j : Nat) : (sub a b).testBit j = (a.testBit j && !b.testBit j) := testBit_andNot a b hb ha j
theorem sub_lt32 (a b : Nat) (h : a < 4294967296) : sub a b < 4294967296 := and_lt32 _ _ h
theorem sub_lt16 (a b : Nat) (h : a < 65536) : sub a b < 65536 := and_lt16 _ _ h

/-- The set of some numbers. -/
def mask (xs : List Int) : Nat := xs.foldl (fun a x => a ||| 2 ^ x.toNat) 0

theorem mask_snoc (xs : List Int) (x : Int) : mask (xs ++ [x]) = mask xs ||| 2 ^ x.toNat := by simp [mask]

theorem foldl_or_testBit (xs : List Int) (a j : Nat) : (xs.foldl (fun a x => a ||| 2 ^ x.toNat) a).testBit j = (a.testBit j || xs.any (fun x => x.toNat == j)) := by
  induction xs generalizing a with
  | nil => simp
  | cons x xs ih =>
    rw [List.foldl_cons, ih, Nat.testBit_or, testBit_pow, List.any_cons, Bool.or_assoc]
    rfl

theorem testBit_mask (xs : List Int) (j : Nat) : (mask xs).testBit j = xs.any (fun x => x.toNat == j) := by
  rw [mask, foldl_or_testBit]; simp

theorem mask_lt16 (xs : List Int) (h : ∀ x ∈ xs, x < 16) : mask xs < 65536 := by
  have : mask xs < 2 ^ 16 := by
    apply Nat.lt_pow_two_of_testBit
    intro i hi
    rw [testBit_mask, List.any_eq_false]
    intro x hx
    have := h x hx
    simp; omega
  simpa using this

end Go.Proofs.YtiooindlpinjhaaDoor

/- Plain facts, with no program in sight: valid graphs as lists of rows. -/
namespace Go.Proofs.YtiooindlpinjhaaDoor

noncomputable def dec (p : Prop) : Bool := @decide p (Classical.propDecidable p)
theorem dec_true {p : Prop} (h : p) : dec p = true := by unfold dec; simp [h]
theorem dec_false {p : Prop} (h : ¬ p) : dec p = false := by unfold dec; simp [h]
theorem dec_iff {p : Prop} : dec p = true ↔ p := by unfold dec; simp
theorem dec_congr {p q : Prop} (h : p ↔ q) : dec p = dec q := by rw [propext h]
@[simp] theorem dec_True : dec True = true := dec_true trivial
@[simp] theorem dec_False : dec False = false := dec_false id
theorem decide_dec {p : Prop} [Decidable p] : decide p = dec p := by unfold dec; congr
theorem true_dec {p : Prop} (h : p) : true = dec p := (dec_true h).symm
theorem false_dec {p : Prop} (h : ¬ p) : false = dec p := (dec_false h).symm

/-- A strictly rising list of numbers from 0 to n - 1. -/
def SetIn (n : Int) (s : List Int) : Prop := (∀ x ∈ s, 0 ≤ x ∧ x < n) ∧ s.Pairwise (· < ·)

theorem setIn_nil (n : Int) : SetIn n [] := ⟨by simp, by simp⟩

theorem setIn_snoc {n : Int} {l : List Int} {x : Int} : SetIn n (l ++ [x]) ↔ SetIn n l ∧ (0 ≤ x ∧ x < n) ∧ ∀ y ∈ l, y < x := by
  unfold SetIn
  rw [List.pairwise_append]
  constructor
  · rintro ⟨h1, h2, _, h3⟩
    exact ⟨⟨fun y hy => h1 y (by simp [hy]), h2⟩, h1 x (by simp), fun y hy => h3 y hy x (by simp)⟩
  · rintro ⟨⟨h1, h2⟩, h3, h4⟩
    refine ⟨fun y hy => ?_, h2, by simp, fun y hy z hz => ?_⟩
    · rcases List.mem_append.1 hy with h | h
      · exact h1 y h
      · simp at h; subst h; exact h3
    · simp at hz; subst hz; exact h4 y hy

theorem pairwise_last {s : List Int} (h : s.Pairwise (· < ·)) (hl : 0 < s.length) : ∀ y ∈ s, y ≤ s[s.length - 1] := by
  intro y hy
  obtain ⟨i, hi, rfl⟩ := List.mem_iff_getElem.1 hy
  by_cases e : i = s.length - 1
  · subst e; exact Int.le_refl _
  · have := (List.pairwise_iff_getElem.1 h) i (s.length - 1) hi (by omega) (by omega)
    omega

theorem setIn_step {n : Int} {s : List Int} {k : Nat} (hk : k < s.length) :
    SetIn n (s.take (k + 1)) ↔ SetIn n (s.take k) ∧ (0 ≤ s[k] ∧ s[k] < n) ∧ (0 < k → s[k - 1]'(by omega) < s[k]) := by
  rw [List.take_succ_eq_append_getElem hk, setIn_snoc]
  constructor
  · rintro ⟨h1, h2, h3⟩
    refine ⟨h1, h2, fun h0 => h3 _ ?_⟩
    rw [List.mem_iff_getElem]
    exact ⟨k - 1, by rw [List.length_take]; omega, by simp⟩
  · rintro ⟨h1, h2, h3⟩
    refine ⟨h1, h2, fun y hy => ?_⟩
    have hl : (s.take k).length = k := by rw [List.length_take]; omega
    have h0 : 0 < k := by
      cases k with
      | zero => simp at hy
      | succ k => omega
    have h4 := pairwise_last h1.2 (by omega) y hy
    have h5 : (s.take k)[(s.take k).length - 1]'(by omega) = s[k - 1]'(by omega) := by simp [hl]
    rw [h5] at h4
    have := h3 h0
    omega

theorem setIn_take {n : Int} {s : List Int} (h : SetIn n s) (k : Nat) : SetIn n (s.take k) :=
  ⟨fun x hx => h.1 x (List.mem_of_mem_take hx), h.2.sublist (List.take_sublist _ _)⟩

theorem setIn_ge {n : Int} {s : List Int} (h : SetIn n s) : ∀ i (hi : i < s.length), (i : Int) ≤ s[i] := by
  intro i
  induction i with
  | zero => intro hi; exact (h.1 _ (List.getElem_mem hi)).1
  | succ i ih =>
    intro hi
    have h1 := ih (by omega)
    have h2 := (List.pairwise_iff_getElem.1 h.2) i (i + 1) (by omega) hi (by omega)
    omega

theorem setIn_length {n : Int} (hn : 0 ≤ n) {s : List Int} (h : SetIn n s) : (s.length : Int) ≤ n := by
  by_cases h0 : s.length = 0
  · omega
  · have h1 := setIn_ge h (s.length - 1) (by omega)
    have h2 := (h.1 _ (List.getElem_mem (show s.length - 1 < s.length by omega))).2
    omega

/-- Two strictly rising lists with the same members are equal. -/
theorem rising_ext_int : ∀ (l m : List Int), l.Pairwise (· < ·) → m.Pairwise (· < ·) → (∀ x, x ∈ l ↔ x ∈ m) → l = m
  | [], [], _, _, _ => rfl
  | [], b :: m, _, _, h => by have := (h b).2 (by simp); simp at this
  | a :: l, [], _, _, h => by have := (h a).1 (by simp); simp at this
  | a :: l, b :: m, hl, hm, h => by
    rw [List.pairwise_cons] at hl hm
    have hab : a = b := by
      have h1 := (h a).1 (by simp)
      have h2 := (h b).2 (by simp)
      simp only [List.mem_cons] at h1 h2
      rcases h1 with h1 | h1
      · exact h1
      · rcases h2 with h2 | h2
        · exact h2.symm
        · have := hm.1 a h1; have := hl.1 b h2; omega
    subst hab
    congr 1
    refine rising_ext_int l m hl.2 hm.2 fun x => ?_
    have hx := h x
    simp only [List.mem_cons] at hx
    constructor
    · intro hxl
      have := hl.1 x hxl
      rcases hx.1 (.inr hxl) with e | e
      · omega
      · exact e
    · intro hxm
      have := hm.1 x hxm
      rcases hx.2 (.inr hxm) with e | e
      · omega
      · exact e

/-- Row v of a graph. -/
def row (g : List (List Int)) (v : Nat) : List Int := g.getD v []

/-- A graph is valid. -/
structure GOk (g : List (List Int)) : Prop where
  pos : 1 ≤ g.length
  le : g.length ≤ 16
  sets : ∀ v, v < g.length → SetIn g.length (row g v) ∧ ((v : Int) ∉ row g v)
  both : ∀ v, v < g.length → ∀ u ∈ row g v, (v : Int) ∈ row g u.toNat

theorem take_snoc' {α : Type} (l : List α) (k : Nat) (h : k < l.length) : l.take (k + 1) = l.take k ++ [l[k]] := List.take_succ_eq_append_getElem h

theorem not_mem_take_succ {x : Int} {s : List Int} {k : Nat} (hk : k < s.length) (h : x ∉ s.take k) (h2 : s[k] ≠ x) : x ∉ s.take (k + 1) := by
  rw [take_snoc' s k hk]
  simp only [List.mem_append, List.mem_singleton, not_or]
  exact ⟨h, fun e => h2 e.symm⟩

theorem mem_of_getElem {x : Int} {s : List Int} {k : Nat} (hk : k < s.length) (h : s[k] = x) : x ∈ s := h ▸ List.getElem_mem hk

end Go.Proofs.YtiooindlpinjhaaDoor

/- Plain facts, with no program in sight: the reference's list operations. -/
namespace Go.Proofs.YtiooindlpinjhaaDoor

/-- A list without a number. -/
def lessL (s : List Int) (v : Int) : List Int := s.filter (fun x => x != v)
/-- A rising list with one more. -/
def intoL : List Int → Int → List Int
  | [], n => [n]
  | x :: xs, n => if x < n then x :: intoL xs n else if x = n then x :: xs else n :: x :: xs
/-- 0, 1, .., n - 1. -/
def allL (n : Nat) : List Int := (List.range n).map (fun (i : Nat) => (i : Int))

theorem allL_length (n : Nat) : (allL n).length = n := by simp [allL]
theorem allL_succ (n : Nat) : allL (n + 1) = allL n ++ [(n : Int)] := by simp [allL, List.range_succ]
theorem mem_allL {n : Nat} {x : Int} : x ∈ allL n ↔ 0 ≤ x ∧ x < n := by
  simp only [allL, List.mem_map, List.mem_range]
  constructor
  · rintro ⟨i, hi, rfl⟩; omega
  · rintro ⟨h1, h2⟩; exact ⟨x.toNat, by omega, by omega⟩
theorem allL_rising (n : Nat) : (allL n).Pairwise (· < ·) := by
  unfold allL
  rw [List.pairwise_map]
  exact List.Pairwise.imp (fun h => by omega) List.pairwise_lt_range

theorem mem_lessL {s : List Int} {v x : Int} : x ∈ lessL s v ↔ x ∈ s ∧ x ≠ v := by simp [lessL]
theorem lessL_length (s : List Int) (v : Int) : (lessL s v).length ≤ s.length := List.length_filter_le _ _
theorem lessL_snoc (s : List Int) (v x : Int) : lessL (s ++ [x]) v = if x = v then lessL s v else lessL s v ++ [x] := by
  by_cases h : x = v
  · simp [lessL, h, List.filter_append]
  · simp [lessL, h, List.filter_append]
theorem lessL_rising {s : List Int} (h : s.Pairwise (· < ·)) (v : Int) : (lessL s v).Pairwise (· < ·) := h.filter _

theorem intoL_cut : ∀ (l : List Int) (n : Int) (k : Nat), k ≤ l.length → (∀ j (hj : j < l.length), j < k → l[j] < n) → (∀ h : k < l.length, ¬ l[k] < n) →
    intoL l n = if ∃ h : k < l.length, l[k] = n then l else l.take k ++ n :: l.drop k
  | [], n, k, hk, _, _ => by
    obtain rfl : k = 0 := by simpa using hk
    simp [intoL]
  | x :: xs, n, 0, hk, _, h2 => by
    have h3 : ¬ x < n := h2 (by simp)
    unfold intoL
    rw [if_neg h3]
    by_cases e : x = n
    · simp [e]
    · simp [e]
  | x :: xs, n, k + 1, hk, h1, h2 => by
    have h3 : x < n := h1 0 (by simp) (by omega)
    unfold intoL
    rw [if_pos h3, intoL_cut xs n k (by simpa using hk) (fun j hj hjk => h1 (j + 1) (by simpa using hj) (by omega)) (fun h => h2 (by simpa using h))]
    by_cases e : ∃ h : k < xs.length, xs[k] = n
    · rw [if_pos e, if_pos (by obtain ⟨a, b⟩ := e; exact ⟨by simpa using a, by simpa using b⟩)]
    · rw [if_neg e, if_neg (by rintro ⟨a, b⟩; exact e ⟨by simpa using a, by simpa using b⟩)]
      simp

theorem intoL_eq {l : List Int} {n : Int} {k : Nat} (hk : k < l.length) (h1 : ∀ j (hj : j < l.length), j < k → l[j] < n) (h2 : ¬ l[k] < n) (h3 : l[k] = n) : intoL l n = l := by
  rw [intoL_cut l n k (by omega) h1 (fun _ => h2), if_pos ⟨hk, h3⟩]
theorem intoL_new {l : List Int} {n : Int} {k : Nat} (hk : k ≤ l.length) (h1 : ∀ j (hj : j < l.length), j < k → l[j] < n) (h2 : ∀ h : k < l.length, ¬ l[k] < n) (h3 : ∀ h : k < l.length, l[k] ≠ n) : intoL l n = l.take k ++ n :: l.drop k := by
  rw [intoL_cut l n k hk h1 h2, if_neg (by rintro ⟨a, b⟩; exact h3 a b)]

theorem mem_intoL {n x : Int} : ∀ {l : List Int}, x ∈ intoL l n ↔ x ∈ l ∨ x = n
  | [] => by simp [intoL]
  | y :: l => by
    unfold intoL
    split
    · simp only [List.mem_cons, mem_intoL (l := l)]; exact ⟨fun h => by rcases h with h | h | h <;> simp [h], fun h => by rcases h with (h | h) | h <;> simp [h]⟩
    · split
      · rename_i h; subst h; simp only [List.mem_cons]; exact ⟨fun h => .inl h, fun h => by rcases h with h | h; exact h; exact .inl h⟩
      · simp only [List.mem_cons]; exact ⟨fun h => by rcases h with h | h | h <;> simp [h], fun h => by rcases h with (h | h) | h <;> simp [h]⟩

theorem intoL_rising {n : Int} : ∀ {l : List Int}, l.Pairwise (· < ·) → (intoL l n).Pairwise (· < ·)
  | [], _ => by simp [intoL]
  | y :: l, h => by
    rw [List.pairwise_cons] at h
    unfold intoL
    split
    · rename_i hy
      rw [List.pairwise_cons]
      refine ⟨fun z hz => ?_, intoL_rising h.2⟩
      rcases mem_intoL.1 hz with hz | rfl
      · exact h.1 z hz
      · exact hy
    · split
      · rw [List.pairwise_cons]; exact h
      · rw [List.pairwise_cons, List.pairwise_cons]
        refine ⟨fun z hz => ?_, h⟩
        rcases List.mem_cons.1 hz with rfl | hz
        · omega
        · have := h.1 z hz; omega

theorem intoL_length (l : List Int) (n : Int) : (intoL l n).length ≤ l.length + 1 := by
  induction l with
  | nil => simp [intoL]
  | cons x l ih =>
    unfold intoL
    split
    · simp; omega
    · split <;> simp

end Go.Proofs.YtiooindlpinjhaaDoor

/- Plain facts, with no program in sight: folding, as the reference does it. -/
namespace Go.Proofs.YtiooindlpinjhaaDoor

/-- A fold. -/
structure Fd where
  V : Int
  A : Int
  B : Int

/-- How vertex v may be folded, of a row of neighbours. -/
def atRow (v : Int) (r : List Int) : Fd := ⟨v, r.getD 0 (-1), r.getD 1 (-1)⟩

def fr1 (g : List (List Int)) (f : Fd) (u : Nat) : List Int := if (u : Int) = f.V then [] else lessL (row g u) f.V
def fr2 (g : List (List Int)) (f : Fd) (u : Nat) : List Int := if (u : Int) = f.A ∧ 0 ≤ f.B then intoL (fr1 g f u) f.B else fr1 g f u
/-- Row u behind a fold. -/
def foldRow (g : List (List Int)) (f : Fd) (u : Nat) : List Int := if (u : Int) = f.B then intoL (fr2 g f u) f.A else fr2 g f u
def foldG (g : List (List Int)) (f : Fd) : List (List Int) := (List.range g.length).map (foldRow g f)

theorem foldG_length (g : List (List Int)) (f : Fd) : (foldG g f).length = g.length := by simp [foldG]
theorem row_foldG (g : List (List Int)) (f : Fd) {u : Nat} (hu : u < g.length) : row (foldG g f) u = foldRow g f u := by simp [row, foldG, hu]

theorem fr1_length (g : List (List Int)) (f : Fd) (u : Nat) : (fr1 g f u).length ≤ (row g u).length := by
  unfold fr1; split
  · simp
  · exact lessL_length _ _
theorem fr2_length (g : List (List Int)) (f : Fd) (u : Nat) : (fr2 g f u).length ≤ (row g u).length + 1 := by
  have := fr1_length g f u
  unfold fr2; split
  · have := intoL_length (fr1 g f u) f.B; omega
  · omega
theorem foldRow_length (g : List (List Int)) (f : Fd) (u : Nat) : (foldRow g f u).length ≤ (row g u).length + 2 := by
  have := fr2_length g f u
  unfold foldRow; split
  · have := intoL_length (fr2 g f u) f.A; omega
  · omega

theorem fr1_yes {g : List (List Int)} {f : Fd} {u : Nat} (h : (u : Int) = f.V) : fr1 g f u = [] := if_pos h
theorem fr1_no {g : List (List Int)} {f : Fd} {u : Nat} (h : ¬ (u : Int) = f.V) : fr1 g f u = lessL (row g u) f.V := if_neg h
theorem fr2_yes {g : List (List Int)} {f : Fd} {u : Nat} (h : (u : Int) = f.A) (h2 : 0 ≤ f.B) : fr2 g f u = intoL (fr1 g f u) f.B := if_pos ⟨h, h2⟩
theorem fr2_no {g : List (List Int)} {f : Fd} {u : Nat} (h : ¬ ((u : Int) = f.A ∧ 0 ≤ f.B)) : fr2 g f u = fr1 g f u := if_neg h
theorem foldRow_yes {g : List (List Int)} {f : Fd} {u : Nat} (h : (u : Int) = f.B) : foldRow g f u = intoL (fr2 g f u) f.A := if_pos h
theorem foldRow_no {g : List (List Int)} {f : Fd} {u : Nat} (h : ¬ (u : Int) = f.B) : foldRow g f u = fr2 g f u := if_neg h

/-- The reference folds the least vertex of those that are left that may be folded, again and again. -/
inductive Folds : List (List Int) → List Int → List Fd → List Int → List (List Int) → Prop
  | stop {g : List (List Int)} {left : List Int} (h : ∀ v ∈ left, 2 < (row g v.toNat).length) : Folds g left [] left g
  | step {g : List (List Int)} {l1 l2 : List Int} {v : Int} {fs : List Fd} {l : List Int} {g' : List (List Int)} (h1 : ∀ x ∈ l1, 2 < (row g x.toNat).length) (h2 : (row g v.toNat).length ≤ 2)
      (h : Folds (foldG g (atRow v (row g v.toNat))) (lessL (l1 ++ v :: l2) v) fs l g') : Folds g (l1 ++ v :: l2) (atRow v (row g v.toNat) :: fs) l g'

theorem take_cons_drop {α : Type} (l : List α) (k : Nat) (h : k < l.length) : l = l.take k ++ l[k] :: l.drop (k + 1) := by
  rw [List.getElem_cons_drop, List.take_append_drop]

theorem lessL_length_lt {s : List Int} {v : Int} (h : v ∈ s) : (lessL s v).length < s.length := by
  induction s with
  | nil => cases h
  | cons x s ih =>
    by_cases e : x = v
    · have : lessL (x :: s) v = lessL s v := by simp [lessL, e]
      rw [this]
      have := lessL_length s v
      simp; omega
    · have h' : v ∈ s := by
        rcases List.mem_cons.1 h with h | h
        · exact absurd h.symm e
        · exact h
      have : lessL (x :: s) v = x :: lessL s v := by simp [lessL, e]
      rw [this]
      have := ih h'
      simp; omega

/-- What the loop of the reference carries: behind the folds so far these vertices and this graph are left. -/
def FoldsOn (g0 : List (List Int)) (left0 : List Int) (os : List Fd) (lf : List Int) (gg : List (List Int)) : Prop :=
  ∀ fs l g', Folds gg lf fs l g' → Folds g0 left0 (os ++ fs) l g'

theorem foldsOn_start (g : List (List Int)) (left : List Int) : FoldsOn g left [] left g := fun _ _ _ h => h
theorem foldsOn_step {g0 gg : List (List Int)} {left0 lf : List Int} {os : List Fd} {k : Nat} (h : FoldsOn g0 left0 os lf gg) (hk : k < lf.length) (h1 : ∀ j (hj : j < lf.length), j < k → 2 < (row gg (lf[j]).toNat).length)
    (h2 : (row gg (lf[k]).toNat).length ≤ 2) : FoldsOn g0 left0 (os ++ [atRow lf[k] (row gg (lf[k]).toNat)]) (lessL lf lf[k]) (foldG gg (atRow lf[k] (row gg (lf[k]).toNat))) := by
  intro fs l g' hf
  rw [List.append_assoc, List.singleton_append]
  refine h _ _ _ ?_
  have e := take_cons_drop lf k hk
  have hs : Folds gg (lf.take k ++ lf[k] :: lf.drop (k + 1)) (atRow lf[k] (row gg (lf[k]).toNat) :: fs) l g' := by
    refine Folds.step (fun x hx => ?_) h2 (by rw [← e]; exact hf)
    obtain ⟨j, hj, rfl⟩ := List.mem_iff_getElem.1 hx
    rw [List.length_take] at hj
    rw [List.getElem_take]
    exact h1 j (by omega) (by omega)
  rwa [← e] at hs
theorem foldsOn_stop {g0 gg : List (List Int)} {left0 lf : List Int} {os : List Fd} (h : FoldsOn g0 left0 os lf gg) (h1 : ∀ j (hj : j < lf.length), 2 < (row gg (lf[j]).toNat).length) : Folds g0 left0 os lf gg := by
  have := h [] lf gg (Folds.stop fun v hv => by
    obtain ⟨j, hj, rfl⟩ := List.mem_iff_getElem.1 hv
    exact h1 j hj)
  rwa [List.append_nil] at this

theorem first_unique {α : Type} (p : α → Prop) : ∀ {l1 l2 m1 m2 : List α} {v x : α}, l1 ++ v :: l2 = m1 ++ x :: m2 → (∀ y ∈ l1, ¬ p y) → p v → (∀ y ∈ m1, ¬ p y) → p x → l1 = m1 ∧ v = x ∧ l2 = m2
  | [], l2, [], m2, v, x, h, _, _, _, _ => by simp at h; exact ⟨rfl, h.1, h.2⟩
  | [], l2, y :: m1, m2, v, x, h, _, hv, hm, _ => by simp at h; exact absurd (h.1 ▸ hv) (hm y (by simp))
  | y :: l1, l2, [], m2, v, x, h, hl, _, _, hx => by simp at h; exact absurd (h.1 ▸ hx) (hl y (by simp))
  | y :: l1, l2, z :: m1, m2, v, x, h, hl, hv, hm, hx => by
    simp at h
    obtain ⟨rfl, h⟩ := h
    obtain ⟨rfl, rfl, rfl⟩ := first_unique p h (fun y hy => hl y (by simp [hy])) hv (fun y hy => hm y (by simp [hy])) hx
    exact ⟨rfl, rfl, rfl⟩

theorem folds_det {g : List (List Int)} {left : List Int} {fs : List Fd} {l : List Int} {g' : List (List Int)} (h : Folds g left fs l g') : ∀ {fs2 : List Fd} {l2 : List Int} {g2 : List (List Int)}, Folds g left fs2 l2 g2 → fs = fs2 ∧ l = l2 ∧ g' = g2 := by
  induction h with
  | stop h =>
    intro fs2 l2 g2 k
    cases k with
    | stop => exact ⟨rfl, rfl, rfl⟩
    | step h1 h2 _ =>
      have := h _ (List.mem_append_right _ (List.mem_cons_self ..))
      omega
  | @step g l1 l2 v fs l g' h1 h2 _ ih =>
    intro fs2 l3 g2 k
    generalize hL : l1 ++ v :: l2 = L at k
    cases k with
    | stop h =>
      have := h v (by rw [← hL]; simp)
      omega
    | @step _ m1 m2 x fs3 _ _ k1 k2 k3 =>
      obtain ⟨rfl, rfl, rfl⟩ := first_unique (fun (y : Int) => (row g y.toNat).length ≤ 2) hL (fun y hy => by have := h1 y hy; omega) h2 (fun y hy => by have := k1 y hy; omega) k2
      obtain ⟨rfl, rfl, rfl⟩ := ih k3
      exact ⟨rfl, rfl, rfl⟩

/-- What the reference's FoldedOf returns. -/
def FoldedS (g : List (List Int)) (fs : List Fd) (l : List Int) : Prop := (GOk g ∧ ∃ g', Folds g (allL g.length) fs l g') ∨ (¬ GOk g ∧ fs = [] ∧ l = [])
/-- All vertices are folded away. -/
def SerS (g : List (List Int)) : Prop := GOk g ∧ ∃ fs g', Folds g (allL g.length) fs [] g'

theorem serS_iff {g : List (List Int)} {fs : List Fd} {l : List Int} {g' : List (List Int)} (hg : GOk g) (h : Folds g (allL g.length) fs l g') : SerS g ↔ l.length = 0 := by
  constructor
  · rintro ⟨_, fs2, g2, h2⟩
    obtain ⟨_, rfl, _⟩ := folds_det h h2
    rfl
  · intro hl
    obtain rfl := List.eq_nil_of_length_eq_zero hl
    exact ⟨hg, fs, g', h⟩

theorem gOk_row_le {g : List (List Int)} (h : GOk g) (j : Nat) (hj : j < g.length) : (row g j).length ≤ 16 := by
  have h1 := setIn_length (by omega) (h.sets j hj).1
  have := h.le
  omega

end Go.Proofs.YtiooindlpinjhaaDoor
