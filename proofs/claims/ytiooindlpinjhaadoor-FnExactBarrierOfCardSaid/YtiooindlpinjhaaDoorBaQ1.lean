/- Plain facts, with no program in sight: sets of small numbers as bits of a number, strictly rising lists. -/
import Derived.Lib.TrailingZeros
namespace Go.Proofs.YtiooindlpinjhaaDoor

/-- Two strictly rising lists with the same members are equal. -/
theorem rising_ext : ∀ (l m : List Nat), l.Pairwise (· < ·) → m.Pairwise (· < ·) → (∀ x, x ∈ l ↔ x ∈ m) → l = m
  | [], [], _, _, _ => rfl
  | [], b :: m, _, _, h => by have := (h b).2 (by simp); simp at this
  | a :: l, [], _, _, h => by have := (h a).1 (by simp); simp at this
  | a :: l, b :: m, hl, hm, h => by
    rw [List.pairwise_cons] at hl hm
    have hab : a = b := by
      have h1 := (h a).1 (by simp)
      have h2 := (h b).2 (by simp)
      simp only [List.mem_cons] at h1 h2
      rcases h1 with h1 | h1
      · exact h1
      · rcases h2 with h2 | h2
        · exact h2.symm
        · have := hm.1 a h1; have := hl.1 b h2; omega
    subst hab
    congr 1
    refine rising_ext l m hl.2 hm.2 fun x => ?_
    have hx := h x
    simp only [List.mem_cons] at hx
    constructor
    · intro hxl
      have := hl.1 x hxl
      rcases hx.1 (.inr hxl) with e | e
      · omega
      · exact e
    · intro hxm
      have := hm.1 x hxm
      rcases hx.2 (.inr hxm) with e | e
      · omega
      · exact e

/-- The numbers of the bits that are set, rising. -/
def bitsOf (s : Nat) : List Nat := (List.range 32).filter (fun i => s.testBit i)

theorem bitsOf_rising (s : Nat) : (bitsOf s).Pairwise (· < ·) := List.Pairwise.filter _ List.pairwise_lt_range

theorem mem_bitsOf {s i : Nat} : i ∈ bitsOf s ↔ i < 32 ∧ s.testBit i = true := by simp [bitsOf]

theorem mem_bitsOf' {s i : Nat} (h : s < 4294967296) : i ∈ bitsOf s ↔ s.testBit i = true := by
  rw [mem_bitsOf]
  constructor
  · exact fun x => x.2
  · intro hi
    refine ⟨?_, hi⟩
    apply Nat.lt_of_not_le
    intro hle
    have : s.testBit i = false := Nat.testBit_lt_two_pow (Nat.lt_of_lt_of_le h (by have := Nat.pow_le_pow_right (n := 2) (by decide) hle; simpa using this))
    rw [this] at hi; cases hi

theorem bitsOf_length (s : Nat) : (bitsOf s).length ≤ 32 := by
  have := List.length_filter_le (fun i => s.testBit i) (List.range 32)
  simpa [bitsOf] using this

theorem bitsOf_zero : bitsOf 0 = [] := by simp [bitsOf]

theorem testBit_lowest (k m j : Nat) : (2 ^ k * (2 * m + 1)).testBit j = (decide (k = j) || (decide (k < j) && (2 ^ k * (2 * m)).testBit j)) := by
  rw [Nat.mul_comm (2 ^ k), Nat.mul_comm (2 ^ k), Nat.testBit_mul_two_pow, Nat.testBit_mul_two_pow]
  by_cases h1 : k = j
  · subst h1; simp
  · by_cases h2 : k < j
    · obtain ⟨d, rfl⟩ : ∃ d, j = k + (d + 1) := ⟨j - k - 1, by omega⟩
      have e3 : k + (d + 1) - k = d + 1 := by omega
      have d1 : (2 * m + 1) / 2 = m := by omega
      have d2 : (2 * m) / 2 = m := by omega
      rw [e3, Nat.testBit_succ, Nat.testBit_succ, d1, d2]
      have : (k = k + (d + 1)) = False := by simp
      simp [this, h2, show k ≤ k + (d + 1) by omega]
    · have : ¬ k ≤ j := by omega
      simp [h1, h2, this]

/-- 's & (s - 1)' takes the lowest bit away. -/
theorem testBit_drop_low (s : Nat) (hs : s ≠ 0) (h : s < 4294967296) (j : Nat) :
    (s &&& (s - 1)).testBit j = (s.testBit j && !decide (Lib.ctz 32 s = j)) := by
  obtain ⟨m, hm, hk⟩ := Lib.ctzFrom_spec 32 s (by omega) (by simpa using h)
  have hc : Lib.ctz 32 s = Lib.ctzFrom 32 s := by simp [Lib.ctz, hs]
  rw [hc]
  generalize Lib.ctzFrom 32 s = k at *
  have h1 : s - 1 = 2 ^ k * (2 * m) + (2 ^ k - 1) := by
    have hp : 0 < 2 ^ k := Nat.two_pow_pos k
    have e : 2 ^ k * (2 * m + 1) = 2 ^ k * (2 * m) + 2 ^ k := by rw [Nat.mul_add, Nat.mul_one]
    omega
  have hp : 2 ^ k - 1 < 2 ^ k := by have := Nat.two_pow_pos k; omega
  rw [Nat.testBit_and, h1, Nat.testBit_two_pow_mul_add _ hp, hm]
  rw [testBit_lowest]
  by_cases e1 : k = j
  · subst e1
    simp [Nat.testBit_two_pow_mul, Nat.mul_comm]
  · by_cases e2 : k < j
    · have : ¬ j < k := by omega
      simp only [e1, e2, decide_true, decide_false, Bool.false_or, Bool.true_and, Bool.not_false, Bool.and_true, this, if_false, ite_false]
      rw [Nat.mul_comm (2 ^ k), Nat.testBit_mul_two_pow]
      simp [show k ≤ j by omega]
    · simp [e1, e2]

theorem testBit_ctz (s : Nat) (hs : s ≠ 0) (h : s < 4294967296) : s.testBit (Lib.ctz 32 s) = true ∧ Lib.ctz 32 s < 32 ∧ ∀ j, j < Lib.ctz 32 s → s.testBit j = false := by
  obtain ⟨m, hm, hk⟩ := Lib.ctzFrom_spec 32 s (by omega) (by simpa using h)
  have hc : Lib.ctz 32 s = Lib.ctzFrom 32 s := by simp [Lib.ctz, hs]
  rw [hc]
  generalize Lib.ctzFrom 32 s = k at *
  rw [hm]
  refine ⟨by rw [testBit_lowest]; simp, hk, fun j hj => ?_⟩
  rw [testBit_lowest]
  have h1 : ¬ k = j := by omega
  have h2 : ¬ k < j := by omega
  simp [h1, h2]

theorem and_lt32 (a b : Nat) (h : a < 4294967296) : a &&& b < 4294967296 := Nat.lt_of_le_of_lt Nat.and_le_left h
theorem or_lt32 (a b : Nat) (h : a < 4294967296) (h' : b < 4294967296) : a ||| b < 4294967296 := Nat.or_lt_two_pow (n := 32) h h'
theorem and_lt16 (a b : Nat) (h : a < 65536) : a &&& b < 65536 := Nat.lt_of_le_of_lt Nat.and_le_left h
theorem or_lt16 (a b : Nat) (h : a < 65536) (h' : b < 65536) : a ||| b < 65536 := Nat.or_lt_two_pow (n := 16) h h'
theorem pow_lt32 (v : Nat) (h : v < 32) : 2 ^ v < 4294967296 := Nat.pow_lt_pow_right (n := 32) (by decide) h
theorem pow_lt16 (v : Nat) (h : v < 16) : 2 ^ v < 65536 := Nat.pow_lt_pow_right (n := 16) (by decide) h

theorem bitsOf_step (s : Nat) (hs : s ≠ 0) (h : s < 4294967296) : bitsOf s = Lib.ctz 32 s :: bitsOf (s &&& (s - 1)) := by
  obtain ⟨h1, h2, h3⟩ := testBit_ctz s hs h
  have hlt := and_lt32 s (s - 1) h
  refine rising_ext _ _ (bitsOf_rising s) ?_ fun x => ?_
  · rw [List.pairwise_cons]
    refine ⟨fun a ha => ?_, bitsOf_rising _⟩
    rw [mem_bitsOf' hlt, testBit_drop_low s hs h] at ha
    simp only [Bool.and_eq_true, Bool.not_eq_true', decide_eq_false_iff_not] at ha
    apply Nat.lt_of_not_le
    intro hle
    have := h3 a (by omega)
    rw [this] at ha
    simp at ha
  · rw [mem_bitsOf' h, List.mem_cons, mem_bitsOf' hlt, testBit_drop_low s hs h]
    by_cases e : x = Lib.ctz 32 s
    · subst e; simp [h1]
    · have e' : ¬ Lib.ctz 32 s = x := fun q => e q.symm
      simp [e, e']

theorem bitsOf_lt16 {s : Nat} (h : s < 65536) {i : Nat} (hi : i ∈ bitsOf s) : i < 16 := by
  rw [mem_bitsOf] at hi
  apply Nat.lt_of_not_le
  intro hle
  have : s.testBit i = false := Nat.testBit_lt_two_pow (Nat.lt_of_lt_of_le h (by have := Nat.pow_le_pow_right (n := 2) (by decide) hle; simpa using this))
  rw [this] at hi; simp at hi

theorem bit_ext16 {s t : Nat} (h : ∀ i, s.testBit i = t.testBit i) : s = t := Nat.eq_of_testBit_eq h

theorem testBit_pow (v j : Nat) : (2 ^ v).testBit j = decide (v = j) := Nat.testBit_two_pow ..

theorem testBit_firstOf (n j : Nat) : (2 ^ n - 1).testBit j = decide (j < n) := Nat.testBit_two_pow_sub_one ..

theorem testBit_andNot (a b : Nat) (hb : b < 4294967296) (ha : a < 4294967296) (j : Nat) : (a &&& (4294967295 - b)).testBit j = (a.testBit j && !b.testBit j) := by
  have hx : 4294967295 - b = 2 ^ 32 - (b + 1) := by omega
  rw [Nat.testBit_and, hx, Nat.testBit_two_pow_sub_succ (by simpa using hb)]
  by_cases h : j < 32
  · simp [h]
  · have : a.testBit j = false := Nat.testBit_lt_two_pow (Nat.lt_of_lt_of_le ha (by have := Nat.pow_le_pow_right (n := 2) (show 0 < 2 by decide) (show 32 ≤ j by omega); simpa using this))
    simp [this]

/-- a without b. -/
def sub (a b : Nat) : Nat := a &&& (4294967295 - b)
theorem testBit_sub (a b : Nat) (ha : a < 4294967296) (hb : b < 4294967296) (j : Nat) : (sub a b).testBit j = (a.testBit j && !b.testBit j) := testBit_andNot a b hb ha j
theorem sub_lt32 (a b : Nat) (h : a < 4294967296) : sub a b < 4294967296 := and_lt32 _ _ h
theorem sub_lt16 (a b : Nat) (h : a < 65536) : sub a b < 65536 := and_lt16 _ _ h

/-- The set of some numbers. -/
def mask (xs : List Int) : Nat := xs.foldl (fun a x => a ||| 2 ^ x.toNat) 0

theorem mask_snoc (xs : List Int) (x : Int) : mask (xs ++ [x]) = mask xs ||| 2 ^ x.toNat := by simp [mask]

theorem foldl_or_testBit (xs : List Int) (a j : Nat) : (xs.foldl (fun a x => a ||| 2 ^ x.toNat) a).testBit j = (a.testBit j || xs.any (fun x => x.toNat == j)) := by
  induction xs generalizing a with
  | nil => simp
  | cons x xs ih =>
    rw [List.foldl_cons, ih, Nat.testBit_or, testBit_pow, List.any_cons, Bool.or_assoc]
    rfl

theorem testBit_mask (xs : List Int) (j : Nat) : (mask xs).testBit j = xs.any (fun x => x.toNat == j) := by
  rw [mask, foldl_or_testBit]; simp

theorem mask_lt16 (xs : List Int) (h : ∀ x ∈ xs, x < 16) : mask xs < 65536 := by
  have : mask xs < 2 ^ 16 := by
    apply Nat.lt_pow_two_of_testBit
    intro i hi
    rw [testBit_mask, List.any_eq_false]
    intro x hx
    have := h x hx
    simp; omega
  simpa using this

end Go.Proofs.YtiooindlpinjhaaDoor
