/- Plain: the edges counted are half the degrees. -/
import Derived.Test.YtiooindlpinjhaaDoorBaQ22
import Derived.Test.YtiooindlpinjhaaDoorBaQ20
import Derived.Test.YtiooindlpinjhaaDoorBaQ9
import Derived.Test.YtiooindlpinjhaaDoorBaQ13
namespace Go.Proofs.YtiooindlpinjhaaDoor

theorem cntE_edN {g : List (List Int)} (hg : GOk g) : ∀ k, k ≤ g.length → cntE g k = (edN g.length (ofG g) k).length
  | 0, _ => rfl
  | k + 1, hk => by
    have ih := cntE_edN hg k (by omega)
    have h1 := edT_end hg (show k < g.length by omega)
    have h2 : (edT g k (row g k).length).length = upL k (row g k) := by simp [edT, upL]
    rw [cntE, ih, edN_succ, List.length_append, ← h1, h2]
/-- The degrees within the first m. -/
def sumS (E : Nat → Nat → Bool) (m : Nat) : Nat := ((List.range m).map fun u => (List.range m).countP (E u)).sum
def sumP (E : Nat → Nat → Bool) (m : Nat) : Nat := ((List.range m).map fun u => (List.range m).countP fun v => decide (u < v) && E u v).sum
theorem sum_two {E : Nat → Nat → Bool} (hs : ∀ r j, E r j = true → E j r = true) (hi : ∀ r, E r r = false) : ∀ m, sumS E m = 2 * sumP E m
  | 0 => rfl
  | m + 1 => by
    have ih := sum_two hs hi m
    have e1 : sumS E (m + 1) = sumS E m + 2 * (List.range m).countP (E m) := by
      unfold sumS
      rw [List.range_succ, List.map_append, List.sum_append, List.map_singleton, List.sum_singleton]
      have a : ((List.range m).map fun u => (List.range m ++ [m]).countP (E u)) = (List.range m).map fun u => (List.range m).countP (E u) + (if E u m = true then 1 else 0) := List.map_congr_left fun u _ => by
        rw [List.countP_append, List.countP_singleton]
      have b := sum_add2 (fun u => (List.range m).countP (E u)) (fun u => if E u m = true then 1 else 0) (List.range m)
      have c := sum_ite (fun u => E u m) (List.range m)
      have d : (List.range m).countP (fun u => E u m) = (List.range m).countP (E m) := List.countP_congr fun v _ => ⟨fun h => hs _ _ h, fun h => hs _ _ h⟩
      rw [a, b, c, d, List.countP_append, List.countP_singleton, hi m]
      simp only [Bool.false_eq_true, if_false]
      omega
    have e2 : sumP E (m + 1) = sumP E m + (List.range m).countP (E m) := by
      unfold sumP
      rw [List.range_succ, List.map_append, List.sum_append, List.map_singleton, List.sum_singleton]
      have a : ((List.range m).map fun u => (List.range m ++ [m]).countP fun v => decide (u < v) && E u v) = (List.range m).map fun u => ((List.range m).countP fun v => decide (u < v) && E u v) + (if E u m = true then 1 else 0) := List.map_congr_left fun u hu => by
        have hum : u < m := List.mem_range.1 hu
        rw [List.countP_append, List.countP_singleton]
        simp [hum]
      have b := sum_add2 (fun u => (List.range m).countP fun v => decide (u < v) && E u v) (fun u => if E u m = true then 1 else 0) (List.range m)
      have c := sum_ite (fun u => E u m) (List.range m)
      have d : (List.range m).countP (fun u => E u m) = (List.range m).countP (E m) := List.countP_congr fun v _ => ⟨fun h => hs _ _ h, fun h => hs _ _ h⟩
      have f : (List.range m ++ [m]).countP (fun v => decide (m < v) && E m v) = 0 := List.countP_eq_zero.2 fun v hv => by
        rcases List.mem_append.1 hv with h | h
        · have := List.mem_range.1 h
          simp [show ¬ m < v by omega]
        · have : v = m := by simpa using h
          simp [this]
      rw [a, b, c, d, f]
      omega
    omega
theorem edN_sum (n : Nat) (E : Nat → Nat → Bool) : ∀ k, (edN n E k).length = ((List.range k).map fun u => (List.range n).countP fun v => decide (u < v) && E u v).sum
  | 0 => rfl
  | k + 1 => by
    rw [edN_succ, List.length_append, edN_sum n E k, List.range_succ, List.map_append, List.sum_append, List.map_singleton, List.sum_singleton]
    unfold edRow
    rw [List.length_map, ← List.countP_eq_length_filter]
/-- Twice the edges are the degrees. -/
theorem two_cntE {g : List (List Int)} (hg : GOk g) : totN g.length (ofG g) = 2 * cntE g g.length := by
  rw [cntE_edN hg g.length (Nat.le_refl _), edN_sum]
  exact sum_two (ofG_sym hg) (ofG_irr hg) g.length

end Go.Proofs.YtiooindlpinjhaaDoor

/- Plain: a graph is made of its edges again; a sum does not depend on the order. -/
namespace Go.Proofs.YtiooindlpinjhaaDoor

/-- The edges that a list of pairs has. -/
def memE (l : List (Nat × Nat)) : Nat → Nat → Bool := fun r j => decide ((r, j) ∈ l ∨ (j, r) ∈ l)
theorem memE_nil (n : Nat) : indN n (memE []) = List.replicate n 0 := indN_none n fun r j _ _ => by simp [memE]
theorem memE_snoc {n a b : Nat} {l : List (Nat × Nat)} (ha : a < n) (hb : b < n) (hab : a ≠ b) : joinL (indN n (memE l)) a b = indN n (memE (l ++ [(a, b)])) := by
  refine natList_ext (by rw [joinL_length, indN_length, indN_length]) fun r hr => ?_
  rw [joinL_length, indN_length] at hr
  refine Nat.eq_of_testBit_eq fun j => ?_
  rw [Bool.eq_iff_iff, joinL_testBit (by rw [indN_length]; exact ha) (by rw [indN_length]; exact hb) hab, indN_bit hr, indN_bit hr]
  simp only [memE, Bool.and_eq_true, decide_eq_true_eq, List.mem_append, List.mem_singleton, Prod.mk.injEq]
  constructor
  · rintro (⟨h1, h2⟩ | ⟨rfl, rfl⟩ | ⟨rfl, rfl⟩)
    · exact ⟨h1, h2.imp .inl .inl⟩
    · exact ⟨hb, .inl (.inr ⟨rfl, rfl⟩)⟩
    · exact ⟨ha, .inr (.inr ⟨rfl, rfl⟩)⟩
  · rintro ⟨h1, (h2 | ⟨rfl, rfl⟩) | (h2 | ⟨rfl, rfl⟩)⟩
    · exact .inl ⟨h1, .inl h2⟩
    · exact .inr (.inl ⟨rfl, rfl⟩)
    · exact .inl ⟨h1, .inr h2⟩
    · exact .inr (.inr ⟨rfl, rfl⟩)
theorem mem_edN_iff {n : Nat} {E : Nat → Nat → Bool} {a b : Nat} : (a, b) ∈ edN n E n ↔ a < b ∧ b < n ∧ E a b = true := by
  simp only [edN, edRow, List.mem_flatMap, List.mem_range, List.mem_map, List.mem_filter, Bool.and_eq_true, decide_eq_true_eq, Prod.mk.injEq]
  constructor
  · rintro ⟨u, hu, v, ⟨hv, h1, h2⟩, rfl, rfl⟩
    exact ⟨h1, hv, h2⟩
  · rintro ⟨h1, h2, h3⟩
    exact ⟨a, by omega, b, ⟨h2, h1, h3⟩, rfl, rfl⟩
theorem memE_edN {g : List (List Int)} (hg : GOk g) : matG g.length (memE (edN g.length (ofG g) g.length)) = g := by
  rw [← matG_congr (E := ofG g)]
  · exact matG_ofG hg
  · intro r j hr hj
    rw [Bool.eq_iff_iff]
    simp only [memE, decide_eq_true_eq, mem_edN_iff]
    constructor
    · intro h
      rcases Nat.lt_trichotomy r j with h1 | rfl | h1
      · exact .inl ⟨h1, hj, h⟩
      · rw [ofG_irr hg] at h; cases h
      · exact .inr ⟨h1, hr, ofG_sym hg _ _ h⟩
    · rintro (⟨_, _, h⟩ | ⟨_, _, h⟩)
      · exact h
      · exact ofG_sym hg _ _ h
theorem perm_sumI {a b : List Int} (h : a.Perm b) : a.sum = b.sum := by
  induction h with
  | nil => rfl
  | cons x _ ih => simp [ih]
  | swap x y l => simp; omega
  | trans _ _ h1 h2 => exact h1.trans h2
theorem sum_take_snoc {l : List Int} {k : Nat} (h : k < l.length) : (l.take (k + 1)).sum = (l.take k).sum + l[k] := by
  rw [List.take_succ_eq_append_getElem h, List.sum_append]
  simp
theorem sum_bound {l : List Int} {c : Int} (h : ∀ x ∈ l, 0 ≤ x ∧ x ≤ c) : 0 ≤ l.sum ∧ l.sum ≤ c * l.length := by
  induction l with
  | nil => simp
  | cons a l ih =>
    have h1 := h a (by simp)
    have h2 := ih fun x hx => h x (by simp [hx])
    rw [List.sum_cons, List.length_cons]
    have e : c * ((l.length + 1 : Nat) : Int) = c * (l.length : Int) + c := by rw [Int.natCast_add, Int.mul_add]; simp
    rw [e]
    omega
/-- The degrees of the first vertices. -/
def degL (g : List (List Int)) (k : Nat) : List Int := (List.range k).map fun v => ((row g v).length : Int)
theorem degL_succ (g : List (List Int)) (k : Nat) : degL g (k + 1) = degL g k ++ [((row g k).length : Int)] := by simp [degL, List.range_succ]
theorem degL_length (g : List (List Int)) (k : Nat) : (degL g k).length = k := by simp [degL]
theorem row_degE {g : List (List Int)} (hg : GOk g) {v : Nat} (hv : v < g.length) : (row g v).length = degN g.length (ofG g) v := by
  have hs := (hg.sets v hv).1
  have e : (row g v).map Int.toNat = (List.range g.length).filter (ofG g v) := by
    refine rising_ext _ _ ?_ (List.Pairwise.filter _ List.pairwise_lt_range) fun x => ?_
    · rw [List.pairwise_map]
      refine hs.2.imp_of_mem fun {a b} ha hb hab => ?_
      have := hs.1 a ha
      have := hs.1 b hb
      omega
    · rw [List.mem_map, List.mem_filter, List.mem_range]
      simp only [ofG, decide_eq_true_eq]
      constructor
      · rintro ⟨y, hy, rfl⟩
        have := hs.1 y hy
        exact ⟨by omega, by rw [show ((y.toNat : Nat) : Int) = y by omega]; exact hy⟩
      · rintro ⟨_, h⟩
        exact ⟨_, h, by simp⟩
  have := congrArg List.length e
  rw [List.length_map] at this
  rw [this, degN, List.countP_eq_length_filter]
theorem degL_sum {g : List (List Int)} (hg : GOk g) : (degL g g.length).sum = ((2 * (edN g.length (ofG g) g.length).length : Nat) : Int) := by
  have h1 := two_cntE hg
  rw [cntE_edN hg _ (Nat.le_refl _)] at h1
  rw [← h1]
  unfold degL totN
  have : ∀ k, k ≤ g.length → ((List.range k).map fun v => ((row g v).length : Int)).sum = ((((List.range k).map (degN g.length (ofG g))).sum : Nat) : Int) := by
    intro k
    induction k with
    | zero => intro _; rfl
    | succ k ih =>
      intro hk
      rw [List.range_succ, List.map_append, List.map_append, List.sum_append, List.sum_append, ih (by omega)]
      have := row_degE hg (v := k) (by omega)
      simp [this]
  exact this g.length (Nat.le_refl _)

end Go.Proofs.YtiooindlpinjhaaDoor
