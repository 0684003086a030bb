/- Plain: two lines of the same numbers, and what crosses. -/
import Derived.Test.YtkppbmfliejnmaaDoorMcQ6
import Derived.Test.YtkppbmfliejnmaaDoorMcQ14
import Derived.Test.YtkppbmfliejnmaaDoorMcQ11
import Derived.Test.YtkppbmfliejnmaaDoorMcQ17
import Derived.Test.YtkppbmfliejnmaaDoorMcQ13
import Derived.Deep.RegionLaw
import Derived.Deep.DeepCutAuto
import Derived.Deep.RegionHeld3
namespace Go.Proofs.YtkppbmfliejnmaaDoor

theorem ordOk_mem {n : Nat} {l : List Int} (h : OrdOk n l) {x : Int} (h0 : 0 ≤ x) (h1 : x < n) : x ∈ l := by
  refine Classical.byContradiction fun hx => ?_
  have hs : SetIn (n : Int) ((l ++ [x]).mergeSort fun x y => decide (x ≤ y)) := setIn_sort.2 ⟨fun y hy => by
    rcases List.mem_append.1 hy with hy | hy
    · exact h.2.1 y hy
    · simp only [List.mem_singleton] at hy; subst hy; exact ⟨h0, h1⟩, nodup_snoc.2 ⟨h.2.2, hx⟩⟩
  have := setIn_length (by omega) hs
  rw [List.length_mergeSort, List.length_append, h.1] at this
  simp at this
  omega

/-- Where a number stands first. -/
def plcN : List Int → Int → Nat
  | [], _ => 0
  | x :: l, v => if x = v then 0 else plcN l v + 1
def plc (a : List Int) (v : Int) : Int := if v ∈ a then ((plcN a v : Nat) : Int) else -1

theorem plcN_first : ∀ (a : List Int) (v : Int) (k : Nat) (hk : k < a.length), a[k] = v → v ∉ a.take k → plcN a v = k
  | [], _, _, hk, _, _ => by simp at hk
  | x :: l, v, 0, _, h, _ => by simp at h; simp [plcN, h]
  | x :: l, v, k + 1, hk, h, hn => by
    simp only [List.take_succ_cons, List.mem_cons, not_or] at hn
    simp only [List.getElem_cons_succ] at h
    simp only [List.length_cons] at hk
    have := plcN_first l v k (by omega) h hn.2
    unfold plcN
    rw [if_neg (fun e => hn.1 e.symm), this]
theorem plcN_get : ∀ (a : List Int) (v : Int), v ∈ a → a[plcN a v]? = some v
  | [], _, h => by simp at h
  | x :: l, v, h => by
    unfold plcN
    by_cases e : x = v
    · rw [if_pos e]; simp [e]
    · rw [if_neg e]
      simp only [List.mem_cons] at h
      rcases h with h | h
      · exact absurd h.symm e
      · simpa using plcN_get l v h
theorem plc_first {a : List Int} {v : Int} {k : Nat} (hk : k < a.length) (h : a[k] = v) (hn : v ∉ a.take k) : plc a v = k := by
  unfold plc
  rw [if_pos (mem_of_getElem hk h), plcN_first a v k hk h hn]
theorem plc_out {a : List Int} {v : Int} (h : v ∉ a) : plc a v = -1 := by unfold plc; rw [if_neg h]
theorem plc_at {a : List Int} (h : a.Nodup) {k : Nat} (hk : k < a.length) : plc a a[k] = k := by
  refine plc_first hk rfl ?_
  have h1 : (a.take (k + 1)).Nodup := h.sublist (List.take_sublist _ _)
  rw [take_snoc' a k hk] at h1
  exact (nodup_snoc.1 h1).2
theorem plc_inj {a : List Int} {u v : Int} (hu : u ∈ a) (hv : v ∈ a) (h : plc a u = plc a v) : u = v := by
  unfold plc at h
  rw [if_pos hu, if_pos hv] at h
  have e1 := plcN_get a u hu
  have e2 := plcN_get a v hv
  rw [show plcN a u = plcN a v by omega, e2] at e1
  exact (Option.some.inj e1).symm
theorem plc_lt {a : List Int} (v : Int) : -1 ≤ plc a v ∧ plc a v ≤ a.length := by
  unfold plc
  split
  · rename_i h
    have e1 := plcN_get a v h
    have := (List.getElem?_eq_some_iff.1 e1).1
    omega
  · omega

/-- Two numbers stand crosswise. -/
def crE (a b : List Int) (u v : Int) : Bool := decide (u ≠ v) && (decide (plc a u < plc a v) != decide (plc b u < plc b v))
def crN (a b : List Int) : Nat → Nat → Bool := fun u v => crE a b u v
def LineOk (a : List Int) : Prop := 1 ≤ a.length ∧ a.length ≤ 16 ∧ OrdOk a.length a
def LinesOk (a b : List Int) : Prop := LineOk a ∧ LineOk b ∧ a.length = b.length

theorem crN_sym {a b : List Int} (h : LinesOk a b) : SymE a.length (crN a b) := by
  refine ⟨fun r j hr hj => ?_, fun r hr => by simp [crN, crE]⟩
  unfold crN crE
  by_cases e : r = j
  · subst e; rfl
  have ha := h.1.2.2
  have hb := h.2.1.2.2
  have hl := h.2.2
  have e' : ((r : Int)) ≠ ((j : Nat) : Int) := fun q => e (by omega)
  have a1 : plc a r ≠ plc a j := fun q => e' (plc_inj (ordOk_mem ha (by omega) (by omega)) (ordOk_mem ha (by omega) (by omega)) q)
  have b1 : plc b r ≠ plc b j := fun q => e' (plc_inj (ordOk_mem hb (by omega) (by omega)) (ordOk_mem hb (by omega) (by omega)) q)
  have x1 : decide (plc a j < plc a r) = !decide (plc a r < plc a j) := by
    rw [Bool.eq_iff_iff]; simp; omega
  have x2 : decide (plc b j < plc b r) = !decide (plc b r < plc b j) := by
    rw [Bool.eq_iff_iff]; simp; omega
  have x3 : decide ((j : Int) ≠ (r : Int)) = decide ((r : Int) ≠ (j : Int)) := by
    rw [Bool.eq_iff_iff]; simp; omega
  rw [x1, x2, x3]
  cases decide (plc a r < plc a j) <;> cases decide (plc b r < plc b j) <;> rfl

/-- What PermGraph returns. -/
def PermS (a b : List Int) (gg : List (List Int)) (ok : Bool) : Prop :=
  (ok = true ∧ LinesOk a b ∧ gg = matG a.length (crN a b)) ∨ (ok = false ∧ gg = [] ∧ ¬ LinesOk a b)
theorem permS_det {a b : List Int} {gg hh : List (List Int)} {ok ok' : Bool} (h : PermS a b gg ok) (h' : PermS a b hh ok') : gg = hh ∧ ok = ok' := by
  rcases h with ⟨rfl, h1, rfl⟩ | ⟨rfl, rfl, h⟩ <;> rcases h' with ⟨rfl, h1', rfl⟩ | ⟨rfl, rfl, h'⟩
  · exact ⟨rfl, rfl⟩
  · exact absurd h1 h'
  · exact absurd h1' h
  · exact ⟨rfl, rfl⟩

theorem permS_yes {a b : List Int} {gg : List (List Int)} {ok : Bool} (h : PermS a b gg ok) (hl : LinesOk a b) : gg = matG a.length (crN a b) ∧ ok = true := by
  rcases h with ⟨h1, _, h2⟩ | ⟨_, _, h⟩
  · exact ⟨h2, h1⟩
  · exact absurd hl h
theorem permS_no {a b : List Int} {gg : List (List Int)} {ok : Bool} (h : PermS a b gg ok) (hl : ¬ LinesOk a b) : gg = [] ∧ ok = false := by
  rcases h with ⟨_, h, _⟩ | ⟨h1, h2, _⟩
  · exact absurd h hl
  · exact ⟨h2, h1⟩

/-- What stands in the places behind k rounds. -/
def placesL (a : List Int) (k : Nat) : List Int := (List.range a.length).map fun v => if ((v : Nat) : Int) ∈ a.take k then plc a v else 0
theorem placesL_length (a : List Int) (k : Nat) : (placesL a k).length = a.length := by simp [placesL]
theorem placesL_zero (a : List Int) : placesL a 0 = List.replicate a.length 0 := by
  refine List.ext_getElem (by simp [placesL]) fun j h1 h2 => ?_
  simp [placesL]
theorem placesL_step {a : List Int} (h : OrdOk a.length a) {k : Nat} (hk : k < a.length) : (placesL a k).set a[k].toNat k = placesL a (k + 1) := by
  have h0 := h.2.1 _ (List.getElem_mem hk)
  refine List.ext_getElem (by simp [placesL]) fun j h1 h2 => ?_
  rw [placesL_length] at h2
  rw [List.getElem_set]
  simp only [placesL, List.getElem_map, List.getElem_range]
  rw [take_snoc' a k hk]
  by_cases e : a[k].toNat = j
  · rw [if_pos e]
    have ej : ((j : Nat) : Int) = a[k] := by omega
    rw [if_pos (by rw [ej]; exact List.mem_append_right _ (List.mem_singleton.2 rfl)), ej, plc_at h.2.2 hk]
  · rw [if_neg e]
    have ej : ((j : Nat) : Int) ≠ a[k] := by omega
    have : ((j : Nat) : Int) ∈ a.take k ++ [a[k]] ↔ ((j : Nat) : Int) ∈ a.take k := by rw [List.mem_append, List.mem_singleton]; exact or_iff_left ej
    simp only [this]
theorem placesL_end {a : List Int} (h : OrdOk a.length a) : placesL a a.length = (List.range a.length).map fun v => plc a ((v : Nat) : Int) := by
  refine List.ext_getElem (by simp [placesL]) fun j h1 h2 => ?_
  rw [placesL_length] at h1
  simp only [placesL, List.getElem_map, List.getElem_range, List.take_length]
  rw [if_pos (ordOk_mem h (by omega) (by omega))]
theorem placesL_get {a : List Int} (h : OrdOk a.length a) {i : Nat} (hi : i < (placesL a a.length).length) : (placesL a a.length)[i] = plc a ((i : Nat) : Int) := by
  have e := placesL_end h
  simp only [e, List.getElem_map, List.getElem_range]

/-- The double loop of masks. -/
theorem matG_inj {m : Nat} {E F : Nat → Nat → Bool} (h : matG m E = matG m F) : ∀ r j, r < m → j < m → E r j = F r j := by
  intro r j hr hj
  have h1 : ((j : Nat) : Int) ∈ row (matG m E) r ↔ ((j : Nat) : Int) ∈ row (matG m F) r := by rw [h]
  rw [mem_matG hr, mem_matG hr] at h1
  rw [Bool.eq_iff_iff]
  constructor
  · intro h2
    obtain ⟨i, hi, _, h3⟩ := h1.1 ⟨j, rfl, hj, h2⟩
    obtain rfl : i = j := by omega
    exact h3
  · intro h2
    obtain ⟨i, hi, _, h3⟩ := h1.2 ⟨j, rfl, hj, h2⟩
    obtain rfl : i = j := by omega
    exact h3
theorem uptoN_start (m : Nat) (E : Nat → Nat → Bool) : indN m (uptoE E 0 0) = List.replicate m 0 := indN_none m fun r j _ _ => by simp [uptoE]
theorem uptoN_row {m : Nat} {E : Nat → Nat → Bool} (h : SymE m E) {i : Nat} : indN m (uptoE E i i) = indN m (uptoE E (i + 1) 0) := indN_congr (matG_inj (upto_row h))
theorem uptoN_end {m : Nat} {E : Nat → Nat → Bool} : indN m (uptoE E m 0) = indN m E := indN_congr (matG_inj upto_end)
theorem uptoN_no {m : Nat} {E : Nat → Nat → Bool} (h : SymE m E) {i k : Nat} (hi : i < m) (hk : k < i) (he : E i k = false) : indN m (uptoE E i k) = indN m (uptoE E i (k + 1)) := indN_congr (matG_inj (upto_no h hi hk he))
theorem uptoN_yes {m : Nat} {E : Nat → Nat → Bool} (h : SymE m E) {i k : Nat} (hi : i < m) (hk : k < i) (he : E i k = true) : joinL (indN m (uptoE E i k)) i k = indN m (uptoE E i (k + 1)) := by
  have h1 := upto_yes h hi hk he
  rw [link_matG (by omega) hi (by omega)] at h1
  have h2 := matG_inj h1
  refine natList_ext (by rw [joinL_length, indN_length, indN_length]) fun r hr => ?_
  rw [joinL_length, indN_length] at hr
  refine Nat.eq_of_testBit_eq fun j => ?_
  rw [Bool.eq_iff_iff, joinL_testBit (by rw [indN_length]; exact hi) (by rw [indN_length]; omega) (by omega), indN_bit hr, indN_bit hr]
  by_cases hj : j < m
  · rw [← h2 r j hr hj]
    simp only [hj, decide_true, Bool.true_and, Bool.or_eq_true, Bool.and_eq_true, beq_iff_eq]
    constructor
    · rintro (h | ⟨rfl, rfl⟩ | ⟨rfl, rfl⟩)
      · exact .inl (.inl h)
      · exact .inr ⟨rfl, rfl⟩
      · exact .inl (.inr ⟨rfl, rfl⟩)
    · rintro ((h | ⟨rfl, rfl⟩) | ⟨rfl, rfl⟩)
      · exact .inl h
      · exact .inr (.inr ⟨rfl, rfl⟩)
      · exact .inr (.inl ⟨rfl, rfl⟩)
  · simp only [hj, decide_false, Bool.false_and, Bool.false_eq_true, false_or, iff_false]
    rintro (⟨rfl, rfl⟩ | ⟨rfl, rfl⟩) <;> omega

end Go.Proofs.YtkppbmfliejnmaaDoor

/- Plain: a graph by dice, the graph of pairs. -/
namespace Go.Proofs.YtkppbmfliejnmaaDoor

/-! ### A graph by dice -/
def dcNext (s : Int) : Int := (48271 * s + 11) % 999999937
def dcIt (s0 : Int) : Nat → Int
  | 0 => s0 % 999999937
  | t + 1 => dcNext (dcIt s0 t)
theorem dcIt_bd (s0 : Int) (t : Nat) : 0 ≤ dcIt s0 t ∧ dcIt s0 t < 999999937 := by
  cases t with
  | zero => exact ⟨Int.emod_nonneg _ (by decide), Int.emod_lt_of_pos _ (by decide)⟩
  | succ t => exact ⟨Int.emod_nonneg _ (by decide), Int.emod_lt_of_pos _ (by decide)⟩
theorem dc_tmod (s : Int) (h : 0 ≤ s) : Int.tmod (48271 * s + 11) 999999937 = dcNext s := by
  unfold dcNext
  exact Int.tmod_eq_emod_of_nonneg (by omega)
theorem tmod_nn {a b : Int} (h : 0 ≤ a) : Int.tmod a b = a % b := Int.tmod_eq_emod_of_nonneg h
theorem dc_seed (s : Int) : Int.tmod (Int.tmod s 999999937 + 999999937) 999999937 = s % 999999937 ∧ -999999937 < Int.tmod s 999999937 ∧ Int.tmod s 999999937 < 999999937 ∧ (if Int.tmod s 999999937 < 0 then Int.tmod s 999999937 + 999999937 else Int.tmod s 999999937) = s % 999999937 := by
  have h1 : (0 ≤ s ∧ Int.tmod s 999999937 = s % 999999937) ∨ (s < 0 ∧ Int.tmod s 999999937 = - ((-s) % 999999937)) := by
    by_cases h : 0 ≤ s
    · exact .inl ⟨h, tmod_nn h⟩
    · have h2 := Int.neg_tmod (a := -s) (b := 999999937)
      rw [Int.neg_neg, tmod_nn (a := -s) (by omega)] at h2
      exact .inr ⟨by omega, h2⟩
  generalize Int.tmod s 999999937 = t at h1 ⊢
  have h4 : -999999937 < t ∧ t < 999999937 := by omega
  refine ⟨?_, h4.1, h4.2, ?_⟩
  · rw [tmod_nn (by omega)]
    omega
  · by_cases h : t < 0
    · rw [if_pos h]; omega
    · rw [if_neg h]; omega
def triN : Nat → Nat
  | 0 => 0
  | v + 1 => triN v + v
/-- r and j are joined by the dice. -/
def dcE (s0 of : Int) : Nat → Nat → Bool := fun r j => decide (r ≠ j) && decide (dcIt s0 (triN (max r j) + min r j + 1) % 100 < of)
theorem dcE_sym (s0 of : Int) (r j : Nat) (h : dcE s0 of r j = true) : dcE s0 of j r = true := by
  unfold dcE at h ⊢
  simp only [Bool.and_eq_true, decide_eq_true_eq] at h ⊢
  rw [Nat.max_comm, Nat.min_comm]
  exact ⟨Ne.symm h.1, h.2⟩
theorem dcE_irr (s0 of : Int) (r : Nat) : dcE s0 of r r = false := by simp [dcE]
theorem dcE_at (s0 of : Int) {v u : Nat} (h : u < v) : dcE s0 of v u = decide (dcIt s0 (triN v + u + 1) % 100 < of) := by
  unfold dcE
  rw [Nat.max_eq_left (by omega), Nat.min_eq_right (by omega)]
  simp; omega
theorem joinL_comm {a : List Nat} {u v : Nat} (h : u ≠ v) : joinL a u v = joinL a v u := by
  unfold joinL
  simp only [List.getD_eq_getElem?_getD, List.getElem?_set, h, Ne.symm h, if_false]
  exact List.set_comm _ _ h

/-! ### Pairs -/
/-- The pairs whose greater one is less than n. -/
def pairsK (n : Nat) : List (Nat × Nat) := (List.range n).flatMap fun v => (List.range v).map fun u => (u, v)
def pairsU (v u : Nat) : List (Nat × Nat) := (List.range u).map fun u => (u, v)
theorem pairsK_succ (n : Nat) : pairsK (n + 1) = pairsK n ++ pairsU n n := by simp [pairsK, pairsU, List.range_succ, List.flatMap_append]
theorem pairsU_succ (v u : Nat) : pairsU v (u + 1) = pairsU v u ++ [(u, v)] := by simp [pairsU, List.range_succ]
def offK (p q : Nat × Nat) : Bool := p.1 != q.1 && p.1 != q.2 && p.2 != q.1 && p.2 != q.2
/-- The pairs i and j have nothing in common. -/
def knE (n : Nat) : Nat → Nat → Bool := fun i j => decide (i < (pairsK n).length) && decide (j < (pairsK n).length) && offK ((pairsK n).getD i (0, 0)) ((pairsK n).getD j (0, 0))
theorem offK_comm (p q : Nat × Nat) : offK p q = offK q p := by
  unfold offK
  rw [Bool.eq_iff_iff]
  simp only [Bool.and_eq_true, bne_iff_ne]
  constructor
  · rintro ⟨⟨⟨h1, h2⟩, h3⟩, h4⟩
    exact ⟨⟨⟨Ne.symm h1, Ne.symm h3⟩, Ne.symm h2⟩, Ne.symm h4⟩
  · rintro ⟨⟨⟨h1, h2⟩, h3⟩, h4⟩
    exact ⟨⟨⟨Ne.symm h1, Ne.symm h3⟩, Ne.symm h2⟩, Ne.symm h4⟩
theorem knE_sym (n : Nat) (i j : Nat) (h : knE n i j = true) : knE n j i = true := by
  unfold knE at h ⊢
  rw [offK_comm]
  simp only [Bool.and_eq_true] at h ⊢
  exact ⟨⟨h.1.2, h.1.1⟩, h.2⟩
theorem knE_irr (n : Nat) (i : Nat) : knE n i i = false := by simp [knE, offK]
theorem pairsK_mem {n : Nat} : ∀ p ∈ pairsK n, p.1 < p.2 ∧ p.2 < n := by
  intro p h
  simp only [pairsK, List.mem_flatMap, List.mem_range, List.mem_map] at h
  obtain ⟨v, hv, u, hu, rfl⟩ := h
  exact ⟨hu, hv⟩
theorem knD4 : ∀ i, i < 6 → degN 6 (knE 4) i = 1 := by decide +kernel
theorem knD5 : ∀ i, i < 10 → degN 10 (knE 5) i = 3 := by decide +kernel
theorem knD6 : ∀ i, i < 15 → degN 15 (knE 6) i = 6 := by decide +kernel
theorem pairsK_len (k : Nat) (h1 : 4 ≤ k) (h2 : k ≤ 6) : ∃ m d : Nat, (pairsK k).length = m ∧ (k * (k - 1) / 2 = m) ∧ ((k - 2) * (k - 3) / 2 = d) ∧ 1 ≤ m ∧ m ≤ 16 ∧ ∀ i, i < m → degN m (knE k) i = d := by
  obtain rfl | rfl | rfl : k = 4 ∨ k = 5 ∨ k = 6 := by omega
  · exact ⟨6, 1, by decide, by decide, by decide, by decide, by decide, knD4⟩
  · exact ⟨10, 3, by decide, by decide, by decide, by decide, by decide, knD5⟩
  · exact ⟨15, 6, by decide, by decide, by decide, by decide, by decide, knD6⟩

/-! ### Joining all, in both orders -/
def doneE (i k : Nat) (r j : Nat) : Bool := decide (r < i) || (decide (r = i) && decide (j < k))
def allE (E : Nat → Nat → Bool) (i k : Nat) : Nat → Nat → Bool := fun r j => E r j && (doneE i k r j || doneE i k j r)
theorem allE_start {m : Nat} {E : Nat → Nat → Bool} : indN m (allE E 0 0) = List.replicate m 0 := indN_none m fun r j _ _ => by simp [allE, doneE]
theorem allE_row {m : Nat} {E : Nat → Nat → Bool} {i : Nat} : indN m (allE E i m) = indN m (allE E (i + 1) 0) := indN_congr fun r j hr hj => by
  have h1 : ∀ r j, r < m → j < m → doneE i m r j = doneE (i + 1) 0 r j := fun r j hr hj => by
    rw [Bool.eq_iff_iff]
    simp only [doneE, Bool.or_eq_true, Bool.and_eq_true, decide_eq_true_eq]
    omega
  unfold allE
  rw [h1 r j hr hj, h1 j r hj hr]
theorem allE_end {m : Nat} {E : Nat → Nat → Bool} : indN m (allE E m 0) = indN m E := indN_congr fun r j hr hj => by simp [allE, doneE, hr]
theorem doneE_succ {i k r j : Nat} : doneE i (k + 1) r j = true ↔ doneE i k r j = true ∨ (r = i ∧ j = k) := by
  simp only [doneE, Bool.or_eq_true, Bool.and_eq_true, decide_eq_true_eq]
  omega
theorem allE_no {m : Nat} {E : Nat → Nat → Bool} (hs : ∀ r j, E r j = true → E j r = true) {i k : Nat} (he : E i k = false) : indN m (allE E i k) = indN m (allE E i (k + 1)) := indN_congr fun r j _ _ => by
  unfold allE
  rw [Bool.eq_iff_iff]
  simp only [Bool.and_eq_true, Bool.or_eq_true, doneE_succ]
  constructor
  · rintro ⟨h1, h2 | h2⟩
    · exact ⟨h1, .inl (.inl h2)⟩
    · exact ⟨h1, .inr (.inl h2)⟩
  · rintro ⟨h1, (h2 | ⟨rfl, rfl⟩) | (h2 | ⟨rfl, rfl⟩)⟩
    · exact ⟨h1, .inl h2⟩
    · rw [he] at h1; cases h1
    · exact ⟨h1, .inr h2⟩
    · rw [hs _ _ h1] at he; cases he
theorem allE_yes {m : Nat} {E : Nat → Nat → Bool} (hs : ∀ r j, E r j = true → E j r = true) {i k : Nat} (hi : i < m) (hk : k < m) (hik : i ≠ k) (he : E i k = true) : joinL (indN m (allE E i k)) i k = indN m (allE E i (k + 1)) := by
  refine natList_ext (by rw [joinL_length, indN_length, indN_length]) fun r hr => ?_
  rw [joinL_length, indN_length] at hr
  refine Nat.eq_of_testBit_eq fun j => ?_
  rw [Bool.eq_iff_iff, joinL_testBit (by rw [indN_length]; exact hi) (by rw [indN_length]; exact hk) hik, indN_bit hr, indN_bit hr]
  simp only [allE, Bool.and_eq_true, Bool.or_eq_true, decide_eq_true_eq, doneE_succ]
  constructor
  · rintro (⟨h1, h2, h3 | h3⟩ | ⟨rfl, rfl⟩ | ⟨rfl, rfl⟩)
    · exact ⟨h1, h2, .inl (.inl h3)⟩
    · exact ⟨h1, h2, .inr (.inl h3)⟩
    · exact ⟨hk, he, .inl (.inr ⟨rfl, rfl⟩)⟩
    · exact ⟨hi, hs _ _ he, .inr (.inr ⟨rfl, rfl⟩)⟩
  · rintro ⟨h1, h2, (h3 | ⟨rfl, rfl⟩) | (h3 | ⟨rfl, rfl⟩)⟩
    · exact .inl ⟨h1, h2, .inl h3⟩
    · exact .inr (.inl ⟨rfl, rfl⟩)
    · exact .inl ⟨h1, h2, .inr h3⟩
    · exact .inr (.inr ⟨rfl, rfl⟩)

end Go.Proofs.YtkppbmfliejnmaaDoor

/- What a law's bytes read as. -/
namespace Go.Proofs.YtkppbmfliejnmaaDoor
open Go.RowKit

def ArgB (w : World) (v : Value) (bs : List Int) : Prop := ∃ p c, v = .slice p bs.length c ∧ bs.length ≤ 9223372036854775807 ∧ (∀ x ∈ bs, 0 ≤ x ∧ x ≤ 255) ∧ Cl w p (bs.map (Value.int .u8))
theorem ArgB.below {w w' : World} {v : Value} {bs : List Int} (h : ArgB w v bs) (hb : Below w.heap.size w w') : ArgB w' v bs := by
  obtain ⟨p, c, h1, h2, h3, h4⟩ := h
  exact ⟨p, c, h1, h2, h3, h4.below hb⟩
theorem ArgB.get {w : World} {p : Option Addr} {n c : Nat} {bs : List Int} (h : ArgB w (.slice p n c) bs) {k : Nat} (hk : k < bs.length) :
    ∃ b o, p = some ⟨b, o, none⟩ ∧ w.cell? ⟨b, o + k, none⟩ = some (.int .u8 bs[k]) ∧ 0 ≤ bs[k] ∧ bs[k] ≤ 255 := by
  obtain ⟨p', c', e, _, h3, h4⟩ := h
  cases e
  rcases h4 with h4 | ⟨b, o, rfl, h5⟩
  · rw [List.map_eq_nil_iff] at h4
    subst h4
    simp at hk
  · refine ⟨b, o, rfl, h5 k _ (by simp [hk]), h3 _ (List.getElem_mem hk)⟩

end Go.Proofs.YtkppbmfliejnmaaDoor

/- Walks: the reference's draws: numbers (l1New, l1Byte, l1Below, l1Once). -/
namespace Go.Proofs.YtkppbmfliejnmaaDoor
open Go.RowKit

structure BoxC (w : World) (b : Nat) (x y z : Value) : Prop where
  blk : w.heap[b]? = some (.cells #[x, y, z] 153 (0, 0))
section
variable {w w' : World} {b : Nat} {x y z : Value}
theorem BoxC.c0 (h : BoxC w b x y z) : w.cell? ⟨b, 0, none⟩ = some x := by unfold World.cell?; rw [h.blk]; rfl
theorem BoxC.c1 (h : BoxC w b x y z) : w.cell? ⟨b, 1, none⟩ = some y := by unfold World.cell?; rw [h.blk]; rfl
theorem BoxC.c2 (h : BoxC w b x y z) : w.cell? ⟨b, 2, none⟩ = some z := by unfold World.cell?; rw [h.blk]; rfl
theorem BoxC.free (h : BoxC w b x y z) (i : Nat) : w.frozen? ⟨b, i, none⟩ = false := by simp [World.frozen?, h.blk]
theorem BoxC.lt (h : BoxC w b x y z) : b < w.heap.size := lt_of_block h.blk
theorem BoxC.new (w : World) (x y z : Value) : BoxC (w.alloc (.cells #[x, y, z] 153)) w.heap.size x y z := ⟨heap_alloc_new w _⟩
theorem BoxC.to (h : BoxC w b x y z) (hk : w'.heap[b]? = w.heap[b]?) : BoxC w' b x y z := ⟨hk.trans h.blk⟩
theorem BoxC.s1 (h : BoxC w b x y z) (u : Value) : BoxC (w.setCell ⟨b, 1, none⟩ u) b x u z := ⟨by have := heap_setCell_same w b 1 _ _ u h.blk; simpa using this⟩
theorem BoxC.s2 (h : BoxC w b x y z) (u : Value) : BoxC (w.setCell ⟨b, 2, none⟩ u) b x y u := ⟨by have := heap_setCell_same w b 2 _ _ u h.blk; simpa using this⟩
theorem BoxC.keep (h : BoxC w b x y z) (hb : Below w.heap.size w w') : BoxC w' b x y z := h.to (hb.block b h.lt)
end
theorem grown_setCell (w : World) (b i : Nat) (u : Value) : w.grownBy (w.setCell ⟨b, i, none⟩ u) (some b) :=
  ⟨rfl, rfl, rfl, by rw [World.size_setCell]; exact Nat.le_refl _, fun k _ hne => Below.heap_setCell _ _ _ _ (fun e => hne (by simp only at e; rw [e]))⟩

/-- The cursor stands in block cb: the bytes, how many were read, a number. -/
structure Cur (w0 w : World) (cb : Nat) (bs : List Int) : Prop where
  ex : ∃ (bv : Value) (i : Nat) (h : Int), BoxC w cb bv (.int .i64 i) (.int .i64 h) ∧ i ≤ bs.length ∧ ArgB w0 bv bs
  few : bs.length ≤ 4096
  lo : w0.heap.size ≤ cb
  bel : Below w0.heap.size w0 w
theorem Cur.keep {w0 w w' : World} {cb : Nat} {bs : List Int} (h : Cur w0 w cb bs) (hb : Below w.heap.size w w') : Cur w0 w' cb bs := by
  obtain ⟨bv, i, z, h1, h2, h3⟩ := h.ex
  exact ⟨⟨bv, i, z, h1.keep hb, h2, h3⟩, h.few, h.lo, h.bel.trans (hb.mono h.bel.size)⟩
theorem below_grownC {w0 w w' : World} {cb : Nat} (h : Below w0.heap.size w0 w) (hg : w.grownBy w' (some cb)) (hl : w0.heap.size ≤ cb) : Below w0.heap.size w0 w' :=
  ⟨hg.os.trans h.os, hg.tape.trans h.tape, hg.output.trans h.output, Nat.le_trans h.size hg.size, fun k hk => (hg.block k (Nat.lt_of_lt_of_le hk h.size) (fun e => by simp only [Option.some.injEq] at e; omega)).trans (h.block k hk)⟩
theorem and255 (x : Int) : ∃ r : Nat, bits BinOp.and IntKind.i64 x 255 = (r : Int) ∧ r ≤ 255 := by
  refine ⟨(BitVec.ofInt 64 x &&& BitVec.ofInt 64 255).toNat, ?_, ?_⟩
  · show IntKind.i64.wrap ((BitVec.ofInt 64 x &&& BitVec.ofInt 64 255).toNat : Int) = _
    have h : (BitVec.ofInt 64 x &&& BitVec.ofInt 64 255).toNat ≤ 255 := by
      rw [BitVec.toNat_and]
      exact Nat.le_trans Nat.and_le_right (by decide)
    rw [IntKind.wrap_i64]
    omega
  · rw [BitVec.toNat_and]
    exact Nat.le_trans Nat.and_le_right (by decide)

set_option maxRecDepth 100000 in
set_option maxHeartbeats 4000000 in
theorem l1Byte_any (w0 : World) (cb : Nat) (bs : List Int) (w : World) (hc : Cur w0 w cb bs) :
    Calls Tryd.prog 208 #[.pointer (some ⟨cb, 0, none⟩)] w fun e w' => ∃ r : Nat, e = .returned (.int .i64 (r : Int)) ∧ r ≤ 255 ∧ Cur w0 w' cb bs ∧ w.grownBy w' (some cb) := by
  obtain ⟨⟨bv, i, h, hb, hi, ha⟩, few, lo, bel⟩ := hc
  obtain ⟨bp, bc, e, ha2⟩ := id ha
  subst e
  have c2 := hb.c2
  have f2 := hb.free 2
  obtain ⟨w1, hw1⟩ : ∃ w1, w1 = w := ⟨_, rfl⟩
  have HB := Lib.hid hb
  have HA := Lib.hid ha
  have HBEL := Lib.hid bel
  clear ha2 ha hb bel
  go_enter Tryd.func208, Tryd.ntmps208
  go_upto_region 1 with fail
  go_cut [12] (fun _ wx => ∃ h2 : Int, wx = w.setCell ⟨cb, 2, none⟩ (.int .i64 h2))
  case first =>
    go_wp2
    go_meet
    exact ⟨_, rfl⟩
  case rest =>
    obtain ⟨h2, rfl⟩ := hcut
    have HB2 := Lib.hid (HB.out.s2 (.int .i64 h2))
    have HG2 := Lib.hid (grown_setCell w cb 2 (.int .i64 h2))
    have c2 := HB2.out.c2
    obtain ⟨w2, hw2⟩ : ∃ w2, w2 = w.setCell ⟨cb, 2, none⟩ (.int .i64 h2) := ⟨_, rfl⟩
    rw [← hw2] at c2 HB2 HG2 ⊢
    clear hw2 f2 hw1
    go_upto_region 2 with fail
    go_cut [3] (fun s wx => ∃ r : Nat, s = .int .i64 (r : Int) ∧ r ≤ 255 ∧ Below w2.heap.size w2 wx)
    case first =>
      go_region_held3 (fun w' => w'.cell? ⟨cb, 2, none⟩ = some (.int .i64 h2))
        (first | go_keep | exact c2)
        (fail)
      all_goals go_wp2
      all_goals go_meet
      all_goals
        obtain ⟨r, e, hr⟩ := and255 (bits BinOp.xor IntKind.i64 (h2 / 2 ^ 33) (h2 / 2 ^ 45))
        exact ⟨r, by rw [← e]; rfl, hr, below_dN (Below.refl _ _) _⟩
    case rest =>
      obtain ⟨r, rfl, hr, hb3⟩ := hcut
      have HB3 := Lib.hid (HB2.out.keep hb3)
      have HG3 := Lib.hid (grown_trans HG2.out (grown_of_below hb3 _))
      have c0 := HB3.out.c0
      have c1 := HB3.out.c1
      clear c2 hb3
      go_upto_region 3 with fail
      go_cut [34] (fun s wx => s = .bool (decide (i < bs.length)) ∧ Below wc.heap.size wc wx)
      case first =>
        go_region_held3 (fun w' => w'.cell? ⟨cb, 1, none⟩ = some (.int .i64 i) ∧ w'.cell? ⟨cb, 0, none⟩ = some (.slice bp bs.length bc))
          (first | go_keep | exact ⟨c1, c0⟩)
          (fail)
        all_goals go_wp2
        all_goals go_meet
        all_goals exact ⟨rfl, below_dN (Below.refl _ _) _⟩
      case rest =>
        obtain ⟨rfl, hb4⟩ := hcut
        have HB4 := Lib.hid (HB3.out.keep hb4)
        have HG4 := Lib.hid (grown_trans HG3.out (grown_of_below hb4 _))
        have HL4 := Lib.hid (below_grownC HBEL.out HG4.out lo)
        have c0 := HB4.out.c0
        have c1 := HB4.out.c1
        clear hb4
        by_cases hlt : i < bs.length
        · obtain ⟨xb, xo, rfl, hcx, hx0, hx1⟩ := (HA.out.below HL4.out).get hlt
          generalize bs[i] = x at hcx hx0 hx1
          have hdt : decide (i < bs.length) = true := by simp [hlt]
          have e0 : (0 : Int) ≤ (i : Int) := by omega
          have e1 : (i : Int) < (bs.length : Int) := by omega
          go_upto_region 4 with fail
          go_cut [3] (fun s wx => ∃ r : Nat, s = .int .i64 (r : Int) ∧ r ≤ 255 ∧ Below wc.heap.size wc wx)
          case first =>
            go_region_held3 (fun w' => w'.cell? ⟨cb, 1, none⟩ = some (.int .i64 i) ∧ w'.cell? ⟨cb, 0, none⟩ = some (.slice (some ⟨xb, xo, none⟩) bs.length bc) ∧ w'.cell? ⟨xb, xo + i, none⟩ = some (.int .u8 x))
              (first | go_keep | exact ⟨c1, c0, hcx⟩)
              (fail)
            all_goals go_wp2
            all_goals go_meet
            all_goals
              refine (and255 ?_).elim fun r' he => ⟨r', by rw [← he.1], he.2, below_dN (Below.refl _ _) _⟩
          case rest =>
            obtain ⟨r2, rfl, hr2, hb5⟩ := hcut
            have HB5 := Lib.hid (HB4.out.keep hb5)
            have HG5 := Lib.hid (grown_trans HG4.out (grown_of_below hb5 _))
            have c1 := HB5.out.c1
            have f1 := HB5.out.free 1
            clear hb5 hcx c0
            go_wp2
            go_ret
            have HB6 := HB5.out.s1 (.int .i64 ((i + 1 : Nat) : Int))
            have HG6 := grown_trans HG5.out (grown_setCell wc cb 1 (.int .i64 ((i + 1 : Nat) : Int)))
            exact ⟨r2, rfl, hr2, ⟨⟨_, i + 1, h2, HB6, by omega, HA.out⟩, few, lo, below_grownC HBEL.out HG6 lo⟩, HG6⟩
        · have hdt : decide (i < bs.length) = false := by simp [hlt]
          go_wp2
          go_ret
          exact ⟨r, rfl, hr, ⟨⟨_, i, h2, HB4.out, hi, HA.out⟩, few, lo, HL4.out⟩, HG4.out⟩

set_option maxRecDepth 100000 in
set_option maxHeartbeats 4000000 in
theorem l1Below_any (w0 : World) (cb : Nat) (bs : List Int) (n : Int) (hn : n ≤ 9223372036854775807) (w : World) (hc : Cur w0 w cb bs) :
    Calls Tryd.prog 148 #[.pointer (some ⟨cb, 0, none⟩), .int .i64 n] w fun e w' => ∃ r : Nat, e = .returned (.int .i64 (r : Int)) ∧ (0 < n → (r : Int) < n) ∧ (n ≤ 0 → r = 0) ∧ Cur w0 w' cb bs ∧ w.grownBy w' (some cb) := by
  have HC := Lib.hid hc
  clear hc
  by_cases h0 : n ≤ 0
  · go_enter Tryd.func148, Tryd.ntmps148
    go_wp2
    go_ret
    exact ⟨0, rfl, fun h => by omega, fun _ => rfl, HC.out, grown_of_below (Below.refl _ _) _⟩
  · obtain ⟨k, rfl⟩ : ∃ k : Nat, n = (k : Int) := ⟨n.toNat, by omega⟩
    have hkp : 0 < k := by omega
    have hk0 : ((k : Int) == 0) = false := by simp; omega
    have htm : ∀ r : Nat, Int.tmod (r : Int) (k : Int) = ((r % k : Nat) : Int) := fun r => (Int.ofNat_tmod r k).symm
    have HML : Hid (∀ r : Nat, r % k < k) := Lib.hid (fun r => Nat.mod_lt r hkp)
    by_cases h256 : (k : Int) ≤ 256
    · go_enter Tryd.func148, Tryd.ntmps148
      go_wp2_with (go_at_call 208; refine (l1Byte_any w0 cb bs _ HC.out).mono ?_; rintro e w2 ⟨r, rfl, hr, hc2, hg2⟩; have HC2 := Lib.hid hc2; have HG2 := Lib.hid hg2; clear hc2 hg2)
      go_ret
      exact ⟨r % k, rfl, fun _ => by have := HML.out r; omega, fun h => by omega, HC2.out, HG2.out⟩
    · go_enter Tryd.func148, Tryd.ntmps148
      go_upto_region 6 with (go_at_call 208; refine (l1Byte_any w0 cb bs _ HC.out).mono ?_; rintro e w2 ⟨r1, rfl, hr1, hc2, hg2⟩; have HC2 := Lib.hid hc2; have HG2 := Lib.hid hg2; clear hc2 hg2)
      go_upto_region 7 with (go_at_call 208; refine (l1Byte_any w0 cb bs _ HC2.out).mono ?_; rintro e w3 ⟨r2, rfl, hr2, hc2, hg2⟩; have HC3 := Lib.hid hc2; have HG3 := Lib.hid (grown_trans HG2.out hg2); clear hc2 hg2)
      go_upto_region 8 with (go_at_call 208; refine (l1Byte_any w0 cb bs _ HC3.out).mono ?_; rintro e w4 ⟨r3, rfl, hr3, hc2, hg2⟩; have HC4 := Lib.hid hc2; have HG4 := Lib.hid (grown_trans HG3.out hg2); clear hc2 hg2)
      go_upto_region 9 with (go_at_call 208; refine (l1Byte_any w0 cb bs _ HC4.out).mono ?_; rintro e w5 ⟨r4, rfl, hr4, hc2, hg2⟩; have HC5 := Lib.hid hc2; have HG5 := Lib.hid (grown_trans HG4.out hg2); clear hc2 hg2)
      have hsum : ((r1 : Int) * 16777216 + (r2 : Int) * 65536 + (r3 : Int) * 256 + (r4 : Int)) = ((r1 * 16777216 + r2 * 65536 + r3 * 256 + r4 : Nat) : Int) := by omega
      have htm2 := htm (r1 * 16777216 + r2 * 65536 + r3 * 256 + r4)
      rw [← hsum] at htm2
      have HML2 := Lib.hid (HML.out (r1 * 16777216 + r2 * 65536 + r3 * 256 + r4))
      generalize (r1 * 16777216 + r2 * 65536 + r3 * 256 + r4) % k = r at htm2 HML2
      clear hsum htm
      go_wp2
      go_ret
      exact ⟨r, by first | rfl | (rw [← htm2]; rfl), fun _ => by have := HML2.out; omega, fun h => by omega, HC5.out, HG5.out⟩

set_option maxRecDepth 100000 in
set_option maxHeartbeats 1000000 in
theorem l1Once_any (w0 : World) (cb : Nat) (bs : List Int) (n : Int) (hn : n ≤ 9223372036854775807) (w : World) (hc : Cur w0 w cb bs) :
    Calls Tryd.prog 129 #[.pointer (some ⟨cb, 0, none⟩), .int .i64 n] w fun e w' => ∃ b : Bool, e = .returned (.bool b) ∧ Cur w0 w' cb bs ∧ w.grownBy w' (some cb) := by
  have HC := Lib.hid hc
  clear hc
  go_enter Tryd.func129, Tryd.ntmps129
  go_wp2_with (go_at_call 148; refine (l1Below_any w0 cb bs n hn _ HC.out).mono ?_; rintro e w2 ⟨r, rfl, _, _, hc2, hg2⟩; have HC2 := Lib.hid hc2; have HG2 := Lib.hid hg2; clear hc2 hg2)
  go_ret
  exact ⟨_, rfl, HC2.out, HG2.out⟩

end Go.Proofs.YtkppbmfliejnmaaDoor
