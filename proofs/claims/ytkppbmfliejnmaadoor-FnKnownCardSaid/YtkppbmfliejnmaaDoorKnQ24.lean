/- Plain: a graph by dice, the graph of pairs. -/
import Derived.Test.YtkppbmfliejnmaaDoorKnQ10
import Derived.Test.YtkppbmfliejnmaaDoorKnQ21
import Derived.Test.YtkppbmfliejnmaaDoorKnQ23
import Derived.Test.YtkppbmfliejnmaaDoorKnQ5
import Derived.Deep.RegionWith
namespace Go.Proofs.YtkppbmfliejnmaaDoor

/-! ### A graph by dice -/
def dcNext (s : Int) : Int := (48271 * s + 11) % 999999937
def dcIt (s0 : Int) : Nat → Int
  | 0 => s0 % 999999937
  | t + 1 => dcNext (dcIt s0 t)
theorem dcIt_bd (s0 : Int) (t : Nat) : 0 ≤ dcIt s0 t ∧ dcIt s0 t < 999999937 := by
  cases t with
  | zero => exact ⟨Int.emod_nonneg _ (by decide), Int.emod_lt_of_pos _ (by decide)⟩
  | succ t => exact ⟨Int.emod_nonneg _ (by decide), Int.emod_lt_of_pos _ (by decide)⟩
theorem dc_tmod (s : Int) (h : 0 ≤ s) : Int.tmod (48271 * s + 11) 999999937 = dcNext s := by
  unfold dcNext
  exact Int.tmod_eq_emod_of_nonneg (by omega)
theorem tmod_nn {a b : Int} (h : 0 ≤ a) : Int.tmod a b = a % b := Int.tmod_eq_emod_of_nonneg h
theorem dc_seed (s : Int) : Int.tmod (Int.tmod s 999999937 + 999999937) 999999937 = s % 999999937 ∧ -999999937 < Int.tmod s 999999937 ∧ Int.tmod s 999999937 < 999999937 ∧ (if Int.tmod s 999999937 < 0 then Int.tmod s 999999937 + 999999937 else Int.tmod s 999999937) = s % 999999937 := by
  have h1 : (0 ≤ s ∧ Int.tmod s 999999937 = s % 999999937) ∨ (s < 0 ∧ Int.tmod s 999999937 = - ((-s) % 999999937)) := by
    by_cases h : 0 ≤ s
    · exact .inl ⟨h, tmod_nn h⟩
    · have h2 := Int.neg_tmod (a := -s) (b := 999999937)
      rw [Int.neg_neg, tmod_nn (a := -s) (by omega)] at h2
      exact .inr ⟨by omega, h2⟩
  generalize Int.tmod s 999999937 = t at h1 ⊢
  have h4 : -999999937 < t ∧ t < 999999937 := by omega
  refine ⟨?_, h4.1, h4.2, ?_⟩
  · rw [tmod_nn (by omega)]
    omega
  · by_cases h : t < 0
    · rw [if_pos h]; omega
    · rw [if_neg h]; omega
def triN : Nat → Nat
  | 0 => 0
  | v + 1 => triN v + v
/-- r and j are joined by the dice. -/
def dcE (s0 of : Int) : Nat → Nat → Bool := fun r j => decide (r ≠ j) && decide (dcIt s0 (triN (max r j) + min r j + 1) % 100 < of)
theorem dcE_sym (s0 of : Int) (r j : Nat) (h : dcE s0 of r j = true) : dcE s0 of j r = true := by
  unfold dcE at h ⊢
  simp only [Bool.and_eq_true, decide_eq_true_eq] at h ⊢
  rw [Nat.max_comm, Nat.min_comm]
  exact ⟨Ne.symm h.1, h.2⟩
theorem dcE_irr (s0 of : Int) (r : Nat) : dcE s0 of r r = false := by simp [dcE]
theorem dcE_at (s0 of : Int) {v u : Nat} (h : u < v) : dcE s0 of v u = decide (dcIt s0 (triN v + u + 1) % 100 < of) := by
  unfold dcE
  rw [Nat.max_eq_left (by omega), Nat.min_eq_right (by omega)]
  simp; omega
theorem joinL_comm {a : List Nat} {u v : Nat} (h : u ≠ v) : joinL a u v = joinL a v u := by
  unfold joinL
  simp only [List.getD_eq_getElem?_getD, List.getElem?_set, h, Ne.symm h, if_false]
  exact List.set_comm _ _ h

/-! ### Pairs -/
/-- The pairs whose greater one is less than n. -/
def pairsK (n : Nat) : List (Nat × Nat) := (List.range n).flatMap fun v => (List.range v).map fun u => (u, v)
def pairsU (v u : Nat) : List (Nat × Nat) := (List.range u).map fun u => (u, v)
theorem pairsK_succ (n : Nat) : pairsK (n + 1) = pairsK n ++ pairsU n n := by simp [pairsK, pairsU, List.range_succ, List.flatMap_append]
theorem pairsU_succ (v u : Nat) : pairsU v (u + 1) = pairsU v u ++ [(u, v)] := by simp [pairsU, List.range_succ]
def offK (p q : Nat × Nat) : Bool := p.1 != q.1 && p.1 != q.2 && p.2 != q.1 && p.2 != q.2
/-- The pairs i and j have nothing in common. -/
def knE (n : Nat) : Nat → Nat → Bool := fun i j => decide (i < (pairsK n).length) && decide (j < (pairsK n).length) && offK ((pairsK n).getD i (0, 0)) ((pairsK n).getD j (0, 0))
theorem offK_comm (p q : Nat × Nat) : offK p q = offK q p := by
  unfold offK
  rw [Bool.eq_iff_iff]
  simp only [Bool.and_eq_true, bne_iff_ne]
  constructor
  · rintro ⟨⟨⟨h1, h2⟩, h3⟩, h4⟩
    exact ⟨⟨⟨Ne.symm h1, Ne.symm h3⟩, Ne.symm h2⟩, Ne.symm h4⟩
  · rintro ⟨⟨⟨h1, h2⟩, h3⟩, h4⟩
    exact ⟨⟨⟨Ne.symm h1, Ne.symm h3⟩, Ne.symm h2⟩, Ne.symm h4⟩
theorem knE_sym (n : Nat) (i j : Nat) (h : knE n i j = true) : knE n j i = true := by
  unfold knE at h ⊢
  rw [offK_comm]
  simp only [Bool.and_eq_true] at h ⊢
  exact ⟨⟨h.1.2, h.1.1⟩, h.2⟩
theorem knE_irr (n : Nat) (i : Nat) : knE n i i = false := by simp [knE, offK]
theorem pairsK_mem {n : Nat} : ∀ p ∈ pairsK n, p.1 < p.2 ∧ p.2 < n := by
  intro p h
  simp only [pairsK, List.mem_flatMap, List.mem_range, List.mem_map] at h
  obtain ⟨v, hv, u, hu, rfl⟩ := h
  exact ⟨hu, hv⟩
theorem knD4 : ∀ i, i < 6 → degN 6 (knE 4) i = 1 := by decide +kernel
theorem knD5 : ∀ i, i < 10 → degN 10 (knE 5) i = 3 := by decide +kernel
theorem knD6 : ∀ i, i < 15 → degN 15 (knE 6) i = 6 := by decide +kernel
theorem pairsK_len (k : Nat) (h1 : 4 ≤ k) (h2 : k ≤ 6) : ∃ m d : Nat, (pairsK k).length = m ∧ (k * (k - 1) / 2 = m) ∧ ((k - 2) * (k - 3) / 2 = d) ∧ 1 ≤ m ∧ m ≤ 16 ∧ ∀ i, i < m → degN m (knE k) i = d := by
  obtain rfl | rfl | rfl : k = 4 ∨ k = 5 ∨ k = 6 := by omega
  · exact ⟨6, 1, by decide, by decide, by decide, by decide, by decide, knD4⟩
  · exact ⟨10, 3, by decide, by decide, by decide, by decide, by decide, knD5⟩
  · exact ⟨15, 6, by decide, by decide, by decide, by decide, by decide, knD6⟩

/-! ### Joining all, in both orders -/
def doneE (i k : Nat) (r j : Nat) : Bool := decide (r < i) || (decide (r = i) && decide (j < k))
def allE (E : Nat → Nat → Bool) (i k : Nat) : Nat → Nat → Bool := fun r j => E r j && (doneE i k r j || doneE i k j r)
theorem allE_start {m : Nat} {E : Nat → Nat → Bool} : indN m (allE E 0 0) = List.replicate m 0 := indN_none m fun r j _ _ => by simp [allE, doneE]
theorem allE_row {m : Nat} {E : Nat → Nat → Bool} {i : Nat} : indN m (allE E i m) = indN m (allE E (i + 1) 0) := indN_congr fun r j hr hj => by
  have h1 : ∀ r j, r < m → j < m → doneE i m r j = doneE (i + 1) 0 r j := fun r j hr hj => by
    rw [Bool.eq_iff_iff]
    simp only [doneE, Bool.or_eq_true, Bool.and_eq_true, decide_eq_true_eq]
    omega
  unfold allE
  rw [h1 r j hr hj, h1 j r hj hr]
theorem allE_end {m : Nat} {E : Nat → Nat → Bool} : indN m (allE E m 0) = indN m E := indN_congr fun r j hr hj => by simp [allE, doneE, hr]
theorem doneE_succ {i k r j : Nat} : doneE i (k + 1) r j = true ↔ doneE i k r j = true ∨ (r = i ∧ j = k) := by
  simp only [doneE, Bool.or_eq_true, Bool.and_eq_true, decide_eq_true_eq]
  omega
theorem allE_no {m : Nat} {E : Nat → Nat → Bool} (hs : ∀ r j, E r j = true → E j r = true) {i k : Nat} (he : E i k = false) : indN m (allE E i k) = indN m (allE E i (k + 1)) := indN_congr fun r j _ _ => by
  unfold allE
  rw [Bool.eq_iff_iff]
  simp only [Bool.and_eq_true, Bool.or_eq_true, doneE_succ]
  constructor
  · rintro ⟨h1, h2 | h2⟩
    · exact ⟨h1, .inl (.inl h2)⟩
    · exact ⟨h1, .inr (.inl h2)⟩
  · rintro ⟨h1, (h2 | ⟨rfl, rfl⟩) | (h2 | ⟨rfl, rfl⟩)⟩
    · exact ⟨h1, .inl h2⟩
    · rw [he] at h1; cases h1
    · exact ⟨h1, .inr h2⟩
    · rw [hs _ _ h1] at he; cases he
theorem allE_yes {m : Nat} {E : Nat → Nat → Bool} (hs : ∀ r j, E r j = true → E j r = true) {i k : Nat} (hi : i < m) (hk : k < m) (hik : i ≠ k) (he : E i k = true) : joinL (indN m (allE E i k)) i k = indN m (allE E i (k + 1)) := by
  refine natList_ext (by rw [joinL_length, indN_length, indN_length]) fun r hr => ?_
  rw [joinL_length, indN_length] at hr
  refine Nat.eq_of_testBit_eq fun j => ?_
  rw [Bool.eq_iff_iff, joinL_testBit (by rw [indN_length]; exact hi) (by rw [indN_length]; exact hk) hik, indN_bit hr, indN_bit hr]
  simp only [allE, Bool.and_eq_true, Bool.or_eq_true, decide_eq_true_eq, doneE_succ]
  constructor
  · rintro (⟨h1, h2, h3 | h3⟩ | ⟨rfl, rfl⟩ | ⟨rfl, rfl⟩)
    · exact ⟨h1, h2, .inl (.inl h3)⟩
    · exact ⟨h1, h2, .inr (.inl h3)⟩
    · exact ⟨hk, he, .inl (.inr ⟨rfl, rfl⟩)⟩
    · exact ⟨hi, hs _ _ he, .inr (.inr ⟨rfl, rfl⟩)⟩
  · rintro ⟨h1, h2, (h3 | ⟨rfl, rfl⟩) | (h3 | ⟨rfl, rfl⟩)⟩
    · exact .inl ⟨h1, h2, .inl h3⟩
    · exact .inr (.inl ⟨rfl, rfl⟩)
    · exact .inl ⟨h1, h2, .inr h3⟩
    · exact .inr (.inr ⟨rfl, rfl⟩)

end Go.Proofs.YtkppbmfliejnmaaDoor

/- Walks: what the exact laws do with their arguments and results: size, copy, compare, mark, hold. -/
namespace Go.Proofs.YtkppbmfliejnmaaDoor
open Go.RowKit

/-- From p on lie the cells vals, whatever the block says of its elements: what an argument reads as. -/
def Cl (w : World) (p : Option Addr) (vals : List Value) : Prop :=
  vals = [] ∨ ∃ b o, p = some ⟨b, o, none⟩ ∧ ∀ j u, vals[j]? = some u → w.cell? ⟨b, o + j, none⟩ = some u
def ArgN (w : World) (v : Value) (xs : List Int) : Prop := ∃ p c, v = .slice p xs.length c ∧ xs.length ≤ 9223372036854775807 ∧ Cl w p (xs.map (Value.int .i64))
def ArgR (w : World) (v : Value) (g : List (List Int)) : Prop :=
  ∃ p c vals, v = .slice p g.length c ∧ g.length ≤ 9223372036854775807 ∧ vals.length = g.length ∧ Cl w p vals ∧ ∀ j, j < g.length → ArgN w (vals.getD j undef) (g.getD j [])
/-- A law's graph. -/
def ArgG (w : World) (v : Value) (g : List (List Int)) : Prop := ∃ u, v = .agg #[u] ∧ ArgR w u g

theorem Cl.below {w w' : World} {p : Option Addr} {vals : List Value} (h : Cl w p vals) (hb : Below w.heap.size w w') : Cl w' p vals := by
  rcases h with h | ⟨b, o, h1, h2⟩
  · exact .inl h
  · exact .inr ⟨b, o, h1, fun j u hu => hb.at' (h2 j u hu)⟩
theorem ArgN.below {w w' : World} {v : Value} {xs : List Int} (h : ArgN w v xs) (hb : Below w.heap.size w w') : ArgN w' v xs := by
  obtain ⟨p, c, h1, h2, h3⟩ := h
  exact ⟨p, c, h1, h2, h3.below hb⟩
theorem ArgR.below {w w' : World} {v : Value} {g : List (List Int)} (h : ArgR w v g) (hb : Below w.heap.size w w') : ArgR w' v g := by
  obtain ⟨p, c, vals, h1, h2, h3, h4, h5⟩ := h
  exact ⟨p, c, vals, h1, h2, h3, h4.below hb, fun j hj => (h5 j hj).below hb⟩
theorem ArgG.below {w w' : World} {v : Value} {g : List (List Int)} (h : ArgG w v g) (hb : Below w.heap.size w w') : ArgG w' v g := by
  obtain ⟨u, h1, h2⟩ := h
  exact ⟨u, h1, h2.below hb⟩
theorem Cl.get {w : World} {p : Option Addr} {vals : List Value} (h : Cl w p vals) {k : Nat} (hk : k < vals.length) : ∃ b o, p = some ⟨b, o, none⟩ ∧ w.cell? ⟨b, o + k, none⟩ = some vals[k] := by
  rcases h with h | ⟨b, o, h1, h2⟩
  · subst h; simp at hk
  · exact ⟨b, o, h1, h2 k _ (by simp [hk])⟩
theorem Cl.num {w : World} {p : Option Addr} {xs : List Int} (h : Cl w p (xs.map (Value.int .i64))) {k : Nat} (hk : k < xs.length) : ∃ b o, p = some ⟨b, o, none⟩ ∧ w.cell? ⟨b, o + k, none⟩ = some (.int .i64 xs[k]) := by
  obtain ⟨b, o, h1, h2⟩ := h.get (k := k) (by simpa using hk)
  exact ⟨b, o, h1, by rw [h2]; simp⟩
theorem ArgR.get {w : World} {p : Option Addr} {n c : Nat} {g : List (List Int)} (h : ArgR w (.slice p n c) g) {k : Nat} (hk : k < g.length) :
    ∃ b o rp rc, p = some ⟨b, o, none⟩ ∧ w.cell? ⟨b, o + k, none⟩ = some (.slice rp (row g k).length rc) ∧ ArgN w (.slice rp (row g k).length rc) (row g k) := by
  obtain ⟨p', c', vals, he, _, hl, hcl, hr⟩ := h
  simp only [Value.slice.injEq] at he
  obtain ⟨rfl, rfl, rfl⟩ := he
  obtain ⟨b, o, hp, hc⟩ := hcl.get (k := k) (by omega)
  have hrow := hr k hk
  have e : vals.getD k undef = vals[k] := by simp [hl, hk]
  rw [e] at hrow
  obtain ⟨rp, rc, hv, _⟩ := id hrow
  rw [hv] at hc hrow
  exact ⟨b, o, rp, rc, hp, hc, hrow⟩

theorem take_replicate_set {α : Type} (xs ys : List α) (k : Nat) (z : α) (hy : ys = xs.take k ++ List.replicate (xs.length - k) z) (hk : k < xs.length) :
    ys.set k xs[k] = xs.take (k + 1) ++ List.replicate (xs.length - (k + 1)) z := by
  subst hy
  have hl : (xs.take k).length = k := by rw [List.length_take]; omega
  have e : xs.length - k = (xs.length - (k + 1)) + 1 := by omega
  rw [List.set_append, if_neg (by omega), hl, Nat.sub_self, e, List.replicate_succ, List.set_cons_zero, take_snoc xs k hk, List.append_assoc]
  rfl

end Go.Proofs.YtkppbmfliejnmaaDoor

/- What a law's bytes read as. -/
namespace Go.Proofs.YtkppbmfliejnmaaDoor
open Go.RowKit

def ArgB (w : World) (v : Value) (bs : List Int) : Prop := ∃ p c, v = .slice p bs.length c ∧ bs.length ≤ 9223372036854775807 ∧ (∀ x ∈ bs, 0 ≤ x ∧ x ≤ 255) ∧ Cl w p (bs.map (Value.int .u8))
theorem ArgB.below {w w' : World} {v : Value} {bs : List Int} (h : ArgB w v bs) (hb : Below w.heap.size w w') : ArgB w' v bs := by
  obtain ⟨p, c, h1, h2, h3, h4⟩ := h
  exact ⟨p, c, h1, h2, h3, h4.below hb⟩
theorem ArgB.get {w : World} {p : Option Addr} {n c : Nat} {bs : List Int} (h : ArgB w (.slice p n c) bs) {k : Nat} (hk : k < bs.length) :
    ∃ b o, p = some ⟨b, o, none⟩ ∧ w.cell? ⟨b, o + k, none⟩ = some (.int .u8 bs[k]) ∧ 0 ≤ bs[k] ∧ bs[k] ≤ 255 := by
  obtain ⟨p', c', e, _, h3, h4⟩ := h
  cases e
  rcases h4 with h4 | ⟨b, o, rfl, h5⟩
  · rw [List.map_eq_nil_iff] at h4
    subst h4
    simp at hk
  · refine ⟨b, o, rfl, h5 k _ (by simp [hk]), h3 _ (List.getElem_mem hk)⟩

end Go.Proofs.YtkppbmfliejnmaaDoor
