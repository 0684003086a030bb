/- Plain: the sets of a word as masks, as the program's search keeps them. -/
import Derived.Test.YtmakhapdlkbbnaaDoorMiQ20
import Derived.Test.YtmakhapdlkbbnaaDoorMiQ12
namespace Go.Proofs.YtmakhapdlkbbnaaDoor

/-- The sets of a word, as masks. -/
def mskW (m : Nat) (w : List Nat) : List Nat := (List.range m).map fun k => mask (natInts (setW w k))
theorem mskW_length (m : Nat) (w : List Nat) : (mskW m w).length = m := by simp [mskW]
theorem mskW_at {m k : Nat} (w : List Nat) (h : k < m) : (mskW m w).getD k 0 = mask (natInts (setW w k)) := by simp [mskW, List.getD_eq_getElem?_getD, h]
theorem mskW_bit {m k : Nat} (w : List Nat) (h : k < m) (j : Nat) : ((mskW m w).getD k 0).testBit j = true ↔ j < w.length ∧ w.getD j 0 = k + 1 := by
  rw [mskW_at w h, bit_maskM (fun x hx => by
    obtain ⟨i, _, rfl⟩ := mem_natInts.1 hx
    omega), mem_natInts, ← mem_setW]
  constructor
  · rintro ⟨i, hi, e⟩
    obtain rfl : j = i := by omega
    exact hi
  · exact fun h => ⟨j, h, rfl⟩
theorem mskW_zero {m k : Nat} (w : List Nat) (h : k < m) : (mskW m w).getD k 0 = 0 ↔ k + 1 ∉ w := by
  constructor
  · intro e hm
    obtain ⟨j, hj, ej⟩ := List.mem_iff_getElem.1 hm
    have := (mskW_bit w h j).2 ⟨hj, by rw [List.getD_eq_getElem?_getD, List.getElem?_eq_getElem hj]; exact ej⟩
    rw [e] at this
    simp at this
  · intro hn
    refine Nat.eq_of_testBit_eq fun j => ?_
    rw [Nat.zero_testBit]
    cases hb : ((mskW m w).getD k 0).testBit j with
    | false => rfl
    | true =>
      obtain ⟨h1, h2⟩ := (mskW_bit w h j).1 hb
      rw [List.getD_eq_getElem?_getD, List.getElem?_eq_getElem h1] at h2
      exact absurd (h2 ▸ List.getElem_mem h1) hn
theorem mskW_snoc_zero (m : Nat) (w : List Nat) : mskW m (w ++ [0]) = mskW m w := by
  unfold mskW
  refine List.map_congr_left fun k _ => ?_
  rw [setW_snoc, if_neg (by omega)]
theorem mskW_nil (m : Nat) : mskW m [] = List.replicate m 0 := by
  refine List.ext_getElem (by simp [mskW]) fun k h1 h2 => ?_
  simp [mskW, setW, natInts, mask]
/-- Half of the edges is enough. -/
theorem fitW_half {m : Nat} {E F : Nat → Nat → Bool} (hE : ∀ x y, E x y = true → E y x = true) (hF : ∀ i k, F i k = F k i) (hi : ∀ i, F i i = false) {w : List Nat} :
    FitW m E F w ↔ (∀ k, k < m → ConnL E (setW w k)) ∧ ∀ i, i < m → ∀ k, k < i → F i k = true → ∃ x ∈ setW w i, ∃ y ∈ setW w k, E x y = true := by
  constructor
  · exact fun h => ⟨h.1, fun i him k hk => h.2 i him k (by omega)⟩
  · refine fun h => ⟨h.1, fun i him k hkm hik => ?_⟩
    rcases Nat.lt_trichotomy k i with hlt | rfl | hgt
    · exact h.2 i him k hlt hik
    · rw [hi] at hik; cases hik
    · obtain ⟨x, hx, y, hy, e⟩ := h.2 k hkm i hgt (by rw [hF]; exact hik)
      exact ⟨y, hy, x, hx, hE _ _ e⟩

end Go.Proofs.YtmakhapdlkbbnaaDoor

/- The state of the program's search of a model: the block of the search, the row of masks that changes. Plain: what a letter more does to the masks. -/
namespace Go.Proofs.YtmakhapdlkbbnaaDoor
open Go.RowKit

theorem mskW_lt {m k : Nat} (w : List Nat) : (mskW m w).getD k 0 < 2 ^ w.length := by
  by_cases h : k < m
  · refine Nat.lt_of_not_le fun hge => ?_
    obtain ⟨j, hj, hb⟩ := Nat.exists_ge_and_testBit_of_ge_two_pow hge
    have := ((mskW_bit w h j).1 hb).1
    omega
  · rw [List.getD_eq_getElem?_getD, List.getElem?_eq_none (by rw [mskW_length]; omega)]
    exact Nat.two_pow_pos _
theorem mskW_lt16 {m k : Nat} {w : List Nat} (h : w.length ≤ 16) : (mskW m w).getD k 0 < 65536 := by
  have h1 := mskW_lt (m := m) (k := k) w
  have : 2 ^ w.length ≤ 2 ^ 16 := Nat.pow_le_pow_right (by decide) h
  omega
theorem mskW_put {m i : Nat} (w : List Nat) (h : i < m) : mskW m (w ++ [i + 1]) = (mskW m w).set i ((mskW m w).getD i 0 ||| 2 ^ w.length) := by
  refine List.ext_getElem (by simp [mskW]) fun k h1 h2 => ?_
  rw [mskW_length] at h1
  have e1 : (mskW m (w ++ [i + 1]))[k]'(by rw [mskW_length]; exact h1) = (mskW m (w ++ [i + 1])).getD k 0 := by simp [List.getD_eq_getElem?_getD, mskW_length, h1]
  have e2 : ((mskW m w).set i ((mskW m w).getD i 0 ||| 2 ^ w.length))[k]'h2 = if i = k then (mskW m w).getD i 0 ||| 2 ^ w.length else (mskW m w).getD k 0 := by
    rw [List.getElem_set]
    by_cases e : i = k
    · rw [if_pos e, if_pos e]
    · rw [if_neg e, if_neg e]; simp [List.getD_eq_getElem?_getD, mskW_length, h1]
  rw [e1, e2]
  refine Nat.eq_of_testBit_eq fun j => ?_
  rw [Bool.eq_iff_iff, mskW_bit _ h1, List.length_append, List.length_singleton]
  have hold : ∀ j, j < w.length → (w ++ [i + 1]).getD j 0 = w.getD j 0 := fun j hj => by rw [List.getD_eq_getElem?_getD, List.getD_eq_getElem?_getD, List.getElem?_append_left hj]
  have hnew : (w ++ [i + 1]).getD w.length 0 = i + 1 := by simp
  by_cases e : i = k
  · subst e
    rw [if_pos rfl, Nat.testBit_or, Bool.or_eq_true, mskW_bit _ h, Nat.testBit_two_pow, decide_eq_true_eq]
    constructor
    · rintro ⟨h3, h4⟩
      by_cases e : j < w.length
      · exact .inl ⟨e, by rw [← hold j e]; exact h4⟩
      · exact .inr (by omega)
    · rintro (⟨h3, h4⟩ | rfl)
      · exact ⟨by omega, by rw [hold j h3]; exact h4⟩
      · exact ⟨by omega, hnew⟩
  · rw [if_neg e, mskW_bit _ h1]
    constructor
    · rintro ⟨h3, h4⟩
      by_cases e2 : j < w.length
      · exact ⟨e2, by rw [← hold j e2]; exact h4⟩
      · obtain rfl : j = w.length := by omega
        rw [hnew] at h4
        omega
    · rintro ⟨h3, h4⟩
      exact ⟨by omega, by rw [hold j h3]; exact h4⟩
theorem set_back {α : Type} (l : List α) (i : Nat) (x d : α) (h : i < l.length) : (l.set i x).set i (l.getD i d) = l := by
  rw [List.set_set]
  refine List.ext_getElem (by simp) fun k h1 h2 => ?_
  rw [List.getElem_set]
  by_cases e : i = k
  · subst e; rw [if_pos rfl]; simp [List.getD_eq_getElem?_getD, h]
  · rw [if_neg e]
/-- What of a word's sets is still empty. -/
theorem lackW_put {m i : Nat} (w : List Nat) (h : i < m) : ((mskW m w).getD i 0 = 0 → lackW m (w ++ [i + 1]) + 1 = lackW m w) ∧ ((mskW m w).getD i 0 ≠ 0 → lackW m (w ++ [i + 1]) = lackW m w) :=
  ⟨fun e => lackW_new h ((mskW_zero w h).1 e), fun e => lackW_old (.inr (Classical.byContradiction fun k => e ((mskW_zero w h).2 k)))⟩

/-! ### The block of the search -/
structure MsB (w : World) (xb : Nat) (v0 v1 v2 v3 v4 : Value) : Prop where
  blk : w.heap[xb]? = some (.cells #[v0, v1, v2, v3, v4] 163 (0, 0))
section
variable {w w' : World} {xb : Nat} {v0 v1 v2 v3 v4 : Value}
theorem MsB.c0 (h : MsB w xb v0 v1 v2 v3 v4) : w.cell? ⟨xb, 0, none⟩ = some v0 := by unfold World.cell?; rw [h.blk]; rfl
theorem MsB.c1 (h : MsB w xb v0 v1 v2 v3 v4) : w.cell? ⟨xb, 1, none⟩ = some v1 := by unfold World.cell?; rw [h.blk]; rfl
theorem MsB.c2 (h : MsB w xb v0 v1 v2 v3 v4) : w.cell? ⟨xb, 2, none⟩ = some v2 := by unfold World.cell?; rw [h.blk]; rfl
theorem MsB.c3 (h : MsB w xb v0 v1 v2 v3 v4) : w.cell? ⟨xb, 3, none⟩ = some v3 := by unfold World.cell?; rw [h.blk]; rfl
theorem MsB.c4 (h : MsB w xb v0 v1 v2 v3 v4) : w.cell? ⟨xb, 4, none⟩ = some v4 := by unfold World.cell?; rw [h.blk]; rfl
theorem MsB.free (h : MsB w xb v0 v1 v2 v3 v4) (i : Nat) : w.frozen? ⟨xb, i, none⟩ = false := by simp [World.frozen?, h.blk]
theorem MsB.lt (h : MsB w xb v0 v1 v2 v3 v4) : xb < w.heap.size := lt_of_block h.blk
theorem MsB.to (h : MsB w xb v0 v1 v2 v3 v4) (hk : w'.heap[xb]? = w.heap[xb]?) : MsB w' xb v0 v1 v2 v3 v4 := ⟨hk.trans h.blk⟩
theorem MsB.new (w : World) : MsB (w.alloc (.cells #[v0, v1, v2, v3, v4] 163)) w.heap.size v0 v1 v2 v3 v4 := ⟨heap_alloc_new w _⟩
theorem MsB.s2 (h : MsB w xb v0 v1 v2 v3 v4) (u : Value) : MsB (w.setCell ⟨xb, 2, none⟩ u) xb v0 v1 u v3 v4 := ⟨by have := heap_setCell_same w xb 2 _ _ u h.blk; simpa using this⟩
theorem MsB.s3 (h : MsB w xb v0 v1 v2 v3 v4) (u : Value) : MsB (w.setCell ⟨xb, 3, none⟩ u) xb v0 v1 v2 u v4 := ⟨by have := heap_setCell_same w xb 3 _ _ u h.blk; simpa using this⟩
end
theorem grown_setMs (w : World) (b i : Nat) (u : Value) : w.grownBy (w.setCell ⟨b, i, none⟩ u) (some b) :=
  ⟨rfl, rfl, rfl, by rw [World.size_setCell]; exact Nat.le_refl _, fun k _ hne => Below.heap_setCell _ _ _ _ (fun e => hne (by simp only at e; rw [e]))⟩

/-- Behind the world w0 only the block sb has changed; it holds the masks S. -/
structure MsI (w0 : World) (sb : Nat) (m : Nat) (w : World) (S : List Nat) : Prop where
  grw : w0.grownBy w (some sb)
  own : w.ownsRow sb 79 1 (.slice (some ⟨sb, 0, none⟩) m m) m (S.map u32v)
theorem MsI.next {w0 w w' : World} {sb m : Nat} {S : List Nat} (h : MsI w0 sb m w S) (hb : Below w.heap.size w w') : MsI w0 sb m w' S :=
  ⟨grown_trans h.grw (grown_of_below hb _), ownsRow_below h.own hb⟩
theorem MsI.put {w0 w : World} {sb m : Nat} {S : List Nat} (h : MsI w0 sb m w S) (i x : Nat) : MsI w0 sb m (w.setCell ⟨sb, i, none⟩ (.int .u32 (x : Int))) (S.set i x) := by
  refine ⟨grown_trans h.grw (grown_setMs _ _ _ _), ?_⟩
  have := (h.own.stored i (.int .u32 (x : Int))).1
  rw [show (S.set i x).map u32v = (S.map u32v).set i (.int .u32 (x : Int)) from by simp [u32v, List.map_set]]
  exact this
theorem MsI.cell {w0 w : World} {sb m : Nat} {S : List Nat} (h : MsI w0 sb m w S) {i : Nat} (hi : i < m) : w.cell? ⟨sb, i, none⟩ = some (.int .u32 (S.getD i 0 : Nat)) := by
  have hl : S.length = m := by have := h.own.1; simpa using this
  rw [h.own.cellAt i (by omega)]
  simp [u32v, List.getD_eq_getElem?_getD, hl, hi]
theorem MsI.frz {w0 w : World} {sb m : Nat} {S : List Nat} (h : MsI w0 sb m w S) (i : Nat) : w.frozen? ⟨sb, i, none⟩ = false := h.own.frozenAt i
theorem MsI.block {w0 w : World} {sb m k : Nat} {S : List Nat} (h : MsI w0 sb m w S) (hk : k < w0.heap.size) (hne : k ≠ sb) : w.heap[k]? = w0.heap[k]? := h.grw.block k hk (by simpa using hne)

/-- What the search reads: the block, and the rows that it does not change, in every world in which only the block sb has changed. -/
structure MsH (w0 : World) (xb sb n m : Nat) (hv : Value) (pp wp np : Option Addr) (pc wc nc nN : Nat) (E F : Nat → Nat → Bool) (NR : List Nat) : Prop where
  blk : MsB w0 xb hv (.slice pp m pc) (.slice wp nN wc) (.slice np nN nc) (.slice (some ⟨sb, 0, none⟩) m m)
  ne : xb ≠ sb
  hl : ∃ hp hc, hv = .slice hp n hc
  n8 : n ≤ 8
  m8 : m ≤ 8
  many : nN = 2 ^ n
  pat : ∀ w', w0.grownBy w' (some sb) → NE w' (.slice pp m pc) m F
  whl : ∀ w', w0.grownBy w' (some sb) → Sl w' 4 (.slice wp nN wc) nN ((List.range nN).map fun s => .bool (dec (ConnL E (bitsOf s))))
  ner : ∀ w', w0.grownBy w' (some sb) → Sl w' 79 (.slice np nN nc) nN (NR.map u32v)
  nrl : NR.length = nN
  nrb : ∀ s, s < nN → NR.getD s 0 < 65536 ∧ ∀ j, (NR.getD s 0).testBit j = true ↔ ∃ v, s.testBit v = true ∧ E v j = true

end Go.Proofs.YtmakhapdlkbbnaaDoor
