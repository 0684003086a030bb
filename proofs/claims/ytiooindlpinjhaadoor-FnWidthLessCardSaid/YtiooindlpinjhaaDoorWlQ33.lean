/- Walks: the reference's search of a model: whether a word is that of a model. -/
import Derived.Test.YtiooindlpinjhaaDoorWlQ32
import Derived.Test.YtiooindlpinjhaaDoorWlQ12
import Derived.Test.YtiooindlpinjhaaDoorWlQ22
import Derived.Test.YtiooindlpinjhaaDoorWlQ27
namespace Go.Proofs.YtiooindlpinjhaaDoor
open Go.RowKit

/-- The sets of a word so far, as numbers. -/
structure NumW (wd : List Nat) (m v : Nat) (S : List Nat) : Prop where
  len : S.length = m + 1
  bit : ∀ k j, (S.getD k 0).testBit j = true ↔ k ≤ m ∧ j < v ∧ wd.getD j 0 = k
theorem NumW.start (wd : List Nat) (m : Nat) : NumW wd m 0 (List.replicate (m + 1) 0) where
  len := by simp
  bit := fun k j => by
    rw [List.getD_eq_getElem?_getD, List.getElem?_replicate]
    by_cases h : k < m + 1 <;> simp [h]
theorem NumW.lt {wd : List Nat} {m v : Nat} {S : List Nat} (h : NumW wd m v S) (k : Nat) : S.getD k 0 < 2 ^ v := by
  refine Nat.lt_of_not_le fun hge => ?_
  obtain ⟨j, hj, hb⟩ := Nat.exists_ge_and_testBit_of_ge_two_pow hge
  have := ((h.bit k j).1 hb).2.1
  omega
theorem NumW.step {wd : List Nat} {m v : Nat} {S : List Nat} (h : NumW wd m v S) {x : Nat} (hx : wd.getD v 0 = x) (hm : x ≤ m) : NumW wd m (v + 1) (S.set x (S.getD x 0 + 2 ^ v)) where
  len := by rw [List.length_set, h.len]
  bit := fun k j => by
    by_cases e : x = k
    · subst e
      rw [getD_set_self _ _ _ _ (by have := h.len; omega), add_or (h.lt x), Nat.testBit_or, Nat.testBit_two_pow, Bool.or_eq_true, h.bit, decide_eq_true_eq]
      constructor
      · rintro (h1 | rfl)
        · exact ⟨h1.1, by omega, h1.2.2⟩
        · exact ⟨hm, by omega, hx⟩
      · rintro ⟨h1, h2, h3⟩
        by_cases e : v = j
        · exact .inr e
        · exact .inl ⟨h1, by omega, h3⟩
    · rw [getD_set_other _ _ _ _ _ e, h.bit]
      constructor
      · rintro ⟨h1, h2, h3⟩; exact ⟨h1, by omega, h3⟩
      · rintro ⟨h1, h2, h3⟩
        refine ⟨h1, ?_, h3⟩
        by_cases e2 : j = v
        · subst e2; exact absurd (hx.symm.trans h3) e
        · omega
theorem NumW.set {wd : List Nat} {m : Nat} {S : List Nat} (h : NumW wd m wd.length S) (h16 : wd.length ≤ 16) {k : Nat} (hk : k < m) : bitsOf (S.getD (k + 1) 0) = setW wd k := by
  have hl := h.lt (k + 1)
  have : 2 ^ wd.length ≤ 2 ^ 16 := Nat.pow_le_pow_right (by decide) h16
  refine rising_ext _ _ (bitsOf_rising _) (setW_rising _ _) fun x => ?_
  rw [mem_left (by omega), h.bit, mem_setW]
  constructor
  · rintro ⟨_, h2, h3⟩; exact ⟨h2, h3⟩
  · rintro ⟨h2, h3⟩; exact ⟨by omega, h2, h3⟩

/-- A set of the word and another, joined. -/
def JnW (E : Nat → Nat → Bool) (w : List Nat) (i : Nat) (y : Int) : Prop := ∃ x ∈ setW w i, ∃ z ∈ setW w y.toNat, E x z = true
def FitTo (E : Nat → Nat → Bool) (p : List (List Int)) (w : List Nat) (i : Nat) : Prop := ∀ a, a < i → ConnL E (setW w a) ∧ ∀ y ∈ row p a, JnW E w a y
theorem FitTo.zero (E : Nat → Nat → Bool) (p : List (List Int)) (w : List Nat) : FitTo E p w 0 := fun _ h => absurd h (by omega)
theorem FitTo.snoc {E : Nat → Nat → Bool} {p : List (List Int)} {w : List Nat} {i : Nat} (h : FitTo E p w i) (h1 : ConnL E (setW w i)) (h2 : ∀ y ∈ row p i, JnW E w i y) : FitTo E p w (i + 1) := fun a ha => by
  by_cases e : a = i
  · subst e; exact ⟨h1, h2⟩
  · exact h a (by omega)
theorem fit_iff {E : Nat → Nat → Bool} {p : List (List Int)} (hp : GOk p) {w : List Nat} : FitTo E p w p.length ↔ FitW p.length E (ofG p) w := by
  constructor
  · intro h
    refine ⟨fun k hk => (h k hk).1, fun i hi k hk hF => ?_⟩
    have := (h i hi).2 (k : Int) (by simpa [ofG] using hF)
    simpa [JnW] using this
  · intro h i hi
    refine ⟨h.1 i hi, fun y hy => ?_⟩
    have hy2 := (hp.sets i hi).1.1 y hy
    have := h.2 i hi y.toNat (by omega) (by
      simp only [ofG, decide_eq_true_eq]
      rw [show ((y.toNat : Nat) : Int) = y by omega]; exact hy)
    exact this
theorem jn_and {g : List (List Int)} {s t r n : Nat} (hn : n = g.length) (hr : AroP g s r) {A B : List Nat} (hA : bitsOf s = A) (hB : bitsOf t = B) (hs : s < 2 ^ n) (ht : t < 65536) (h16 : n ≤ 16) : (((r &&& t : Nat) : Int) == 0) = !dec (∃ x ∈ A, ∃ z ∈ B, ofG g x z = true) := by
  subst hn; subst hA; subst hB
  have : 2 ^ g.length ≤ 2 ^ 16 := Nat.pow_le_pow_right (by decide) h16
  have hi : (r &&& t) ≠ 0 ↔ ∃ x ∈ bitsOf s, ∃ z ∈ bitsOf t, ofG g x z = true := by
    constructor
    · intro h
      obtain ⟨j, hj⟩ := Nat.exists_testBit_of_ne_zero h
      rw [Nat.testBit_and, Bool.and_eq_true] at hj
      obtain ⟨v, _, h2, h3⟩ := (hr.2 j).1 hj.1
      exact ⟨v, (mem_left (by omega)).2 h2, j, (mem_left ht).2 hj.2, h3⟩
    · rintro ⟨x, hx, z, hz, hE⟩ e
      have hx2 := (mem_left (by omega)).1 hx
      have h1 : r.testBit z = true := (hr.2 z).2 ⟨x, by have := sub_full hs x hx2; rwa [full_bit, decide_eq_true_eq] at this, hx2, hE⟩
      have h2 : (r &&& t).testBit z = true := by rw [Nat.testBit_and, h1, (mem_left ht).1 hz]; rfl
      rw [e] at h2
      simp at h2
  by_cases h : r &&& t = 0
  · rw [dec_false (fun k => hi.2 k h), h]; rfl
  · rw [dec_true (hi.1 h)]
    exact beq_eq_false_iff_ne.2 (by omega)


end Go.Proofs.YtiooindlpinjhaaDoor

/- Plain: the sets of a word as masks, as the program's search keeps them. -/
namespace Go.Proofs.YtiooindlpinjhaaDoor

/-- The sets of a word, as masks. -/
def mskW (m : Nat) (w : List Nat) : List Nat := (List.range m).map fun k => mask (natInts (setW w k))
theorem mskW_length (m : Nat) (w : List Nat) : (mskW m w).length = m := by simp [mskW]
theorem mskW_at {m k : Nat} (w : List Nat) (h : k < m) : (mskW m w).getD k 0 = mask (natInts (setW w k)) := by simp [mskW, List.getD_eq_getElem?_getD, h]
theorem mskW_bit {m k : Nat} (w : List Nat) (h : k < m) (j : Nat) : ((mskW m w).getD k 0).testBit j = true ↔ j < w.length ∧ w.getD j 0 = k + 1 := by
  rw [mskW_at w h, bit_maskM (fun x hx => by
    obtain ⟨i, _, rfl⟩ := mem_natInts.1 hx
    omega), mem_natInts, ← mem_setW]
  constructor
  · rintro ⟨i, hi, e⟩
    obtain rfl : j = i := by omega
    exact hi
  · exact fun h => ⟨j, h, rfl⟩
theorem mskW_zero {m k : Nat} (w : List Nat) (h : k < m) : (mskW m w).getD k 0 = 0 ↔ k + 1 ∉ w := by
  constructor
  · intro e hm
    obtain ⟨j, hj, ej⟩ := List.mem_iff_getElem.1 hm
    have := (mskW_bit w h j).2 ⟨hj, by rw [List.getD_eq_getElem?_getD, List.getElem?_eq_getElem hj]; exact ej⟩
    rw [e] at this
    simp at this
  · intro hn
    refine Nat.eq_of_testBit_eq fun j => ?_
    rw [Nat.zero_testBit]
    cases hb : ((mskW m w).getD k 0).testBit j with
    | false => rfl
    | true =>
      obtain ⟨h1, h2⟩ := (mskW_bit w h j).1 hb
      rw [List.getD_eq_getElem?_getD, List.getElem?_eq_getElem h1] at h2
      exact absurd (h2 ▸ List.getElem_mem h1) hn
theorem mskW_snoc_zero (m : Nat) (w : List Nat) : mskW m (w ++ [0]) = mskW m w := by
  unfold mskW
  refine List.map_congr_left fun k _ => ?_
  rw [setW_snoc, if_neg (by omega)]
theorem mskW_nil (m : Nat) : mskW m [] = List.replicate m 0 := by
  refine List.ext_getElem (by simp [mskW]) fun k h1 h2 => ?_
  simp [mskW, setW, natInts, mask]
/-- Half of the edges is enough. -/
theorem fitW_half {m : Nat} {E F : Nat → Nat → Bool} (hE : ∀ x y, E x y = true → E y x = true) (hF : ∀ i k, F i k = F k i) (hi : ∀ i, F i i = false) {w : List Nat} :
    FitW m E F w ↔ (∀ k, k < m → ConnL E (setW w k)) ∧ ∀ i, i < m → ∀ k, k < i → F i k = true → ∃ x ∈ setW w i, ∃ y ∈ setW w k, E x y = true := by
  constructor
  · exact fun h => ⟨h.1, fun i him k hk => h.2 i him k (by omega)⟩
  · refine fun h => ⟨h.1, fun i him k hkm hik => ?_⟩
    rcases Nat.lt_trichotomy k i with hlt | rfl | hgt
    · exact h.2 i him k hlt hik
    · rw [hi] at hik; cases hik
    · obtain ⟨x, hx, y, hy, e⟩ := h.2 k hkm i hgt (by rw [hF]; exact hik)
      exact ⟨y, hy, x, hx, hE _ _ e⟩

end Go.Proofs.YtiooindlpinjhaaDoor

/- The state of the program's search of a model: the block of the search, the row of masks that changes. Plain: what a letter more does to the masks. -/
namespace Go.Proofs.YtiooindlpinjhaaDoor
open Go.RowKit

theorem mskW_lt {m k : Nat} (w : List Nat) : (mskW m w).getD k 0 < 2 ^ w.length := by
  by_cases h : k < m
  · refine Nat.lt_of_not_le fun hge => ?_
    obtain ⟨j, hj, hb⟩ := Nat.exists_ge_and_testBit_of_ge_two_pow hge
    have := ((mskW_bit w h j).1 hb).1
    omega
  · rw [List.getD_eq_getElem?_getD, List.getElem?_eq_none (by rw [mskW_length]; omega)]
    exact Nat.two_pow_pos _
theorem mskW_lt16 {m k : Nat} {w : List Nat} (h : w.length ≤ 16) : (mskW m w).getD k 0 < 65536 := by
  have h1 := mskW_lt (m := m) (k := k) w
  have : 2 ^ w.length ≤ 2 ^ 16 := Nat.pow_le_pow_right (by decide) h
  omega
theorem mskW_put {m i : Nat} (w : List Nat) (h : i < m) : mskW m (w ++ [i + 1]) = (mskW m w).set i ((mskW m w).getD i 0 ||| 2 ^ w.length) := by
  refine List.ext_getElem (by simp [mskW]) fun k h1 h2 => ?_
  rw [mskW_length] at h1
  have e1 : (mskW m (w ++ [i + 1]))[k]'(by rw [mskW_length]; exact h1) = (mskW m (w ++ [i + 1])).getD k 0 := by simp [List.getD_eq_getElem?_getD, mskW_length, h1]
  have e2 : ((mskW m w).set i ((mskW m w).getD i 0 ||| 2 ^ w.length))[k]'h2 = if i = k then (mskW m w).getD i 0 ||| 2 ^ w.length else (mskW m w).getD k 0 := by
    rw [List.getElem_set]
    by_cases e : i = k
    · rw [if_pos e, if_pos e]
    · rw [if_neg e, if_neg e]; simp [List.getD_eq_getElem?_getD, mskW_length, h1]
  rw [e1, e2]
  refine Nat.eq_of_testBit_eq fun j => ?_
  rw [Bool.eq_iff_iff, mskW_bit _ h1, List.length_append, List.length_singleton]
  have hold : ∀ j, j < w.length → (w ++ [i + 1]).getD j 0 = w.getD j 0 := fun j hj => by rw [List.getD_eq_getElem?_getD, List.getD_eq_getElem?_getD, List.getElem?_append_left hj]
  have hnew : (w ++ [i + 1]).getD w.length 0 = i + 1 := by simp
  by_cases e : i = k
  · subst e
    rw [if_pos rfl, Nat.testBit_or, Bool.or_eq_true, mskW_bit _ h, Nat.testBit_two_pow, decide_eq_true_eq]
    constructor
    · rintro ⟨h3, h4⟩
      by_cases e : j < w.length
      · exact .inl ⟨e, by rw [← hold j e]; exact h4⟩
      · exact .inr (by omega)
    · rintro (⟨h3, h4⟩ | rfl)
      · exact ⟨by omega, by rw [hold j h3]; exact h4⟩
      · exact ⟨by omega, hnew⟩
  · rw [if_neg e, mskW_bit _ h1]
    constructor
    · rintro ⟨h3, h4⟩
      by_cases e2 : j < w.length
      · exact ⟨e2, by rw [← hold j e2]; exact h4⟩
      · obtain rfl : j = w.length := by omega
        rw [hnew] at h4
        omega
    · rintro ⟨h3, h4⟩
      exact ⟨by omega, by rw [hold j h3]; exact h4⟩
theorem set_back {α : Type} (l : List α) (i : Nat) (x d : α) (h : i < l.length) : (l.set i x).set i (l.getD i d) = l := by
  rw [List.set_set]
  refine List.ext_getElem (by simp) fun k h1 h2 => ?_
  rw [List.getElem_set]
  by_cases e : i = k
  · subst e; rw [if_pos rfl]; simp [List.getD_eq_getElem?_getD, h]
  · rw [if_neg e]
/-- What of a word's sets is still empty. -/
theorem lackW_put {m i : Nat} (w : List Nat) (h : i < m) : ((mskW m w).getD i 0 = 0 → lackW m (w ++ [i + 1]) + 1 = lackW m w) ∧ ((mskW m w).getD i 0 ≠ 0 → lackW m (w ++ [i + 1]) = lackW m w) :=
  ⟨fun e => lackW_new h ((mskW_zero w h).1 e), fun e => lackW_old (.inr (Classical.byContradiction fun k => e ((mskW_zero w h).2 k)))⟩

/-! ### The block of the search -/
section
variable {w w' : World} {xb : Nat} {v0 v1 v2 v3 v4 : Value}
end
theorem grown_setMs (w : World) (b i : Nat) (u : Value) : w.grownBy (w.setCell ⟨b, i, none⟩ u) (some b) :=
  ⟨rfl, rfl, rfl, by rw [World.size_setCell]; exact Nat.le_refl _, fun k _ hne => Below.heap_setCell _ _ _ _ (fun e => hne (by simp only at e; rw [e]))⟩

/-- Behind the world w0 only the block sb has changed; it holds the masks S. -/
structure MsI (w0 : World) (sb : Nat) (m : Nat) (w : World) (S : List Nat) : Prop where
  grw : w0.grownBy w (some sb)
  own : w.ownsRow sb 71 1 (.slice (some ⟨sb, 0, none⟩) m m) m (S.map u32v)
theorem MsI.next {w0 w w' : World} {sb m : Nat} {S : List Nat} (h : MsI w0 sb m w S) (hb : Below w.heap.size w w') : MsI w0 sb m w' S :=
  ⟨grown_trans h.grw (grown_of_below hb _), ownsRow_below h.own hb⟩
theorem MsI.put {w0 w : World} {sb m : Nat} {S : List Nat} (h : MsI w0 sb m w S) (i x : Nat) : MsI w0 sb m (w.setCell ⟨sb, i, none⟩ (.int .u32 (x : Int))) (S.set i x) := by
  refine ⟨grown_trans h.grw (grown_setMs _ _ _ _), ?_⟩
  have := (h.own.stored i (.int .u32 (x : Int))).1
  rw [show (S.set i x).map u32v = (S.map u32v).set i (.int .u32 (x : Int)) from by simp [u32v, List.map_set]]
  exact this
theorem MsI.cell {w0 w : World} {sb m : Nat} {S : List Nat} (h : MsI w0 sb m w S) {i : Nat} (hi : i < m) : w.cell? ⟨sb, i, none⟩ = some (.int .u32 (S.getD i 0 : Nat)) := by
  have hl : S.length = m := by have := h.own.1; simpa using this
  rw [h.own.cellAt i (by omega)]
  simp [u32v, List.getD_eq_getElem?_getD, hl, hi]
theorem MsI.frz {w0 w : World} {sb m : Nat} {S : List Nat} (h : MsI w0 sb m w S) (i : Nat) : w.frozen? ⟨sb, i, none⟩ = false := h.own.frozenAt i
theorem MsI.block {w0 w : World} {sb m k : Nat} {S : List Nat} (h : MsI w0 sb m w S) (hk : k < w0.heap.size) (hne : k ≠ sb) : w.heap[k]? = w0.heap[k]? := h.grw.block k hk (by simpa using hne)

end Go.Proofs.YtiooindlpinjhaaDoor

/- Plain: the sets of so many numbers in turn; the least set that meets all sets; sets that touch. -/
namespace Go.Proofs.YtiooindlpinjhaaDoor

def lastp (o : List Nat) : Nat := match o.getLast? with
  | none => 0
  | some x => x + 1
theorem lastp_snoc (o : List Nat) (x : Nat) : lastp (o ++ [x]) = x + 1 := by simp [lastp]
theorem snoc_or (o : List Nat) : o = [] ∨ ∃ o' x, o = o' ++ [x] := by
  rcases List.eq_nil_or_concat o with h | ⟨a, b, h⟩
  · exact .inl h
  · exact .inr ⟨a, b, by rw [h]; simp⟩
theorem lastp_le {o : List Nat} (h : o.Pairwise (· < ·)) {v : Nat} : (∀ a ∈ o, a < v) ↔ lastp o ≤ v := by
  rcases snoc_or o with rfl | ⟨o', x, rfl⟩
  · simp [lastp]
  · rw [lastp_snoc]
    rw [List.pairwise_append] at h
    constructor
    · intro k
      have := k x (by simp)
      omega
    · intro k a ha
      rcases List.mem_append.1 ha with e | e
      · have := h.2.2 a e x (by simp)
        omega
      · have : a = x := by simpa using e
        omega
def extS (n : Nat) (o : List Nat) : List (List Nat) := ((List.range n).filter fun v => decide (lastp o ≤ v)).map fun v => o ++ [v]
def setsL (n : Nat) : Nat → List (List Nat)
  | 0 => [[]]
  | k + 1 => (setsL n k).flatMap (extS n)
theorem cand_snoc {n k : Nat} {o : List Nat} {v : Nat} : Cand n 0 (k + 1) (o ++ [v]) ↔ Cand n 0 k o ∧ v < n ∧ lastp o ≤ v := by
  constructor
  · intro h
    have h1 := List.pairwise_append.1 h.ris
    refine ⟨⟨h1.1, fun x hx => h.inn x (by simp [hx]), by have := h.len; simp at this; omega⟩, (h.inn v (by simp)).2, (lastp_le h1.1).1 fun a ha => h1.2.2 a ha v (by simp)⟩
  · rintro ⟨h, h1, h2⟩
    refine ⟨List.pairwise_append.2 ⟨h.ris, by simp, fun a ha b hb => ?_⟩, fun x hx => ?_, by rw [List.length_append, h.len]; rfl⟩
    · have : b = v := by simpa using hb
      rw [this]
      exact (lastp_le h.ris).2 h2 a ha
    · rcases List.mem_append.1 hx with e | e
      · exact h.inn x e
      · have : x = v := by simpa using e
        omega
theorem mem_setsL {n : Nat} : ∀ (k : Nat) (T : List Nat), T ∈ setsL n k ↔ Cand n 0 k T
  | 0, T => by
    simp only [setsL, List.mem_singleton]
    exact ⟨fun h => h ▸ cand_nil n 0, fun h => cand_zero h⟩
  | k + 1, T => by
    simp only [setsL, List.mem_flatMap, extS, List.mem_map, List.mem_filter, List.mem_range, decide_eq_true_eq]
    constructor
    · rintro ⟨o, ho, v, ⟨h1, h2⟩, rfl⟩
      exact cand_snoc.2 ⟨(mem_setsL k o).1 ho, h1, h2⟩
    · intro h
      rcases snoc_or T with rfl | ⟨o, v, rfl⟩
      · have := h.len
        simp at this
      · obtain ⟨h1, h2, h3⟩ := cand_snoc.1 h
        exact ⟨o, (mem_setsL k o).2 h1, v, ⟨h2, h3⟩, rfl⟩
theorem lexL_longS : ∀ {a b : List Nat} (s t : List Nat), a.length = b.length → lexL a b → lexL (a ++ s) (b ++ t)
  | [], [], _, _, _, h => h.elim
  | a :: l, b :: m, s, t, e, h => by
    simp only [List.cons_append, lexL] at h ⊢
    rcases h with h | ⟨h1, h2⟩
    · exact .inl h
    · exact .inr ⟨h1, lexL_longS s t (by simpa using e) h2⟩
theorem setsL_sorted {n : Nat} : ∀ k, (setsL n k).Pairwise lexL
  | 0 => by simp [setsL]
  | k + 1 => by
    rw [setsL, List.pairwise_flatMap]
    refine ⟨fun o _ => ?_, ?_⟩
    · unfold extS
      rw [List.pairwise_map]
      refine List.Pairwise.imp (fun {v w} h => ?_) (List.Pairwise.filter _ List.pairwise_lt_range)
      rw [lexL_app]
      exact .inl h
    · refine (setsL_sorted k).imp_of_mem fun {a b} ha hb h x hx y hy => ?_
      obtain ⟨v, _, rfl⟩ := List.mem_map.1 hx
      obtain ⟨w, _, rfl⟩ := List.mem_map.1 hy
      exact lexL_longS _ _ (((mem_setsL k a).1 ha).len.trans ((mem_setsL k b).1 hb).len.symm) h
theorem cand_bitsM {n k : Nat} (hn : n ≤ 16) {T : List Nat} (h : Cand n 0 k T) : bitsOf (mask (natInts T)) = T := bitsOf_maskN h.ris fun x hx => by have := (h.inn x hx).2; omega
theorem setsL_len {n : Nat} (hn : n ≤ 16) (k : Nat) : (setsL n k).length ≤ 65536 := by
  have h1 : ((setsL n k).map fun T => mask (natInts T)).Nodup := by
    unfold List.Nodup
    rw [List.pairwise_map]
    refine (setsL_sorted k).imp_of_mem fun {a b} ha hb h e => ?_
    have h2 := cand_bitsM hn ((mem_setsL k a).1 ha)
    rw [e, cand_bitsM hn ((mem_setsL k b).1 hb)] at h2
    rw [h2] at h
    exact lexL_irrefl _ h
  have h2 := nodup_le (2 ^ n) _ h1 fun x hx => by
    obtain ⟨T, hT, rfl⟩ := List.mem_map.1 hx
    exact cand_lt ((mem_setsL k T).1 hT)
  rw [List.length_map] at h2
  have h3 : 2 ^ n ≤ 2 ^ 16 := Nat.pow_le_pow_right (by decide) hn
  have h4 : (2 : Nat) ^ 16 = 65536 := by decide
  omega
theorem cand_room {n k : Nat} {T : List Nat} (h : Cand n 0 k T) : k ≤ n := by
  have := nodup_le n T (h.ris.imp fun {a b} k => Nat.ne_of_lt k) fun x hx => (h.inn x hx).2
  rw [← h.len]; exact this
theorem lexL_asymS {a b : List Nat} (h : lexL a b) : ¬ lexL b a := fun k => lexL_irrefl _ (lexL_trans h k)
/-- The first one in turn is the least one. -/
theorem first_least {P : Nat → Prop} {n k i : Nat} (hn : n ≤ 16) (hno : ∀ m, m < k → ∀ T ∈ setsL n m, ¬ P (mask (natInts T))) (hi : i < (setsL n k).length) (hP : P (mask (natInts (setsL n k)[i])))
    (hb : ∀ j (hj : j < (setsL n k).length), j < i → ¬ P (mask (natInts (setsL n k)[j]))) : LeastP P n (mask (natInts (setsL n k)[i])) := by
  have hc := (mem_setsL k _).1 (List.getElem_mem hi)
  refine ⟨cand_lt hc, hP, fun t ht hPt hl => ?_⟩
  rw [cand_bitsM hn hc] at hl
  obtain ⟨hct, ht16⟩ := cand_bits hn ht
  have hmt := (mem_setsL _ _).2 hct
  have hPt' : P (mask (natInts (bitsOf t))) := by rw [mask_bitsOf ht16]; exact hPt
  rcases hl with hl | ⟨hl1, hl2⟩
  · exact hno _ (by rw [hc.len] at hl; exact hl) _ hmt hPt'
  · rw [hl1, hc.len] at hmt
    obtain ⟨j, hj, e⟩ := List.getElem_of_mem hmt
    rw [← e] at hl2 hPt'
    by_cases h1 : j < i
    · exact hb j hj h1 hPt'
    · by_cases h2 : j = i
      · subst h2
        exact lexL_irrefl _ hl2
      · exact lexL_asymS hl2 (List.pairwise_iff_getElem.1 (setsL_sorted k) i j hi hj (by omega))
theorem none_all {P : Nat → Prop} {n : Nat} (hn : n ≤ 16) (hno : ∀ m, m < n + 1 → ∀ T ∈ setsL n m, ¬ P (mask (natInts T))) : ∀ t, t < 2 ^ n → ¬ P t := fun t ht hP => by
  obtain ⟨hct, ht16⟩ := cand_bits hn ht
  have := cand_room hct
  refine hno _ (by omega) _ ((mem_setsL _ _).2 hct) ?_
  rw [mask_bitsOf ht16]; exact hP

/-- A set that meets all sets. -/
def CovN (S : List (List Int)) (s : Nat) : Prop := ∀ j, j < S.length → ∃ i, s.testBit i = true ∧ (i : Int) ∈ row S j
/-- Two sets touch. -/
def TouchP (g : List (List Int)) (A B : List Int) : Prop := ∃ x ∈ A, x ∈ B ∨ ∃ y ∈ B, x ∈ row g y.toNat
def BrTo (g S : List (List Int)) (i : Nat) : Prop := ∀ a, a < i → ConnS g (row S a) ∧ ∀ b, b < a → TouchP g (row S b) (row S a)
def BrS (g S : List (List Int)) : Prop := (GOk g ∧ S.length ≤ 80) ∧ BrTo g S S.length
theorem brTo_step {g S : List (List Int)} {i : Nat} (h : BrTo g S i) (h1 : ConnS g (row S i)) (h2 : ∀ b, b < i → TouchP g (row S b) (row S i)) : BrTo g S (i + 1) := fun a ha => by
  by_cases e : a < i
  · exact h a e
  · obtain rfl : a = i := by omega
    exact ⟨h1, h2⟩
def CvS (g S : List (List Int)) (ys : List Int) : Prop :=
  (BrS g S ∧ ((∃ s, LeastP (CovN S) g.length s ∧ ys = natInts (bitsOf s)) ∨ ((∀ t, t < 2 ^ g.length → ¬ CovN S t) ∧ ys = []))) ∨ (¬ BrS g S ∧ ys = [])
theorem cvS_det {g S : List (List Int)} {ys zs : List Int} (h : CvS g S ys) (k : CvS g S zs) : ys = zs := by
  rcases h with ⟨h, h2⟩ | ⟨h, rfl⟩ <;> rcases k with ⟨k, k2⟩ | ⟨k, rfl⟩
  · rcases h2 with ⟨s, h3, rfl⟩ | ⟨h3, rfl⟩ <;> rcases k2 with ⟨t, k3, rfl⟩ | ⟨k3, rfl⟩
    · rw [leastP_det h.1.1.le h3 k3]
    · exact absurd h3.2.1 (k3 _ h3.1)
    · exact absurd k3.2.1 (h3 _ k3.1)
    · rfl
  · exact absurd h k
  · exact absurd k h
  · rfl

end Go.Proofs.YtiooindlpinjhaaDoor

/- Walks: the program's test whether sets touch, and whether they are a bramble. -/
namespace Go.Proofs.YtiooindlpinjhaaDoor
open Go.RowKit

def TouchM (E : Nat → Nat → Bool) (a b : Nat) : Prop := (∃ i, a.testBit i = true ∧ b.testBit i = true) ∨ ∃ v u, a.testBit v = true ∧ b.testBit u = true ∧ E v u = true
theorem and_zero_iff {a b : Nat} : a &&& b = 0 ↔ ∀ i, ¬ (a.testBit i = true ∧ b.testBit i = true) := by
  constructor
  · intro h i ⟨h1, h2⟩
    have := congrArg (fun x => x.testBit i) h
    simp [h1, h2] at this
  · intro h
    refine Nat.eq_of_testBit_eq fun i => ?_
    rw [Nat.testBit_and, Nat.zero_testBit, Bool.eq_false_iff]
    intro k
    rw [Bool.and_eq_true] at k
    exact h i k

set_option maxRecDepth 100000 in
set_option maxHeartbeats 2000000 in
theorem touches_any (x : Value) (y z : Int) (n : Nat) (E : Nat → Nat → Bool) (a b : Nat) (hy : y = a) (hz : z = b) (ha : a < 65536) (hb : b < 65536) (han : ∀ i, a.testBit i = true → i < n) (hbn : ∀ i, b.testBit i = true → i < n) (w : World) (hx : NE w x n E) (hT : Tab w) :
    Calls Tryd.prog 141 #[x, .int .u32 y, .int .u32 z] w fun e w' => e = .returned (.bool (dec (TouchM E a b))) ∧ Below w.heap.size w w' := by
  subst hy; subst hz
  obtain ⟨xp, xc, rfl⟩ : ∃ p c, x = .slice p n c := by obtain ⟨p, c, e, _⟩ := hx.sl; exact ⟨p, c, e⟩
  have HX := Lib.hid hx
  have HT := Lib.hid hT
  have HBN := Lib.hid hbn
  have hand := u32_and_nat a b (by omega) (by omega)
  by_cases h0 : a &&& b = 0
  · have h0' : (((a &&& b : Nat) : Int) != 0) = false := by rw [h0]; rfl
    have H0 := Lib.hid (and_zero_iff.1 h0)
    clear hx hT h0
    have hlen : (bitsOf a).length ≤ 32 := bitsOf_length a
    have HL : Hid (∀ k (h : k < (bitsOf a).length), (bitsOf a)[k] < n ∧ a.testBit (bitsOf a)[k] = true) := Lib.hid (fun k h => by
      have h1 := (mem_left ha).1 (List.getElem_mem h)
      exact ⟨han _ h1, h1⟩)
    have HALL : Hid (∀ v, a.testBit v = true → ∃ k, ∃ h : k < (bitsOf a).length, (bitsOf a)[k] = v) := Lib.hid (fun v hv => List.getElem_of_mem ((mem_left ha).2 hv))
    clear han hbn
    generalize (a &&& b : Nat) = ab at hand h0' H0
    go_enter Tryd.func141, Tryd.ntmps141
    go_wp2_with (go_at_call 127; refine (list_any _ a rfl (by omega) _ HT.out).mono ?_; rintro e w3 ⟨lv, rfl, ho3, hb3⟩; obtain ⟨lp, lc, rfl⟩ : ∃ p c, lv = Value.slice p (bitsOf a).length c := (by rcases ho3.2 with ⟨h1, h2⟩ | ⟨q, cap, cur, h1, _⟩; exact ⟨none, 0, (by rw [h1, h2])⟩; exact ⟨_, _, h1⟩); have HN3 := Lib.hid (numsInt_of _ _ _ _ ho3 (by omega)); have HX3 := Lib.hid (HX.out.next hb3); have HB3 := Lib.hid hb3; clear ho3 hb3)
    go_loopw [16] (fun i wr => ∃ k : Nat, k ≤ (bitsOf a).length ∧ i = .int .i64 k ∧ (∀ j (h : j < (bitsOf a).length), j < k → ∀ u, b.testBit u = true → ¬ E (bitsOf a)[j] u = true) ∧ Below w3.heap.size w3 wr) (fun i _ => (bitsOf a).length - (intOf i).toNat)
    case atStart => exact ⟨0, Nat.zero_le _, rfl, fun j _ hj => absurd hj (Nat.not_lt_zero _), Below.refl _ _⟩
    case round =>
      obtain ⟨k, hk, rfl, hno, hb⟩ := hrel
      have HNO := Lib.hid hno
      have HB := Lib.hid hb
      clear hno
      by_cases hlt : k < (bitsOf a).length
      · obtain ⟨qb, qo, rfl, hq⟩ := (HN3.out.below hb).get (k := k) (by rw [natInts_length]; exact hlt)
        obtain ⟨v, hv⟩ : ∃ v, v = (bitsOf a)[k] := ⟨_, rfl⟩
        have e1 : (natInts (bitsOf a))[k]'(by rw [natInts_length]; exact hlt) = (v : Int) := by simp [natInts, hv]
        rw [e1] at hq
        obtain ⟨hvn, hva⟩ := HL.out k hlt
        rw [← hv] at hvn hva
        obtain ⟨nb, no, av, rfl, hca, ha16, hbit⟩ := (HX3.out.next hb).get hvn
        have hand2 := u32_and_nat av b (by omega) (by omega)
        have HV := Lib.hid hv
        have HBIT := Lib.hid hbit
        have HVA := Lib.hid hva
        clear e1 hb hv hbit hva
        by_cases h1 : av &&& b = 0
        · have h1' : (((av &&& b : Nat) : Int) != 0) = false := by rw [h1]; rfl
          have H1 := Lib.hid (and_zero_iff.1 h1)
          clear h1
          generalize (av &&& b : Nat) = avb at hand2 h1'
          go_wp2_with fail
          go_roundw
          case rel => exact ⟨k + 1, by omega, by go_num, fun j h hj u hu hE => by
            by_cases e : j < k
            · exact HNO.out j h e u hu hE
            · obtain rfl : j = k := by omega
              refine H1.out u ⟨?_, hu⟩
              rw [HBIT.out u, HV.out, hE]
              simp [HBN.out u hu], HB.out⟩
          case measure => simp [intOf]; omega
        · have h1' : (((av &&& b : Nat) : Int) != 0) = true := by simp; omega
          have HY : Hid (TouchM E a b) := Lib.hid (by
            have := mt and_zero_iff.2 h1
            obtain ⟨u, hu⟩ := Classical.not_forall.1 this
            obtain ⟨hu1, hu2⟩ := Classical.not_not.1 hu
            rw [HBIT.out u, Bool.and_eq_true] at hu1
            exact .inr ⟨v, u, HVA.out, hu2, hu1.2⟩)
          clear h1
          generalize (av &&& b : Nat) = avb at hand2 h1'
          go_wp2_with fail
          go_ret
          exact ⟨by rw [dec_true HY.out]; rfl, HB3.out.trans (HB.out.mono HB3.out.size)⟩
      · obtain rfl : k = (bitsOf a).length := by omega
        have HNY : Hid (¬ TouchM E a b) := Lib.hid (fun h => by
          rcases h with ⟨i, h1⟩ | ⟨v, u, h1, h2, h3⟩
          · exact H0.out i h1
          · obtain ⟨j, hj, e⟩ := HALL.out v h1
            exact HNO.out j hj hj u h2 (by rw [e]; exact h3))
        clear hb
        go_wp2_with fail
        go_ret
        exact ⟨by rw [dec_false HNY.out]; rfl, HB3.out.trans (HB.out.mono HB3.out.size)⟩
  · have h0' : (((a &&& b : Nat) : Int) != 0) = true := by simp; omega
    have HY : Hid (TouchM E a b) := Lib.hid (by
      have := mt and_zero_iff.2 h0
      obtain ⟨u, hu⟩ := Classical.not_forall.1 this
      exact .inl ⟨u, Classical.not_not.1 hu⟩)
    clear hx hT h0 han hbn
    generalize (a &&& b : Nat) = ab at hand h0'
    go_enter Tryd.func141, Tryd.ntmps141
    go_wp2
    go_ret
    exact ⟨by rw [dec_true HY.out]; rfl, Below.refl _ _⟩

theorem touch_mask {g : List (List Int)} (hg : GOk g) {A B : List Int} (hA : SetIn g.length A) (hB : SetIn g.length B) : TouchM (ofG g) (mask B) (mask A) ↔ TouchP g A B := by
  have key : ∀ (C : List Int), SetIn g.length C → ∀ i : Nat, (mask C).testBit i = true ↔ (i : Int) ∈ C := fun C hC i => by
    rw [testBit_mask, List.any_eq_true]
    constructor
    · rintro ⟨x, hx, e⟩
      have h1 := (hC.1 x hx).1
      have h2 : x.toNat = i := by simpa using e
      have : (i : Int) = x := by omega
      rw [this]; exact hx
    · intro h
      exact ⟨_, h, by simp⟩
  unfold TouchM TouchP
  constructor
  · rintro (⟨i, h1, h2⟩ | ⟨v, u, h1, h2, h3⟩)
    · exact ⟨i, (key A hA i).1 h2, .inl ((key B hB i).1 h1)⟩
    · unfold ofG at h3
      exact ⟨u, (key A hA u).1 h2, .inr ⟨v, (key B hB v).1 h1, by simpa using h3⟩⟩
  · rintro ⟨x, hx, h⟩
    have hx0 := (hA.1 x hx).1
    obtain ⟨i, rfl⟩ : ∃ i : Nat, x = (i : Int) := ⟨x.toNat, by omega⟩
    rcases h with h | ⟨y, hy, h⟩
    · exact .inl ⟨i, (key B hB i).2 h, (key A hA i).2 hx⟩
    · have hy0 := (hB.1 y hy).1
      obtain ⟨j, rfl⟩ : ∃ j : Nat, y = (j : Int) := ⟨y.toNat, by omega⟩
      exact .inr ⟨j, i, (key B hB j).2 hy, (key A hA i).2 hx, by unfold ofG; simpa using h⟩


end Go.Proofs.YtiooindlpinjhaaDoor
