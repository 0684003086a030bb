/- Plain: the neighbours among some vertices, as masks. -/
import Derived.Test.YtiooindlpinjhaaDoorBaQ11
namespace Go.Proofs.YtiooindlpinjhaaDoor

theorem mask_bit (l : List Nat) (j : Nat) : (mask (natInts l)).testBit j = decide (j ∈ l) := by
  rw [testBit_mask, Bool.eq_iff_iff]
  simp [natInts]
theorem mask_nat_lt16 {l : List Nat} (h : ∀ i ∈ l, i < 16) : mask (natInts l) < 65536 := mask_lt16 _ fun x hx => by
  obtain ⟨i, hi, rfl⟩ := mem_natInts.1 hx
  have := h i hi
  omega
def indN (m : Nat) (E : Nat → Nat → Bool) : List Nat := (List.range m).map fun r => mask (natInts ((List.range m).filter (E r)))
theorem indN_length (m : Nat) (E : Nat → Nat → Bool) : (indN m E).length = m := by simp [indN]
theorem indN_get {m : Nat} {E : Nat → Nat → Bool} {r : Nat} (h : r < m) : (indN m E).getD r 0 = mask (natInts ((List.range m).filter (E r))) := by simp [indN, h]
theorem indN_bit {m : Nat} {E : Nat → Nat → Bool} {r : Nat} (h : r < m) (j : Nat) : ((indN m E).getD r 0).testBit j = (decide (j < m) && E r j) := by
  rw [indN_get h, mask_bit, Bool.eq_iff_iff]
  simp
theorem indN_lt16 {m : Nat} {E : Nat → Nat → Bool} (hm : m ≤ 16) : ∀ s ∈ indN m E, s < 65536 := by
  intro s hs
  simp only [indN, List.mem_map, List.mem_range] at hs
  obtain ⟨r, hr, rfl⟩ := hs
  exact mask_nat_lt16 fun i hi => by simp only [List.mem_filter, List.mem_range] at hi; omega
theorem natList_ext {a b : List Nat} (hl : a.length = b.length) (h : ∀ r, r < a.length → a.getD r 0 = b.getD r 0) : a = b := by
  refine List.ext_getElem hl fun j h1 h2 => ?_
  have := h j h1
  simpa [h1, h2] using this
theorem indN_congr {m : Nat} {E F : Nat → Nat → Bool} (h : ∀ r j, r < m → j < m → E r j = F r j) : indN m E = indN m F := by
  refine natList_ext (by simp [indN_length]) fun r hr => ?_
  rw [indN_length] at hr
  refine Nat.eq_of_testBit_eq fun j => ?_
  rw [indN_bit hr, indN_bit hr]
  by_cases hj : j < m
  · simp [h r j hr hj]
  · simp [hj]
theorem indN_none (m : Nat) {E : Nat → Nat → Bool} (h : ∀ r j, r < m → j < m → E r j = false) : indN m E = List.replicate m 0 := by
  refine natList_ext (by simp [indN_length]) fun r hr => ?_
  rw [indN_length] at hr
  refine Nat.eq_of_testBit_eq fun j => ?_
  rw [indN_bit hr]
  by_cases hj : j < m
  · simp [h r j hr hj, hr]
  · simp [hj, hr]
def rowsE (E : Nat → Nat → Bool) (i k : Nat) : Nat → Nat → Bool := fun r j => E r j && (decide (r < i) || (decide (r = i) && decide (j < k)))
theorem rows_start (m : Nat) (E : Nat → Nat → Bool) : indN m (rowsE E 0 0) = List.replicate m 0 := indN_none m fun r j _ _ => by simp [rowsE]
theorem rows_row {m : Nat} {E : Nat → Nat → Bool} {i : Nat} : indN m (rowsE E i m) = indN m (rowsE E (i + 1) 0) := by
  refine indN_congr fun r j hr hj => ?_
  unfold rowsE
  congr 1
  by_cases h1 : r < i
  · simp [h1, show r < i + 1 by omega]
  · by_cases h2 : r = i
    · simp [h2, hj]
    · simp [h1, h2, show ¬ r < i + 1 by omega]
theorem rows_end {m : Nat} {E : Nat → Nat → Bool} : indN m (rowsE E m 0) = indN m E := indN_congr fun r j hr hj => by simp [rowsE, hr]
theorem rows_yes {m : Nat} {E : Nat → Nat → Bool} {i k : Nat} (hi : i < m) (hk : k < m) (he : E i k = true) :
    (indN m (rowsE E i k)).set i ((indN m (rowsE E i k)).getD i 0 ||| 2 ^ k) = indN m (rowsE E i (k + 1)) := by
  refine natList_ext (by simp [indN_length]) fun r hr => ?_
  rw [List.length_set, indN_length] at hr
  have hl := indN_length m (rowsE E i k)
  rw [getD_set _ _ _ _ (by omega)]
  refine Nat.eq_of_testBit_eq fun j => ?_
  by_cases e : r = i
  · subst e
    rw [if_pos rfl, Nat.testBit_or, indN_bit hr, indN_bit hr, testBit_pow]
    unfold rowsE
    by_cases h1 : k = j
    · subst h1; simp [he, hk]
    · have : j < k ↔ j < k + 1 := by omega
      simp [h1, this]
  · rw [if_neg e, indN_bit hr, indN_bit hr]
    unfold rowsE
    simp [e]
theorem rows_no {m : Nat} {E : Nat → Nat → Bool} {i k : Nat} (he : E i k = false) : indN m (rowsE E i k) = indN m (rowsE E i (k + 1)) := by
  refine indN_congr fun r j hr hj => ?_
  unfold rowsE
  by_cases h : r = i ∧ j = k
  · obtain ⟨rfl, rfl⟩ := h; simp [he]
  · congr 2
    by_cases e : r = i
    · have : j < k ↔ j < k + 1 := by omega
      simp [this]
    · simp [e]
/-- The masks' graph. -/
theorem indN_rows {m : Nat} (hm : m ≤ 16) {E : Nat → Nat → Bool} {r : Nat} (hr : r < m) : natInts (bitsOf ((indN m E).getD r 0)) = row (matG m E) r := by
  have h16 : (indN m E).getD r 0 < 65536 := lt16_getD (indN_lt16 hm) r
  refine rising_ext_int _ _ (natInts_rising (bitsOf_rising _)) (matG_rising hr) fun x => ?_
  rw [mem_natInts, mem_matG hr]
  constructor
  · rintro ⟨j, hj, rfl⟩
    rw [mem_bitsOf' (by omega), indN_bit hr] at hj
    simp only [Bool.and_eq_true, decide_eq_true_eq] at hj
    exact ⟨j, rfl, hj.1, hj.2⟩
  · rintro ⟨j, rfl, h1, h2⟩
    exact ⟨j, by rw [mem_bitsOf' (by omega), indN_bit hr]; simp [h1, h2], rfl⟩

/-- The edges among the bits of a set, in masks that are a graph's rows. -/
def bitE (a : List Nat) (l : List Nat) : Nat → Nat → Bool := fun r j => (a.getD (l.getD r 0) 0).testBit (l.getD j 0)
theorem bitE_ind {g : List (List Int)} {L : List Int} {a : List Nat} {left : Nat} (h : Same g L a left) : indL g L = matG (bitsOf left).length (bitE a (bitsOf left)) := by
  have hL := h.list
  subst hL
  unfold indL
  rw [natInts_length]
  refine matG_congr fun r j hr hj => ?_
  unfold indE bitE
  have e1 : (natInts (bitsOf left)).getD r 0 = (((bitsOf left)[r] : Nat) : Int) := by simp [natInts, hr]
  have e2 : (natInts (bitsOf left)).getD j 0 = (((bitsOf left)[j] : Nat) : Int) := by simp [natInts, hj]
  rw [e1, e2, Int.toNat_natCast]
  have hl16 := h.left16
  have hr' := (mem_bitsOf' (by omega)).1 (List.getElem_mem hr)
  have hj' := (mem_bitsOf' (by omega)).1 (List.getElem_mem hj)
  rw [h.rows _ hr', Bool.eq_iff_iff, decide_eq_true_eq, mem_near hl16]
  have f1 : (bitsOf left).getD r 0 = (bitsOf left)[r] := by simp [hr]
  have f2 : (bitsOf left).getD j 0 = (bitsOf left)[j] := by simp [hj]
  rw [f1, f2]
  constructor
  · rintro ⟨i, hi, h1, _⟩
    obtain rfl : i = (bitsOf left)[j] := by omega
    exact h1
  · intro h1
    exact ⟨_, rfl, h1, hj'⟩

end Go.Proofs.YtiooindlpinjhaaDoor

/- Plain: orders of all vertices. -/
namespace Go.Proofs.YtiooindlpinjhaaDoor

/-- An order of the numbers below n. -/
def OrdOk (n : Nat) (l : List Int) : Prop := l.length = n ∧ (∀ x ∈ l, 0 ≤ x ∧ x < n) ∧ l.Nodup

theorem strict_of {l : List Int} (h : l.Pairwise (· ≤ ·)) (hn : l.Nodup) : l.Pairwise (· < ·) := by
  induction l with
  | nil => exact List.Pairwise.nil
  | cons x l ih =>
    rw [List.pairwise_cons] at h
    rw [List.nodup_cons] at hn
    rw [List.pairwise_cons]
    refine ⟨fun y hy => ?_, ih h.2 hn.2⟩
    have h1 := h.1 y hy
    by_cases e : x = y
    · subst e; exact absurd hy hn.1
    · omega
theorem nodup_of {l : List Int} (h : l.Pairwise (· < ·)) : l.Nodup := by
  unfold List.Nodup
  exact h.imp fun hx e => by omega

theorem setIn_sort {n : Int} {l : List Int} : SetIn n (l.mergeSort fun x y => decide (x ≤ y)) ↔ (∀ x ∈ l, 0 ≤ x ∧ x < n) ∧ l.Nodup := by
  have hp := List.mergeSort_perm l (fun x y => decide (x ≤ y))
  have hs : (l.mergeSort fun x y => decide (x ≤ y)).Pairwise (fun a b => decide (a ≤ b) = true) :=
    List.pairwise_mergeSort (fun a b c h1 h2 => by simp only [decide_eq_true_eq] at *; omega) (fun a b => by simp only [Bool.or_eq_true, decide_eq_true_eq]; omega) l
  have hs' : (l.mergeSort fun x y => decide (x ≤ y)).Pairwise (· ≤ ·) := hs.imp fun h => by simpa using h
  constructor
  · rintro ⟨h1, h2⟩
    exact ⟨fun x hx => h1 x (hp.mem_iff.2 hx), hp.nodup_iff.1 (nodup_of h2)⟩
  · rintro ⟨h1, h2⟩
    exact ⟨fun x hx => h1 x (hp.mem_iff.1 hx), strict_of hs' (hp.nodup_iff.2 h2)⟩

theorem ordOk_sort {n : Nat} {l : List Int} (hl : l.length = n) : SetIn n (l.mergeSort fun x y => decide (x ≤ y)) ↔ OrdOk n l := by
  rw [setIn_sort]
  exact ⟨fun h => ⟨hl, h.1, h.2⟩, fun h => ⟨h.2.1, h.2.2⟩⟩

theorem nodup_snoc {l : List Int} {x : Int} : (l ++ [x]).Nodup ↔ l.Nodup ∧ x ∉ l := by
  rw [List.nodup_append]
  constructor
  · rintro ⟨h1, _, h2⟩
    exact ⟨h1, fun h => h2 x h x (by simp) rfl⟩
  · rintro ⟨h1, h2⟩
    refine ⟨h1, by simp, fun a ha b hb e => ?_⟩
    simp only [List.mem_singleton] at hb
    subst hb; subst e
    exact h2 ha

theorem ordE_sym {g : List (List Int)} (hg : GOk g) {l : List Int} (hl : OrdOk g.length l) : SymE l.length (indE g l) := indE_sym hg hl.2.1

/-- What Renamed returns. -/
def RenS (g : List (List Int)) (l : List Int) (gg : List (List Int)) (ok : Bool) : Prop :=
  (ok = true ∧ GOk g ∧ OrdOk g.length l ∧ gg = indL g l) ∨ (ok = false ∧ gg = [] ∧ ¬ (GOk g ∧ OrdOk g.length l))
theorem renS_det {g gg hh : List (List Int)} {l : List Int} {ok ok' : Bool} (h : RenS g l gg ok) (h' : RenS g l hh ok') : gg = hh ∧ ok = ok' := by
  rcases h with ⟨rfl, h1, h2, rfl⟩ | ⟨rfl, rfl, h⟩ <;> rcases h' with ⟨rfl, h1', h2', rfl⟩ | ⟨rfl, rfl, h'⟩
  · exact ⟨rfl, rfl⟩
  · exact absurd ⟨h1, h2⟩ h'
  · exact absurd ⟨h1', h2'⟩ h
  · exact ⟨rfl, rfl⟩

/-- The edges among listed vertices, in masks. -/
theorem bitE_netL {g : List (List Int)} (hg : GOk g) {l : List Nat} (hl : ∀ v ∈ l, v < g.length) : indL g (natInts l) = matG l.length (bitE (netL g) l) := by
  unfold indL
  rw [natInts_length]
  refine matG_congr fun r j hr hj => ?_
  unfold indE bitE
  have e1 : (natInts l).getD r 0 = ((l[r] : Nat) : Int) := by simp [natInts, hr]
  have e2 : (natInts l).getD j 0 = ((l[j] : Nat) : Int) := by simp [natInts, hj]
  have f1 : l.getD r 0 = l[r] := by simp [hr]
  have f2 : l.getD j 0 = l[j] := by simp [hj]
  rw [e1, e2, f1, f2, Int.toNat_natCast, netL_getD, Bool.eq_iff_iff, decide_eq_true_eq]
  exact (testBit_row hg (hl _ (List.getElem_mem hr)) _).symm

end Go.Proofs.YtiooindlpinjhaaDoor
