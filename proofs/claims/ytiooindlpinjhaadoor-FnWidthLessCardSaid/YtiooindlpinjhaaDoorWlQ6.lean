/- Plain: the neighbours among some vertices, as masks. -/
import Derived.Test.YtiooindlpinjhaaDoorWlQ5
namespace Go.Proofs.YtiooindlpinjhaaDoor

theorem mask_bit (l : List Nat) (j : Nat) : (mask (natInts l)).testBit j = decide (j ∈ l) := by
  rw [testBit_mask, Bool.eq_iff_iff]
  simp [natInts]
theorem mask_nat_lt16 {l : List Nat} (h : ∀ i ∈ l, i < 16) : mask (natInts l) < 65536 := mask_lt16 _ fun x hx => by
  obtain ⟨i, hi, rfl⟩ := mem_natInts.1 hx
  have := h i hi
  omega
def indN (m : Nat) (E : Nat → Nat → Bool) : List Nat := (List.range m).map fun r => mask (natInts ((List.range m).filter (E r)))
theorem indN_length (m : Nat) (E : Nat → Nat → Bool) : (indN m E).length = m := by simp [indN]
theorem indN_get {m : Nat} {E : Nat → Nat → Bool} {r : Nat} (h : r < m) : (indN m E).getD r 0 = mask (natInts ((List.range m).filter (E r))) := by simp [indN, h]
theorem indN_bit {m : Nat} {E : Nat → Nat → Bool} {r : Nat} (h : r < m) (j : Nat) : ((indN m E).getD r 0).testBit j = (decide (j < m) && E r j) := by
  rw [indN_get h, mask_bit, Bool.eq_iff_iff]
  simp
theorem indN_lt16 {m : Nat} {E : Nat → Nat → Bool} (hm : m ≤ 16) : ∀ s ∈ indN m E, s < 65536 := by
  intro s hs
  simp only [indN, List.mem_map, List.mem_range] at hs
  obtain ⟨r, hr, rfl⟩ := hs
  exact mask_nat_lt16 fun i hi => by simp only [List.mem_filter, List.mem_range] at hi; omega
theorem natList_ext {a b : List Nat} (hl : a.length = b.length) (h : ∀ r, r < a.length → a.getD r 0 = b.getD r 0) : a = b := by
  refine List.ext_getElem hl fun j h1 h2 => ?_
  have := h j h1
  simpa [h1, h2] using this
theorem indN_congr {m : Nat} {E F : Nat → Nat → Bool} (h : ∀ r j, r < m → j < m → E r j = F r j) : indN m E = indN m F := by
  refine natList_ext (by simp [indN_length]) fun r hr => ?_
  rw [indN_length] at hr
  refine Nat.eq_of_testBit_eq fun j => ?_
  rw [indN_bit hr, indN_bit hr]
  by_cases hj : j < m
  · simp [h r j hr hj]
  · simp [hj]
theorem indN_none (m : Nat) {E : Nat → Nat → Bool} (h : ∀ r j, r < m → j < m → E r j = false) : indN m E = List.replicate m 0 := by
  refine natList_ext (by simp [indN_length]) fun r hr => ?_
  rw [indN_length] at hr
  refine Nat.eq_of_testBit_eq fun j => ?_
  rw [indN_bit hr]
  by_cases hj : j < m
  · simp [h r j hr hj, hr]
  · simp [hj, hr]
def rowsE (E : Nat → Nat → Bool) (i k : Nat) : Nat → Nat → Bool := fun r j => E r j && (decide (r < i) || (decide (r = i) && decide (j < k)))
theorem rows_start (m : Nat) (E : Nat → Nat → Bool) : indN m (rowsE E 0 0) = List.replicate m 0 := indN_none m fun r j _ _ => by simp [rowsE]
theorem rows_row {m : Nat} {E : Nat → Nat → Bool} {i : Nat} : indN m (rowsE E i m) = indN m (rowsE E (i + 1) 0) := by
  refine indN_congr fun r j hr hj => ?_
  unfold rowsE
  congr 1
  by_cases h1 : r < i
  · simp [h1, show r < i + 1 by omega]
  · by_cases h2 : r = i
    · simp [h2, hj]
    · simp [h1, h2, show ¬ r < i + 1 by omega]
theorem rows_end {m : Nat} {E : Nat → Nat → Bool} : indN m (rowsE E m 0) = indN m E := indN_congr fun r j hr hj => by simp [rowsE, hr]
theorem rows_yes {m : Nat} {E : Nat → Nat → Bool} {i k : Nat} (hi : i < m) (hk : k < m) (he : E i k = true) :
    (indN m (rowsE E i k)).set i ((indN m (rowsE E i k)).getD i 0 ||| 2 ^ k) = indN m (rowsE E i (k + 1)) := by
  refine natList_ext (by simp [indN_length]) fun r hr => ?_
  rw [List.length_set, indN_length] at hr
  have hl := indN_length m (rowsE E i k)
  rw [getD_set _ _ _ _ (by omega)]
  refine Nat.eq_of_testBit_eq fun j => ?_
  by_cases e : r = i
  · subst e
    rw [if_pos rfl, Nat.testBit_or, indN_bit hr, indN_bit hr, testBit_pow]
    unfold rowsE
    by_cases h1 : k = j
    · subst h1; simp [he, hk]
    · have : j < k ↔ j < k + 1 := by omega
      simp [h1, this]
  · rw [if_neg e, indN_bit hr, indN_bit hr]
    unfold rowsE
    simp [e]
theorem rows_no {m : Nat} {E : Nat → Nat → Bool} {i k : Nat} (he : E i k = false) : indN m (rowsE E i k) = indN m (rowsE E i (k + 1)) := by
  refine indN_congr fun r j hr hj => ?_
  unfold rowsE
  by_cases h : r = i ∧ j = k
  · obtain ⟨rfl, rfl⟩ := h; simp [he]
  · congr 2
    by_cases e : r = i
    · have : j < k ↔ j < k + 1 := by omega
      simp [this]
    · simp [e]
/-- The masks' graph. -/
theorem indN_rows {m : Nat} (hm : m ≤ 16) {E : Nat → Nat → Bool} {r : Nat} (hr : r < m) : natInts (bitsOf ((indN m E).getD r 0)) = row (matG m E) r := by
  have h16 : (indN m E).getD r 0 < 65536 := lt16_getD (indN_lt16 hm) r
  refine rising_ext_int _ _ (natInts_rising (bitsOf_rising _)) (matG_rising hr) fun x => ?_
  rw [mem_natInts, mem_matG hr]
  constructor
  · rintro ⟨j, hj, rfl⟩
    rw [mem_bitsOf' (by omega), indN_bit hr] at hj
    simp only [Bool.and_eq_true, decide_eq_true_eq] at hj
    exact ⟨j, rfl, hj.1, hj.2⟩
  · rintro ⟨j, rfl, h1, h2⟩
    exact ⟨j, by rw [mem_bitsOf' (by omega), indN_bit hr]; simp [h1, h2], rfl⟩

/-- The edges among the bits of a set, in masks that are a graph's rows. -/
def bitE (a : List Nat) (l : List Nat) : Nat → Nat → Bool := fun r j => (a.getD (l.getD r 0) 0).testBit (l.getD j 0)
theorem bitE_ind {g : List (List Int)} {L : List Int} {a : List Nat} {left : Nat} (h : Same g L a left) : indL g L = matG (bitsOf left).length (bitE a (bitsOf left)) := by
  have hL := h.list
  subst hL
  unfold indL
  rw [natInts_length]
  refine matG_congr fun r j hr hj => ?_
  unfold indE bitE
  have e1 : (natInts (bitsOf left)).getD r 0 = (((bitsOf left)[r] : Nat) : Int) := by simp [natInts, hr]
  have e2 : (natInts (bitsOf left)).getD j 0 = (((bitsOf left)[j] : Nat) : Int) := by simp [natInts, hj]
  rw [e1, e2, Int.toNat_natCast]
  have hl16 := h.left16
  have hr' := (mem_bitsOf' (by omega)).1 (List.getElem_mem hr)
  have hj' := (mem_bitsOf' (by omega)).1 (List.getElem_mem hj)
  rw [h.rows _ hr', Bool.eq_iff_iff, decide_eq_true_eq, mem_near hl16]
  have f1 : (bitsOf left).getD r 0 = (bitsOf left)[r] := by simp [hr]
  have f2 : (bitsOf left).getD j 0 = (bitsOf left)[j] := by simp [hj]
  rw [f1, f2]
  constructor
  · rintro ⟨i, hi, h1, _⟩
    obtain rfl : i = (bitsOf left)[j] := by omega
    exact h1
  · intro h1
    exact ⟨_, rfl, h1, hj'⟩

end Go.Proofs.YtiooindlpinjhaaDoor

/- Plain: sets of so many, in the order of their lists; the least set that fits. -/
namespace Go.Proofs.YtiooindlpinjhaaDoor

/-- The order of lists: where they part first says it. -/
def lexL : List Nat → List Nat → Prop
  | [], [] => False
  | [], _ :: _ => True
  | _ :: _, [] => False
  | a :: l, b :: m => a < b ∨ (a = b ∧ lexL l m)
theorem lexL_tri : ∀ a b : List Nat, ¬ lexL a b → ¬ lexL b a → a = b
  | [], [], _, _ => rfl
  | [], _ :: _, h, _ => absurd trivial h
  | _ :: _, [], _, h => absurd trivial h
  | a :: l, b :: m, h, k => by
    simp only [lexL, not_or, not_and] at h k
    obtain rfl : a = b := by omega
    rw [lexL_tri l m (h.2 rfl) (k.2 rfl)]
theorem lexL_trans : ∀ {a b c : List Nat}, lexL a b → lexL b c → lexL a c
  | _, [], [], _, k => k.elim
  | _, _ :: _, [], _, k => k.elim
  | [], _, _ :: _, _, _ => trivial
  | _ :: _, [], _, h, _ => h.elim
  | a :: l, b :: m, c :: o, h, k => by
    simp only [lexL] at h k ⊢
    rcases h with h | ⟨rfl, h⟩ <;> rcases k with k | ⟨rfl, k⟩
    · exact .inl (by omega)
    · exact .inl h
    · exact .inl k
    · exact .inr ⟨rfl, lexL_trans h k⟩
theorem lexL_irrefl : ∀ a : List Nat, ¬ lexL a a
  | [], h => h
  | a :: l, h => by
    simp only [lexL] at h
    rcases h with h | ⟨_, h⟩
    · omega
    · exact lexL_irrefl l h
/-- Shorter ones first, then by the order of lists. -/
def lessP (a b : List Nat) : Prop := a.length < b.length ∨ (a.length = b.length ∧ lexL a b)
theorem lessP_tri {a b : List Nat} (h : ¬ lessP a b) (k : ¬ lessP b a) : a = b := by
  simp only [lessP, not_or, not_and] at h k
  have e : a.length = b.length := by omega
  exact lexL_tri a b (h.2 e) (k.2 e.symm)
theorem lessP_trans {a b c : List Nat} (h : lessP a b) (k : lessP b c) : lessP a c := by
  rcases h with h | ⟨h1, h⟩ <;> rcases k with k | ⟨k1, k⟩
  · exact .inl (by omega)
  · exact .inl (by omega)
  · exact .inl (by omega)
  · exact .inr ⟨by omega, lexL_trans h k⟩
theorem lessP_irrefl (a : List Nat) : ¬ lessP a a := by
  rintro (h | ⟨_, h⟩)
  · omega
  · exact lexL_irrefl a h

theorem mask_cons (v : Nat) (T : List Nat) : mask (natInts (v :: T)) = 2 ^ v ||| mask (natInts T) := by
  refine Nat.eq_of_testBit_eq fun j => ?_
  rw [Nat.testBit_or, mask_bit, mask_bit, Nat.testBit_two_pow, Bool.eq_iff_iff, Bool.or_eq_true, decide_eq_true_iff, decide_eq_true_iff, decide_eq_true_iff, List.mem_cons]
  exact or_congr ⟨fun h => h.symm, fun h => h.symm⟩ Iff.rfl
theorem bitsOf_maskN {T : List Nat} (h : T.Pairwise (· < ·)) (h16 : ∀ x ∈ T, x < 16) : bitsOf (mask (natInts T)) = T :=
  rising_ext _ _ (bitsOf_rising _) h fun x => by
    rw [mem_bitsOf' (Nat.lt_trans (mask_nat_lt16 h16) (by decide)), mask_bit]
    simp
theorem mask_bitsOf {s : Nat} (h : s < 65536) : mask (natInts (bitsOf s)) = s := by
  refine Nat.eq_of_testBit_eq fun j => ?_
  rw [mask_bit, Bool.eq_iff_iff, decide_eq_true_iff, mem_bitsOf' (by omega)]

/-- So many from a first one on, below n. -/
structure Cand (n lo many : Nat) (T : List Nat) : Prop where
  ris : T.Pairwise (· < ·)
  inn : ∀ x ∈ T, lo ≤ x ∧ x < n
  len : T.length = many
theorem rising_room : ∀ {T : List Nat} {lo n : Nat}, T.Pairwise (· < ·) → (∀ x ∈ T, lo ≤ x ∧ x < n) → T ≠ [] → lo + T.length ≤ n
  | [], _, _, _, _, h => absurd rfl h
  | [x], lo, n, _, h, _ => by
    have := h x (by simp)
    simp
    omega
  | x :: y :: T, lo, n, h, k, _ => by
    have := rising_room (T := y :: T) (lo := lo + 1) (n := n) h.of_cons (fun z hz => ⟨by
      have h1 := (List.pairwise_cons.1 h).1 z hz
      have := k x (by simp)
      omega, (k z (List.mem_cons_of_mem _ hz)).2⟩) (by simp)
    simp at this ⊢
    omega
/-- None of them fits, put to a set. -/
def ChNo (P : Nat → Prop) (n lo many chosen : Nat) : Prop := ∀ T, Cand n lo many T → ¬ P (chosen ||| mask (natInts T))
/-- s is made by the first one that fits. -/
def ChYes (P : Nat → Prop) (n lo many chosen s : Nat) : Prop := ∃ T, Cand n lo many T ∧ s = chosen ||| mask (natInts T) ∧ P s ∧ ∀ T', Cand n lo many T' → lexL T' T → ¬ P (chosen ||| mask (natInts T'))
/-- None whose first is below v. -/
def ChTo (P : Nat → Prop) (n lo many chosen v : Nat) : Prop := ∀ x T, Cand n lo many (x :: T) → x < v → ¬ P (chosen ||| mask (natInts (x :: T)))
theorem cand_zero {n lo : Nat} {T : List Nat} (h : Cand n lo 0 T) : T = [] := List.eq_nil_of_length_eq_zero h.len
theorem cand_nil (n lo : Nat) : Cand n lo 0 [] := ⟨by simp, by simp, rfl⟩
theorem mask_nil0 : mask (natInts []) = 0 := rfl
theorem chNo_zero {P : Nat → Prop} {n lo chosen : Nat} (h : ¬ P chosen) : ChNo P n lo 0 chosen := fun T hT => by
  obtain rfl := cand_zero hT
  rw [mask_nil0, Nat.or_zero]
  exact h
theorem chYes_zero {P : Nat → Prop} {n lo chosen : Nat} (h : P chosen) : ChYes P n lo 0 chosen chosen :=
  ⟨[], cand_nil n lo, by rw [mask_nil0, Nat.or_zero], h, fun T' h1 h2 => by
    obtain rfl := cand_zero h1
    exact h2.elim⟩
theorem chTo_start (P : Nat → Prop) (n lo many chosen : Nat) : ChTo P n lo many chosen lo := fun x T h hx => by
  have := (h.inn x (by simp)).1
  omega
theorem Cand.tail {n lo many x : Nat} {T : List Nat} (h : Cand n lo (many + 1) (x :: T)) : Cand n (x + 1) many T :=
  ⟨h.ris.of_cons, fun y hy => ⟨(List.pairwise_cons.1 h.ris).1 y hy, (h.inn y (List.mem_cons_of_mem _ hy)).2⟩, by have := h.len; simpa using this⟩
theorem Cand.cons {n lo many x : Nat} {T : List Nat} (h : Cand n (x + 1) many T) (h1 : lo ≤ x) (h2 : x < n) : Cand n lo (many + 1) (x :: T) :=
  ⟨List.pairwise_cons.2 ⟨fun y hy => (h.inn y hy).1, h.ris⟩, fun y hy => by
    rcases List.mem_cons.1 hy with rfl | hy
    · exact ⟨h1, h2⟩
    · have := h.inn y hy
      omega, by simp [h.len]⟩
theorem chTo_step {P : Nat → Prop} {n lo many chosen v : Nat} (h : ChTo P n lo (many + 1) chosen v) (k : ChNo P n (v + 1) many (chosen ||| 2 ^ v)) : ChTo P n lo (many + 1) chosen (v + 1) := fun x T hc hx => by
  by_cases hv : x < v
  · exact h x T hc hv
  · obtain rfl : x = v := by omega
    rw [mask_cons, ← Nat.or_assoc]
    exact k T hc.tail
theorem chYes_step {P : Nat → Prop} {n lo many chosen v s : Nat} (h : ChTo P n lo (many + 1) chosen v) (h1 : lo ≤ v) (h2 : v < n) (k : ChYes P n (v + 1) many (chosen ||| 2 ^ v) s) : ChYes P n lo (many + 1) chosen s := by
  obtain ⟨T, hT, hs, hP, hb⟩ := k
  refine ⟨v :: T, hT.cons h1 h2, by rw [hs, mask_cons, Nat.or_assoc], hP, fun T' hT' hl => ?_⟩
  cases T' with
  | nil => exact absurd hT'.len (by simp)
  | cons x T1 =>
    rcases hl with hl | ⟨rfl, hl⟩
    · exact h x T1 hT' hl
    · rw [mask_cons, ← Nat.or_assoc]
      exact hb T1 hT'.tail hl
theorem chNo_end {P : Nat → Prop} {n lo many chosen v : Nat} (h : ChTo P n lo (many + 1) chosen v) (hv : n < v + (many + 1)) : ChNo P n lo (many + 1) chosen := fun T hT => by
  cases T with
  | nil => exact absurd hT.len (by simp)
  | cons x T1 =>
    refine h x T1 hT ?_
    have h1 := rising_room (T := x :: T1) (lo := x) (n := n) hT.ris (fun y hy => ⟨by
      rcases List.mem_cons.1 hy with rfl | hy
      · exact Nat.le_refl _
      · exact Nat.le_of_lt ((List.pairwise_cons.1 hT.ris).1 y hy), (hT.inn y hy).2⟩) (by simp)
    rw [hT.len] at h1
    omega
theorem cand_bits {n s : Nat} (hn : n ≤ 16) (hs : s < 2 ^ n) : Cand n 0 (bitsOf s).length (bitsOf s) ∧ s < 65536 := by
  have h16 : s < 65536 := Nat.lt_of_lt_of_le hs (by
    calc 2 ^ n ≤ 2 ^ 16 := Nat.pow_le_pow_right (by decide) hn
      _ = 65536 := by decide)
  refine ⟨⟨bitsOf_rising s, fun x hx => ⟨Nat.zero_le _, ?_⟩, rfl⟩, h16⟩
  rw [mem_bitsOf' (by omega)] at hx
  refine Nat.lt_of_not_le fun hge => ?_
  have := Nat.testBit_lt_two_pow (Nat.lt_of_lt_of_le hs (Nat.pow_le_pow_right (by decide) hge) : s < 2 ^ x)
  rw [this] at hx
  exact nomatch hx
theorem cand_lt {n many : Nat} {T : List Nat} (h : Cand n 0 many T) : mask (natInts T) < 2 ^ n := by
  refine Nat.lt_pow_two_of_testBit _ fun j hj => ?_
  rw [mask_bit, decide_eq_false_iff_not]
  intro hm
  have := (h.inn j hm).2
  omega
/-- The least set that fits. -/
def LeastP (P : Nat → Prop) (n s : Nat) : Prop := s < 2 ^ n ∧ P s ∧ ∀ t, t < 2 ^ n → P t → ¬ lessP (bitsOf t) (bitsOf s)
theorem leastP_det {P : Nat → Prop} {n s t : Nat} (hn : n ≤ 16) (h : LeastP P n s) (k : LeastP P n t) : s = t := by
  have e := lessP_tri (k.2.2 s h.1 h.2.1) (h.2.2 t k.1 k.2.1)
  rw [← mask_bitsOf (cand_bits hn h.1).2, ← mask_bitsOf (cand_bits hn k.1).2, e]
theorem least_ch {P : Nat → Prop} {n many s : Nat} (hn : n ≤ 16) (hno : ∀ m, m < many → ChNo P n 0 m 0) (hy : ChYes P n 0 many 0 s) : LeastP P n s := by
  obtain ⟨T, hT, hs, hP, hb⟩ := hy
  rw [Nat.zero_or] at hs
  subst hs
  have hlt := cand_lt hT
  refine ⟨hlt, hP, fun t ht hPt hl => ?_⟩
  obtain ⟨hc, h16⟩ := cand_bits hn ht
  rw [bitsOf_maskN hT.ris fun x hx => by have := (hT.inn x hx).2; omega] at hl
  rcases hl with hl | ⟨hl, hx⟩
  · rw [hT.len] at hl
    exact hno _ hl _ hc (by rw [Nat.zero_or, mask_bitsOf h16]; exact hPt)
  · rw [hT.len] at hl
    rw [hl] at hc
    exact hb _ hc hx (by rw [Nat.zero_or, mask_bitsOf h16]; exact hPt)
theorem none_ch {P : Nat → Prop} {n : Nat} (hn : n ≤ 16) (hno : ∀ m, m < n + 1 → ChNo P n 0 m 0) : ∀ t, t < 2 ^ n → ¬ P t := fun t ht hP => by
  obtain ⟨hc, h16⟩ := cand_bits hn ht
  have hlen : (bitsOf t).length < n + 1 := by
    by_cases he : bitsOf t = []
    · rw [he]; simp
    · have := rising_room hc.ris hc.inn he
      omega
  exact hno _ hlen _ hc (by rw [Nat.zero_or, mask_bitsOf h16]; exact hP)

/-- The reference's best one of those numbered below k. -/
def BestP (P : Nat → Prop) (k : Nat) (best : List Nat) : Prop := (best = [] ∧ ∀ j, j < k → ¬ P j) ∨ ∃ s, s < k ∧ P s ∧ best = bitsOf s ∧ best ≠ [] ∧ ∀ j, j < k → P j → ¬ lessP (bitsOf j) best
theorem best_start {P : Nat → Prop} (h0 : ¬ P 0) : BestP P 1 [] := .inl ⟨rfl, fun j hj => by
  obtain rfl : j = 0 := by omega
  exact h0⟩
theorem best_keep {P : Nat → Prop} {k : Nat} {best : List Nat} (h : BestP P k best) (hk : ¬ P k ∨ (best ≠ [] ∧ ¬ lessP (bitsOf k) best)) : BestP P (k + 1) best := by
  rcases h with ⟨rfl, h⟩ | ⟨s, h1, h2, h3, h4, h5⟩
  · refine .inl ⟨rfl, fun j hj => ?_⟩
    by_cases e : j < k
    · exact h j e
    · obtain rfl : j = k := by omega
      rcases hk with hk | hk
      · exact hk
      · exact absurd rfl hk.1
  · refine .inr ⟨s, by omega, h2, h3, h4, fun j hj hP => ?_⟩
    by_cases e : j < k
    · exact h5 j e hP
    · obtain rfl : j = k := by omega
      rcases hk with hk | hk
      · exact absurd hP hk
      · exact hk.2
theorem best_new {P : Nat → Prop} {k : Nat} {best : List Nat} (h : BestP P k best) (hk : P k) (hne : bitsOf k ≠ []) (hl : best = [] ∨ lessP (bitsOf k) best) : BestP P (k + 1) (bitsOf k) := by
  refine .inr ⟨k, by omega, hk, rfl, hne, fun j hj hP hlt => ?_⟩
  by_cases e : j < k
  · rcases h with ⟨rfl, h⟩ | ⟨s, h1, h2, h3, h4, h5⟩
    · exact h j e hP
    · rcases hl with hl | hl
      · exact h4 hl
      · exact h5 j e hP (lessP_trans hlt hl)
  · obtain rfl : j = k := by omega
    exact lessP_irrefl _ hlt
theorem best_end {P : Nat → Prop} {n : Nat} {best : List Nat} (h : BestP P (2 ^ n) best) : (best = [] ∧ ∀ t, t < 2 ^ n → ¬ P t) ∨ (best ≠ [] ∧ ∃ s, LeastP P n s ∧ best = bitsOf s) := by
  rcases h with h | ⟨s, h1, h2, h3, h4, h5⟩
  · exact .inl h
  · exact .inr ⟨h4, s, ⟨h1, h2, fun t ht hP => by rw [← h3]; exact h5 t ht hP⟩, h3⟩

end Go.Proofs.YtiooindlpinjhaaDoor

/- Plain: what may be pruned away. -/
namespace Go.Proofs.YtiooindlpinjhaaDoor

/-- A prune: a vertex, another one, a kind. -/
structure Pr where
  V : Int
  B : Int
  K : Int

/-- A vertex may go so, of some that are left. -/
def CondP (g : List (List Int)) (L : List Int) (v b k : Int) : Prop :=
  (k = 2 ∧ ∀ x ∈ L, (x ∈ row g v.toNat ↔ x = b)) ∨
  (k = 3 ∧ b ∉ row g v.toNat ∧ ∀ x ∈ L, x ≠ v → x ≠ b → (x ∈ row g v.toNat ↔ x ∈ row g b.toNat)) ∨
  (k = 4 ∧ b ∈ row g v.toNat ∧ ∀ x ∈ L, x ≠ v → x ≠ b → (x ∈ row g v.toNat ↔ x ∈ row g b.toNat))
def GoP (g : List (List Int)) (L : List Int) (v b k : Int) : Prop :=
  (k = 1 ∧ b = -1 ∧ ∀ x ∈ L, x ∉ row g v.toNat) ∨ (b ∈ L ∧ b ≠ v ∧ CondP g L v b k)
theorem condP_kind {g : List (List Int)} {L : List Int} {v b k : Int} (h : CondP g L v b k) : 2 ≤ k ∧ k ≤ 4 := by
  rcases h with ⟨h, _⟩ | ⟨h, _⟩ | ⟨h, _⟩ <;> omega
theorem goP_kind {g : List (List Int)} {L : List Int} {v b k : Int} (h : GoP g L v b k) : 1 ≤ k ∧ k ≤ 4 := by
  rcases h with ⟨h, _⟩ | ⟨_, _, h⟩
  · omega
  · have := condP_kind h; omega

/-- The first prune of a vertex. -/
def PrS (g : List (List Int)) (L : List Int) (v : Int) : Option Pr → Prop
  | none => ∀ k b, ¬ GoP g L v b k
  | some p => p.V = v ∧ GoP g L v p.B p.K ∧ ∀ k b, (k < p.K ∨ (k = p.K ∧ b < p.B)) → ¬ GoP g L v b k
theorem prS_det {g : List (List Int)} {L : List Int} {v : Int} {r s : Option Pr} (h : PrS g L v r) (h2 : PrS g L v s) : r = s := by
  cases r with
  | none =>
    cases s with
    | none => rfl
    | some q => exact absurd h2.2.1 (h _ _)
  | some p =>
    cases s with
    | none => exact absurd h.2.1 (h2 _ _)
    | some q =>
      obtain ⟨p1, p2, p3⟩ := p
      obtain ⟨q1, q2, q3⟩ := q
      obtain ⟨a1, a2, a3⟩ := h
      obtain ⟨b1, b2, b3⟩ := h2
      simp only at a1 a2 a3 b1 b2 b3
      subst a1; subst b1
      have hk : p3 = q3 := by
        rcases Int.lt_trichotomy p3 q3 with h | h | h
        · exact absurd a2 (b3 _ _ (.inl h))
        · exact h
        · exact absurd b2 (a3 _ _ (.inl h))
      subst hk
      have hb : p2 = q2 := by
        rcases Int.lt_trichotomy p2 q2 with h | h | h
        · exact absurd a2 (b3 _ _ (.inr ⟨rfl, h⟩))
        · exact h
        · exact absurd b2 (a3 _ _ (.inr ⟨rfl, h⟩))
      subst hb
      rfl

/-- The least vertex that may goes, again and again. -/
inductive Prunes (g : List (List Int)) : List Int → List Pr → List Int → Prop
  | done (L : List Int) : (∀ j (hj : j < L.length), PrS g L L[j] none) → Prunes g L [] L
  | step (L : List Int) (j : Nat) (hj : j < L.length) (p : Pr) (ps : List Pr) (L' : List Int) : (∀ i (hi : i < L.length), i < j → PrS g L L[i] none) → PrS g L L[j] (some p) → Prunes g (lessL L L[j]) ps L' → Prunes g L (p :: ps) L'
theorem prunes_det {g : List (List Int)} {L : List Int} {ps : List Pr} {L' : List Int} (h : Prunes g L ps L') : ∀ {qs : List Pr} {M' : List Int}, Prunes g L qs M' → ps = qs ∧ L' = M' := by
  induction h with
  | done L h =>
    intro qs M' h2
    cases h2 with
    | done _ h2 => exact ⟨rfl, rfl⟩
    | step _ j hj p ps L' h3 h4 h5 => exact nomatch prS_det (h j hj) h4
  | step L j hj p ps L' h1 h2 h3 ih =>
    intro qs M' k
    cases k with
    | done _ k1 => exact nomatch prS_det (k1 j hj) h2
    | step _ i hi q qs _ k1 k2 k3 =>
      obtain rfl : i = j := by
        rcases Nat.lt_trichotomy i j with h | h | h
        · exact nomatch prS_det (h1 i hi h) k2
        · exact h
        · exact nomatch prS_det (k1 j hj h) h2
      have e := prS_det h2 k2
      obtain rfl : p = q := Option.some.inj e
      obtain ⟨e1, e2⟩ := ih k3
      exact ⟨by rw [e1], e2⟩

def PrOn (g : List (List Int)) (L0 : List Int) (os : List Pr) (L : List Int) : Prop := ∀ ps L', Prunes g L ps L' → Prunes g L0 (os ++ ps) L'
theorem prOn_start (g : List (List Int)) (L : List Int) : PrOn g L [] L := fun _ _ h => h
theorem prOn_step {g : List (List Int)} {L0 L : List Int} {os : List Pr} {j : Nat} {p : Pr} (h : PrOn g L0 os L) (hj : j < L.length) (h1 : ∀ i (hi : i < L.length), i < j → PrS g L L[i] none) (h2 : PrS g L L[j] (some p)) :
    PrOn g L0 (os ++ [p]) (lessL L L[j]) := fun ps L' k => by
  have := h (p :: ps) L' (.step L j hj p ps L' h1 h2 k)
  simpa using this
theorem prOn_stop {g : List (List Int)} {L0 L : List Int} {os : List Pr} (h : PrOn g L0 os L) (h1 : ∀ j (hj : j < L.length), PrS g L L[j] none) : Prunes g L0 os L := by
  have := h [] L (.done L h1)
  simpa using this

/-- What PrunedOf returns. -/
def PrunedS (g : List (List Int)) (ps : List Pr) (l : List Int) : Prop := (GOk g ∧ Prunes g (allL g.length) ps l) ∨ (¬ GOk g ∧ ps = [] ∧ l = [])
theorem prunedS_det {g : List (List Int)} {ps qs : List Pr} {l m : List Int} (h : PrunedS g ps l) (h2 : PrunedS g qs m) : ps = qs ∧ l = m := by
  rcases h with ⟨hg, h⟩ | ⟨hg, rfl, rfl⟩ <;> rcases h2 with ⟨hg2, h2⟩ | ⟨hg2, rfl, rfl⟩
  · exact prunes_det h h2
  · exact absurd hg hg2
  · exact absurd hg2 hg
  · exact ⟨rfl, rfl⟩

/-- The reference's neighbours that are left, but one. -/
def nearB (g : List (List Int)) (L : List Int) (v : Nat) (b : Int) : List Int := (row g v).filter fun x => decide (x ≠ b ∧ x ∈ L)
theorem mem_nearB {g : List (List Int)} {L : List Int} {v : Nat} {b x : Int} : x ∈ nearB g L v b ↔ x ∈ row g v ∧ x ≠ b ∧ x ∈ L := by simp [nearB]
theorem nearB_len (g : List (List Int)) (L : List Int) (v : Nat) (b : Int) : (nearB g L v b).length ≤ (row g v).length := List.length_filter_le _ _
theorem nearB_rising {g : List (List Int)} (hg : GOk g) {L : List Int} {v : Nat} (hv : v < g.length) (b : Int) : (nearB g L v b).Pairwise (· < ·) := (hg.sets v hv).1.2.filter _
theorem nearB_nil {g : List (List Int)} {L : List Int} {v : Nat} {b : Int} : (nearB g L v b).length = 0 ↔ ∀ x ∈ L, x ∈ row g v → x = b := by
  constructor
  · intro h x hx hr
    refine Classical.byContradiction fun e => ?_
    have : x ∈ nearB g L v b := mem_nearB.2 ⟨hr, e, hx⟩
    rw [List.eq_nil_of_length_eq_zero h] at this
    exact absurd this (by simp)
  · intro h
    cases e : nearB g L v b with
    | nil => rfl
    | cons y l =>
      have hy : y ∈ nearB g L v b := by rw [e]; simp
      obtain ⟨h1, h2, h3⟩ := mem_nearB.1 hy
      exact absurd (h y h3 h1) h2
theorem nearB_same {g : List (List Int)} (hg : GOk g) {L : List Int} {v b : Nat} (hv : v < g.length) (hb : b < g.length) (hvL : (v : Int) ∈ L) (hbL : (b : Int) ∈ L) (hvb : v ≠ b) :
    nearB g L v b = nearB g L b v ↔ ∀ x ∈ L, x ≠ v → x ≠ b → (x ∈ row g v ↔ x ∈ row g b) := by
  constructor
  · intro h x hx h1 h2
    have := congrArg (x ∈ ·) h
    simp only [mem_nearB, eq_iff_iff] at this
    constructor
    · intro hr; exact (this.1 ⟨hr, h2, hx⟩).1
    · intro hr; exact (this.2 ⟨hr, h1, hx⟩).1
  · intro h
    refine rising_ext_int _ _ (nearB_rising hg hv _) (nearB_rising hg hb _) fun x => ?_
    rw [mem_nearB, mem_nearB]
    constructor
    · rintro ⟨h1, h2, h3⟩
      have hne : x ≠ (v : Int) := fun e => (hg.sets v hv).2 (e ▸ h1)
      exact ⟨(h x h3 hne h2).1 h1, hne, h3⟩
    · rintro ⟨h1, h2, h3⟩
      have hne : x ≠ (b : Int) := fun e => (hg.sets b hb).2 (e ▸ h1)
      exact ⟨(h x h3 h2 hne).2 h1, hne, h3⟩

/-- The program's masks. -/
structure LOk (g : List (List Int)) (s : Nat) : Prop where
  ok : GOk g
  s16 : s < 65536
  inn : ∀ i, s.testBit i = true → i < g.length
theorem mem_bitsI {s : Nat} (h : s < 65536) {i : Nat} : ((i : Nat) : Int) ∈ natInts (bitsOf s) ↔ s.testBit i = true := by
  rw [mem_natInts]
  constructor
  · rintro ⟨j, hj, e⟩
    obtain rfl : j = i := by omega
    exact (mem_left h).1 hj
  · intro hi
    exact ⟨i, (mem_left h).2 hi, rfl⟩
theorem mem_bitsZ {s : Nat} (h : s < 65536) {x : Int} : x ∈ natInts (bitsOf s) ↔ ∃ i : Nat, (i : Int) = x ∧ s.testBit i = true := by
  rw [mem_natInts]
  constructor
  · rintro ⟨j, hj, e⟩; exact ⟨j, e, (mem_left h).1 hj⟩
  · rintro ⟨j, e, hj⟩; exact ⟨j, (mem_left h).2 hj, e⟩
theorem near_bit {g : List (List Int)} {s : Nat} (h : LOk g s) {v : Nat} (hv : v < g.length) (i : Nat) : (mask (row g v) &&& s).testBit i = true ↔ ((i : Nat) : Int) ∈ row g v ∧ s.testBit i = true := by
  rw [Nat.testBit_and, Bool.and_eq_true, testBit_row h.ok hv]
theorem alone_mask {g : List (List Int)} {s : Nat} (h : LOk g s) {v : Nat} (hv : v < g.length) : mask (row g v) &&& s = 0 ↔ ∀ x ∈ natInts (bitsOf s), x ∉ row g v := by
  constructor
  · intro e x hx hr
    obtain ⟨i, rfl, hi⟩ := (mem_bitsZ h.s16).1 hx
    have := (near_bit h hv i).2 ⟨hr, hi⟩
    rw [e] at this
    simp at this
  · intro hx
    refine Nat.eq_of_testBit_eq fun i => ?_
    rw [Nat.zero_testBit, Bool.eq_false_iff]
    intro hb
    obtain ⟨h1, h2⟩ := (near_bit h hv i).1 hb
    exact hx _ ((mem_bitsI h.s16).2 h2) h1
theorem pend_mask {g : List (List Int)} {s : Nat} (h : LOk g s) {v b : Nat} (hv : v < g.length) (hb : s.testBit b = true) : mask (row g v) &&& s = 2 ^ b ↔ ∀ x ∈ natInts (bitsOf s), (x ∈ row g v ↔ x = b) := by
  constructor
  · intro e x hx
    obtain ⟨i, rfl, hi⟩ := (mem_bitsZ h.s16).1 hx
    have h1 := near_bit h hv i
    rw [e, testBit_pow] at h1
    simp only [hi, and_true, decide_eq_true_eq] at h1
    rw [← h1]
    omega
  · intro hx
    refine Nat.eq_of_testBit_eq fun i => ?_
    rw [Bool.eq_iff_iff, near_bit h hv, testBit_pow, decide_eq_true_eq]
    constructor
    · rintro ⟨h1, h2⟩
      have := (hx _ ((mem_bitsI h.s16).2 h2)).1 h1
      omega
    · rintro rfl
      exact ⟨(hx _ ((mem_bitsI h.s16).2 hb)).2 rfl, hb⟩
theorem false_mask {g : List (List Int)} {s : Nat} (h : LOk g s) {v b : Nat} (hv : s.testBit v = true) (hb : s.testBit b = true) (hvb : v ≠ b) :
    mask (row g v) &&& s = mask (row g b) &&& s ↔ ((b : Nat) : Int) ∉ row g v ∧ ∀ x ∈ natInts (bitsOf s), x ≠ v → x ≠ b → (x ∈ row g v ↔ x ∈ row g b) := by
  have hvl := h.inn v hv
  have hbl := h.inn b hb
  constructor
  · intro e
    have key : ∀ i : Nat, s.testBit i = true → (((i : Nat) : Int) ∈ row g v ↔ ((i : Nat) : Int) ∈ row g b) := fun i hi => by
      have h1 := near_bit h hvl i
      have h2 := near_bit h hbl i
      rw [e] at h1
      simp only [hi, and_true] at h1 h2
      rw [← h1, ← h2]
    refine ⟨fun hr => ?_, fun x hx _ _ => ?_⟩
    · exact (h.ok.sets b hbl).2 ((key b hb).1 hr)
    · obtain ⟨i, rfl, hi⟩ := (mem_bitsZ h.s16).1 hx
      exact key i hi
  · rintro ⟨hn, hx⟩
    refine Nat.eq_of_testBit_eq fun i => ?_
    rw [Bool.eq_iff_iff, near_bit h hvl, near_bit h hbl]
    by_cases hi : s.testBit i = true
    · simp only [hi, and_true]
      by_cases e1 : i = v
      · subst e1
        have a1 := (h.ok.sets i hvl).2
        have a2 : ((i : Nat) : Int) ∉ row g b := fun hr => hn (by have := h.ok.both b hbl _ hr; rwa [Int.toNat_natCast] at this)
        simp [a1, a2]
      · by_cases e2 : i = b
        · subst e2
          have a1 := (h.ok.sets i hbl).2
          simp [a1, hn]
        · exact hx _ ((mem_bitsI h.s16).2 hi) (by omega) (by omega)
    · simp [hi]
theorem true_mask {g : List (List Int)} {s : Nat} (h : LOk g s) {v b : Nat} (hv : s.testBit v = true) (hb : s.testBit b = true) (hvb : v ≠ b) :
    ((mask (row g v) &&& s).testBit b = true ∧ sub (mask (row g v) &&& s) (2 ^ b) = sub (mask (row g b) &&& s) (2 ^ v)) ↔ ((b : Nat) : Int) ∈ row g v ∧ ∀ x ∈ natInts (bitsOf s), x ≠ v → x ≠ b → (x ∈ row g v ↔ x ∈ row g b) := by
  have hvl := h.inn v hv
  have hbl := h.inn b hb
  have hle := h.ok.le
  have s32 := h.s16
  have m1 : mask (row g v) &&& s < 65536 := Nat.lt_of_le_of_lt Nat.and_le_right h.s16
  have m2 : mask (row g b) &&& s < 65536 := Nat.lt_of_le_of_lt Nat.and_le_right h.s16
  rw [near_bit h hvl]
  constructor
  · rintro ⟨⟨hr, _⟩, e⟩
    refine ⟨hr, fun x hx e1 e2 => ?_⟩
    obtain ⟨i, rfl, hi⟩ := (mem_bitsZ h.s16).1 hx
    have h1 := testBit_sub1 m1 (show b < 16 by omega) i
    have h2 := testBit_sub1 m2 (show v < 16 by omega) i
    rw [e] at h1
    rw [h1, near_bit h hvl, near_bit h hbl] at h2
    have i1 : i ≠ b := fun q => e2 (by omega)
    have i2 : i ≠ v := fun q => e1 (by omega)
    simpa [hi, i1, i2] using h2
  · rintro ⟨hr, hx⟩
    refine ⟨⟨hr, hb⟩, Nat.eq_of_testBit_eq fun i => ?_⟩
    rw [Bool.eq_iff_iff, testBit_sub1 m1 (show b < 16 by omega), testBit_sub1 m2 (show v < 16 by omega), near_bit h hvl, near_bit h hbl]
    by_cases hi : s.testBit i = true
    · simp only [hi, and_true]
      by_cases e1 : i = v
      · subst e1
        have a1 := (h.ok.sets i hvl).2
        simp [a1]
      · by_cases e2 : i = b
        · subst e2
          have a1 := (h.ok.sets i hbl).2
          simp [a1]
        · have := hx _ ((mem_bitsI h.s16).2 hi) (by omega) (by omega)
          simp [e1, e2, this]
    · simp [hi]

end Go.Proofs.YtiooindlpinjhaaDoor
