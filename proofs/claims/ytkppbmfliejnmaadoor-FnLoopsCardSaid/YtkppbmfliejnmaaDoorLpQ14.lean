/- Plain: sets of so many, in the order of their lists; the least set that fits. -/
import Derived.Test.YtkppbmfliejnmaaDoorLpQ6
import Derived.Test.YtkppbmfliejnmaaDoorLpQ13
namespace Go.Proofs.YtkppbmfliejnmaaDoor

/-- The order of lists: where they part first says it. -/
def lexL : List Nat → List Nat → Prop
  | [], [] => False
  | [], _ :: _ => True
  | _ :: _, [] => False
  | a :: l, b :: m => a < b ∨ (a = b ∧ lexL l m)
theorem lexL_tri : ∀ a b : List Nat, ¬ lexL a b → ¬ lexL b a → a = b
  | [], [], _, _ => rfl
  | [], _ :: _, h, _ => absurd trivial h
  | _ :: _, [], _, h => absurd trivial h
  | a :: l, b :: m, h, k => by
    simp only [lexL, not_or, not_and] at h k
    obtain rfl : a = b := by omega
    rw [lexL_tri l m (h.2 rfl) (k.2 rfl)]
theorem lexL_trans : ∀ {a b c : List Nat}, lexL a b → lexL b c → lexL a c
  | _, [], [], _, k => k.elim
  | _, _ :: _, [], _, k => k.elim
  | [], _, _ :: _, _, _ => trivial
  | _ :: _, [], _, h, _ => h.elim
  | a :: l, b :: m, c :: o, h, k => by
    simp only [lexL] at h k ⊢
    rcases h with h | ⟨rfl, h⟩ <;> rcases k with k | ⟨rfl, k⟩
    · exact .inl (by omega)
    · exact .inl h
    · exact .inl k
    · exact .inr ⟨rfl, lexL_trans h k⟩
theorem lexL_irrefl : ∀ a : List Nat, ¬ lexL a a
  | [], h => h
  | a :: l, h => by
    simp only [lexL] at h
    rcases h with h | ⟨_, h⟩
    · omega
    · exact lexL_irrefl l h
/-- Shorter ones first, then by the order of lists. -/
def lessP (a b : List Nat) : Prop := a.length < b.length ∨ (a.length = b.length ∧ lexL a b)
theorem lessP_tri {a b : List Nat} (h : ¬ lessP a b) (k : ¬ lessP b a) : a = b := by
  simp only [lessP, not_or, not_and] at h k
  have e : a.length = b.length := by omega
  exact lexL_tri a b (h.2 e) (k.2 e.symm)
theorem lessP_trans {a b c : List Nat} (h : lessP a b) (k : lessP b c) : lessP a c := by
  rcases h with h | ⟨h1, h⟩ <;> rcases k with k | ⟨k1, k⟩
  · exact .inl (by omega)
  · exact .inl (by omega)
  · exact .inl (by omega)
  · exact .inr ⟨by omega, lexL_trans h k⟩
theorem lessP_irrefl (a : List Nat) : ¬ lessP a a := by
  rintro (h | ⟨_, h⟩)
  · omega
  · exact lexL_irrefl a h

theorem mask_cons (v : Nat) (T : List Nat) : mask (natInts (v :: T)) = 2 ^ v ||| mask (natInts T) := by
  refine Nat.eq_of_testBit_eq fun j => ?_
  rw [Nat.testBit_or, mask_bit, mask_bit, Nat.testBit_two_pow, Bool.eq_iff_iff, Bool.or_eq_true, decide_eq_true_iff, decide_eq_true_iff, decide_eq_true_iff, List.mem_cons]
  exact or_congr ⟨fun h => h.symm, fun h => h.symm⟩ Iff.rfl
theorem bitsOf_maskN {T : List Nat} (h : T.Pairwise (· < ·)) (h16 : ∀ x ∈ T, x < 16) : bitsOf (mask (natInts T)) = T :=
  rising_ext _ _ (bitsOf_rising _) h fun x => by
    rw [mem_bitsOf' (Nat.lt_trans (mask_nat_lt16 h16) (by decide)), mask_bit]
    simp
theorem mask_bitsOf {s : Nat} (h : s < 65536) : mask (natInts (bitsOf s)) = s := by
  refine Nat.eq_of_testBit_eq fun j => ?_
  rw [mask_bit, Bool.eq_iff_iff, decide_eq_true_iff, mem_bitsOf' (by omega)]

/-- So many from a first one on, below n. -/
structure Cand (n lo many : Nat) (T : List Nat) : Prop where
  ris : T.Pairwise (· < ·)
  inn : ∀ x ∈ T, lo ≤ x ∧ x < n
  len : T.length = many
theorem rising_room : ∀ {T : List Nat} {lo n : Nat}, T.Pairwise (· < ·) → (∀ x ∈ T, lo ≤ x ∧ x < n) → T ≠ [] → lo + T.length ≤ n
  | [], _, _, _, _, h => absurd rfl h
  | [x], lo, n, _, h, _ => by
    have := h x (by simp)
    simp
    omega
  | x :: y :: T, lo, n, h, k, _ => by
    have := rising_room (T := y :: T) (lo := lo + 1) (n := n) h.of_cons (fun z hz => ⟨by
      have h1 := (List.pairwise_cons.1 h).1 z hz
      have := k x (by simp)
      omega, (k z (List.mem_cons_of_mem _ hz)).2⟩) (by simp)
    simp at this ⊢
    omega
/-- None of them fits, put to a set. -/
def ChNo (P : Nat → Prop) (n lo many chosen : Nat) : Prop := ∀ T, Cand n lo many T → ¬ P (chosen ||| mask (natInts T))
/-- s is made by the first one that fits. -/
def ChYes (P : Nat → Prop) (n lo many chosen s : Nat) : Prop := ∃ T, Cand n lo many T ∧ s = chosen ||| mask (natInts T) ∧ P s ∧ ∀ T', Cand n lo many T' → lexL T' T → ¬ P (chosen ||| mask (natInts T'))
/-- None whose first is below v. -/
def ChTo (P : Nat → Prop) (n lo many chosen v : Nat) : Prop := ∀ x T, Cand n lo many (x :: T) → x < v → ¬ P (chosen ||| mask (natInts (x :: T)))
theorem cand_zero {n lo : Nat} {T : List Nat} (h : Cand n lo 0 T) : T = [] := List.eq_nil_of_length_eq_zero h.len
theorem cand_nil (n lo : Nat) : Cand n lo 0 [] := ⟨by simp, by simp, rfl⟩
theorem mask_nil0 : mask (natInts []) = 0 := rfl
theorem chNo_zero {P : Nat → Prop} {n lo chosen : Nat} (h : ¬ P chosen) : ChNo P n lo 0 chosen := fun T hT => by
  obtain rfl := cand_zero hT
  rw [mask_nil0, Nat.or_zero]
  exact h
theorem chYes_zero {P : Nat → Prop} {n lo chosen : Nat} (h : P chosen) : ChYes P n lo 0 chosen chosen :=
  ⟨[], cand_nil n lo, by rw [mask_nil0, Nat.or_zero], h, fun T' h1 h2 => by
    obtain rfl := cand_zero h1
    exact h2.elim⟩
theorem chTo_start (P : Nat → Prop) (n lo many chosen : Nat) : ChTo P n lo many chosen lo := fun x T h hx => by
  have := (h.inn x (by simp)).1
  omega
theorem Cand.tail {n lo many x : Nat} {T : List Nat} (h : Cand n lo (many + 1) (x :: T)) : Cand n (x + 1) many T :=
  ⟨h.ris.of_cons, fun y hy => ⟨(List.pairwise_cons.1 h.ris).1 y hy, (h.inn y (List.mem_cons_of_mem _ hy)).2⟩, by have := h.len; simpa using this⟩
theorem Cand.cons {n lo many x : Nat} {T : List Nat} (h : Cand n (x + 1) many T) (h1 : lo ≤ x) (h2 : x < n) : Cand n lo (many + 1) (x :: T) :=
  ⟨List.pairwise_cons.2 ⟨fun y hy => (h.inn y hy).1, h.ris⟩, fun y hy => by
    rcases List.mem_cons.1 hy with rfl | hy
    · exact ⟨h1, h2⟩
    · have := h.inn y hy
      omega, by simp [h.len]⟩
theorem chTo_step {P : Nat → Prop} {n lo many chosen v : Nat} (h : ChTo P n lo (many + 1) chosen v) (k : ChNo P n (v + 1) many (chosen ||| 2 ^ v)) : ChTo P n lo (many + 1) chosen (v + 1) := fun x T hc hx => by
  by_cases hv : x < v
  · exact h x T hc hv
  · obtain rfl : x = v := by omega
    rw [mask_cons, ← Nat.or_assoc]
    exact k T hc.tail
theorem chYes_step {P : Nat → Prop} {n lo many chosen v s : Nat} (h : ChTo P n lo (many + 1) chosen v) (h1 : lo ≤ v) (h2 : v < n) (k : ChYes P n (v + 1) many (chosen ||| 2 ^ v) s) : ChYes P n lo (many + 1) chosen s := by
  obtain ⟨T, hT, hs, hP, hb⟩ := k
  refine ⟨v :: T, hT.cons h1 h2, by rw [hs, mask_cons, Nat.or_assoc], hP, fun T' hT' hl => ?_⟩
  cases T' with
  | nil => exact absurd hT'.len (by simp)
  | cons x T1 =>
    rcases hl with hl | ⟨rfl, hl⟩
    · exact h x T1 hT' hl
    · rw [mask_cons, ← Nat.or_assoc]
      exact hb T1 hT'.tail hl
theorem chNo_end {P : Nat → Prop} {n lo many chosen v : Nat} (h : ChTo P n lo (many + 1) chosen v) (hv : n < v + (many + 1)) : ChNo P n lo (many + 1) chosen := fun T hT => by
  cases T with
  | nil => exact absurd hT.len (by simp)
  | cons x T1 =>
    refine h x T1 hT ?_
    have h1 := rising_room (T := x :: T1) (lo := x) (n := n) hT.ris (fun y hy => ⟨by
      rcases List.mem_cons.1 hy with rfl | hy
      · exact Nat.le_refl _
      · exact Nat.le_of_lt ((List.pairwise_cons.1 hT.ris).1 y hy), (hT.inn y hy).2⟩) (by simp)
    rw [hT.len] at h1
    omega
theorem cand_bits {n s : Nat} (hn : n ≤ 16) (hs : s < 2 ^ n) : Cand n 0 (bitsOf s).length (bitsOf s) ∧ s < 65536 := by
  have h16 : s < 65536 := Nat.lt_of_lt_of_le hs (by
    calc 2 ^ n ≤ 2 ^ 16 := Nat.pow_le_pow_right (by decide) hn
      _ = 65536 := by decide)
  refine ⟨⟨bitsOf_rising s, fun x hx => ⟨Nat.zero_le _, ?_⟩, rfl⟩, h16⟩
  rw [mem_bitsOf' (by omega)] at hx
  refine Nat.lt_of_not_le fun hge => ?_
  have := Nat.testBit_lt_two_pow (Nat.lt_of_lt_of_le hs (Nat.pow_le_pow_right (by decide) hge) : s < 2 ^ x)
  rw [this] at hx
  exact nomatch hx
theorem cand_lt {n many : Nat} {T : List Nat} (h : Cand n 0 many T) : mask (natInts T) < 2 ^ n := by
  refine Nat.lt_pow_two_of_testBit _ fun j hj => ?_
  rw [mask_bit, decide_eq_false_iff_not]
  intro hm
  have := (h.inn j hm).2
  omega
/-- The least set that fits. -/
def LeastP (P : Nat → Prop) (n s : Nat) : Prop := s < 2 ^ n ∧ P s ∧ ∀ t, t < 2 ^ n → P t → ¬ lessP (bitsOf t) (bitsOf s)
theorem leastP_det {P : Nat → Prop} {n s t : Nat} (hn : n ≤ 16) (h : LeastP P n s) (k : LeastP P n t) : s = t := by
  have e := lessP_tri (k.2.2 s h.1 h.2.1) (h.2.2 t k.1 k.2.1)
  rw [← mask_bitsOf (cand_bits hn h.1).2, ← mask_bitsOf (cand_bits hn k.1).2, e]
theorem least_ch {P : Nat → Prop} {n many s : Nat} (hn : n ≤ 16) (hno : ∀ m, m < many → ChNo P n 0 m 0) (hy : ChYes P n 0 many 0 s) : LeastP P n s := by
  obtain ⟨T, hT, hs, hP, hb⟩ := hy
  rw [Nat.zero_or] at hs
  subst hs
  have hlt := cand_lt hT
  refine ⟨hlt, hP, fun t ht hPt hl => ?_⟩
  obtain ⟨hc, h16⟩ := cand_bits hn ht
  rw [bitsOf_maskN hT.ris fun x hx => by have := (hT.inn x hx).2; omega] at hl
  rcases hl with hl | ⟨hl, hx⟩
  · rw [hT.len] at hl
    exact hno _ hl _ hc (by rw [Nat.zero_or, mask_bitsOf h16]; exact hPt)
  · rw [hT.len] at hl
    rw [hl] at hc
    exact hb _ hc hx (by rw [Nat.zero_or, mask_bitsOf h16]; exact hPt)
theorem none_ch {P : Nat → Prop} {n : Nat} (hn : n ≤ 16) (hno : ∀ m, m < n + 1 → ChNo P n 0 m 0) : ∀ t, t < 2 ^ n → ¬ P t := fun t ht hP => by
  obtain ⟨hc, h16⟩ := cand_bits hn ht
  have hlen : (bitsOf t).length < n + 1 := by
    by_cases he : bitsOf t = []
    · rw [he]; simp
    · have := rising_room hc.ris hc.inn he
      omega
  exact hno _ hlen _ hc (by rw [Nat.zero_or, mask_bitsOf h16]; exact hP)

/-- The reference's best one of those numbered below k. -/
def BestP (P : Nat → Prop) (k : Nat) (best : List Nat) : Prop := (best = [] ∧ ∀ j, j < k → ¬ P j) ∨ ∃ s, s < k ∧ P s ∧ best = bitsOf s ∧ best ≠ [] ∧ ∀ j, j < k → P j → ¬ lessP (bitsOf j) best
theorem best_start {P : Nat → Prop} (h0 : ¬ P 0) : BestP P 1 [] := .inl ⟨rfl, fun j hj => by
  obtain rfl : j = 0 := by omega
  exact h0⟩
theorem best_keep {P : Nat → Prop} {k : Nat} {best : List Nat} (h : BestP P k best) (hk : ¬ P k ∨ (best ≠ [] ∧ ¬ lessP (bitsOf k) best)) : BestP P (k + 1) best := by
  rcases h with ⟨rfl, h⟩ | ⟨s, h1, h2, h3, h4, h5⟩
  · refine .inl ⟨rfl, fun j hj => ?_⟩
    by_cases e : j < k
    · exact h j e
    · obtain rfl : j = k := by omega
      rcases hk with hk | hk
      · exact hk
      · exact absurd rfl hk.1
  · refine .inr ⟨s, by omega, h2, h3, h4, fun j hj hP => ?_⟩
    by_cases e : j < k
    · exact h5 j e hP
    · obtain rfl : j = k := by omega
      rcases hk with hk | hk
      · exact absurd hP hk
      · exact hk.2
theorem best_new {P : Nat → Prop} {k : Nat} {best : List Nat} (h : BestP P k best) (hk : P k) (hne : bitsOf k ≠ []) (hl : best = [] ∨ lessP (bitsOf k) best) : BestP P (k + 1) (bitsOf k) := by
  refine .inr ⟨k, by omega, hk, rfl, hne, fun j hj hP hlt => ?_⟩
  by_cases e : j < k
  · rcases h with ⟨rfl, h⟩ | ⟨s, h1, h2, h3, h4, h5⟩
    · exact h j e hP
    · rcases hl with hl | hl
      · exact h4 hl
      · exact h5 j e hP (lessP_trans hlt hl)
  · obtain rfl : j = k := by omega
    exact lessP_irrefl _ hlt
theorem best_end {P : Nat → Prop} {n : Nat} {best : List Nat} (h : BestP P (2 ^ n) best) : (best = [] ∧ ∀ t, t < 2 ^ n → ¬ P t) ∨ (best ≠ [] ∧ ∃ s, LeastP P n s ∧ best = bitsOf s) := by
  rcases h with h | ⟨s, h1, h2, h3, h4, h5⟩
  · exact .inl h
  · exact .inr ⟨h4, s, ⟨h1, h2, fun t ht hP => by rw [← h3]; exact h5 t ht hP⟩, h3⟩

end Go.Proofs.YtkppbmfliejnmaaDoor

/- Plain: forests, loops, the least loop. -/
namespace Go.Proofs.YtkppbmfliejnmaaDoor

/-! ### Forests -/
theorem mem_edNL {n : Nat} {E : Nat → Nat → Bool} {a b : Nat} : (a, b) ∈ edN n E n ↔ a < b ∧ b < n ∧ E a b = true := by
  constructor
  · intro h
    obtain ⟨h1, h2, h3, h4⟩ := mem_edN (Nat.le_refl n) h
    exact ⟨h3, h2, h4⟩
  · rintro ⟨h1, h2, h3⟩
    refine List.mem_flatMap.2 ⟨a, List.mem_range.2 (by omega), List.mem_map.2 ⟨b, List.mem_filter.2 ⟨List.mem_range.2 h2, by simp [h1, h3]⟩, rfl⟩⟩
theorem cut_less {n : Nat} {E : Nat → Nat → Bool} {a b : Nat} (hab : a < b) (hb : b < n) (hE : E a b = true) : (edN n (cutE E a b) n).length + 1 = (edN n E n).length := by
  have h1 : ((a, b) :: edN n (cutE E a b) n).length ≤ (edN n E n).length := by
    refine nodup_sub _ _ (List.nodup_cons.2 ⟨fun h => ?_, edN_nodup _ n (Nat.le_refl n)⟩) fun x hx => ?_
    · have := (mem_edNL.1 h).2.2
      simp [cutE] at this
    · rcases List.mem_cons.1 hx with rfl | hx
      · exact mem_edNL.2 ⟨hab, hb, hE⟩
      · obtain ⟨p, q⟩ := x
        obtain ⟨h1, h2, h3⟩ := mem_edNL.1 hx
        exact mem_edNL.2 ⟨h1, h2, cutE_sub h3⟩
  have h2 : (edN n E n).length ≤ ((a, b) :: edN n (cutE E a b) n).length := by
    refine nodup_sub _ _ (edN_nodup _ n (Nat.le_refl n)) fun x hx => ?_
    obtain ⟨p, q⟩ := x
    obtain ⟨h1, h2, h3⟩ := mem_edNL.1 hx
    by_cases e : p = a ∧ q = b
    · rw [e.1, e.2]; exact List.mem_cons_self ..
    · refine List.mem_cons_of_mem _ (mem_edNL.2 ⟨h1, h2, ?_⟩)
      unfold cutE
      rw [h3, Bool.true_and, Bool.not_eq_true', Bool.or_eq_false_iff]
      constructor
      · by_cases e1 : p = a
        · have : ¬ q = b := fun e2 => e ⟨e1, e2⟩
          simp [this]
        · simp [e1]
      · by_cases e1 : p = b
        · have : ¬ q = a := by omega
          simp [this]
        · simp [e1]
  simp only [List.length_cons] at h1 h2
  omega
theorem rch_uncut {E : Nat → Nat → Bool} (hs : ∀ r j, E r j = true → E j r = true) {L : List Nat} {a b : Nat} (ha : a ∈ L) (hno : Rch (cutE E a b) (· ∈ L) a b) {x : Nat} (hx : x ∈ L) (y : Nat) : Rch (cutE E a b) (· ∈ L) x y ↔ Rch E (· ∈ L) x y := by
  refine ⟨fun h => rch_sub (fun _ _ e => cutE_sub e) y h, fun h => ?_⟩
  induction h with
  | base => exact .base
  | @step p q _ hpq hq ih =>
    by_cases c : cutE E a b p q = true
    · exact .step ih c hq
    · have : (p = a ∧ q = b) ∨ (p = b ∧ q = a) := by
        unfold cutE at c
        rw [hpq, Bool.true_and] at c
        simp only [Bool.not_eq_true', Bool.or_eq_false_iff, Bool.and_eq_false_iff, not_and, beq_eq_false_iff_ne] at c
        by_cases e1 : p = a ∧ q = b
        · exact .inl e1
        · by_cases e2 : p = b ∧ q = a
          · exact .inr e2
          · exact absurd (c (by
              by_cases e : p = a
              · exact .inr fun e3 => e1 ⟨e, e3⟩
              · exact .inl e)) (fun k => k (by
              by_cases e : p = b
              · exact .inr fun e3 => e2 ⟨e, e3⟩
              · exact .inl e))
      rcases this with ⟨rfl, rfl⟩ | ⟨rfl, rfl⟩
      · exact rch_trans ih hno
      · exact rch_trans ih (rch_sym (cutE_sym hs _ _) ha hno)
theorem uncut_parts {E : Nat → Nat → Bool} (hs : ∀ r j, E r j = true → E j r = true) {L : List Nat} {a b : Nat} (ha : a ∈ L) (hno : Rch (cutE E a b) (· ∈ L) a b) {ps qs : List (List Nat)} (hps : Parts E L ps) (hqs : Parts (cutE E a b) L qs) : qs.length = ps.length := by
  have hp := parts_mem hs hps
  have hq := parts_mem (cutE_sym hs a b) hqs
  have heq : ∀ x ∈ L, partL (cutE E a b) L x = partL E L x := fun x hx => by
    unfold partL
    refine List.filter_congr fun y _ => ?_
    exact dec_congr (rch_uncut hs ha hno hx y)
  have h1 := nodup_sub _ _ (parts_nodup (cutE_sym hs a b) hqs) fun p h => by
    obtain ⟨x, hx, e⟩ := (hq p).1 h
    exact (hp p).2 ⟨x, hx, by rw [e, heq x hx]⟩
  have h2 := nodup_sub _ _ (parts_nodup hs hps) fun p h => by
    obtain ⟨x, hx, e⟩ := (hp p).1 h
    exact (hq p).2 ⟨x, hx, by rw [e, heq x hx]⟩
  omega
/-- Some edge is on a loop. -/
def CycE (n : Nat) (E : Nat → Nat → Bool) : Prop := ∃ a b, a < b ∧ b < n ∧ E a b = true ∧ Rch (cutE E a b) (· ∈ List.range n) a b
theorem forest {n : Nat} : ∀ (m : Nat) (E : Nat → Nat → Bool), (∀ r j, E r j = true → E j r = true) → (∀ r, E r r = false) → (edN n E n).length = m → ∀ ps, Parts E (List.range n) ps → n ≤ m + ps.length ∧ (m + ps.length = n ↔ ¬ CycE n E)
  | 0, E, hs, hi, hm, ps, hps => by
    have hno : ∀ a b, a < n → b < n → E a b = false := fun a b ha hb => by
      cases h : E a b with
      | false => rfl
      | true =>
        have hne : a ≠ b := fun e => by rw [e, hi] at h; cases h
        rcases Nat.lt_or_gt_of_ne hne with hl | hl
        · have := List.length_pos_iff.2 (List.ne_nil_of_mem (mem_edNL.2 ⟨hl, hb, h⟩)); omega
        · have := List.length_pos_iff.2 (List.ne_nil_of_mem (mem_edNL.2 ⟨hl, ha, hs _ _ h⟩)); omega
    have hcy : ¬ CycE n E := fun ⟨a, b, h1, h2, h3, _⟩ => by rw [hno a b (by omega) h2] at h3; cases h3
    have hpl : ∀ x ∈ List.range n, partL E (List.range n) x = [x] := fun x hx => by
      have hmem : ∀ y, y ∈ partL E (List.range n) x ↔ y = x := fun y => by
        rw [mem_partL]
        constructor
        · rintro ⟨_, h⟩
          have key : ∀ y, Rch E (· ∈ List.range n) x y → y = x := fun y h => by
            induction h with
            | base => rfl
            | step _ h2 h3 ih =>
              rw [ih, hno _ _ (List.mem_range.1 hx) (List.mem_range.1 h3)] at h2; cases h2
          exact key y h
        · rintro rfl; exact ⟨hx, .base⟩
      have hr := partL_rising (E := E) (L := List.range n) List.pairwise_lt_range x
      refine rising_ext _ _ hr (by simp) fun y => ?_
      rw [hmem]; simp
    have h1 : n ≤ ps.length := by
      have := nodup_sub ((List.range n).map fun x => [x]) ps (by
        rw [List.Nodup, List.pairwise_map]
        exact List.pairwise_lt_range.imp fun h e => by simp at e; omega) fun p hp => by
          obtain ⟨x, hx, rfl⟩ := List.mem_map.1 hp
          exact (parts_mem hs hps _).2 ⟨x, hx, (hpl x hx).symm⟩
      simpa using this
    have h2 : ps.length ≤ n := by
      have := nodup_sub ps ((List.range n).map fun x => [x]) (parts_nodup hs hps) fun p hp => by
        obtain ⟨x, hx, rfl⟩ := (parts_mem hs hps p).1 hp
        rw [hpl x hx]
        exact List.mem_map_of_mem hx
      simpa using this
    exact ⟨by omega, fun _ => hcy, fun _ => by omega⟩
  | m + 1, E, hs, hi, hm, ps, hps => by
    by_cases hc : CycE n E
    · obtain ⟨a, b, hab, hb, hE, hr⟩ := id hc
      have hl := cut_less hab hb hE
      obtain ⟨qs, hqs⟩ := parts_exB (cutE E a b) _ (List.range n) (Nat.le_refl _)
      obtain ⟨r1, _⟩ := forest m (cutE E a b) (cutE_sym hs a b) (fun r => cutE_irr hi a b r) (by omega) qs hqs
      have := uncut_parts hs (List.mem_range.2 (by omega)) hr hps hqs
      exact ⟨by omega, fun h => by omega, fun h => absurd hc h⟩
    · obtain ⟨⟨a, b⟩, he⟩ := List.exists_mem_of_length_pos (show 0 < (edN n E n).length by omega)
      obtain ⟨hab, hb, hE⟩ := mem_edNL.1 he
      have hl := cut_less hab hb hE
      obtain ⟨qs, hqs⟩ := parts_exB (cutE E a b) _ (List.range n) (Nat.le_refl _)
      obtain ⟨r1, r2⟩ := forest m (cutE E a b) (cutE_sym hs a b) (fun r => cutE_irr hi a b r) (by omega) qs hqs
      have hr : ¬ Rch (cutE E a b) (· ∈ List.range n) a b := fun h => hc ⟨a, b, hab, hb, hE, h⟩
      have hbp := bridge_parts hs (List.mem_range.2 (by omega)) (List.mem_range.2 hb) hE hr hps hqs
      have hn : ¬ CycE n (cutE E a b) := fun ⟨c, d, h1, h2, h3, h4⟩ => hc ⟨c, d, h1, h2, cutE_sub h3, rch_sub (fun r j e => by
        unfold cutE at e ⊢
        simp only [Bool.and_eq_true] at e ⊢
        exact ⟨e.1.1, e.2⟩) d h4⟩
      have := r2.2 hn
      exact ⟨by omega, fun _ => hc, fun _ => by omega⟩

/-! ### Loops -/
/-- Each is next to the one behind it. -/
def Chn (E : Nat → Nat → Bool) : List Nat → Prop
  | [] => True
  | [_] => True
  | x :: y :: l => E x y = true ∧ Chn E (y :: l)
theorem chn_snoc {E : Nat → Nat → Bool} : ∀ (L : List Nat) (v : Nat), Chn E (L ++ [v]) ↔ Chn E L ∧ (L = [] ∨ E (L.getLastD 0) v = true)
  | [], v => by simp [Chn]
  | [x], v => by simp [Chn, List.getLastD]
  | x :: y :: l, v => by
    have ih := chn_snoc (E := E) (y :: l) v
    show E x y = true ∧ Chn E ((y :: l) ++ [v]) ↔ (E x y = true ∧ Chn E (y :: l)) ∧ _
    rw [ih, and_assoc]
    simp [List.getLastD]
theorem chn_at {E : Nat → Nat → Bool} : ∀ (L : List Nat), Chn E L ↔ ∀ i (h : i + 1 < L.length), E (L[i]'(by omega)) L[i + 1] = true
  | [] => by simp [Chn]
  | [x] => by simp [Chn]
  | x :: y :: l => by
    rw [Chn, chn_at (y :: l)]
    constructor
    · rintro ⟨h1, h2⟩ i hi
      cases i with
      | zero => exact h1
      | succ i => exact h2 i (by simpa using hi)
    · intro h
      exact ⟨h 0 (by simp), fun i hi => h (i + 1) (by simpa using hi)⟩
structure LpOk (n : Nat) (E : Nat → Nat → Bool) (L : List Nat) : Prop where
  long : 3 ≤ L.length
  nod : L.Nodup
  chn : Chn E L
  back : E (L.getLastD 0) (L.headD 0) = true
  inn : ∀ x ∈ L, x < n
/-- No loop is less. -/
def LeastLp (n : Nat) (E : Nat → Nat → Bool) (L : List Nat) : Prop := LpOk n E L ∧ ∀ M, LpOk n E M → ¬ lessP M L
theorem leastLp_det {n : Nat} {E : Nat → Nat → Bool} {L M : List Nat} (h : LeastLp n E L) (k : LeastLp n E M) : L = M := lessP_tri (k.2 L h.1) (h.2 M k.1)
/-- What LeastLoop returns. -/
def LpS (g : List (List Int)) (l : List Int) : Prop := (GOk g ∧ ∃ L, LeastLp g.length (ofG g) L ∧ l = natInts L) ∨ ((¬ GOk g ∨ ¬ ∃ L, LpOk g.length (ofG g) L) ∧ l = [])
theorem lpS_det {g : List (List Int)} {l m : List Int} (h : LpS g l) (k : LpS g m) : l = m := by
  rcases h with ⟨h0, L, h1, rfl⟩ | ⟨h1, rfl⟩ <;> rcases k with ⟨k0, M, k1, rfl⟩ | ⟨k1, rfl⟩
  · rw [leastLp_det h1 k1]
  · rcases k1 with k1 | k1
    · exact absurd h0 k1
    · exact absurd ⟨L, h1.1⟩ k1
  · rcases h1 with h1 | h1
    · exact absurd k0 h1
    · exact absurd ⟨M, k1.1⟩ h1
  · rfl

end Go.Proofs.YtkppbmfliejnmaaDoor

/- Plain: a loop stands just where there are more edges than in a forest. -/
namespace Go.Proofs.YtkppbmfliejnmaaDoor

/-! ### A loop stands just where some edge is on a way round -/
theorem chn_take {E : Nat → Nat → Bool} {L : List Nat} (h : Chn E L) (k : Nat) : Chn E (L.take k) := by
  rw [chn_at] at h ⊢
  intro i hi
  rw [List.length_take] at hi
  rw [List.getElem_take, List.getElem_take]
  exact h i (by omega)
theorem last_getD {L : List Nat} (h : L ≠ []) : L.getLastD 0 = L[L.length - 1]'(by have := List.length_pos_iff.2 h; omega) := by
  rw [List.getLastD_eq_getLast?, List.getLast?_eq_getElem?, List.getElem?_eq_getElem]
  rfl
theorem head_getD {L : List Nat} (h : 0 < L.length) : L.headD 0 = L[0] := by
  cases L with
  | nil => simp at h
  | cons a l => rfl
/-- A way as a list without a vertex twice. -/
theorem rch_list {E : Nat → Nat → Bool} {S : Nat → Prop} {u x : Nat} (hu : S u) (h : Rch E S u x) : ∃ L, L ≠ [] ∧ L.headD 0 = u ∧ L.getLastD 0 = x ∧ L.Nodup ∧ Chn E L ∧ ∀ y ∈ L, S y := by
  induction h with
  | base => exact ⟨[u], by simp, rfl, rfl, by simp, trivial, fun y hy => by
      obtain rfl : y = u := by simpa using hy
      exact hu⟩
  | @step x y _ h2 h3 ih =>
    obtain ⟨L, k1, k2, k3, k4, k5, k6⟩ := ih
    by_cases hy : y ∈ L
    · obtain ⟨i, hi, e⟩ := List.getElem_of_mem hy
      have hne : L.take (i + 1) ≠ [] := fun h0 => by
        have := congrArg List.length h0
        rw [List.length_take, List.length_nil] at this
        omega
      refine ⟨L.take (i + 1), hne, ?_, ?_, k4.sublist (List.take_sublist _ _), chn_take k5 _, fun z hz => k6 z (List.mem_of_mem_take hz)⟩
      · rw [head_getD (List.length_pos_iff.2 hne), List.getElem_take, ← head_getD (List.length_pos_iff.2 k1)]
        exact k2
      · rw [last_getD hne, List.getElem_take]
        have hl : (L.take (i + 1)).length - 1 = i := by rw [List.length_take]; omega
        simp only [hl]
        exact e
    · refine ⟨L ++ [y], by simp, ?_, by simp [List.getLastD_eq_getLast?], ?_, (chn_snoc L y).2 ⟨k5, .inr (by rw [k3]; exact h2)⟩, fun z hz => ?_⟩
      · rw [← k2]
        cases L with
        | nil => exact absurd rfl k1
        | cons a l => rfl
      · exact List.nodup_append.2 ⟨k4, by simp, fun a ha b hb e => hy (by
          obtain rfl : b = y := by simpa using hb
          exact e ▸ ha)⟩
      · rcases List.mem_append.1 hz with hz | hz
        · exact k6 z hz
        · obtain rfl : z = y := by simpa using hz
          exact h3
theorem chn_mono {E F : Nat → Nat → Bool} (h : ∀ r j, E r j = true → F r j = true) {L : List Nat} (hc : Chn E L) : Chn F L := by
  rw [chn_at] at hc ⊢
  exact fun i hi => h _ _ (hc i hi)
theorem chn_rch {E : Nat → Nat → Bool} {S : Nat → Prop} {L : List Nat} (hc : Chn E L) (hS : ∀ x ∈ L, S x) : ∀ i (h : i < L.length), Rch E S (L[0]'(by omega)) L[i]
  | 0, _ => .base
  | i + 1, h => .step (chn_rch hc hS i (by omega)) ((chn_at L).1 hc i h) (hS _ (List.getElem_mem h))
theorem cyc_loop {n : Nat} {E : Nat → Nat → Bool} (hs : ∀ r j, E r j = true → E j r = true) : CycE n E ↔ ∃ L, LpOk n E L := by
  constructor
  · rintro ⟨a, b, hab, hb, hE, hr⟩
    obtain ⟨L, k1, k2, k3, k4, k5, k6⟩ := rch_list (List.mem_range.2 (show a < n by omega)) hr
    refine ⟨L, ?_, k4, chn_mono (fun _ _ e => cutE_sub e) k5, by rw [k3, k2]; exact hs _ _ hE, fun x hx => List.mem_range.1 (k6 x hx)⟩
    rcases L with _ | ⟨x, _ | ⟨y, _ | ⟨z, l⟩⟩⟩
    · exact absurd rfl k1
    · have e1 : x = a := k2
      have e2 : x = b := k3
      omega
    · have e1 : x = a := k2
      have e2 : y = b := k3
      have := k5.1
      rw [e1, e2] at this
      simp [cutE] at this
    · simp
  · rintro ⟨L, h1, h2, h3, h4, h5⟩
    have hpos : 0 < L.length := by omega
    have hne : L ≠ [] := List.length_pos_iff.1 hpos
    rw [last_getD hne, head_getD hpos] at h4
    have hd : ∀ i j (hi : i < L.length) (hj : j < L.length), L[i] = L[j] → i = j := fun i j hi hj e => Classical.byContradiction fun hn => by
      rcases Nat.lt_or_gt_of_ne hn with h | h
      · exact List.pairwise_iff_getElem.1 h2 i j hi hj h e
      · exact List.pairwise_iff_getElem.1 h2 j i hj hi h e.symm
    -- the way along the loop does not use its last edge
    have hcut : ∀ p q, (p = L[0] ∧ q = L[L.length - 1]'(by omega)) ∨ (p = L[L.length - 1]'(by omega) ∧ q = L[0]) → Chn (cutE E p q) L := fun p q hpq => by
      rw [chn_at] at h3 ⊢
      intro i hi
      have hE := h3 i hi
      unfold cutE
      rw [hE, Bool.true_and, Bool.not_eq_true', Bool.or_eq_false_iff]
      have n1 : ¬ (L[i] = L[0] ∧ L[i + 1] = L[L.length - 1]'(by omega)) := fun ⟨e1, e2⟩ => by
        have := hd i 0 (by omega) hpos e1
        have := hd (i + 1) (L.length - 1) hi (by omega) e2
        omega
      have n2 : ¬ (L[i] = L[L.length - 1]'(by omega) ∧ L[i + 1] = L[0]) := fun ⟨e1, e2⟩ => by
        have := hd (i + 1) 0 hi hpos e2
        omega
      rcases hpq with ⟨rfl, rfl⟩ | ⟨rfl, rfl⟩
      · exact ⟨by simpa using fun e1 e2 => n1 ⟨e1, e2⟩, by simpa using fun e1 e2 => n2 ⟨e1, e2⟩⟩
      · exact ⟨by simpa using fun e1 e2 => n2 ⟨e1, e2⟩, by simpa using fun e1 e2 => n1 ⟨e1, e2⟩⟩
    have hin : ∀ x ∈ L, x ∈ List.range n := fun x hx => List.mem_range.2 (h5 x hx)
    have hne2 : L[0] ≠ L[L.length - 1]'(by omega) := fun e => by have := hd 0 (L.length - 1) hpos (by omega) e; omega
    rcases Nat.lt_or_gt_of_ne hne2 with hl | hl
    · exact ⟨_, _, hl, h5 _ (List.getElem_mem _), hs _ _ h4, chn_rch (hcut _ _ (.inl ⟨rfl, rfl⟩)) hin _ (by omega)⟩
    · refine ⟨_, _, hl, h5 _ (List.getElem_mem _), h4, ?_⟩
      exact rch_sym (cutE_sym hs _ _) (hin _ (List.getElem_mem _)) (chn_rch (hcut _ _ (.inr ⟨rfl, rfl⟩)) hin (L.length - 1) (by omega))
/-- More edges than a forest, just where there is a loop. -/
theorem forest_loop {n : Nat} {E : Nat → Nat → Bool} (hs : ∀ r j, E r j = true → E j r = true) (hi : ∀ r, E r r = false) {ps : List (List Nat)} (hps : Parts E (List.range n) ps) : n ≤ (edN n E n).length + ps.length ∧ (n < (edN n E n).length + ps.length ↔ ∃ L, LpOk n E L) := by
  obtain ⟨h1, h2⟩ := forest _ E hs hi rfl ps hps
  rw [← cyc_loop hs]
  refine ⟨h1, ?_⟩
  by_cases c : CycE n E
  · have : ¬ (edN n E n).length + ps.length = n := fun h => h2.1 h c
    exact ⟨fun _ => c, fun _ => by omega⟩
  · have := h2.2 c
    exact ⟨fun h => by omega, fun h => absurd h c⟩

end Go.Proofs.YtkppbmfliejnmaaDoor
