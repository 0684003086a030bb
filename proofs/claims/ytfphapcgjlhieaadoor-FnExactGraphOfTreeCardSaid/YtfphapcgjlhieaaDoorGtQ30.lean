/- Plain: sets of so many, in the order of their lists; the least set that fits. -/
import Derived.Test.YtfphapcgjlhieaaDoorGtQ11
import Derived.Test.YtfphapcgjlhieaaDoorGtQ3
import Derived.Test.YtfphapcgjlhieaaDoorGtQ2
import Derived.Deep.RegionHeld3
import Derived.Deep.DeepCutAuto
namespace Go.Proofs.YtfphapcgjlhieaaDoor

/-- The order of lists: where they part first says it. -/
def lexL : List Nat → List Nat → Prop
  | [], [] => False
  | [], _ :: _ => True
  | _ :: _, [] => False
  | a :: l, b :: m => a < b ∨ (a = b ∧ lexL l m)
theorem lexL_tri : ∀ a b : List Nat, ¬ lexL a b → ¬ lexL b a → a = b
  | [], [], _, _ => rfl
  | [], _ :: _, h, _ => absurd trivial h
  | _ :: _, [], _, h => absurd trivial h
  | a :: l, b :: m, h, k => by
    simp only [lexL, not_or, not_and] at h k
    obtain rfl : a = b := by omega
    rw [lexL_tri l m (h.2 rfl) (k.2 rfl)]
theorem lexL_trans : ∀ {a b c : List Nat}, lexL a b → lexL b c → lexL a c
  | _, [], [], _, k => k.elim
  | _, _ :: _, [], _, k => k.elim
  | [], _, _ :: _, _, _ => trivial
  | _ :: _, [], _, h, _ => h.elim
  | a :: l, b :: m, c :: o, h, k => by
    simp only [lexL] at h k ⊢
    rcases h with h | ⟨rfl, h⟩ <;> rcases k with k | ⟨rfl, k⟩
    · exact .inl (by omega)
    · exact .inl h
    · exact .inl k
    · exact .inr ⟨rfl, lexL_trans h k⟩
theorem lexL_irrefl : ∀ a : List Nat, ¬ lexL a a
  | [], h => h
  | a :: l, h => by
    simp only [lexL] at h
    rcases h with h | ⟨_, h⟩
    · omega
    · exact lexL_irrefl l h
/-- Shorter ones first, then by the order of lists. -/
def lessP (a b : List Nat) : Prop := a.length < b.length ∨ (a.length = b.length ∧ lexL a b)
theorem lessP_tri {a b : List Nat} (h : ¬ lessP a b) (k : ¬ lessP b a) : a = b := by
  simp only [lessP, not_or, not_and] at h k
  have e : a.length = b.length := by omega
  exact lexL_tri a b (h.2 e) (k.2 e.symm)
theorem lessP_trans {a b c : List Nat} (h : lessP a b) (k : lessP b c) : lessP a c := by
  rcases h with h | ⟨h1, h⟩ <;> rcases k with k | ⟨k1, k⟩
  · exact .inl (by omega)
  · exact .inl (by omega)
  · exact .inl (by omega)
  · exact .inr ⟨by omega, lexL_trans h k⟩
theorem lessP_irrefl (a : List Nat) : ¬ lessP a a := by
  rintro (h | ⟨_, h⟩)
  · omega
  · exact lexL_irrefl a h

theorem mask_cons (v : Nat) (T : List Nat) : mask (natInts (v :: T)) = 2 ^ v ||| mask (natInts T) := by
  refine Nat.eq_of_testBit_eq fun j => ?_
  rw [Nat.testBit_or, mask_bit, mask_bit, Nat.testBit_two_pow, Bool.eq_iff_iff, Bool.or_eq_true, decide_eq_true_iff, decide_eq_true_iff, decide_eq_true_iff, List.mem_cons]
  exact or_congr ⟨fun h => h.symm, fun h => h.symm⟩ Iff.rfl
theorem bitsOf_maskN {T : List Nat} (h : T.Pairwise (· < ·)) (h16 : ∀ x ∈ T, x < 16) : bitsOf (mask (natInts T)) = T :=
  rising_ext _ _ (bitsOf_rising _) h fun x => by
    rw [mem_bitsOf' (Nat.lt_trans (mask_nat_lt16 h16) (by decide)), mask_bit]
    simp
theorem mask_bitsOf {s : Nat} (h : s < 65536) : mask (natInts (bitsOf s)) = s := by
  refine Nat.eq_of_testBit_eq fun j => ?_
  rw [mask_bit, Bool.eq_iff_iff, decide_eq_true_iff, mem_bitsOf' (by omega)]

/-- So many from a first one on, below n. -/
structure Cand (n lo many : Nat) (T : List Nat) : Prop where
  ris : T.Pairwise (· < ·)
  inn : ∀ x ∈ T, lo ≤ x ∧ x < n
  len : T.length = many
theorem rising_room : ∀ {T : List Nat} {lo n : Nat}, T.Pairwise (· < ·) → (∀ x ∈ T, lo ≤ x ∧ x < n) → T ≠ [] → lo + T.length ≤ n
  | [], _, _, _, _, h => absurd rfl h
  | [x], lo, n, _, h, _ => by
    have := h x (by simp)
    simp
    omega
  | x :: y :: T, lo, n, h, k, _ => by
    have := rising_room (T := y :: T) (lo := lo + 1) (n := n) h.of_cons (fun z hz => ⟨by
      have h1 := (List.pairwise_cons.1 h).1 z hz
      have := k x (by simp)
      omega, (k z (List.mem_cons_of_mem _ hz)).2⟩) (by simp)
    simp at this ⊢
    omega
/-- None of them fits, put to a set. -/
def ChNo (P : Nat → Prop) (n lo many chosen : Nat) : Prop := ∀ T, Cand n lo many T → ¬ P (chosen ||| mask (natInts T))
/-- s is made by the first one that fits. -/
def ChYes (P : Nat → Prop) (n lo many chosen s : Nat) : Prop := ∃ T, Cand n lo many T ∧ s = chosen ||| mask (natInts T) ∧ P s ∧ ∀ T', Cand n lo many T' → lexL T' T → ¬ P (chosen ||| mask (natInts T'))
/-- None whose first is below v. -/
def ChTo (P : Nat → Prop) (n lo many chosen v : Nat) : Prop := ∀ x T, Cand n lo many (x :: T) → x < v → ¬ P (chosen ||| mask (natInts (x :: T)))
theorem cand_zero {n lo : Nat} {T : List Nat} (h : Cand n lo 0 T) : T = [] := List.eq_nil_of_length_eq_zero h.len
theorem cand_nil (n lo : Nat) : Cand n lo 0 [] := ⟨by simp, by simp, rfl⟩
theorem mask_nil0 : mask (natInts []) = 0 := rfl
theorem chNo_zero {P : Nat → Prop} {n lo chosen : Nat} (h : ¬ P chosen) : ChNo P n lo 0 chosen := fun T hT => by
  obtain rfl := cand_zero hT
  rw [mask_nil0, Nat.or_zero]
  exact h
theorem chYes_zero {P : Nat → Prop} {n lo chosen : Nat} (h : P chosen) : ChYes P n lo 0 chosen chosen :=
  ⟨[], cand_nil n lo, by rw [mask_nil0, Nat.or_zero], h, fun T' h1 h2 => by
    obtain rfl := cand_zero h1
    exact h2.elim⟩
theorem chTo_start (P : Nat → Prop) (n lo many chosen : Nat) : ChTo P n lo many chosen lo := fun x T h hx => by
  have := (h.inn x (by simp)).1
  omega
theorem Cand.tail {n lo many x : Nat} {T : List Nat} (h : Cand n lo (many + 1) (x :: T)) : Cand n (x + 1) many T :=
  ⟨h.ris.of_cons, fun y hy => ⟨(List.pairwise_cons.1 h.ris).1 y hy, (h.inn y (List.mem_cons_of_mem _ hy)).2⟩, by have := h.len; simpa using this⟩
theorem Cand.cons {n lo many x : Nat} {T : List Nat} (h : Cand n (x + 1) many T) (h1 : lo ≤ x) (h2 : x < n) : Cand n lo (many + 1) (x :: T) :=
  ⟨List.pairwise_cons.2 ⟨fun y hy => (h.inn y hy).1, h.ris⟩, fun y hy => by
    rcases List.mem_cons.1 hy with rfl | hy
    · exact ⟨h1, h2⟩
    · have := h.inn y hy
      omega, by simp [h.len]⟩
theorem chTo_step {P : Nat → Prop} {n lo many chosen v : Nat} (h : ChTo P n lo (many + 1) chosen v) (k : ChNo P n (v + 1) many (chosen ||| 2 ^ v)) : ChTo P n lo (many + 1) chosen (v + 1) := fun x T hc hx => by
  by_cases hv : x < v
  · exact h x T hc hv
  · obtain rfl : x = v := by omega
    rw [mask_cons, ← Nat.or_assoc]
    exact k T hc.tail
theorem chYes_step {P : Nat → Prop} {n lo many chosen v s : Nat} (h : ChTo P n lo (many + 1) chosen v) (h1 : lo ≤ v) (h2 : v < n) (k : ChYes P n (v + 1) many (chosen ||| 2 ^ v) s) : ChYes P n lo (many + 1) chosen s := by
  obtain ⟨T, hT, hs, hP, hb⟩ := k
  refine ⟨v :: T, hT.cons h1 h2, by rw [hs, mask_cons, Nat.or_assoc], hP, fun T' hT' hl => ?_⟩
  cases T' with
  | nil => exact absurd hT'.len (by simp)
  | cons x T1 =>
    rcases hl with hl | ⟨rfl, hl⟩
    · exact h x T1 hT' hl
    · rw [mask_cons, ← Nat.or_assoc]
      exact hb T1 hT'.tail hl
theorem chNo_end {P : Nat → Prop} {n lo many chosen v : Nat} (h : ChTo P n lo (many + 1) chosen v) (hv : n < v + (many + 1)) : ChNo P n lo (many + 1) chosen := fun T hT => by
  cases T with
  | nil => exact absurd hT.len (by simp)
  | cons x T1 =>
    refine h x T1 hT ?_
    have h1 := rising_room (T := x :: T1) (lo := x) (n := n) hT.ris (fun y hy => ⟨by
      rcases List.mem_cons.1 hy with rfl | hy
      · exact Nat.le_refl _
      · exact Nat.le_of_lt ((List.pairwise_cons.1 hT.ris).1 y hy), (hT.inn y hy).2⟩) (by simp)
    rw [hT.len] at h1
    omega
theorem cand_bits {n s : Nat} (hn : n ≤ 16) (hs : s < 2 ^ n) : Cand n 0 (bitsOf s).length (bitsOf s) ∧ s < 65536 := by
  have h16 : s < 65536 := Nat.lt_of_lt_of_le hs (by
    calc 2 ^ n ≤ 2 ^ 16 := Nat.pow_le_pow_right (by decide) hn
      _ = 65536 := by decide)
  refine ⟨⟨bitsOf_rising s, fun x hx => ⟨Nat.zero_le _, ?_⟩, rfl⟩, h16⟩
  rw [mem_bitsOf' (by omega)] at hx
  refine Nat.lt_of_not_le fun hge => ?_
  have := Nat.testBit_lt_two_pow (Nat.lt_of_lt_of_le hs (Nat.pow_le_pow_right (by decide) hge) : s < 2 ^ x)
  rw [this] at hx
  exact nomatch hx
theorem cand_lt {n many : Nat} {T : List Nat} (h : Cand n 0 many T) : mask (natInts T) < 2 ^ n := by
  refine Nat.lt_pow_two_of_testBit _ fun j hj => ?_
  rw [mask_bit, decide_eq_false_iff_not]
  intro hm
  have := (h.inn j hm).2
  omega
/-- The least set that fits. -/
def LeastP (P : Nat → Prop) (n s : Nat) : Prop := s < 2 ^ n ∧ P s ∧ ∀ t, t < 2 ^ n → P t → ¬ lessP (bitsOf t) (bitsOf s)
theorem leastP_det {P : Nat → Prop} {n s t : Nat} (hn : n ≤ 16) (h : LeastP P n s) (k : LeastP P n t) : s = t := by
  have e := lessP_tri (k.2.2 s h.1 h.2.1) (h.2.2 t k.1 k.2.1)
  rw [← mask_bitsOf (cand_bits hn h.1).2, ← mask_bitsOf (cand_bits hn k.1).2, e]
theorem least_ch {P : Nat → Prop} {n many s : Nat} (hn : n ≤ 16) (hno : ∀ m, m < many → ChNo P n 0 m 0) (hy : ChYes P n 0 many 0 s) : LeastP P n s := by
  obtain ⟨T, hT, hs, hP, hb⟩ := hy
  rw [Nat.zero_or] at hs
  subst hs
  have hlt := cand_lt hT
  refine ⟨hlt, hP, fun t ht hPt hl => ?_⟩
  obtain ⟨hc, h16⟩ := cand_bits hn ht
  rw [bitsOf_maskN hT.ris fun x hx => by have := (hT.inn x hx).2; omega] at hl
  rcases hl with hl | ⟨hl, hx⟩
  · rw [hT.len] at hl
    exact hno _ hl _ hc (by rw [Nat.zero_or, mask_bitsOf h16]; exact hPt)
  · rw [hT.len] at hl
    rw [hl] at hc
    exact hb _ hc hx (by rw [Nat.zero_or, mask_bitsOf h16]; exact hPt)
theorem none_ch {P : Nat → Prop} {n : Nat} (hn : n ≤ 16) (hno : ∀ m, m < n + 1 → ChNo P n 0 m 0) : ∀ t, t < 2 ^ n → ¬ P t := fun t ht hP => by
  obtain ⟨hc, h16⟩ := cand_bits hn ht
  have hlen : (bitsOf t).length < n + 1 := by
    by_cases he : bitsOf t = []
    · rw [he]; simp
    · have := rising_room hc.ris hc.inn he
      omega
  exact hno _ hlen _ hc (by rw [Nat.zero_or, mask_bitsOf h16]; exact hP)

/-- The reference's best one of those numbered below k. -/
def BestP (P : Nat → Prop) (k : Nat) (best : List Nat) : Prop := (best = [] ∧ ∀ j, j < k → ¬ P j) ∨ ∃ s, s < k ∧ P s ∧ best = bitsOf s ∧ best ≠ [] ∧ ∀ j, j < k → P j → ¬ lessP (bitsOf j) best
theorem best_start {P : Nat → Prop} (h0 : ¬ P 0) : BestP P 1 [] := .inl ⟨rfl, fun j hj => by
  obtain rfl : j = 0 := by omega
  exact h0⟩
theorem best_keep {P : Nat → Prop} {k : Nat} {best : List Nat} (h : BestP P k best) (hk : ¬ P k ∨ (best ≠ [] ∧ ¬ lessP (bitsOf k) best)) : BestP P (k + 1) best := by
  rcases h with ⟨rfl, h⟩ | ⟨s, h1, h2, h3, h4, h5⟩
  · refine .inl ⟨rfl, fun j hj => ?_⟩
    by_cases e : j < k
    · exact h j e
    · obtain rfl : j = k := by omega
      rcases hk with hk | hk
      · exact hk
      · exact absurd rfl hk.1
  · refine .inr ⟨s, by omega, h2, h3, h4, fun j hj hP => ?_⟩
    by_cases e : j < k
    · exact h5 j e hP
    · obtain rfl : j = k := by omega
      rcases hk with hk | hk
      · exact absurd hP hk
      · exact hk.2
theorem best_new {P : Nat → Prop} {k : Nat} {best : List Nat} (h : BestP P k best) (hk : P k) (hne : bitsOf k ≠ []) (hl : best = [] ∨ lessP (bitsOf k) best) : BestP P (k + 1) (bitsOf k) := by
  refine .inr ⟨k, by omega, hk, rfl, hne, fun j hj hP hlt => ?_⟩
  by_cases e : j < k
  · rcases h with ⟨rfl, h⟩ | ⟨s, h1, h2, h3, h4, h5⟩
    · exact h j e hP
    · rcases hl with hl | hl
      · exact h4 hl
      · exact h5 j e hP (lessP_trans hlt hl)
  · obtain rfl : j = k := by omega
    exact lessP_irrefl _ hlt
theorem best_end {P : Nat → Prop} {n : Nat} {best : List Nat} (h : BestP P (2 ^ n) best) : (best = [] ∧ ∀ t, t < 2 ^ n → ¬ P t) ∨ (best ≠ [] ∧ ∃ s, LeastP P n s ∧ best = bitsOf s) := by
  rcases h with h | ⟨s, h1, h2, h3, h4, h5⟩
  · exact .inl h
  · exact .inr ⟨h4, s, ⟨h1, h2, fun t ht hP => by rw [← h3]; exact h5 t ht hP⟩, h3⟩

end Go.Proofs.YtfphapcgjlhieaaDoor

/- Walks: l1Less, l12Bit, l12Set. -/
namespace Go.Proofs.YtfphapcgjlhieaaDoor
open Go.RowKit

theorem natInts_atL {l : List Nat} {k : Nat} (h : k < l.length) {h' : k < (natInts l).length} : (natInts l)[k] = ((l[k] : Nat) : Int) := by simp [natInts]
theorem lexL_at : ∀ (i : Nat) (a b : List Nat) (ha : i < a.length) (hb : i < b.length), a.take i = b.take i → a[i] ≠ b[i] → (lexL a b ↔ a[i] < b[i])
  | _, [], _, ha, _, _, _ => by simp at ha
  | _, _ :: _, [], _, hb, _, _ => by simp at hb
  | 0, x :: a, y :: b, _, _, _, hne => by
    simp only [List.getElem_cons_zero] at hne ⊢
    simp only [lexL]
    exact ⟨fun h => h.elim id fun h => absurd h.1 hne, .inl⟩
  | i + 1, x :: a, y :: b, ha, hb, ht, hne => by
    simp only [List.take_succ_cons, List.cons.injEq] at ht
    obtain ⟨rfl, ht⟩ := ht
    simp only [List.getElem_cons_succ] at hne ⊢
    simp only [lexL]
    rw [← lexL_at i a b (by simpa using ha) (by simpa using hb) ht hne]
    exact ⟨fun h => h.elim (fun h => absurd h (Nat.lt_irrefl _)) fun h => h.2, fun h => .inr ⟨trivial, h⟩⟩


theorem i64_and_nat (a b : Nat) (ha : a < 4294967296) (hb : b < 4294967296) : bits BinOp.and IntKind.i64 (a : Int) (b : Int) = ((a &&& b : Nat) : Int) :=
  (bits_nat .i64 32 (by decide) (fun n h1 h2 => by rw [IntKind.wrap_i64]; omega) a b (by omega) (by omega)).1

theorem wrap_pow (v : Nat) (hv : v < 32) : wrap64 (2 ^ v) = ((2 ^ v : Nat) : Int) := by
  have h1 := pow_lt32 v hv
  have e : (2 ^ v : Int) = ((2 ^ v : Nat) : Int) := by simp
  rw [e]
  generalize (2 ^ v : Nat) = t at *
  unfold wrap64
  omega

theorem bit_ne (s k : Nat) (hs : s < 65536) (hk : k < 17) : (bits BinOp.and IntKind.i64 (s : Int) ((2 ^ k : Nat) : Int) != 0) = s.testBit k := by
  have h1 := pow_lt32 k (by omega)
  rw [i64_and_nat _ _ (by omega) h1, Bool.eq_iff_iff]
  constructor
  · intro h
    refine Decidable.byContradiction fun hn => ?_
    have h0 : s &&& 2 ^ k = 0 := Nat.eq_of_testBit_eq fun j => by
      rw [Nat.testBit_and, Nat.testBit_two_pow, Nat.zero_testBit]
      by_cases hj : k = j
      · subst hj
        simpa using hn
      · simp [hj]
    rw [h0] at h
    simp at h
  · intro h
    have h0 : s &&& 2 ^ k ≠ 0 := fun h0 => by
      have := congrArg (fun z => z.testBit k) h0
      simp [h] at this
    simp only [bne_iff_ne, ne_eq]
    omega



def lowB (s k : Nat) : List Nat := (List.range k).filter fun i => s.testBit i
theorem lowB_len (s k : Nat) : (lowB s k).length ≤ k := Nat.le_trans (List.length_filter_le _ _) (by simp)
theorem lowB_yes {s k : Nat} (h : s.testBit k = true) : lowB s (k + 1) = lowB s k ++ [k] := by simp [lowB, List.range_succ, h]
theorem lowB_no {s k : Nat} (h : s.testBit k = false) : lowB s (k + 1) = lowB s k := by simp [lowB, List.range_succ, h]
theorem lowB_end {s k : Nat} (hs : s < 2 ^ k) (hk : k ≤ 32) : lowB s k = bitsOf s :=
  rising_ext _ _ (List.Pairwise.filter _ List.pairwise_lt_range) (bitsOf_rising s) fun x => by
    rw [mem_bitsOf, lowB, List.mem_filter, List.mem_range]
    constructor
    · rintro ⟨a, b⟩
      exact ⟨by omega, b⟩
    · rintro ⟨a, b⟩
      refine ⟨Nat.lt_of_not_le fun hge => ?_, b⟩
      have := Nat.testBit_lt_two_pow (Nat.lt_of_lt_of_le hs (Nat.pow_le_pow_right (by decide) hge) : s < 2 ^ x)
      rw [this] at b
      exact nomatch b


end Go.Proofs.YtfphapcgjlhieaaDoor
