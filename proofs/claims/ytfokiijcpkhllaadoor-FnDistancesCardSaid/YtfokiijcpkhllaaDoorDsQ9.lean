/- Plain: what a distance is. -/
import Derived.Test.YtfokiijcpkhllaaDoorDsQ8
import Derived.Test.YtfokiijcpkhllaaDoorDsQ7
import Derived.Test.YtfokiijcpkhllaaDoorDsQ6
namespace Go.Proofs.YtfokiijcpkhllaaDoor

/-! ### Distances -/
/-- The distance of a vertex within a set; -1 where none. -/
def IsD (E : Nat → Nat → Bool) (S : Nat → Prop) (v u : Nat) (d : Int) : Prop := (d = -1 ∧ ∀ k, ¬ LW E S v k u) ∨ ∃ m : Nat, d = m ∧ LW E S v m u ∧ ∀ k, k < m → ¬ LW E S v k u
theorem isD_same {E : Nat → Nat → Bool} {S T : Nat → Prop} (hT : ∀ x, T x → S x) {v u : Nat} {d d' : Int} (h : IsD E T v u d) (h' : IsD E S v u d') : d = d' ↔ ∀ k, LW E S v k u → LW E T v k u := by
  constructor
  · rintro rfl k hk
    rcases h' with ⟨_, h'⟩ | ⟨m, e, h1, h2⟩
    · exact absurd hk (h' k)
    · rcases h with ⟨e2, _⟩ | ⟨m2, e2, h3, _⟩
      · omega
      · obtain rfl : m = m2 := by omega
        exact h3.le (Nat.le_of_not_lt fun hlt => h2 k hlt hk)
  · intro hk
    rcases h with ⟨rfl, h⟩ | ⟨m, rfl, h1, h2⟩ <;> rcases h' with ⟨rfl, h'⟩ | ⟨m', rfl, h3, h4⟩
    · rfl
    · exact absurd (hk _ h3) (h _)
    · exact absurd (h1.mono hT) (h' _)
    · have a := hk _ h3
      have b := h1.mono hT
      have c : ¬ m' < m := fun hlt => h2 _ hlt a
      have d : ¬ m < m' := fun hlt => h4 _ hlt b
      omega
theorem isD_ex (E : Nat → Nat → Bool) (S : Nat → Prop) (v u : Nat) : ∃ d, IsD E S v u d := by
  by_cases h : ∃ k, LW E S v k u
  · obtain ⟨k, hk⟩ := h
    induction k using Nat.strongRecOn with
    | _ k ih =>
      by_cases c : ∃ i, i < k ∧ LW E S v i u
      · obtain ⟨i, h1, h2⟩ := c
        exact ih i h1 h2
      · exact ⟨k, .inr ⟨k, rfl, hk, fun i h1 h2 => c ⟨i, h1, h2⟩⟩⟩
  · exact ⟨-1, .inl ⟨rfl, fun k hk => h ⟨k, hk⟩⟩⟩


end Go.Proofs.YtfokiijcpkhllaaDoor

/- Plain: sets of so many, in the order of their lists; the least set that fits. -/
namespace Go.Proofs.YtfokiijcpkhllaaDoor

/-- The order of lists: where they part first says it. -/
def lexL : List Nat → List Nat → Prop
  | [], [] => False
  | [], _ :: _ => True
  | _ :: _, [] => False
  | a :: l, b :: m => a < b ∨ (a = b ∧ lexL l m)
theorem lexL_tri : ∀ a b : List Nat, ¬ lexL a b → ¬ lexL b a → a = b
  | [], [], _, _ => rfl
  | [], _ :: _, h, _ => absurd trivial h
  | _ :: _, [], _, h => absurd trivial h
  | a :: l, b :: m, h, k => by
    simp only [lexL, not_or, not_and] at h k
    obtain rfl : a = b := by omega
    rw [lexL_tri l m (h.2 rfl) (k.2 rfl)]
theorem lexL_trans : ∀ {a b c : List Nat}, lexL a b → lexL b c → lexL a c
  | _, [], [], _, k => k.elim
  | _, _ :: _, [], _, k => k.elim
  | [], _, _ :: _, _, _ => trivial
  | _ :: _, [], _, h, _ => h.elim
  | a :: l, b :: m, c :: o, h, k => by
    simp only [lexL] at h k ⊢
    rcases h with h | ⟨rfl, h⟩ <;> rcases k with k | ⟨rfl, k⟩
    · exact .inl (by omega)
    · exact .inl h
    · exact .inl k
    · exact .inr ⟨rfl, lexL_trans h k⟩
theorem lexL_irrefl : ∀ a : List Nat, ¬ lexL a a
  | [], h => h
  | a :: l, h => by
    simp only [lexL] at h
    rcases h with h | ⟨_, h⟩
    · omega
    · exact lexL_irrefl l h
/-- Shorter ones first, then by the order of lists. -/
def lessP (a b : List Nat) : Prop := a.length < b.length ∨ (a.length = b.length ∧ lexL a b)
theorem lessP_tri {a b : List Nat} (h : ¬ lessP a b) (k : ¬ lessP b a) : a = b := by
  simp only [lessP, not_or, not_and] at h k
  have e : a.length = b.length := by omega
  exact lexL_tri a b (h.2 e) (k.2 e.symm)
theorem lessP_trans {a b c : List Nat} (h : lessP a b) (k : lessP b c) : lessP a c := by
  rcases h with h | ⟨h1, h⟩ <;> rcases k with k | ⟨k1, k⟩
  · exact .inl (by omega)
  · exact .inl (by omega)
  · exact .inl (by omega)
  · exact .inr ⟨by omega, lexL_trans h k⟩
theorem lessP_irrefl (a : List Nat) : ¬ lessP a a := by
  rintro (h | ⟨_, h⟩)
  · omega
  · exact lexL_irrefl a h

theorem mask_cons (v : Nat) (T : List Nat) : mask (natInts (v :: T)) = 2 ^ v ||| mask (natInts T) := by
  refine Nat.eq_of_testBit_eq fun j => ?_
  rw [Nat.testBit_or, mask_bit, mask_bit, Nat.testBit_two_pow, Bool.eq_iff_iff, Bool.or_eq_true, decide_eq_true_iff, decide_eq_true_iff, decide_eq_true_iff, List.mem_cons]
  exact or_congr ⟨fun h => h.symm, fun h => h.symm⟩ Iff.rfl
theorem bitsOf_maskN {T : List Nat} (h : T.Pairwise (· < ·)) (h16 : ∀ x ∈ T, x < 16) : bitsOf (mask (natInts T)) = T :=
  rising_ext _ _ (bitsOf_rising _) h fun x => by
    rw [mem_bitsOf' (Nat.lt_trans (mask_nat_lt16 h16) (by decide)), mask_bit]
    simp
theorem mask_bitsOf {s : Nat} (h : s < 65536) : mask (natInts (bitsOf s)) = s := by
  refine Nat.eq_of_testBit_eq fun j => ?_
  rw [mask_bit, Bool.eq_iff_iff, decide_eq_true_iff, mem_bitsOf' (by omega)]

/-- So many from a first one on, below n. -/
structure Cand (n lo many : Nat) (T : List Nat) : Prop where
  ris : T.Pairwise (· < ·)
  inn : ∀ x ∈ T, lo ≤ x ∧ x < n
  len : T.length = many
theorem rising_room : ∀ {T : List Nat} {lo n : Nat}, T.Pairwise (· < ·) → (∀ x ∈ T, lo ≤ x ∧ x < n) → T ≠ [] → lo + T.length ≤ n
  | [], _, _, _, _, h => absurd rfl h
  | [x], lo, n, _, h, _ => by
    have := h x (by simp)
    simp
    omega
  | x :: y :: T, lo, n, h, k, _ => by
    have := rising_room (T := y :: T) (lo := lo + 1) (n := n) h.of_cons (fun z hz => ⟨by
      have h1 := (List.pairwise_cons.1 h).1 z hz
      have := k x (by simp)
      omega, (k z (List.mem_cons_of_mem _ hz)).2⟩) (by simp)
    simp at this ⊢
    omega
/-- None of them fits, put to a set. -/
def ChNo (P : Nat → Prop) (n lo many chosen : Nat) : Prop := ∀ T, Cand n lo many T → ¬ P (chosen ||| mask (natInts T))
/-- s is made by the first one that fits. -/
def ChYes (P : Nat → Prop) (n lo many chosen s : Nat) : Prop := ∃ T, Cand n lo many T ∧ s = chosen ||| mask (natInts T) ∧ P s ∧ ∀ T', Cand n lo many T' → lexL T' T → ¬ P (chosen ||| mask (natInts T'))
/-- None whose first is below v. -/
def ChTo (P : Nat → Prop) (n lo many chosen v : Nat) : Prop := ∀ x T, Cand n lo many (x :: T) → x < v → ¬ P (chosen ||| mask (natInts (x :: T)))
theorem cand_zero {n lo : Nat} {T : List Nat} (h : Cand n lo 0 T) : T = [] := List.eq_nil_of_length_eq_zero h.len
theorem cand_nil (n lo : Nat) : Cand n lo 0 [] := ⟨by simp, by simp, rfl⟩
theorem mask_nil0 : mask (natInts []) = 0 := rfl
theorem chNo_zero {P : Nat → Prop} {n lo chosen : Nat} (h : ¬ P chosen) : ChNo P n lo 0 chosen := fun T hT => by
  obtain rfl := cand_zero hT
  rw [mask_nil0, Nat.or_zero]
  exact h
theorem chYes_zero {P : Nat → Prop} {n lo chosen : Nat} (h : P chosen) : ChYes P n lo 0 chosen chosen :=
  ⟨[], cand_nil n lo, by rw [mask_nil0, Nat.or_zero], h, fun T' h1 h2 => by
    obtain rfl := cand_zero h1
    exact h2.elim⟩
theorem chTo_start (P : Nat → Prop) (n lo many chosen : Nat) : ChTo P n lo many chosen lo := fun x T h hx => by
  have := (h.inn x (by simp)).1
  omega
theorem Cand.tail {n lo many x : Nat} {T : List Nat} (h : Cand n lo (many + 1) (x :: T)) : Cand n (x + 1) many T :=
  ⟨h.ris.of_cons, fun y hy => ⟨(List.pairwise_cons.1 h.ris).1 y hy, (h.inn y (List.mem_cons_of_mem _ hy)).2⟩, by have := h.len; simpa using this⟩
theorem Cand.cons {n lo many x : Nat} {T : List Nat} (h : Cand n (x + 1) many T) (h1 : lo ≤ x) (h2 : x < n) : Cand n lo (many + 1) (x :: T) :=
  ⟨List.pairwise_cons.2 ⟨fun y hy => (h.inn y hy).1, h.ris⟩, fun y hy => by
    rcases List.mem_cons.1 hy with rfl | hy
    · exact ⟨h1, h2⟩
    · have := h.inn y hy
      omega, by simp [h.len]⟩
theorem chTo_step {P : Nat → Prop} {n lo many chosen v : Nat} (h : ChTo P n lo (many + 1) chosen v) (k : ChNo P n (v + 1) many (chosen ||| 2 ^ v)) : ChTo P n lo (many + 1) chosen (v + 1) := fun x T hc hx => by
  by_cases hv : x < v
  · exact h x T hc hv
  · obtain rfl : x = v := by omega
    rw [mask_cons, ← Nat.or_assoc]
    exact k T hc.tail
theorem chYes_step {P : Nat → Prop} {n lo many chosen v s : Nat} (h : ChTo P n lo (many + 1) chosen v) (h1 : lo ≤ v) (h2 : v < n) (k : ChYes P n (v + 1) many (chosen ||| 2 ^ v) s) : ChYes P n lo (many + 1) chosen s := by
  obtain ⟨T, hT, hs, hP, hb⟩ := k
  refine ⟨v :: T, hT.cons h1 h2, by rw [hs, mask_cons, Nat.or_assoc], hP, fun T' hT' hl => ?_⟩
  cases T' with
  | nil => exact absurd hT'.len (by simp)
  | cons x T1 =>
    rcases hl with hl | ⟨rfl, hl⟩
    · exact h x T1 hT' hl
    · rw [mask_cons, ← Nat.or_assoc]
      exact hb T1 hT'.tail hl
theorem chNo_end {P : Nat → Prop} {n lo many chosen v : Nat} (h : ChTo P n lo (many + 1) chosen v) (hv : n < v + (many + 1)) : ChNo P n lo (many + 1) chosen := fun T hT => by
  cases T with
  | nil => exact absurd hT.len (by simp)
  | cons x T1 =>
    refine h x T1 hT ?_
    have h1 := rising_room (T := x :: T1) (lo := x) (n := n) hT.ris (fun y hy => ⟨by
      rcases List.mem_cons.1 hy with rfl | hy
      · exact Nat.le_refl _
      · exact Nat.le_of_lt ((List.pairwise_cons.1 hT.ris).1 y hy), (hT.inn y hy).2⟩) (by simp)
    rw [hT.len] at h1
    omega
theorem cand_bits {n s : Nat} (hn : n ≤ 16) (hs : s < 2 ^ n) : Cand n 0 (bitsOf s).length (bitsOf s) ∧ s < 65536 := by
  have h16 : s < 65536 := Nat.lt_of_lt_of_le hs (by
    calc 2 ^ n ≤ 2 ^ 16 := Nat.pow_le_pow_right (by decide) hn
      _ = 65536 := by decide)
  refine ⟨⟨bitsOf_rising s, fun x hx => ⟨Nat.zero_le _, ?_⟩, rfl⟩, h16⟩
  rw [mem_bitsOf' (by omega)] at hx
  refine Nat.lt_of_not_le fun hge => ?_
  have := Nat.testBit_lt_two_pow (Nat.lt_of_lt_of_le hs (Nat.pow_le_pow_right (by decide) hge) : s < 2 ^ x)
  rw [this] at hx
  exact nomatch hx
theorem cand_lt {n many : Nat} {T : List Nat} (h : Cand n 0 many T) : mask (natInts T) < 2 ^ n := by
  refine Nat.lt_pow_two_of_testBit _ fun j hj => ?_
  rw [mask_bit, decide_eq_false_iff_not]
  intro hm
  have := (h.inn j hm).2
  omega
/-- The least set that fits. -/
def LeastP (P : Nat → Prop) (n s : Nat) : Prop := s < 2 ^ n ∧ P s ∧ ∀ t, t < 2 ^ n → P t → ¬ lessP (bitsOf t) (bitsOf s)
theorem leastP_det {P : Nat → Prop} {n s t : Nat} (hn : n ≤ 16) (h : LeastP P n s) (k : LeastP P n t) : s = t := by
  have e := lessP_tri (k.2.2 s h.1 h.2.1) (h.2.2 t k.1 k.2.1)
  rw [← mask_bitsOf (cand_bits hn h.1).2, ← mask_bitsOf (cand_bits hn k.1).2, e]
theorem least_ch {P : Nat → Prop} {n many s : Nat} (hn : n ≤ 16) (hno : ∀ m, m < many → ChNo P n 0 m 0) (hy : ChYes P n 0 many 0 s) : LeastP P n s := by
  obtain ⟨T, hT, hs, hP, hb⟩ := hy
  rw [Nat.zero_or] at hs
  subst hs
  have hlt := cand_lt hT
  refine ⟨hlt, hP, fun t ht hPt hl => ?_⟩
  obtain ⟨hc, h16⟩ := cand_bits hn ht
  rw [bitsOf_maskN hT.ris fun x hx => by have := (hT.inn x hx).2; omega] at hl
  rcases hl with hl | ⟨hl, hx⟩
  · rw [hT.len] at hl
    exact hno _ hl _ hc (by rw [Nat.zero_or, mask_bitsOf h16]; exact hPt)
  · rw [hT.len] at hl
    rw [hl] at hc
    exact hb _ hc hx (by rw [Nat.zero_or, mask_bitsOf h16]; exact hPt)
theorem none_ch {P : Nat → Prop} {n : Nat} (hn : n ≤ 16) (hno : ∀ m, m < n + 1 → ChNo P n 0 m 0) : ∀ t, t < 2 ^ n → ¬ P t := fun t ht hP => by
  obtain ⟨hc, h16⟩ := cand_bits hn ht
  have hlen : (bitsOf t).length < n + 1 := by
    by_cases he : bitsOf t = []
    · rw [he]; simp
    · have := rising_room hc.ris hc.inn he
      omega
  exact hno _ hlen _ hc (by rw [Nat.zero_or, mask_bitsOf h16]; exact hP)

/-- The reference's best one of those numbered below k. -/
def BestP (P : Nat → Prop) (k : Nat) (best : List Nat) : Prop := (best = [] ∧ ∀ j, j < k → ¬ P j) ∨ ∃ s, s < k ∧ P s ∧ best = bitsOf s ∧ best ≠ [] ∧ ∀ j, j < k → P j → ¬ lessP (bitsOf j) best
theorem best_start {P : Nat → Prop} (h0 : ¬ P 0) : BestP P 1 [] := .inl ⟨rfl, fun j hj => by
  obtain rfl : j = 0 := by omega
  exact h0⟩
theorem best_keep {P : Nat → Prop} {k : Nat} {best : List Nat} (h : BestP P k best) (hk : ¬ P k ∨ (best ≠ [] ∧ ¬ lessP (bitsOf k) best)) : BestP P (k + 1) best := by
  rcases h with ⟨rfl, h⟩ | ⟨s, h1, h2, h3, h4, h5⟩
  · refine .inl ⟨rfl, fun j hj => ?_⟩
    by_cases e : j < k
    · exact h j e
    · obtain rfl : j = k := by omega
      rcases hk with hk | hk
      · exact hk
      · exact absurd rfl hk.1
  · refine .inr ⟨s, by omega, h2, h3, h4, fun j hj hP => ?_⟩
    by_cases e : j < k
    · exact h5 j e hP
    · obtain rfl : j = k := by omega
      rcases hk with hk | hk
      · exact absurd hP hk
      · exact hk.2
theorem best_new {P : Nat → Prop} {k : Nat} {best : List Nat} (h : BestP P k best) (hk : P k) (hne : bitsOf k ≠ []) (hl : best = [] ∨ lessP (bitsOf k) best) : BestP P (k + 1) (bitsOf k) := by
  refine .inr ⟨k, by omega, hk, rfl, hne, fun j hj hP hlt => ?_⟩
  by_cases e : j < k
  · rcases h with ⟨rfl, h⟩ | ⟨s, h1, h2, h3, h4, h5⟩
    · exact h j e hP
    · rcases hl with hl | hl
      · exact h4 hl
      · exact h5 j e hP (lessP_trans hlt hl)
  · obtain rfl : j = k := by omega
    exact lessP_irrefl _ hlt
theorem best_end {P : Nat → Prop} {n : Nat} {best : List Nat} (h : BestP P (2 ^ n) best) : (best = [] ∧ ∀ t, t < 2 ^ n → ¬ P t) ∨ (best ≠ [] ∧ ∃ s, LeastP P n s ∧ best = bitsOf s) := by
  rcases h with h | ⟨s, h1, h2, h3, h4, h5⟩
  · exact .inl h
  · exact .inr ⟨h4, s, ⟨h1, h2, fun t ht hP => by rw [← h3]; exact h5 t ht hP⟩, h3⟩

end Go.Proofs.YtfokiijcpkhllaaDoor

/- Plain: the modules, in the order of size and of lists. -/
namespace Go.Proofs.YtfokiijcpkhllaaDoor

/-- Two strictly sorted lists with the same members are one. -/
theorem sorted_ext {α : Type} (lt : α → α → Prop) (hirr : ∀ x, ¬ lt x x) (htr : ∀ {x y z}, lt x y → lt y z → lt x z) : ∀ (l m : List α), l.Pairwise lt → m.Pairwise lt → (∀ x, x ∈ l ↔ x ∈ m) → l = m
  | [], [], _, _, _ => rfl
  | [], b :: m, _, _, h => absurd ((h b).2 (by simp)) (by simp)
  | a :: l, [], _, _, h => absurd ((h a).1 (by simp)) (by simp)
  | a :: l, b :: m, hl, hm, h => by
    have hla := List.pairwise_cons.1 hl
    have hmb := List.pairwise_cons.1 hm
    have hab : a = b := by
      rcases List.mem_cons.1 ((h a).1 (by simp)) with e | h1
      · exact e
      · rcases List.mem_cons.1 ((h b).2 (by simp)) with e | h2
        · exact e.symm
        · exact absurd (htr (hla.1 b h2) (hmb.1 a h1)) (hirr a)
    subst hab
    rw [sorted_ext lt hirr htr l m hla.2 hmb.2 fun x => ?_]
    constructor
    · intro hx
      rcases List.mem_cons.1 ((h x).1 (List.mem_cons_of_mem _ hx)) with e | h1
      · subst e
        exact absurd (hla.1 x hx) (hirr x)
      · exact h1
    · intro hx
      rcases List.mem_cons.1 ((h x).2 (List.mem_cons_of_mem _ hx)) with e | h1
      · subst e
        exact absurd (hmb.1 x hx) (hirr x)
      · exact h1

/-- No vertex outside splits the set. -/
def ModN (g : List (List Int)) (s : Nat) : Prop := ∀ v, v < g.length → s.testBit v = false → mask (row g v) &&& s = 0 ∨ mask (row g v) &&& s = s
/-- The sets numbered below k that are modules, sorted. -/
structure MdOn (P : Nat → Prop) (k : Nat) (L : List (List Nat)) : Prop where
  srt : L.Pairwise lessP
  mem : ∀ x, x ∈ L ↔ ∃ s, 1 ≤ s ∧ s < k ∧ P s ∧ x = bitsOf s
theorem mdOn_start (P : Nat → Prop) : MdOn P 1 [] := ⟨by simp, fun x => by
  constructor
  · intro h; simp at h
  · rintro ⟨s, h1, h2, _⟩; omega⟩
theorem mdOn_skip {P : Nat → Prop} {k : Nat} {L : List (List Nat)} (h : MdOn P k L) (hk : ¬ P k) : MdOn P (k + 1) L := ⟨h.srt, fun x => by
  rw [h.mem]
  constructor
  · rintro ⟨s, h1, h2, h3, h4⟩
    exact ⟨s, h1, by omega, h3, h4⟩
  · rintro ⟨s, h1, h2, h3, h4⟩
    by_cases e : s = k
    · subst e; exact absurd h3 hk
    · exact ⟨s, h1, by omega, h3, h4⟩⟩
theorem mdOn_put {P : Nat → Prop} {k i : Nat} {L : List (List Nat)} (h : MdOn P k L) (hk : P k) (h1 : 1 ≤ k) (hk16 : k < 65536) (hi : i ≤ L.length)
    (hhi : ∀ j (hj : j < L.length), i ≤ j → lessP (bitsOf k) L[j]) (hlo : ∀ (h0 : 0 < i), ¬ lessP (bitsOf k) (L[i - 1]'(by omega))) : MdOn P (k + 1) (L.take i ++ [bitsOf k] ++ L.drop i) := by
  have hnew : bitsOf k ∉ L := fun hm => by
    obtain ⟨s, _, h2, _, h4⟩ := (h.mem _).1 hm
    have e : mask (natInts (bitsOf k)) = mask (natInts (bitsOf s)) := by rw [h4]
    rw [mask_bitsOf hk16, mask_bitsOf (by omega)] at e
    omega
  have hlow : ∀ x ∈ L.take i, lessP x (bitsOf k) := by
    intro x hx
    obtain ⟨j, hj, rfl⟩ := List.getElem_of_mem hx
    rw [List.length_take] at hj
    rw [List.getElem_take]
    have h0 : 0 < i := by omega
    have hl := hlo h0
    have hlast : lessP (L[i - 1]'(by omega)) (bitsOf k) := by
      by_cases hc : lessP (L[i - 1]'(by omega)) (bitsOf k)
      · exact hc
      · exact absurd (lessP_tri hl hc ▸ List.getElem_mem _) hnew
    by_cases hji : j = i - 1
    · subst hji; exact hlast
    · exact lessP_trans (List.pairwise_iff_getElem.1 h.srt j (i - 1) (by omega) (by omega) (by omega)) hlast
  have hhigh : ∀ x ∈ L.drop i, lessP (bitsOf k) x := by
    intro x hx
    obtain ⟨j, hj, rfl⟩ := List.getElem_of_mem hx
    rw [List.length_drop] at hj
    rw [List.getElem_drop]
    exact hhi _ (by omega) (by omega)
  refine ⟨?_, fun x => ?_⟩
  · rw [List.append_assoc, List.pairwise_append]
    refine ⟨h.srt.sublist (List.take_sublist _ _), ?_, fun a ha b hb => ?_⟩
    · rw [List.singleton_append, List.pairwise_cons]
      exact ⟨hhigh, h.srt.sublist (List.drop_sublist _ _)⟩
    · rw [List.singleton_append] at hb
      rcases List.mem_cons.1 hb with rfl | hb
      · exact hlow a ha
      · exact lessP_trans (hlow a ha) (hhigh b hb)
  · rw [List.mem_append, List.mem_append, List.mem_singleton]
    have hx : (x ∈ L.take i ∨ x ∈ L.drop i) ↔ x ∈ L := by rw [← List.mem_append, List.take_append_drop]
    constructor
    · intro hh
      have : x = bitsOf k ∨ x ∈ L := by
        rcases hh with (hh | hh) | hh
        · exact .inr (hx.1 (.inl hh))
        · exact .inl hh
        · exact .inr (hx.1 (.inr hh))
      rcases this with rfl | hm
      · exact ⟨k, h1, by omega, hk, rfl⟩
      · obtain ⟨s, a, b, c, d⟩ := (h.mem x).1 hm
        exact ⟨s, a, by omega, c, d⟩
    · rintro ⟨s, a, b, c, d⟩
      by_cases e : s = k
      · subst e; exact .inl (.inr d)
      · rcases hx.2 ((h.mem x).2 ⟨s, a, by omega, c, d⟩) with hh | hh
        · exact .inl (.inl hh)
        · exact .inr hh
theorem mdOn_det {P : Nat → Prop} {k : Nat} {L M : List (List Nat)} (h : MdOn P k L) (h2 : MdOn P k M) : L = M :=
  sorted_ext lessP lessP_irrefl lessP_trans L M h.srt h2.srt fun x => by rw [h.mem, h2.mem]
/-- What ModulesOf returns. -/
def MdS (g gg : List (List Int)) : Prop := ((GOk g ∧ g.length ≤ 8) ∧ ∃ L, MdOn (ModN g) (2 ^ g.length) L ∧ gg = L.map natInts) ∨ (¬ (GOk g ∧ g.length ≤ 8) ∧ gg = [])
theorem mdS_det {g gg hh : List (List Int)} (h : MdS g gg) (k : MdS g hh) : gg = hh := by
  rcases h with ⟨h1, L, h2, rfl⟩ | ⟨h1, rfl⟩ <;> rcases k with ⟨k1, M, k2, rfl⟩ | ⟨k1, rfl⟩
  · rw [mdOn_det h2 k2]
  · exact absurd h1 k1
  · exact absurd k1 h1
  · rfl
/-- A sorted arrangement of the modules' numbers. -/
theorem mdOn_sorted {P : Nat → Prop} {k : Nat} (hk : k ≤ 65536) {L : List (List Nat)} (hnd : L.Nodup) (hs : L.Pairwise fun x y => ¬ lessP y x) (hm : ∀ x, x ∈ L ↔ ∃ s, 1 ≤ s ∧ s < k ∧ P s ∧ x = bitsOf s) : MdOn P k L := by
  refine ⟨?_, hm⟩
  have hb := hnd.and hs
  exact hb.imp fun {a b} hab => by
    by_cases hc : lessP a b
    · exact hc
    · exact absurd (lessP_tri hc hab.2) hab.1

end Go.Proofs.YtfokiijcpkhllaaDoor

/- Plain: the least module that contains a set; how many modules there are. -/
namespace Go.Proofs.YtfokiijcpkhllaaDoor

def SubB (s t : Nat) : Prop := ∀ v, s.testBit v = true → t.testBit v = true
theorem and_sub_zero {a s m : Nat} (h : SubB s m) (k : a &&& m = 0) : a &&& s = 0 := by
  refine Nat.eq_of_testBit_eq fun v => ?_
  have := congrArg (fun x => x.testBit v) k
  simp only [Nat.testBit_and, Nat.zero_testBit] at this ⊢
  cases hs : s.testBit v with
  | false => simp
  | true =>
    rw [h v hs] at this
    simpa using this
theorem and_sub_all {a s m : Nat} (h : SubB s m) (k : a &&& m = m) : a &&& s = s := by
  refine Nat.eq_of_testBit_eq fun v => ?_
  have := congrArg (fun x => x.testBit v) k
  simp only [Nat.testBit_and] at this ⊢
  cases hs : s.testBit v with
  | false => simp
  | true =>
    rw [h v hs] at this
    simpa using this
theorem sub_eq {s t : Nat} (h : SubB s t) (k : SubB t s) : s = t := by
  refine Nat.eq_of_testBit_eq fun v => ?_
  cases hs : s.testBit v with
  | true => exact (h v hs).symm
  | false =>
    cases ht : t.testBit v with
    | false => rfl
    | true =>
      rw [k v ht] at hs
      exact absurd hs (by decide)
theorem full_bit {n v : Nat} : (2 ^ n - 1).testBit v = decide (v < n) := Nat.testBit_two_pow_sub_one n v
theorem sub_full {s n : Nat} (h : s < 2 ^ n) : SubB s (2 ^ n - 1) := fun v hv => by
  rw [full_bit, decide_eq_true_eq]
  rcases Nat.lt_or_ge v n with h1 | h1
  · exact h1
  · have : s < 2 ^ v := Nat.lt_of_lt_of_le h (Nat.pow_le_pow_right (by decide) h1)
    rw [Nat.testBit_lt_two_pow this] at hv
    exact absurd hv (by decide)
theorem lt_of_sub {s n : Nat} (h : SubB s (2 ^ n - 1)) : s < 2 ^ n := by
  rcases Nat.lt_or_ge s (2 ^ n) with h1 | h1
  · exact h1
  · obtain ⟨v, hv, hb⟩ := Nat.exists_ge_and_testBit_of_ge_two_pow h1
    have := h v hb
    rw [full_bit, decide_eq_true_eq] at this
    omega

/-- The set s0 has grown to s, and no further than any module that contains it. -/
structure ClI (g : List (List Int)) (s0 s : Nat) : Prop where
  lt : s < 2 ^ g.length
  sup : SubB s0 s
  low : ∀ m, ModN g m → SubB s0 m → SubB s m
theorem ClI.start {g : List (List Int)} {s : Nat} (h : s < 2 ^ g.length) : ClI g s s := ⟨h, fun _ h => h, fun _ _ h => h⟩
theorem ClI.spl {g : List (List Int)} {s0 s v : Nat} (h : ClI g s0 s) (hv : v < g.length) (hs : ¬ (mask (row g v) &&& s = 0 ∨ mask (row g v) &&& s = s)) : ∀ m, ModN g m → SubB s0 m → m.testBit v = true := by
  intro m hm h0
  cases e : m.testBit v with
  | true => rfl
  | false => exact absurd ((hm v hv e).imp (and_sub_zero (h.low m hm h0)) (and_sub_all (h.low m hm h0))) hs
theorem ClI.more {g : List (List Int)} {s0 s z : Nat} (h : ClI g s0 s) (hz : ∀ v, z.testBit v = true → v < g.length ∧ ¬ (mask (row g v) &&& s = 0 ∨ mask (row g v) &&& s = s)) : ClI g s0 (s ||| z) where
  lt := lt_of_sub fun v hv => by
    rw [Nat.testBit_or, Bool.or_eq_true] at hv
    rcases hv with hv | hv
    · exact sub_full h.lt v hv
    · rw [full_bit, decide_eq_true_eq]
      exact (hz v hv).1
  sup := fun v hv => by
    rw [Nat.testBit_or, h.sup v hv]
    rfl
  low := fun m hm h0 v hv => by
    rw [Nat.testBit_or, Bool.or_eq_true] at hv
    rcases hv with hv | hv
    · exact h.low m hm h0 v hv
    · exact h.spl (hz v hv).1 (hz v hv).2 m hm h0
theorem or_grows {s z : Nat} (hz : z ≠ 0) (hd : ∀ v, z.testBit v = true → s.testBit v = false) : s < s ||| z := by
  have h1 : s ≤ s ||| z := Nat.left_le_or
  rcases Nat.lt_or_ge s (s ||| z) with h | h
  · exact h
  · exfalso
    have e : s ||| z = s := by omega
    obtain ⟨v, hv⟩ := Nat.exists_testBit_of_ne_zero hz
    have h3 := congrArg (fun x => x.testBit v) e
    simp only [Nat.testBit_or, hv, Bool.or_true, hd v hv] at h3
    exact absurd h3 (by decide)
/-- c is the least module that contains s. -/
def ClsN (g : List (List Int)) (s c : Nat) : Prop := ClI g s c ∧ ModN g c
theorem cls_det {g : List (List Int)} {s c d : Nat} (h : ClsN g s c) (k : ClsN g s d) : c = d := sub_eq (h.1.low d k.2 k.1.sup) (k.1.low c h.2 h.1.sup)
theorem cls_self {g : List (List Int)} {s c : Nat} (h : ClsN g s c) : c = s ↔ ModN g s := by
  constructor
  · intro e; rw [← e]; exact h.2
  · intro hm; exact sub_eq (h.1.low s hm fun _ h => h) h.1.sup
/-- A module that is not all contains the set. -/
def PrmP (g : List (List Int)) (s : Nat) : Prop := ∃ m, ModN g m ∧ SubB s m ∧ m < 2 ^ g.length ∧ m ≠ 2 ^ g.length - 1
theorem cls_prm {g : List (List Int)} {s c : Nat} (h : ClsN g s c) : c ≠ 2 ^ g.length - 1 ↔ PrmP g s := by
  constructor
  · intro e; exact ⟨c, h.2, h.1.sup, h.1.lt, e⟩
  · rintro ⟨m, h1, h2, h3, h4⟩ e
    refine h4 (sub_eq (sub_full h3) ?_)
    rw [← e]
    exact h.1.low m h1 h2

theorem sub_len {α : Type} [DecidableEq α] : ∀ (l m : List α), l.Nodup → (∀ x ∈ l, x ∈ m) → l.length ≤ m.length
  | [], _, _, _ => Nat.zero_le _
  | a :: l, m, hl, h => by
    have ha := h a (List.mem_cons_self ..)
    have hn := List.nodup_cons.1 hl
    have ih := sub_len l (m.erase a) hn.2 fun x hx => (List.mem_erase_of_ne (fun e => hn.1 (by rw [← e]; exact hx))).2 (h x (List.mem_cons_of_mem _ hx))
    have h1 := List.length_erase_of_mem ha
    have h2 := List.length_pos_of_mem ha
    rw [List.length_cons]
    omega
theorem bit_one {i v : Nat} : (2 ^ i).testBit v = decide (i = v) := Nat.testBit_two_pow
/-- Single vertices are modules, and so is the whole. -/
theorem mod_one {g : List (List Int)} (i : Nat) : ModN g (2 ^ i) := fun v _ _ => by
  cases h : (mask (row g v)).testBit i with
  | false =>
    left
    refine Nat.eq_of_testBit_eq fun u => ?_
    rw [Nat.testBit_and, bit_one, Nat.zero_testBit]
    by_cases e : i = u
    · subst e; simp [h]
    · simp [e]
  | true =>
    right
    refine Nat.eq_of_testBit_eq fun u => ?_
    rw [Nat.testBit_and, bit_one]
    by_cases e : i = u
    · subst e; simp [h]
    · simp [e]
theorem mod_full {g : List (List Int)} : ModN g (2 ^ g.length - 1) := fun v hv h => by
  rw [full_bit, decide_eq_false_iff_not] at h
  exact absurd hv h
def numsM (L : List (List Nat)) : List Nat := L.map fun l => mask (natInts l)
theorem mem_numsM {P : Nat → Prop} {k : Nat} {L : List (List Nat)} (hk : k ≤ 65536) (h : MdOn P k L) (s : Nat) : s ∈ numsM L ↔ 1 ≤ s ∧ s < k ∧ P s := by
  unfold numsM
  rw [List.mem_map]
  constructor
  · rintro ⟨l, hl, rfl⟩
    obtain ⟨t, h1, h2, h3, rfl⟩ := (h.mem l).1 hl
    rw [mask_bitsOf (by omega)]
    exact ⟨h1, h2, h3⟩
  · rintro ⟨h1, h2, h3⟩
    exact ⟨bitsOf s, (h.mem _).2 ⟨s, h1, h2, h3, rfl⟩, mask_bitsOf (by omega)⟩
theorem nodup_numsM {P : Nat → Prop} {k : Nat} {L : List (List Nat)} (_hk : k ≤ 65536) (h : MdOn P k L) : (numsM L).Nodup := by
  unfold numsM
  rw [List.Nodup, List.pairwise_map]
  refine h.srt.imp_of_mem fun {a b} ha hb hab e => ?_
  obtain ⟨s, _, h2, _, rfl⟩ := (h.mem _).1 ha
  obtain ⟨t, _, k2, _, rfl⟩ := (h.mem _).1 hb
  rw [mask_bitsOf (by omega), mask_bitsOf (by omega)] at e
  subst e
  exact lessP_irrefl _ hab
def onesK (n : Nat) : List Nat := (List.range n).map fun i => 2 ^ i
theorem nodup_ones (n : Nat) : (onesK n).Nodup := by
  unfold onesK
  rw [List.Nodup, List.pairwise_map]
  exact List.pairwise_lt_range.imp fun {a b} h e => by
    have : (2 : Nat) ^ a < 2 ^ b := Nat.pow_lt_pow_right (by decide) h
    omega
theorem mem_ones {n s : Nat} : s ∈ onesK n ↔ ∃ i, i < n ∧ s = 2 ^ i := by
  unfold onesK
  rw [List.mem_map]
  exact ⟨fun ⟨i, h, e⟩ => ⟨i, List.mem_range.1 h, e.symm⟩, fun ⟨i, h, e⟩ => ⟨i, List.mem_range.2 h, e.symm⟩⟩
theorem two_le (n : Nat) (h16 : n ≤ 16) : 2 ^ n ≤ 65536 := Nat.le_trans (Nat.pow_le_pow_right (by decide) h16) (by decide)
theorem md_many {g : List (List Int)} {L : List (List Nat)} (h16 : g.length ≤ 16) (h : MdOn (ModN g) (2 ^ g.length) L) : g.length ≤ L.length := by
  have := sub_len (onesK g.length) (numsM L) (nodup_ones _) fun s hs => by
    obtain ⟨i, hi, rfl⟩ := mem_ones.1 hs
    exact (mem_numsM (two_le _ h16) h _).2 ⟨Nat.two_pow_pos i, Nat.pow_lt_pow_right (by decide) hi, mod_one i⟩
  simpa [onesK, numsM] using this
theorem full_ne_one {n i : Nat} (hn : 2 ≤ n) (hi : i < n) : 2 ^ n - 1 ≠ 2 ^ i := by
  have h1 : (2 : Nat) ^ n = 2 * 2 ^ (n - 1) := by
    obtain ⟨k, rfl⟩ : ∃ k, n = k + 1 := ⟨n - 1, by omega⟩
    rw [Nat.pow_succ, Nat.add_sub_cancel]; omega
  have h2 : (2 : Nat) ^ i ≤ 2 ^ (n - 1) := Nat.pow_le_pow_right (by decide) (by omega)
  have h3 : (2 : Nat) ^ 1 ≤ 2 ^ (n - 1) := Nat.pow_le_pow_right (by decide) (by omega)
  omega
/-- One more than the vertices: just where no other module has two vertices. -/
theorem md_prime {g : List (List Int)} {L : List (List Nat)} (h2 : 2 ≤ g.length) (h16 : g.length ≤ 16) (h : MdOn (ModN g) (2 ^ g.length) L) :
    L.length = g.length + 1 ↔ ∀ i k, i < k → k < g.length → ¬ PrmP g (2 ^ i ||| 2 ^ k) := by
  have hl : (numsM L).length = L.length := by simp [numsM]
  have ho : (onesK g.length).length = g.length := by simp [onesK]
  have hp : 2 < 2 ^ g.length := by
    have : (2 : Nat) ^ 2 ≤ 2 ^ g.length := Nat.pow_le_pow_right (by decide) h2
    omega
  have hfull : 2 ^ g.length - 1 ∈ numsM L := (mem_numsM (two_le _ h16) h _).2 ⟨by omega, by omega, mod_full⟩
  have hones : ∀ s ∈ onesK g.length, s ∈ numsM L := fun s hs => by
    obtain ⟨i, hi, rfl⟩ := mem_ones.1 hs
    exact (mem_numsM (two_le _ h16) h _).2 ⟨Nat.two_pow_pos i, Nat.pow_lt_pow_right (by decide) hi, mod_one i⟩
  have hnd : (onesK g.length ++ [2 ^ g.length - 1]).Nodup := by
    rw [List.Nodup, List.pairwise_append]
    refine ⟨nodup_ones _, by simp, fun a ha b hb e => ?_⟩
    obtain ⟨i, hi, rfl⟩ := mem_ones.1 ha
    rw [List.mem_singleton] at hb
    subst hb
    exact full_ne_one h2 hi e.symm
  have hge := sub_len _ (numsM L) hnd fun s hs => by
    rcases List.mem_append.1 hs with h1 | h1
    · exact hones s h1
    · rw [List.mem_singleton] at h1; subst h1; exact hfull
  rw [List.length_append, List.length_singleton, ho, hl] at hge
  constructor
  · rintro he i k hik hk ⟨m, m1, m2, m3, m4⟩
    have hbi : m.testBit i = true := m2 i (by rw [Nat.testBit_or, bit_one]; simp)
    have hbk : m.testBit k = true := m2 k (by rw [Nat.testBit_or, bit_one, bit_one]; simp)
    have hm0 : m ≠ 0 := fun e => by rw [e] at hbi; simp at hbi
    have hm1 : m ∉ onesK g.length ++ [2 ^ g.length - 1] := fun hm => by
      rcases List.mem_append.1 hm with h1 | h1
      · obtain ⟨j, _, rfl⟩ := mem_ones.1 h1
        rw [bit_one, decide_eq_true_eq] at hbi hbk
        omega
      · rw [List.mem_singleton] at h1
        exact m4 h1
    have := sub_len (m :: (onesK g.length ++ [2 ^ g.length - 1])) (numsM L) (List.nodup_cons.2 ⟨hm1, hnd⟩) fun s hs => by
      rcases List.mem_cons.1 hs with rfl | hs
      · exact (mem_numsM (two_le _ h16) h _).2 ⟨by omega, m3, m1⟩
      · rcases List.mem_append.1 hs with h1 | h1
        · exact hones s h1
        · rw [List.mem_singleton] at h1; subst h1; exact hfull
    rw [List.length_cons, List.length_append, List.length_singleton, ho, hl] at this
    omega
  · intro hno
    have := sub_len (numsM L) (onesK g.length ++ [2 ^ g.length - 1]) (nodup_numsM (two_le _ h16) h) fun s hs => by
      obtain ⟨s1, s2, s3⟩ := (mem_numsM (two_le _ h16) h _).1 hs
      obtain ⟨i, hi⟩ := Nat.exists_testBit_of_ne_zero (show s ≠ 0 by omega)
      have hin : i < g.length := by
        have := sub_full s2 i hi
        rwa [full_bit, decide_eq_true_eq] at this
      by_cases he : ∃ k, k ≠ i ∧ s.testBit k = true
      · obtain ⟨k, hk, hkb⟩ := he
        have hkn : k < g.length := by
          have := sub_full s2 k hkb
          rwa [full_bit, decide_eq_true_eq] at this
        refine List.mem_append_right _ (List.mem_singleton.2 ?_)
        by_cases hf : s = 2 ^ g.length - 1
        · exact hf
        · exfalso
          rcases Nat.lt_or_ge i k with hik | hik
          · refine hno i k hik hkn ⟨s, s3, fun v hv => ?_, s2, hf⟩
            rw [Nat.testBit_or, bit_one, bit_one, Bool.or_eq_true, decide_eq_true_eq, decide_eq_true_eq] at hv
            rcases hv with rfl | rfl
            · exact hi
            · exact hkb
          · refine hno k i (by omega) hin ⟨s, s3, fun v hv => ?_, s2, hf⟩
            rw [Nat.testBit_or, bit_one, bit_one, Bool.or_eq_true, decide_eq_true_eq, decide_eq_true_eq] at hv
            rcases hv with rfl | rfl
            · exact hkb
            · exact hi
      · refine List.mem_append_left _ (mem_ones.2 ⟨i, hin, Nat.eq_of_testBit_eq fun v => ?_⟩)
        rw [bit_one]
        by_cases e : i = v
        · subst e; simp [hi]
        · cases hv : s.testBit v with
          | false => simp [e]
          | true => exact absurd ⟨v, fun h => e h.symm, hv⟩ he
    rw [List.length_append, List.length_singleton, ho, hl] at this
    omega

end Go.Proofs.YtfokiijcpkhllaaDoor
