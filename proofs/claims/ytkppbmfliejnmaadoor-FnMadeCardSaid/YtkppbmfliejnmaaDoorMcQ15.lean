/- Plain: the search of a map that fits; an order and its inverse. -/
import Derived.Test.YtkppbmfliejnmaaDoorMcQ14
import Derived.Test.YtkppbmfliejnmaaDoorMcQ6
namespace Go.Proofs.YtkppbmfliejnmaaDoor

/-! ### The search -/
/-- v fits behind what there is. -/
def okV (E F : Nat → Nat → Bool) (pre : List Nat) (v : Nat) : Prop := v ∉ pre ∧ ∀ k (h : k < pre.length), E v pre[k] = F pre.length k
/-- The first completion by r more. -/
noncomputable def fitF (n : Nat) (E F : Nat → Nat → Bool) : Nat → List Nat → Option (List Nat)
  | 0, pre => some pre
  | r + 1, pre => (List.range n).findSome? fun v => if dec (okV E F pre v) = true then fitF n E F r (pre ++ [v]) else none
/-- A map that fits. -/
def FitAll (E F : Nat → Nat → Bool) (l : List Nat) : Prop := ∀ i (h : i < l.length), okV E F (l.take i) l[i]
theorem fitF_some {n : Nat} {E F : Nat → Nat → Bool} : ∀ (r : Nat) (pre l : List Nat), fitF n E F r pre = some l → ∃ u, l = pre ++ u ∧ u.length = r ∧ (∀ x ∈ u, x < n) ∧ ∀ i (h : i < u.length), okV E F (pre ++ u.take i) u[i]
  | 0, pre, l, h => by
    simp only [fitF, Option.some.injEq] at h
    exact ⟨[], by rw [← h, List.append_nil], rfl, by simp, fun i h => by simp at h⟩
  | r + 1, pre, l, h => by
    rw [fitF, List.findSome?_eq_some_iff] at h
    obtain ⟨l1, v, l2, h1, h2, _⟩ := h
    by_cases hv : dec (okV E F pre v) = true
    · rw [if_pos hv] at h2
      obtain ⟨u, rfl, h4, h5, h6⟩ := fitF_some r _ _ h2
      have hvn : v < n := List.mem_range.1 (by rw [h1]; simp)
      refine ⟨v :: u, by simp, by simp [h4], fun x hx => ?_, fun i hi => ?_⟩
      · rcases List.mem_cons.1 hx with rfl | hx
        · exact hvn
        · exact h5 x hx
      · cases i with
        | zero => simpa using dec_iff.1 hv
        | succ i =>
          have := h6 i (by simpa using hi)
          simpa [List.append_assoc] using this
    · rw [if_neg hv] at h2
      cases h2
theorem fitF_none {n : Nat} {E F : Nat → Nat → Bool} : ∀ (r : Nat) (pre : List Nat), fitF n E F r pre = none → ∀ u : List Nat, u.length = r → (∀ x ∈ u, x < n) → ¬ ∀ i (h : i < u.length), okV E F (pre ++ u.take i) u[i]
  | 0, pre, h, u, hu, _ => by simp [fitF] at h
  | r + 1, pre, h, u, hu, hn => by
    intro hk
    cases u with
    | nil => simp at hu
    | cons v u =>
      rw [fitF, List.findSome?_eq_none_iff] at h
      have h1 := h v (List.mem_range.2 (hn v (by simp)))
      have h0 : okV E F pre v := by
        have := hk 0 (by simp)
        simpa only [List.take_zero, List.append_nil, List.getElem_cons_zero] using this
      rw [if_pos (dec_true h0)] at h1
      refine fitF_none r _ h1 u (by simpa using hu) (fun x hx => hn x (by simp [hx])) fun i hi => ?_
      have := hk (i + 1) (by simpa using hi)
      simpa [List.append_assoc] using this
/-- The tries below v. -/
noncomputable def fitTo (n : Nat) (E F : Nat → Nat → Bool) (r : Nat) (pre : List Nat) (v : Nat) : Option (List Nat) := (List.range v).findSome? fun v => if dec (okV E F pre v) = true then fitF n E F r (pre ++ [v]) else none
theorem fitTo_zero (n : Nat) (E F : Nat → Nat → Bool) (r : Nat) (pre : List Nat) : fitTo n E F r pre 0 = none := rfl
theorem fitTo_all (n : Nat) (E F : Nat → Nat → Bool) (r : Nat) (pre : List Nat) : fitTo n E F r pre n = fitF n E F (r + 1) pre := rfl
theorem fitTo_no {n : Nat} {E F : Nat → Nat → Bool} {r : Nat} {pre : List Nat} {v : Nat} (h : fitTo n E F r pre v = none) (hv : ¬ okV E F pre v) : fitTo n E F r pre (v + 1) = none := by
  unfold fitTo at h ⊢
  rw [List.range_succ, List.findSome?_append, h]
  simp [dec_false hv]
theorem fitTo_yes {n : Nat} {E F : Nat → Nat → Bool} {r : Nat} {pre : List Nat} {v : Nat} (h : fitTo n E F r pre v = none) (hv : okV E F pre v) : fitTo n E F r pre (v + 1) = fitF n E F r (pre ++ [v]) := by
  unfold fitTo at h ⊢
  rw [List.range_succ, List.findSome?_append, h]
  simp [dec_true hv]
theorem fitTo_stop {n : Nat} {E F : Nat → Nat → Bool} {r : Nat} {pre l : List Nat} : ∀ {v u : Nat}, fitTo n E F r pre v = some l → v ≤ u → fitTo n E F r pre u = some l := by
  intro v u h hvu
  induction u with
  | zero => obtain rfl : v = 0 := by omega
            exact h
  | succ u ih =>
    by_cases e : v = u + 1
    · rw [← e]; exact h
    · have := ih (by omega)
      unfold fitTo at this ⊢
      rw [List.range_succ, List.findSome?_append, this]
      rfl

/-! ### An order and its inverse -/
theorem ofG_ind {g : List (List Int)} {o : List Nat} {r j : Nat} (hr : r < o.length) (hj : j < o.length) : ofG (indL g (natInts o)) r j = ofG g o[r] o[j] := by
  unfold indL
  rw [ofG_matG (by rw [natInts_length]; exact hr) (by rw [natInts_length]; exact hj), indE_nat hr hj]
theorem ind_back {g : List (List Int)} (hg : GOk g) {o b : List Nat} (ho : o.length = g.length) (hb : b.length = g.length) (hbn : ∀ x ∈ b, x < g.length) (hob : ∀ i (h : i < b.length), o.getD b[i] 0 = i) : indL (indL g (natInts o)) (natInts b) = g := by
  have e1 : indL (indL g (natInts o)) (natInts b) = matG g.length (ofG g) := by
    rw [show indL (indL g (natInts o)) (natInts b) = matG (natInts b).length (indE (indL g (natInts o)) (natInts b)) from rfl, natInts_length, hb]
    refine matG_congr fun r j hr hj => ?_
    have hr' : r < b.length := by omega
    have hj' : j < b.length := by omega
    have h1 := hbn _ (List.getElem_mem hr')
    have h2 := hbn _ (List.getElem_mem hj')
    rw [indE_nat hr' hj', ofG_ind (by omega) (by omega)]
    have h3 := hob r hr'
    have h4 := hob j hj'
    rw [List.getD_eq_getElem?_getD, List.getElem?_eq_getElem (by omega)] at h3 h4
    simp only [Option.getD_some] at h3 h4
    rw [h3, h4]
  rw [e1, matG_ofG hg]
/-- The order itself fits. -/
theorem fit_order {g : List (List Int)} {o : List Nat} (hnd : o.Nodup) : ∀ i (h : i < o.length), okV (ofG g) (ofG (indL g (natInts o))) ([] ++ o.take i) o[i] := by
  intro i h
  rw [List.nil_append]
  refine ⟨fun hm => ?_, fun k hk => ?_⟩
  · obtain ⟨j, hj, e⟩ := List.getElem_of_mem hm
    rw [List.length_take] at hj
    rw [List.getElem_take] at e
    exact (List.pairwise_iff_getElem.1 hnd) j i (by omega) h (by omega) e
  · have hki : k < i := by rw [List.length_take] at hk; omega
    have e : (o.take i).length = i := by rw [List.length_take]; omega
    have e2 : (o.take i)[k] = o[k]'(by omega) := List.getElem_take ..
    calc ofG g o[i] (o.take i)[k] = ofG g o[i] (o[k]'(by omega)) := by rw [e2]
      _ = ofG (indL g (natInts o)) i k := (ofG_ind h (by omega)).symm
      _ = ofG (indL g (natInts o)) (o.take i).length k := by rw [e]

end Go.Proofs.YtkppbmfliejnmaaDoor

/- Plain: sets of so many, in the order of their lists; the least set that fits. -/
namespace Go.Proofs.YtkppbmfliejnmaaDoor

/-- The order of lists: where they part first says it. -/
def lexL : List Nat → List Nat → Prop
  | [], [] => False
  | [], _ :: _ => True
  | _ :: _, [] => False
  | a :: l, b :: m => a < b ∨ (a = b ∧ lexL l m)
theorem lexL_tri : ∀ a b : List Nat, ¬ lexL a b → ¬ lexL b a → a = b
  | [], [], _, _ => rfl
  | [], _ :: _, h, _ => absurd trivial h
  | _ :: _, [], _, h => absurd trivial h
  | a :: l, b :: m, h, k => by
    simp only [lexL, not_or, not_and] at h k
    obtain rfl : a = b := by omega
    rw [lexL_tri l m (h.2 rfl) (k.2 rfl)]
theorem lexL_trans : ∀ {a b c : List Nat}, lexL a b → lexL b c → lexL a c
  | _, [], [], _, k => k.elim
  | _, _ :: _, [], _, k => k.elim
  | [], _, _ :: _, _, _ => trivial
  | _ :: _, [], _, h, _ => h.elim
  | a :: l, b :: m, c :: o, h, k => by
    simp only [lexL] at h k ⊢
    rcases h with h | ⟨rfl, h⟩ <;> rcases k with k | ⟨rfl, k⟩
    · exact .inl (by omega)
    · exact .inl h
    · exact .inl k
    · exact .inr ⟨rfl, lexL_trans h k⟩
theorem lexL_irrefl : ∀ a : List Nat, ¬ lexL a a
  | [], h => h
  | a :: l, h => by
    simp only [lexL] at h
    rcases h with h | ⟨_, h⟩
    · omega
    · exact lexL_irrefl l h
/-- Shorter ones first, then by the order of lists. -/
def lessP (a b : List Nat) : Prop := a.length < b.length ∨ (a.length = b.length ∧ lexL a b)
theorem lessP_tri {a b : List Nat} (h : ¬ lessP a b) (k : ¬ lessP b a) : a = b := by
  simp only [lessP, not_or, not_and] at h k
  have e : a.length = b.length := by omega
  exact lexL_tri a b (h.2 e) (k.2 e.symm)
theorem lessP_trans {a b c : List Nat} (h : lessP a b) (k : lessP b c) : lessP a c := by
  rcases h with h | ⟨h1, h⟩ <;> rcases k with k | ⟨k1, k⟩
  · exact .inl (by omega)
  · exact .inl (by omega)
  · exact .inl (by omega)
  · exact .inr ⟨by omega, lexL_trans h k⟩
theorem lessP_irrefl (a : List Nat) : ¬ lessP a a := by
  rintro (h | ⟨_, h⟩)
  · omega
  · exact lexL_irrefl a h

theorem mask_cons (v : Nat) (T : List Nat) : mask (natInts (v :: T)) = 2 ^ v ||| mask (natInts T) := by
  refine Nat.eq_of_testBit_eq fun j => ?_
  rw [Nat.testBit_or, mask_bit, mask_bit, Nat.testBit_two_pow, Bool.eq_iff_iff, Bool.or_eq_true, decide_eq_true_iff, decide_eq_true_iff, decide_eq_true_iff, List.mem_cons]
  exact or_congr ⟨fun h => h.symm, fun h => h.symm⟩ Iff.rfl
theorem bitsOf_maskN {T : List Nat} (h : T.Pairwise (· < ·)) (h16 : ∀ x ∈ T, x < 16) : bitsOf (mask (natInts T)) = T :=
  rising_ext _ _ (bitsOf_rising _) h fun x => by
    rw [mem_bitsOf' (Nat.lt_trans (mask_nat_lt16 h16) (by decide)), mask_bit]
    simp
theorem mask_bitsOf {s : Nat} (h : s < 65536) : mask (natInts (bitsOf s)) = s := by
  refine Nat.eq_of_testBit_eq fun j => ?_
  rw [mask_bit, Bool.eq_iff_iff, decide_eq_true_iff, mem_bitsOf' (by omega)]

/-- So many from a first one on, below n. -/
structure Cand (n lo many : Nat) (T : List Nat) : Prop where
  ris : T.Pairwise (· < ·)
  inn : ∀ x ∈ T, lo ≤ x ∧ x < n
  len : T.length = many
theorem rising_room : ∀ {T : List Nat} {lo n : Nat}, T.Pairwise (· < ·) → (∀ x ∈ T, lo ≤ x ∧ x < n) → T ≠ [] → lo + T.length ≤ n
  | [], _, _, _, _, h => absurd rfl h
  | [x], lo, n, _, h, _ => by
    have := h x (by simp)
    simp
    omega
  | x :: y :: T, lo, n, h, k, _ => by
    have := rising_room (T := y :: T) (lo := lo + 1) (n := n) h.of_cons (fun z hz => ⟨by
      have h1 := (List.pairwise_cons.1 h).1 z hz
      have := k x (by simp)
      omega, (k z (List.mem_cons_of_mem _ hz)).2⟩) (by simp)
    simp at this ⊢
    omega
/-- None of them fits, put to a set. -/
def ChNo (P : Nat → Prop) (n lo many chosen : Nat) : Prop := ∀ T, Cand n lo many T → ¬ P (chosen ||| mask (natInts T))
/-- s is made by the first one that fits. -/
def ChYes (P : Nat → Prop) (n lo many chosen s : Nat) : Prop := ∃ T, Cand n lo many T ∧ s = chosen ||| mask (natInts T) ∧ P s ∧ ∀ T', Cand n lo many T' → lexL T' T → ¬ P (chosen ||| mask (natInts T'))
/-- None whose first is below v. -/
def ChTo (P : Nat → Prop) (n lo many chosen v : Nat) : Prop := ∀ x T, Cand n lo many (x :: T) → x < v → ¬ P (chosen ||| mask (natInts (x :: T)))
theorem cand_zero {n lo : Nat} {T : List Nat} (h : Cand n lo 0 T) : T = [] := List.eq_nil_of_length_eq_zero h.len
theorem cand_nil (n lo : Nat) : Cand n lo 0 [] := ⟨by simp, by simp, rfl⟩
theorem mask_nil0 : mask (natInts []) = 0 := rfl
theorem chNo_zero {P : Nat → Prop} {n lo chosen : Nat} (h : ¬ P chosen) : ChNo P n lo 0 chosen := fun T hT => by
  obtain rfl := cand_zero hT
  rw [mask_nil0, Nat.or_zero]
  exact h
theorem chYes_zero {P : Nat → Prop} {n lo chosen : Nat} (h : P chosen) : ChYes P n lo 0 chosen chosen :=
  ⟨[], cand_nil n lo, by rw [mask_nil0, Nat.or_zero], h, fun T' h1 h2 => by
    obtain rfl := cand_zero h1
    exact h2.elim⟩
theorem chTo_start (P : Nat → Prop) (n lo many chosen : Nat) : ChTo P n lo many chosen lo := fun x T h hx => by
  have := (h.inn x (by simp)).1
  omega
theorem Cand.tail {n lo many x : Nat} {T : List Nat} (h : Cand n lo (many + 1) (x :: T)) : Cand n (x + 1) many T :=
  ⟨h.ris.of_cons, fun y hy => ⟨(List.pairwise_cons.1 h.ris).1 y hy, (h.inn y (List.mem_cons_of_mem _ hy)).2⟩, by have := h.len; simpa using this⟩
theorem Cand.cons {n lo many x : Nat} {T : List Nat} (h : Cand n (x + 1) many T) (h1 : lo ≤ x) (h2 : x < n) : Cand n lo (many + 1) (x :: T) :=
  ⟨List.pairwise_cons.2 ⟨fun y hy => (h.inn y hy).1, h.ris⟩, fun y hy => by
    rcases List.mem_cons.1 hy with rfl | hy
    · exact ⟨h1, h2⟩
    · have := h.inn y hy
      omega, by simp [h.len]⟩
theorem chTo_step {P : Nat → Prop} {n lo many chosen v : Nat} (h : ChTo P n lo (many + 1) chosen v) (k : ChNo P n (v + 1) many (chosen ||| 2 ^ v)) : ChTo P n lo (many + 1) chosen (v + 1) := fun x T hc hx => by
  by_cases hv : x < v
  · exact h x T hc hv
  · obtain rfl : x = v := by omega
    rw [mask_cons, ← Nat.or_assoc]
    exact k T hc.tail
theorem chYes_step {P : Nat → Prop} {n lo many chosen v s : Nat} (h : ChTo P n lo (many + 1) chosen v) (h1 : lo ≤ v) (h2 : v < n) (k : ChYes P n (v + 1) many (chosen ||| 2 ^ v) s) : ChYes P n lo (many + 1) chosen s := by
  obtain ⟨T, hT, hs, hP, hb⟩ := k
  refine ⟨v :: T, hT.cons h1 h2, by rw [hs, mask_cons, Nat.or_assoc], hP, fun T' hT' hl => ?_⟩
  cases T' with
  | nil => exact absurd hT'.len (by simp)
  | cons x T1 =>
    rcases hl with hl | ⟨rfl, hl⟩
    · exact h x T1 hT' hl
    · rw [mask_cons, ← Nat.or_assoc]
      exact hb T1 hT'.tail hl
theorem chNo_end {P : Nat → Prop} {n lo many chosen v : Nat} (h : ChTo P n lo (many + 1) chosen v) (hv : n < v + (many + 1)) : ChNo P n lo (many + 1) chosen := fun T hT => by
  cases T with
  | nil => exact absurd hT.len (by simp)
  | cons x T1 =>
    refine h x T1 hT ?_
    have h1 := rising_room (T := x :: T1) (lo := x) (n := n) hT.ris (fun y hy => ⟨by
      rcases List.mem_cons.1 hy with rfl | hy
      · exact Nat.le_refl _
      · exact Nat.le_of_lt ((List.pairwise_cons.1 hT.ris).1 y hy), (hT.inn y hy).2⟩) (by simp)
    rw [hT.len] at h1
    omega
theorem cand_bits {n s : Nat} (hn : n ≤ 16) (hs : s < 2 ^ n) : Cand n 0 (bitsOf s).length (bitsOf s) ∧ s < 65536 := by
  have h16 : s < 65536 := Nat.lt_of_lt_of_le hs (by
    calc 2 ^ n ≤ 2 ^ 16 := Nat.pow_le_pow_right (by decide) hn
      _ = 65536 := by decide)
  refine ⟨⟨bitsOf_rising s, fun x hx => ⟨Nat.zero_le _, ?_⟩, rfl⟩, h16⟩
  rw [mem_bitsOf' (by omega)] at hx
  refine Nat.lt_of_not_le fun hge => ?_
  have := Nat.testBit_lt_two_pow (Nat.lt_of_lt_of_le hs (Nat.pow_le_pow_right (by decide) hge) : s < 2 ^ x)
  rw [this] at hx
  exact nomatch hx
theorem cand_lt {n many : Nat} {T : List Nat} (h : Cand n 0 many T) : mask (natInts T) < 2 ^ n := by
  refine Nat.lt_pow_two_of_testBit _ fun j hj => ?_
  rw [mask_bit, decide_eq_false_iff_not]
  intro hm
  have := (h.inn j hm).2
  omega
/-- The least set that fits. -/
def LeastP (P : Nat → Prop) (n s : Nat) : Prop := s < 2 ^ n ∧ P s ∧ ∀ t, t < 2 ^ n → P t → ¬ lessP (bitsOf t) (bitsOf s)
theorem leastP_det {P : Nat → Prop} {n s t : Nat} (hn : n ≤ 16) (h : LeastP P n s) (k : LeastP P n t) : s = t := by
  have e := lessP_tri (k.2.2 s h.1 h.2.1) (h.2.2 t k.1 k.2.1)
  rw [← mask_bitsOf (cand_bits hn h.1).2, ← mask_bitsOf (cand_bits hn k.1).2, e]
theorem least_ch {P : Nat → Prop} {n many s : Nat} (hn : n ≤ 16) (hno : ∀ m, m < many → ChNo P n 0 m 0) (hy : ChYes P n 0 many 0 s) : LeastP P n s := by
  obtain ⟨T, hT, hs, hP, hb⟩ := hy
  rw [Nat.zero_or] at hs
  subst hs
  have hlt := cand_lt hT
  refine ⟨hlt, hP, fun t ht hPt hl => ?_⟩
  obtain ⟨hc, h16⟩ := cand_bits hn ht
  rw [bitsOf_maskN hT.ris fun x hx => by have := (hT.inn x hx).2; omega] at hl
  rcases hl with hl | ⟨hl, hx⟩
  · rw [hT.len] at hl
    exact hno _ hl _ hc (by rw [Nat.zero_or, mask_bitsOf h16]; exact hPt)
  · rw [hT.len] at hl
    rw [hl] at hc
    exact hb _ hc hx (by rw [Nat.zero_or, mask_bitsOf h16]; exact hPt)
theorem none_ch {P : Nat → Prop} {n : Nat} (hn : n ≤ 16) (hno : ∀ m, m < n + 1 → ChNo P n 0 m 0) : ∀ t, t < 2 ^ n → ¬ P t := fun t ht hP => by
  obtain ⟨hc, h16⟩ := cand_bits hn ht
  have hlen : (bitsOf t).length < n + 1 := by
    by_cases he : bitsOf t = []
    · rw [he]; simp
    · have := rising_room hc.ris hc.inn he
      omega
  exact hno _ hlen _ hc (by rw [Nat.zero_or, mask_bitsOf h16]; exact hP)

/-- The reference's best one of those numbered below k. -/
def BestP (P : Nat → Prop) (k : Nat) (best : List Nat) : Prop := (best = [] ∧ ∀ j, j < k → ¬ P j) ∨ ∃ s, s < k ∧ P s ∧ best = bitsOf s ∧ best ≠ [] ∧ ∀ j, j < k → P j → ¬ lessP (bitsOf j) best
theorem best_start {P : Nat → Prop} (h0 : ¬ P 0) : BestP P 1 [] := .inl ⟨rfl, fun j hj => by
  obtain rfl : j = 0 := by omega
  exact h0⟩
theorem best_keep {P : Nat → Prop} {k : Nat} {best : List Nat} (h : BestP P k best) (hk : ¬ P k ∨ (best ≠ [] ∧ ¬ lessP (bitsOf k) best)) : BestP P (k + 1) best := by
  rcases h with ⟨rfl, h⟩ | ⟨s, h1, h2, h3, h4, h5⟩
  · refine .inl ⟨rfl, fun j hj => ?_⟩
    by_cases e : j < k
    · exact h j e
    · obtain rfl : j = k := by omega
      rcases hk with hk | hk
      · exact hk
      · exact absurd rfl hk.1
  · refine .inr ⟨s, by omega, h2, h3, h4, fun j hj hP => ?_⟩
    by_cases e : j < k
    · exact h5 j e hP
    · obtain rfl : j = k := by omega
      rcases hk with hk | hk
      · exact absurd hP hk
      · exact hk.2
theorem best_new {P : Nat → Prop} {k : Nat} {best : List Nat} (h : BestP P k best) (hk : P k) (hne : bitsOf k ≠ []) (hl : best = [] ∨ lessP (bitsOf k) best) : BestP P (k + 1) (bitsOf k) := by
  refine .inr ⟨k, by omega, hk, rfl, hne, fun j hj hP hlt => ?_⟩
  by_cases e : j < k
  · rcases h with ⟨rfl, h⟩ | ⟨s, h1, h2, h3, h4, h5⟩
    · exact h j e hP
    · rcases hl with hl | hl
      · exact h4 hl
      · exact h5 j e hP (lessP_trans hlt hl)
  · obtain rfl : j = k := by omega
    exact lessP_irrefl _ hlt
theorem best_end {P : Nat → Prop} {n : Nat} {best : List Nat} (h : BestP P (2 ^ n) best) : (best = [] ∧ ∀ t, t < 2 ^ n → ¬ P t) ∨ (best ≠ [] ∧ ∃ s, LeastP P n s ∧ best = bitsOf s) := by
  rcases h with h | ⟨s, h1, h2, h3, h4, h5⟩
  · exact .inl h
  · exact .inr ⟨h4, s, ⟨h1, h2, fun t ht hP => by rw [← h3]; exact h5 t ht hP⟩, h3⟩

end Go.Proofs.YtkppbmfliejnmaaDoor

/- Plain: the greatest cliques, in the order in which both find them. -/
namespace Go.Proofs.YtkppbmfliejnmaaDoor

/-- What is found with a set, those that are left, and those that may not come. -/
def clF (E : Nat → Nat → Bool) : Nat → List Nat → List Nat → List Nat → List (List Nat)
  | 0, _, _, _ => []
  | k + 1, set, left, out => if left = [] ∧ out = [] then [set] else
    (List.range left.length).flatMap fun i => clF E k (set ++ [left.getD i 0]) ((left.drop (i + 1)).filter (E (left.getD i 0))) ((out ++ left.take i).filter (E (left.getD i 0)))
def clTo (E : Nat → Nat → Bool) (k : Nat) (set left out : List Nat) (m : Nat) : List (List Nat) :=
  (List.range m).flatMap fun i => clF E k (set ++ [left.getD i 0]) ((left.drop (i + 1)).filter (E (left.getD i 0))) ((out ++ left.take i).filter (E (left.getD i 0)))
theorem clTo_zero (E : Nat → Nat → Bool) (k : Nat) (set left out : List Nat) : clTo E k set left out 0 = [] := rfl
theorem clTo_succ (E : Nat → Nat → Bool) (k : Nat) (set left out : List Nat) (m : Nat) :
    clTo E k set left out (m + 1) = clTo E k set left out m ++ clF E k (set ++ [left.getD m 0]) ((left.drop (m + 1)).filter (E (left.getD m 0))) ((out ++ left.take m).filter (E (left.getD m 0))) := by
  simp [clTo, List.range_succ, List.flatMap_append]
theorem clF_one (E : Nat → Nat → Bool) (k : Nat) (set : List Nat) : clF E (k + 1) set [] [] = [set] := by simp [clF]
theorem clF_none (E : Nat → Nat → Bool) (k : Nat) (set out : List Nat) (h : out ≠ []) : clF E (k + 1) set [] out = [] := by simp [clF, h]
theorem clF_more (E : Nat → Nat → Bool) (k : Nat) (set left out : List Nat) (h : ¬ (left = [] ∧ out = [])) : clF E (k + 1) set left out = clTo E k set left out left.length := by
  rw [clF, if_neg h]
  rfl

theorem clF_len (E : Nat → Nat → Bool) : ∀ (k : Nat) (set left out : List Nat), (clF E k set left out).length ≤ 2 ^ left.length
  | 0, _, _, _ => Nat.zero_le _
  | k + 1, set, left, out => by
    by_cases h : left = [] ∧ out = []
    · obtain ⟨rfl, rfl⟩ := h
      rw [clF_one]
      exact Nat.le_refl _
    · rw [clF_more E k set left out h]
      have main : ∀ i, i ≤ left.length → (clTo E k set left out i).length + 2 ^ (left.length - i) ≤ 2 ^ left.length := by
        intro i
        induction i with
        | zero => intro _; rw [clTo_zero]; simp
        | succ i ih =>
          intro hi
          have h1 := ih (by omega)
          have h2 := clF_len E k (set ++ [left.getD i 0]) ((left.drop (i + 1)).filter (E (left.getD i 0))) ((out ++ left.take i).filter (E (left.getD i 0)))
          have h3 : ((left.drop (i + 1)).filter (E (left.getD i 0))).length ≤ left.length - (i + 1) := Nat.le_trans (List.length_filter_le _ _) (by rw [List.length_drop]; omega)
          have h4 := Nat.pow_le_pow_right (show 0 < 2 by decide) h3
          have h5 : 2 ^ (left.length - i) = 2 ^ (left.length - (i + 1)) * 2 := by
            rw [show left.length - i = left.length - (i + 1) + 1 by omega, Nat.pow_succ]
          rw [clTo_succ, List.length_append]
          omega
      exact Nat.le_trans (Nat.le_add_right _ _) (main left.length (Nat.le_refl _))
theorem clTo_len {E : Nat → Nat → Bool} {k : Nat} {set left out : List Nat} : ∀ {i : Nat}, i ≤ left.length → (clTo E k set left out i).length + 2 ^ (left.length - i) ≤ 2 ^ left.length
  | 0, _ => by rw [clTo_zero]; simp
  | i + 1, hi => by
    have h1 := clTo_len (E := E) (k := k) (set := set) (left := left) (out := out) (i := i) (by omega)
    have h2 := clF_len E k (set ++ [left.getD i 0]) ((left.drop (i + 1)).filter (E (left.getD i 0))) ((out ++ left.take i).filter (E (left.getD i 0)))
    have h3 : ((left.drop (i + 1)).filter (E (left.getD i 0))).length ≤ left.length - (i + 1) := Nat.le_trans (List.length_filter_le _ _) (by rw [List.length_drop]; omega)
    have h4 := Nat.pow_le_pow_right (show 0 < 2 by decide) h3
    have h5 : 2 ^ (left.length - i) = 2 ^ (left.length - (i + 1)) * 2 := by
      rw [show left.length - i = left.length - (i + 1) + 1 by omega, Nat.pow_succ]
    rw [clTo_succ, List.length_append]
    omega

theorem lexL_app : ∀ (s a b : List Nat), lexL (s ++ a) (s ++ b) ↔ lexL a b
  | [], _, _ => Iff.rfl
  | x :: s, a, b => by
    simp only [List.cons_append, lexL]
    rw [lexL_app s a b]
    exact ⟨fun h => h.elim (fun h => absurd h (Nat.lt_irrefl _)) fun h => h.2, fun h => .inr ⟨trivial, h⟩⟩

/-- Each goes on from the set by some that are left, in their order. -/
theorem clF_mem (E : Nat → Nat → Bool) : ∀ (k : Nat) (set left out : List Nat), left.Pairwise (· < ·) → ∀ x ∈ clF E k set left out, ∃ T, x = set ++ T ∧ T.Pairwise (· < ·) ∧ ∀ y ∈ T, y ∈ left
  | 0, _, _, _, _, _, h => by simp [clF] at h
  | k + 1, set, left, out, hr, x, h => by
    by_cases hh : left = [] ∧ out = []
    · obtain ⟨rfl, rfl⟩ := hh
      rw [clF_one] at h
      obtain rfl : x = set := by simpa using h
      exact ⟨[], by simp, by simp, by simp⟩
    · rw [clF_more E k set left out hh, clTo, List.mem_flatMap] at h
      obtain ⟨i, hi, h⟩ := h
      rw [List.mem_range] at hi
      have hg : left.getD i 0 = left[i] := by simp [hi]
      rw [hg] at h
      obtain ⟨T, rfl, h1, h2⟩ := clF_mem E k _ _ _ ((hr.sublist (List.drop_sublist _ _)).filter _) x h
      refine ⟨left[i] :: T, by simp, List.pairwise_cons.2 ⟨fun y hy => ?_, h1⟩, fun y hy => ?_⟩
      · have hm := (List.mem_filter.1 (h2 y hy)).1
        obtain ⟨j, hj, rfl⟩ := List.getElem_of_mem hm
        rw [List.length_drop] at hj
        rw [List.getElem_drop]
        exact List.pairwise_iff_getElem.1 hr i (i + 1 + j) hi (by omega) (by omega)
      · rcases List.mem_cons.1 hy with rfl | hy
        · exact List.getElem_mem hi
        · exact List.mem_of_mem_drop (List.mem_filter.1 (h2 y hy)).1
theorem clF_sorted (E : Nat → Nat → Bool) : ∀ (k : Nat) (set left out : List Nat), left.Pairwise (· < ·) → (clF E k set left out).Pairwise lexL
  | 0, _, _, _, _ => by simp [clF]
  | k + 1, set, left, out, hr => by
    by_cases hh : left = [] ∧ out = []
    · obtain ⟨rfl, rfl⟩ := hh
      rw [clF_one]
      simp
    · rw [clF_more E k set left out hh, clTo, List.pairwise_flatMap]
      refine ⟨fun i hi => clF_sorted E k _ _ _ ((hr.sublist (List.drop_sublist _ _)).filter _), ?_⟩
      refine List.Pairwise.imp_of_mem (fun {i j} hi hj hij x hx y hy => ?_) List.pairwise_lt_range
      rw [List.mem_range] at hi hj
      obtain ⟨T, rfl, _⟩ := clF_mem E k _ _ _ ((hr.sublist (List.drop_sublist _ _)).filter _) x hx
      obtain ⟨U, rfl, _⟩ := clF_mem E k _ _ _ ((hr.sublist (List.drop_sublist _ _)).filter _) y hy
      have h1 : left.getD i 0 = left[i] := by simp [hi]
      have h2 : left.getD j 0 = left[j] := by simp [hj]
      rw [List.append_assoc, List.append_assoc, lexL_app, h1, h2]
      exact .inl (List.pairwise_iff_getElem.1 hr i j hi hj hij)

/-- What CliquesOf finds. -/
def clsP (n : Nat) (E : Nat → Nat → Bool) : List (List Nat) := clF E (n + 1) [] (List.range n) []
theorem clsP_len (n : Nat) (E : Nat → Nat → Bool) : (clsP n E).length ≤ 2 ^ n := by
  have := clF_len E (n + 1) [] (List.range n) []
  rwa [List.length_range] at this
theorem clsP_mem {n : Nat} {E : Nat → Nat → Bool} {x : List Nat} (h : x ∈ clsP n E) : x.Pairwise (· < ·) ∧ ∀ y ∈ x, y < n := by
  obtain ⟨T, rfl, h1, h2⟩ := clF_mem E _ _ _ _ List.pairwise_lt_range x h
  exact ⟨by simpa using h1, fun y hy => List.mem_range.1 (h2 y (by simpa using hy))⟩
theorem clsP_sorted (n : Nat) (E : Nat → Nat → Bool) : (clsP n E).Pairwise lexL := clF_sorted E _ _ _ _ List.pairwise_lt_range

/-- -1, 0, 1: how two lists stand to each other. -/
noncomputable def cmpL (a b : List Nat) : Int := open Classical in if lexL a b then -1 else if lexL b a then 1 else 0
theorem cmpL_lt {a b : List Nat} : cmpL a b < 0 ↔ lexL a b := by
  unfold cmpL
  by_cases h : lexL a b
  · rw [if_pos h]; exact ⟨fun _ => h, fun _ => by decide⟩
  · rw [if_neg h]
    refine ⟨fun k => ?_, fun k => absurd k h⟩
    split at k <;> exact absurd k (by decide)

/-- A sorted arrangement of what was sorted strictly is the same. -/
theorem sorted_same {α : Type} (lt : α → α → Prop) (hirr : ∀ x, ¬ lt x x) (htr : ∀ {x y z}, lt x y → lt y z → lt x z) : ∀ (l m : List α), l.Perm m → l.Pairwise lt → m.Pairwise (fun x y => ¬ lt y x) → l = m
  | [], m, hp, _, _ => (List.Perm.nil_eq hp)
  | a :: l, [], hp, _, _ => absurd hp.length_eq (by simp)
  | a :: l, b :: m, hp, hl, hm => by
    have hab : a = b := by
      have h1 : b ∈ a :: l := hp.mem_iff.2 (by simp)
      have h2 : a ∈ b :: m := hp.mem_iff.1 (by simp)
      rcases List.mem_cons.1 h1 with h | h1
      · exact h.symm
      · rcases List.mem_cons.1 h2 with h | h2
        · exact h
        · exact absurd ((List.pairwise_cons.1 hl).1 b h1) ((List.pairwise_cons.1 hm).1 a h2)
    subst hab
    rw [sorted_same lt hirr htr l m hp.cons_inv hl.of_cons hm.of_cons]

end Go.Proofs.YtkppbmfliejnmaaDoor
