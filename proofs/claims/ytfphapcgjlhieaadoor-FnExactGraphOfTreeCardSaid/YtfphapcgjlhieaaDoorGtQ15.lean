/- Plain: the sets of the nodes of a tree; what the program and the reference ask of a tree is the same. -/
import Derived.Test.YtfphapcgjlhieaaDoorGtQ14
namespace Go.Proofs.YtfphapcgjlhieaaDoor

theorem getD_atT {α : Type} {l : List α} {i : Nat} {d : α} (h : i < l.length) : l.getD i d = l[i] := by simp [h]
/-- The union of the sets of some nodes. -/
def orM (M : List Nat) (l : List Int) : Nat := l.foldl (fun a k => a ||| M.getD k.toNat 0) 0
theorem orM_snoc (M : List Nat) (l : List Int) (k : Int) : orM M (l ++ [k]) = orM M l ||| M.getD k.toNat 0 := by simp [orM]
theorem orM_bit (M : List Nat) (l : List Int) (j : Nat) : (orM M l).testBit j = true ↔ ∃ k ∈ l, (M.getD k.toNat 0).testBit j = true := by
  have key : ∀ (l : List Int) (a : Nat), (l.foldl (fun a k => a ||| M.getD k.toNat 0) a).testBit j = true ↔ a.testBit j = true ∨ ∃ k ∈ l, (M.getD k.toNat 0).testBit j = true := by
    intro l
    induction l with
    | nil => intro a; simp
    | cons k l ih =>
      intro a
      rw [List.foldl_cons, ih, Nat.testBit_or, Bool.or_eq_true, or_assoc]
      simp
  unfold orM
  rw [key]
  simp
theorem orM_congr {M M' : List Nat} {l : List Int} (h : ∀ k ∈ l, M.getD k.toNat 0 = M'.getD k.toNat 0) : orM M l = orM M' l := by
  refine Nat.eq_of_testBit_eq fun j => ?_
  rw [Bool.eq_iff_iff, orM_bit, orM_bit]
  constructor
  · rintro ⟨k, hk, hb⟩; exact ⟨k, hk, by rw [← h k hk]; exact hb⟩
  · rintro ⟨k, hk, hb⟩; exact ⟨k, hk, by rw [h k hk]; exact hb⟩
def msk1 (M : List Nat) (p : Pt) : Nat := if p.k = 1 then 2 ^ p.v.toNat else orM M p.s
/-- The sets of the leaves of all nodes. -/
def mskT (ts : List Pt) : List Nat := ts.foldl (fun M p => M ++ [msk1 M p]) []
theorem mskT_snoc (ts : List Pt) (p : Pt) : mskT (ts ++ [p]) = mskT ts ++ [msk1 (mskT ts) p] := by simp [mskT]
theorem snoc_split {α : Type} : ∀ (l : List α), l = [] ∨ ∃ a x, l = a ++ [x]
  | [] => .inl rfl
  | x :: l => by
    rcases snoc_split l with rfl | ⟨a, y, rfl⟩
    · exact .inr ⟨[], x, rfl⟩
    · exact .inr ⟨x :: a, y, rfl⟩
theorem mskT_len : ∀ (n : Nat) (ts : List Pt), ts.length = n → (mskT ts).length = n
  | 0, ts, h => by
    obtain rfl := List.eq_nil_of_length_eq_zero h
    rfl
  | n + 1, ts, h => by
    rcases snoc_split ts with rfl | ⟨a, x, rfl⟩
    · simp at h
    · rw [mskT_snoc, List.length_append, mskT_len n a (by simpa using h)]
      rfl
theorem mskT_length (ts : List Pt) : (mskT ts).length = ts.length := mskT_len _ ts rfl
theorem mskT_pre : ∀ (n : Nat) (a b : List Pt), b.length = n → ∃ r, mskT (a ++ b) = mskT a ++ r
  | 0, a, b, h => by
    obtain rfl := List.eq_nil_of_length_eq_zero h
    exact ⟨[], by simp⟩
  | n + 1, a, b, h => by
    rcases snoc_split b with rfl | ⟨c, x, rfl⟩
    · simp at h
    · obtain ⟨r, hr⟩ := mskT_pre n a c (by simpa using h)
      exact ⟨r ++ [msk1 (mskT (a ++ c)) x], by rw [← List.append_assoc, mskT_snoc, hr, List.append_assoc]⟩
theorem mskT_take (ts : List Pt) (i : Nat) (hi : i ≤ ts.length) : mskT (ts.take i) = (mskT ts).take i := by
  obtain ⟨r, hr⟩ := mskT_pre _ (ts.take i) (ts.drop i) rfl
  rw [List.take_append_drop] at hr
  rw [hr, List.take_left' (by rw [mskT_length, List.length_take]; omega)]
theorem getD_take {M : List Nat} {i k : Nat} (h : k < i) : (M.take i).getD k 0 = M.getD k 0 := by
  rw [List.getD_eq_getElem?_getD, List.getD_eq_getElem?_getD, List.getElem?_take, if_pos h]
theorem mskT_at {ts : List Pt} {j : Nat} {p : Pt} (hp : ts[j]? = some p) : (mskT ts).getD j 0 = msk1 ((mskT ts).take j) p := by
  have hj := (List.getElem?_eq_some_iff.1 hp).1
  have e : ts.take (j + 1) = ts.take j ++ [p] := by
    rw [List.take_succ_eq_append_getElem hj, (List.getElem?_eq_some_iff.1 hp).2]
  have h1 := mskT_take ts (j + 1) (by omega)
  rw [e, mskT_snoc, mskT_take ts j (by omega)] at h1
  have h2 : ((mskT ts).take (j + 1)).getD j 0 = (mskT ts).getD j 0 := getD_take (by omega)
  rw [← h2, ← h1, List.getD_eq_getElem?_getD, List.getElem?_append_right (by rw [List.length_take, mskT_length]; omega)]
  rw [List.length_take, mskT_length, show j - min j ts.length = 0 by omega]
  rfl
theorem msk1_take {M : List Nat} {p : Pt} {j : Nat} (h : ∀ k ∈ p.s, 0 ≤ k ∧ k < j) : msk1 (M.take j) p = msk1 M p := by
  unfold msk1
  rw [orM_congr fun k hk => getD_take (by have := h k hk; omega)]
theorem mskT_good {ts : List Pt} {j : Nat} (h : GoodN ts j) : ∃ p, ts[j]? = some p ∧ ((LeafP p ∧ (mskT ts).getD j 0 = 2 ^ p.v.toNat) ∨ (InnP p ∧ (∀ k ∈ p.s, 0 ≤ k ∧ k < j) ∧ (mskT ts).getD j 0 = orM (mskT ts) p.s)) := by
  obtain ⟨p, hp, h⟩ := h
  refine ⟨p, hp, ?_⟩
  rcases h with h | ⟨h, h2⟩
  · refine .inl ⟨h, ?_⟩
    rw [mskT_at hp, msk1, if_pos h.1]
  · refine .inr ⟨h, h2, ?_⟩
    rw [mskT_at hp, msk1_take h2, msk1, if_neg (by rcases h.1 with h | h | h <;> omega)]
theorem msk_ok {ts : List Pt} : ∀ (i : Nat), (∀ j, j < i → GoodN ts j) → ∀ j, j < i → (mskT ts).getD j 0 < 65536 ∧ (mskT ts).getD j 0 ≠ 0
  | 0, _, j, hj => by omega
  | i + 1, h, j, hj => by
    have ih := msk_ok i (fun j hj => h j (by omega))
    by_cases e : j < i
    · exact ih j e
    obtain rfl : j = i := by omega
    obtain ⟨p, hp, ⟨h1, h2⟩ | ⟨h1, h2, h3⟩⟩ := mskT_good (h j hj)
    · rw [h2]
      refine ⟨pow_lt16 _ (by have := h1.2.1; have := h1.2.2.1; omega), ?_⟩
      have := Nat.two_pow_pos p.v.toNat
      omega
    · rw [h3]
      constructor
      · refine Nat.lt_of_not_le fun hle => ?_
        obtain ⟨b, hb, hbit⟩ : ∃ b, 16 ≤ b ∧ (orM (mskT ts) p.s).testBit b = true := Nat.exists_ge_and_testBit_of_ge_two_pow (n := 16) (by simpa using hle)
        obtain ⟨k, hk, hkb⟩ := (orM_bit _ _ _).1 hbit
        have hk2 := h2 k hk
        have := (ih k.toNat (by omega)).1
        rw [Nat.testBit_lt_two_pow (Nat.lt_of_lt_of_le this (by have := Nat.pow_le_pow_right (n := 2) (by decide) hb; simpa using this))] at hkb
        cases hkb
      · intro h0
        have hl := h1.2.2
        obtain ⟨k, hk⟩ : ∃ k, k ∈ p.s := ⟨p.s[0]'(by omega), List.getElem_mem _⟩
        have hk2 := h2 k hk
        have h4 := ih k.toNat (by omega)
        refine h4.2 (Nat.eq_of_testBit_eq fun b => ?_)
        rw [Nat.zero_testBit, Bool.eq_false_iff]
        intro hb
        have := (orM_bit _ _ _).2 ⟨k, hk, hb⟩
        rw [h0, Nat.zero_testBit] at this
        cases this

/-- How many a set has. -/
def cn (s : Nat) : Nat := (bitsOf s).length
theorem cn_count (s : Nat) : cn s = (List.range 32).countP fun i => s.testBit i := by
  unfold cn bitsOf
  rw [List.countP_eq_length_filter]
theorem countP_or_and {α : Type} (p q : α → Bool) : ∀ l : List α, l.countP (fun x => p x || q x) + l.countP (fun x => p x && q x) = l.countP p + l.countP q
  | [] => rfl
  | x :: l => by
    have ih := countP_or_and p q l
    rw [List.countP_cons, List.countP_cons, List.countP_cons, List.countP_cons]
    cases p x <;> cases q x <;> simp <;> omega
theorem cn_or (s t : Nat) : cn (s ||| t) + cn (s &&& t) = cn s + cn t := by
  rw [cn_count, cn_count, cn_count, cn_count]
  simp only [Nat.testBit_or, Nat.testBit_and]
  exact countP_or_and _ _ _
theorem cn_zero {s : Nat} (h : s < 4294967296) : cn s = 0 ↔ s = 0 := by
  constructor
  · intro h0
    have h1 := List.eq_nil_of_length_eq_zero h0
    refine Nat.eq_of_testBit_eq fun i => ?_
    rw [Nat.zero_testBit, Bool.eq_false_iff]
    intro hb
    have := (mem_bitsOf' h).2 hb
    rw [h1] at this
    cases this
  · rintro rfl
    unfold cn
    rw [bitsOf_zero]
    rfl
theorem bits_pow {v : Nat} (h : v < 32) : bitsOf (2 ^ v) = [v] :=
  rising_ext _ _ (bitsOf_rising _) (by simp) fun x => by
    rw [mem_bitsOf' (pow_lt32 v h), testBit_pow, decide_eq_true_iff, List.mem_singleton]
    exact eq_comm
theorem cn_pow {v : Nat} (h : v < 32) : cn (2 ^ v) = 1 := by unfold cn; rw [bits_pow h]; rfl
theorem cn_le16 {s : Nat} (h : s < 65536) : cn s ≤ 16 := by
  have h2 : (List.range 32).countP (fun i => s.testBit i) ≤ (List.range 32).countP (fun i => decide (i < 16)) := by
    refine List.countP_mono_left fun x hx hb => ?_
    exact decide_eq_true (bitsOf_lt16 h (mem_bitsOf.2 ⟨List.mem_range.1 hx, hb⟩))
  have h3 : (List.range 32).countP (fun i => decide (i < 16)) = 16 := by decide
  rw [cn_count]
  omega

def sumC (M : List Nat) (l : List Int) : Nat := (l.map fun k => cn (M.getD k.toNat 0)).sum
/-- The sets of the kids have nothing in common. -/
def DisP (M : List Nat) (p : Pt) : Prop := ∀ m, m < p.s.length → orM M (p.s.take m) &&& M.getD (p.s.getD m 0).toNat 0 = 0
theorem orM_cnt {M : List Nat} {l : List Int} (hM : ∀ k ∈ l, M.getD k.toNat 0 < 65536) : ∀ n, n ≤ l.length →
    cn (orM M (l.take n)) ≤ sumC M (l.take n) ∧ (cn (orM M (l.take n)) = sumC M (l.take n) ↔ ∀ m, m < n → orM M (l.take m) &&& M.getD (l.getD m 0).toNat 0 = 0)
  | 0, _ => ⟨by simp [orM, sumC, cn, bitsOf_zero], by simp [orM, sumC, cn, bitsOf_zero]⟩
  | n + 1, hn => by
    obtain ⟨h1, h2⟩ := orM_cnt hM n (by omega)
    have e : l.take (n + 1) = l.take n ++ [l[n]] := List.take_succ_eq_append_getElem (by omega)
    have eg : l.getD n 0 = l[n] := by simp [show n < l.length by omega]
    have es : sumC M (l.take (n + 1)) = sumC M (l.take n) + cn (M.getD l[n].toNat 0) := by
      simp only [sumC, e, List.map_append, List.map_cons, List.map_nil, List.sum_append, List.sum_cons, List.sum_nil, Nat.add_zero]
    have hm := hM l[n] (List.getElem_mem _)
    have ho := cn_or (orM M (l.take n)) (M.getD l[n].toNat 0)
    have hz : cn (orM M (l.take n) &&& M.getD l[n].toNat 0) = 0 ↔ orM M (l.take n) &&& M.getD l[n].toNat 0 = 0 := cn_zero (Nat.lt_of_le_of_lt Nat.and_le_right (by omega))
    rw [es, e, orM_snoc]
    refine ⟨by omega, ?_⟩
    constructor
    · intro heq m hm
      have h3 : cn (orM M (l.take n)) = sumC M (l.take n) := by omega
      by_cases em : m = n
      · rw [em, eg]; exact hz.1 (by omega)
      · exact h2.1 h3 m (by omega)
    · intro hall
      have h3 := h2.2 fun m hm => hall m (by omega)
      have h4 := hall n (by omega)
      rw [eg] at h4
      have := hz.2 h4
      omega

def dsum (M : List Nat) (R : List Nat) : Nat := (R.map fun r => cn (M.getD r 0)).sum
theorem sumC_nat (M R : List Nat) : sumC M (natInts R) = dsum M R := by simp [sumC, dsum, natInts, Function.comp_def]
theorem sumC_rev (M : List Nat) (l : List Int) : sumC M l.reverse = sumC M l := by simp [sumC]
theorem dsum_app (M A B : List Nat) : dsum M (A ++ B) = dsum M A + dsum M B := by simp [dsum]
/-- The leaves of a list of nodes. -/
def lvs (ts : List Pt) : Nat := ts.countP fun p => decide (p.k = 1)
theorem lvs_snoc (ts : List Pt) (p : Pt) : lvs (ts ++ [p]) = lvs ts + (if p.k = 1 then 1 else 0) := by
  unfold lvs; rw [List.countP_append, List.countP_singleton]; simp
theorem sc_count {ts : List Pt} : ∀ (i : Nat) (R : List Nat), scT ts i 0 [] = some R →
    dsum (mskT ts) R ≤ lvs (ts.take i) ∧ (dsum (mskT ts) R = lvs (ts.take i) ↔ ∀ (j : Nat) (p : Pt), j < i → ts[j]? = some p → DisP (mskT ts) p) ∧ i + R.length ≤ 2 * lvs (ts.take i)
  | 0, R, h => by
    obtain rfl : [] = R := Option.some.inj h
    refine ⟨Nat.zero_le _, ⟨fun _ j p hj => by omega, fun _ => rfl⟩, Nat.le_refl _⟩
  | i + 1, R, h => by
    have hg := sc_good _ _ h
    rw [scT_snoc] at h
    cases hs : scT ts i 0 [] with
    | none => rw [hs] at h; cases h
    | some R0 =>
      rw [hs] at h
      obtain ⟨c1, c2, c3⟩ := sc_count i R0 hs
      have hmk := msk_ok (ts := ts) (i + 1) hg.2
      obtain ⟨p, hp, hh⟩ := stT_some h
      have hi := (List.getElem?_eq_some_iff.1 hp).1
      have et : ts.take (i + 1) = ts.take i ++ [p] := by
        rw [List.take_succ_eq_append_getElem hi, (List.getElem?_eq_some_iff.1 hp).2]
      rw [et, lvs_snoc]
      obtain ⟨p', hp', hmp⟩ := mskT_good (hg.2 i (by omega))
      obtain rfl : p = p' := Option.some.inj (hp.symm.trans hp')
      rcases hh with ⟨h1, rfl⟩ | ⟨h1, h2, rfl⟩
      · rcases hmp with ⟨_, hm⟩ | ⟨hn, _⟩
        · have e1 : dsum (mskT ts) (i :: R0) = 1 + dsum (mskT ts) R0 := by
            show cn ((mskT ts).getD i 0) + dsum (mskT ts) R0 = _
            rw [hm, cn_pow (by have := h1.2.1; have := h1.2.2.1; omega)]
          rw [e1, if_pos h1.1, List.length_cons]
          refine ⟨by omega, ?_, by omega⟩
          rw [show (1 + dsum (mskT ts) R0 = lvs (ts.take i) + 1 ↔ dsum (mskT ts) R0 = lvs (ts.take i)) by omega, c2]
          refine ⟨fun h j q hj hq => ?_, fun h j q hj hq => h j q (by omega) hq⟩
          by_cases ej : j = i
          · subst ej
            obtain rfl : p = q := Option.some.inj (hp.symm.trans hq)
            intro m hm
            rw [h1.2.2.2] at hm
            cases hm
          · exact h j q (by omega) hq
        · exact absurd hn (leaf_not_inn h1)
      · rcases hmp with ⟨hl, _⟩ | ⟨_, hk, hm⟩
        · exact absurd h1 (leaf_not_inn hl)
        · have hk1 : ¬ p.k = 1 := by rcases h1.1 with h | h | h <;> omega
          have hMk : ∀ k ∈ p.s, (mskT ts).getD k.toNat 0 < 65536 := fun k hk' => (hmk k.toNat (by have := hk k hk'; omega)).1
          obtain ⟨o1, o2⟩ := orM_cnt hMk p.s.length (Nat.le_refl _)
          rw [List.take_length] at o1 o2
          have e1 : dsum (mskT ts) (i :: R0.drop p.s.length) = cn (orM (mskT ts) p.s) + dsum (mskT ts) (R0.drop p.s.length) := by
            show cn ((mskT ts).getD i 0) + dsum (mskT ts) _ = _
            rw [hm]
          have e2 : dsum (mskT ts) R0 = sumC (mskT ts) p.s + dsum (mskT ts) (R0.drop p.s.length) := by
            rw [← sumC_rev, h2.2, sumC_nat, ← dsum_app, List.take_append_drop]
          have hl2 := h1.2.2
          have hl3 := h2.1
          rw [e1, if_neg hk1, List.length_cons, List.length_drop]
          refine ⟨by omega, ?_, by omega⟩
          constructor
          · intro heq
            have q1 : cn (orM (mskT ts) p.s) = sumC (mskT ts) p.s := by omega
            have q2 := c2.1 (by omega)
            intro j q hj hq
            by_cases ej : j = i
            · subst ej
              obtain rfl : p = q := Option.some.inj (hp.symm.trans hq)
              exact o2.1 q1
            · exact q2 j q (by omega) hq
          · intro hall
            have q1 := o2.2 (hall i p (by omega) hp)
            have q2 := c2.2 fun j q hj hq => hall j q (by omega) hq
            omega

/-- The kids stand by their least vertices. -/
def RisE (M : List Nat) (p : Pt) : Prop := ∀ m, m + 1 < p.s.length → Lib.ctz 32 (M.getD (p.s.getD m 0).toNat 0) ≤ Lib.ctz 32 (M.getD (p.s.getD (m + 1) 0).toNat 0)
def RisS (M : List Nat) (p : Pt) : Prop := ∀ m, m + 1 < p.s.length → Lib.ctz 32 (M.getD (p.s.getD m 0).toNat 0) < Lib.ctz 32 (M.getD (p.s.getD (m + 1) 0).toNat 0)
/-- The set of the root. -/
def rootM (ts : List Pt) : Nat := (mskT ts).getD (ts.length - 1) 0
/-- A right tree, as the program asks. -/
def PartsI (ts : List Pt) : Prop := scT ts ts.length 0 [] = some [ts.length - 1] ∧ 1 ≤ ts.length ∧ (∀ (j : Nat) (p : Pt), ts[j]? = some p → RisE (mskT ts) p ∧ DisP (mskT ts) p) ∧ rootM ts = 2 ^ cn (rootM ts) - 1
/-- A right tree, as the reference asks. -/
def PartsS (ts : List Pt) : Prop := 1 ≤ ts.length ∧ ts.length ≤ 31 ∧ wkT ts ts.length (ts.length - 1) = some ts.length ∧ (∀ (j : Nat) (p : Pt), ts[j]? = some p → RisS (mskT ts) p) ∧ cn (rootM ts) = lvs ts ∧ (bitsOf (rootM ts)).getD (lvs ts - 1) 0 + 1 = lvs ts

theorem bits_range {n : Nat} (h : n ≤ 32) : bitsOf (2 ^ n - 1) = List.range n :=
  rising_ext _ _ (bitsOf_rising _) List.pairwise_lt_range fun x => by
    rw [mem_bitsOf, testBit_firstOf, decide_eq_true_iff, List.mem_range]
    omega
theorem rising_range : ∀ (n : Nat) (l : List Nat), l.Pairwise (· < ·) → l.length = n → (∀ x ∈ l, x < n) → l = List.range n
  | 0, l, _, h, _ => by simpa using h
  | n + 1, l, hr, h, hx => by
    rcases snoc_split l with rfl | ⟨a, y, rfl⟩
    · simp at h
    · rw [List.pairwise_append] at hr
      have hy := hx y (by simp)
      have ha : a = List.range n := rising_range n a hr.1 (by simpa using h) fun x hxa => by
        have := hr.2.2 x hxa y (by simp)
        omega
      have hyn : y = n := by
        refine Nat.le_antisymm (by omega) (Nat.le_of_not_lt fun hlt => ?_)
        have := hr.2.2 y (by rw [ha]; exact List.mem_range.2 hlt) y (by simp)
        omega
      rw [ha, hyn, List.range_succ]
theorem tparts_iff (ts : List Pt) : PartsI ts ↔ PartsS ts := by
  constructor
  · rintro ⟨h1, h0, h2, h3⟩
    obtain ⟨_, hgood⟩ := sc_good _ _ h1
    have hmk := msk_ok (ts := ts) _ hgood
    obtain ⟨c1, c2, c3⟩ := sc_count _ _ h1
    rw [List.take_length] at c1 c2 c3
    have hd : dsum (mskT ts) [ts.length - 1] = cn (rootM ts) := by simp [dsum, rootM]
    rw [hd] at c1 c2
    have hc := c2.2 fun j p _ hp => (h2 j p hp).2
    have h16 := cn_le16 (hmk (ts.length - 1) (by omega)).1
    have h16 : cn (rootM ts) ≤ 16 := h16
    have c3 : ts.length + 1 ≤ 2 * lvs ts := c3
    refine ⟨h0, by omega, (str_iff h0 (Nat.le_refl _)).2 h1, fun j p hp => ?_, hc, ?_⟩
    · intro m hm
      obtain ⟨g1, g2⟩ := h2 j p hp
      have hj := (List.getElem?_eq_some_iff.1 hp).1
      refine Nat.lt_of_le_of_ne (g1 m hm) fun he => ?_
      obtain ⟨p', hp', hh⟩ := hgood j hj
      obtain rfl : p = p' := Option.some.inj (hp.symm.trans hp')
      rcases hh with hl | ⟨hi, hk⟩
      · rw [hl.2.2.2] at hm; cases hm
      · have k1 : p.s.getD m 0 ∈ p.s := by
          rw [getD_atT (by omega)]; exact List.getElem_mem _
        have k2 : p.s.getD (m + 1) 0 ∈ p.s := by
          rw [getD_atT (by omega)]; exact List.getElem_mem _
        have b1 := hk _ k1
        have b2 := hk _ k2
        have m1 := hmk (p.s.getD m 0).toNat (by omega)
        have m2 := hmk (p.s.getD (m + 1) 0).toNat (by omega)
        have t1 := (testBit_ctz _ m1.2 (by omega)).1
        have t2 := (testBit_ctz _ m2.2 (by omega)).1
        rw [← he] at t2
        have hd := g2 (m + 1) hm
        have : (orM (mskT ts) (p.s.take (m + 1)) &&& (mskT ts).getD (p.s.getD (m + 1) 0).toNat 0).testBit (Lib.ctz 32 ((mskT ts).getD (p.s.getD m 0).toNat 0)) = true := by
          rw [Nat.testBit_and, t2, Bool.and_true, orM_bit]
          refine ⟨p.s.getD m 0, ?_, t1⟩
          rw [getD_atT (by omega), List.mem_iff_getElem]
          exact ⟨m, by rw [List.length_take]; omega, by simp⟩
        rw [hd, Nat.zero_testBit] at this
        cases this
    · have hb : bitsOf (rootM ts) = List.range (cn (rootM ts)) := by
        have := bits_range (n := cn (rootM ts)) (by omega)
        rwa [← h3] at this
      rw [hb, ← hc, getD_atT (by rw [List.length_range]; omega), List.getElem_range]
      omega
  · rintro ⟨h0, h31, h1, h2, h3, h4⟩
    have h1 := (str_iff h0 (Nat.le_refl _)).1 h1
    obtain ⟨_, hgood⟩ := sc_good _ _ h1
    have hmk := msk_ok (ts := ts) _ hgood
    obtain ⟨c1, c2, c3⟩ := sc_count _ _ h1
    rw [List.take_length] at c1 c2 c3
    have hd : dsum (mskT ts) [ts.length - 1] = cn (rootM ts) := by simp [dsum, rootM]
    rw [hd] at c1 c2
    have hdis := c2.1 h3
    refine ⟨h1, h0, fun j p hp => ⟨fun m hm => Nat.le_of_lt (h2 j p hp m hm), hdis j p (List.getElem?_eq_some_iff.1 hp).1 hp⟩, ?_⟩
    have hroot : rootM ts < 65536 := (hmk (ts.length - 1) (by omega)).1
    have c3 : ts.length + 1 ≤ 2 * lvs ts := c3
    have hlen : (bitsOf (rootM ts)).length = lvs ts := h3
    have hb : bitsOf (rootM ts) = List.range (lvs ts) := rising_range _ _ (bitsOf_rising _) hlen fun x hx => by
      obtain ⟨i, hi, rfl⟩ := List.mem_iff_getElem.1 hx
      rw [getD_atT (by omega)] at h4
      by_cases e : i = lvs ts - 1
      · subst e; omega
      · have := (List.pairwise_iff_getElem.1 (bitsOf_rising (rootM ts))) i (lvs ts - 1) hi (by omega) (by omega)
        omega
    rw [h3]
    refine Nat.eq_of_testBit_eq fun i => ?_
    rw [testBit_firstOf, Bool.eq_iff_iff, decide_eq_true_iff, ← List.mem_range, ← hb, mem_bitsOf' (by omega)]

end Go.Proofs.YtfphapcgjlhieaaDoor
