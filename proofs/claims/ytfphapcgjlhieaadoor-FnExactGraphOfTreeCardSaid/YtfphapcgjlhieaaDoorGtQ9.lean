/- Plain facts, with no program in sight: folding on sets of bits, as the program does it. -/
import Derived.Test.YtfphapcgjlhieaaDoorGtQ7
import Derived.Test.YtfphapcgjlhieaaDoorGtQ8
namespace Go.Proofs.YtfphapcgjlhieaaDoor

/-- The neighbours of v among those that are left. -/
def nearL (a : List Nat) (left v : Nat) : List Int := natInts (bitsOf (a.getD v 0 &&& left))
/-- The sets of neighbours behind a fold. -/
def awayL (a : List Nat) (f : Fd) : List Nat := if 0 ≤ f.B then joinL a f.A.toNat f.B.toNat else a

inductive FoldsN : List Nat → Nat → List Fd → Nat → List Nat → Prop
  | stop {a : List Nat} {left : Nat} (h : ∀ v ∈ bitsOf left, 2 < (nearL a left v).length) : FoldsN a left [] left a
  | step {a : List Nat} {left : Nat} {l1 l2 : List Nat} {v : Nat} {fs : List Fd} {l : Nat} {a' : List Nat} (he : bitsOf left = l1 ++ v :: l2) (h1 : ∀ x ∈ l1, 2 < (nearL a left x).length) (h2 : (nearL a left v).length ≤ 2)
      (h : FoldsN (awayL a (atRow v (nearL a left v))) (sub left (2 ^ v)) fs l a') : FoldsN a left (atRow v (nearL a left v) :: fs) l a'

theorem mem_natInts {l : List Nat} {x : Int} : x ∈ natInts l ↔ ∃ i ∈ l, (i : Int) = x := by simp [natInts]
theorem natInts_rising {l : List Nat} (h : l.Pairwise (· < ·)) : (natInts l).Pairwise (· < ·) := by
  unfold natInts
  rw [List.pairwise_map]
  exact h.imp fun h => by omega
theorem natInts_length (l : List Nat) : (natInts l).length = l.length := by simp [natInts]

theorem joinL_length (a : List Nat) (u v : Nat) : (joinL a u v).length = a.length := by simp [joinL]
theorem awayL_length (a : List Nat) (f : Fd) : (awayL a f).length = a.length := by
  unfold awayL; split
  · exact joinL_length ..
  · rfl

theorem getD_set (a : List Nat) (u i s : Nat) (hu : u < a.length) : (a.set u s).getD i 0 = if i = u then s else a.getD i 0 := by
  by_cases e : i = u
  · subst e; simp [hu]
  · simp [e, List.getElem?_set, Ne.symm e]

theorem joinL_getD {a : List Nat} {u v : Nat} (hu : u < a.length) (hv : v < a.length) (huv : u ≠ v) (i : Nat) :
    (joinL a u v).getD i 0 = if i = v then a.getD v 0 ||| 2 ^ u else if i = u then a.getD u 0 ||| 2 ^ v else a.getD i 0 := by
  have hvl : v < (a.set u (a.getD u 0 ||| 2 ^ v)).length := by simpa using hv
  show ((a.set u (a.getD u 0 ||| 2 ^ v)).set v ((a.set u (a.getD u 0 ||| 2 ^ v)).getD v 0 ||| 2 ^ u)).getD i 0 = _
  rw [getD_set _ _ _ _ hvl, getD_set _ _ _ _ hu, getD_set _ _ _ _ hu, if_neg (Ne.symm huv)]

theorem joinL_testBit {a : List Nat} {u v : Nat} (hu : u < a.length) (hv : v < a.length) (huv : u ≠ v) (i j : Nat) :
    ((joinL a u v).getD i 0).testBit j = true ↔ (a.getD i 0).testBit j = true ∨ (i = u ∧ j = v) ∨ (i = v ∧ j = u) := by
  rw [joinL_getD hu hv huv]
  by_cases e1 : i = v
  · subst e1
    simp only [if_true, Nat.testBit_or, testBit_pow, Bool.or_eq_true, decide_eq_true_eq]
    constructor
    · rintro (h | h)
      · exact .inl h
      · exact .inr (.inr ⟨trivial, h.symm⟩)
    · rintro (h | ⟨h, _⟩ | ⟨_, h⟩)
      · exact .inl h
      · exact absurd h.symm huv
      · exact .inr h.symm
  · rw [if_neg e1]
    by_cases e2 : i = u
    · subst e2
      simp only [if_true, Nat.testBit_or, testBit_pow, Bool.or_eq_true, decide_eq_true_eq]
      constructor
      · rintro (h | h)
        · exact .inl h
        · exact .inr (.inl ⟨trivial, h.symm⟩)
      · rintro (h | ⟨_, h⟩ | ⟨h, _⟩)
        · exact .inl h
        · exact .inr h.symm
        · exact absurd h e1
    · rw [if_neg e2]
      constructor
      · exact .inl
      · rintro (h | ⟨h, _⟩ | ⟨h, _⟩)
        · exact h
        · exact absurd h e2
        · exact absurd h e1

theorem lt16_getD {a : List Nat} (h : ∀ s ∈ a, s < 65536) (i : Nat) : a.getD i 0 < 65536 := by
  by_cases hi : i < a.length
  · have := h _ (List.getElem_mem hi)
    simpa [hi] using this
  · simp [hi]

theorem joinL_lt16 {a : List Nat} (h : ∀ s ∈ a, s < 65536) {u v : Nat} (hu : u < 16) (hv : v < 16) : ∀ s ∈ joinL a u v, s < 65536 := by
  intro s hs
  have h1 : ∀ t ∈ a.set u (a.getD u 0 ||| 2 ^ v), t < 65536 := by
    intro t ht
    rcases List.mem_or_eq_of_mem_set ht with e | e
    · exact h t e
    · subst e; exact or_lt16 _ _ (lt16_getD h u) (pow_lt16 v hv)
  rcases List.mem_or_eq_of_mem_set hs with e | e
  · exact h1 s e
  · subst e; exact or_lt16 _ _ (lt16_getD h1 v) (pow_lt16 u hu)

/-- A graph and its sets of neighbours, where some vertices are left. -/
structure Same (g : List (List Int)) (L : List Int) (a : List Nat) (left : Nat) : Prop where
  len : g.length = a.length
  le : a.length ≤ 16
  lt : ∀ s ∈ a, s < 65536
  left16 : left < 65536
  list : L = natInts (bitsOf left)
  inn : ∀ v, left.testBit v = true → v < a.length
  irr : ∀ v, left.testBit v = true → (a.getD v 0).testBit v = false
  rows : ∀ v, left.testBit v = true → row g v = nearL a left v

theorem mem_near {a : List Nat} {left v : Nat} (h : left < 65536) {x : Int} : x ∈ nearL a left v ↔ ∃ i : Nat, (i : Int) = x ∧ (a.getD v 0).testBit i = true ∧ left.testBit i = true := by
  unfold nearL
  rw [mem_natInts]
  have h32 : a.getD v 0 &&& left < 4294967296 := Nat.lt_of_le_of_lt Nat.and_le_right (by omega)
  constructor
  · rintro ⟨i, hi, rfl⟩
    rw [mem_bitsOf' h32, Nat.testBit_and, Bool.and_eq_true] at hi
    exact ⟨i, rfl, hi.1, hi.2⟩
  · rintro ⟨i, rfl, h1, h2⟩
    exact ⟨i, by rw [mem_bitsOf' h32, Nat.testBit_and, h1, h2]; rfl, rfl⟩
theorem near_rising (a : List Nat) (left v : Nat) : (nearL a left v).Pairwise (· < ·) := natInts_rising (bitsOf_rising _)

theorem list_sub {left v : Nat} (h : left < 65536) (hv : v < 16) : lessL (natInts (bitsOf left)) v = natInts (bitsOf (sub left (2 ^ v))) := by
  refine rising_ext_int _ _ (lessL_rising (natInts_rising (bitsOf_rising _)) _) (natInts_rising (bitsOf_rising _)) fun x => ?_
  rw [mem_lessL, mem_natInts, mem_natInts]
  have h1 : left < 4294967296 := by omega
  have h2 := pow_lt32 v (by omega)
  have h3 := sub_lt32 left (2 ^ v) h1
  constructor
  · rintro ⟨⟨i, hi, rfl⟩, hne⟩
    rw [mem_bitsOf' h1] at hi
    refine ⟨i, ?_, rfl⟩
    rw [mem_bitsOf' h3, testBit_sub _ _ h1 h2, testBit_pow, hi]
    simp only [Bool.true_and, Bool.not_eq_true', decide_eq_false_iff_not]
    intro e; exact hne (by rw [e])
  · rintro ⟨i, hi, rfl⟩
    rw [mem_bitsOf' h3, testBit_sub _ _ h1 h2, testBit_pow] at hi
    simp only [Bool.and_eq_true, Bool.not_eq_true', decide_eq_false_iff_not] at hi
    exact ⟨⟨i, (mem_bitsOf' h1).2 hi.1, rfl⟩, fun e => hi.2 (by omega)⟩

theorem testBit_sub1 {left v : Nat} (h : left < 65536) (hv : v < 16) (j : Nat) : (sub left (2 ^ v)).testBit j = true ↔ left.testBit j = true ∧ j ≠ v := by
  rw [testBit_sub _ _ (by omega) (pow_lt32 v (by omega)), testBit_pow]
  simp only [Bool.and_eq_true, Bool.not_eq_true', decide_eq_false_iff_not]
  constructor
  · exact fun ⟨h1, h2⟩ => ⟨h1, fun e => h2 e.symm⟩
  · exact fun ⟨h1, h2⟩ => ⟨h1, fun e => h2 e.symm⟩

/-- What a fold of at most two neighbours is made of. -/
theorem atRow_cases (v : Int) {r : List Int} (hr : r.Pairwise (· < ·)) (h2 : r.length ≤ 2) (h0 : ∀ x ∈ r, 0 ≤ x) :
    ((atRow v r).V = v) ∧ (((atRow v r).B = -1 ∧ ((atRow v r).A = -1 ∨ (atRow v r).A ∈ r)) ∨ ((atRow v r).A ∈ r ∧ (atRow v r).B ∈ r ∧ 0 ≤ (atRow v r).A ∧ 0 ≤ (atRow v r).B ∧ (atRow v r).A < (atRow v r).B)) := by
  refine ⟨rfl, ?_⟩
  match r, h2 with
  | [], _ => exact .inl ⟨rfl, .inl rfl⟩
  | [x], _ => exact .inl ⟨rfl, .inr (by simp [atRow])⟩
  | [x, y], _ =>
    refine .inr ⟨by simp [atRow], by simp [atRow], ?_, ?_, ?_⟩
    · exact h0 x (by simp)
    · exact h0 y (by simp)
    · simpa [atRow] using hr
  | x :: y :: z :: r, h => simp at h

theorem mem_fold {P1 P2 : Prop} [Decidable P1] [Decidable P2] (l : List Int) (A B v x : Int) :
    x ∈ (if P2 then intoL (if P1 then intoL (lessL l v) B else lessL l v) A else if P1 then intoL (lessL l v) B else lessL l v) ↔ (x ∈ l ∧ x ≠ v) ∨ (P1 ∧ x = B) ∨ (P2 ∧ x = A) := by
  by_cases c1 : P1 <;> by_cases c2 : P2 <;> simp [c1, c2, mem_intoL, mem_lessL, or_assoc]

theorem Same.fold {g : List (List Int)} {L : List Int} {a : List Nat} {left v : Nat} (h : Same g L a left) (hv : left.testBit v = true) (h2 : (nearL a left v).length ≤ 2) :
    Same (foldG g (atRow v (nearL a left v))) (lessL L v) (awayL a (atRow v (nearL a left v))) (sub left (2 ^ v)) := by
  have hvl := h.inn v hv
  have hle := h.le
  have hv16 : v < 16 := by omega
  have hL := h.left16
  have hnear : ∀ x ∈ nearL a left v, ∃ i : Nat, (i : Int) = x ∧ i ≠ v ∧ left.testBit i = true ∧ i < a.length := by
    intro x hx
    obtain ⟨i, rfl, h1, h3⟩ := (mem_near hL).1 hx
    refine ⟨i, rfl, fun e => ?_, h3, h.inn i h3⟩
    subst e
    rw [h.irr i hv] at h1
    cases h1
  obtain ⟨hV, hAB⟩ := atRow_cases (v : Int) (near_rising a left v) h2 (fun x hx => by obtain ⟨i, rfl, _⟩ := hnear x hx; omega)
  generalize atRow (v : Int) (nearL a left v) = f at *
  have hjoin : ∀ u, ((awayL a f).getD u 0 < 65536) ∧ ∀ j, ((awayL a f).getD u 0).testBit j = true ↔ (a.getD u 0).testBit j = true ∨ (0 ≤ f.B ∧ (((u : Int) = f.A ∧ (j : Int) = f.B) ∨ ((u : Int) = f.B ∧ (j : Int) = f.A))) := by
    intro u
    rcases hAB with ⟨hB, _⟩ | ⟨hA, hB, hA0, hB0, hlt⟩
    · have e : awayL a f = a := if_neg (by omega)
      rw [e]
      refine ⟨lt16_getD h.lt u, fun j => ⟨.inl, ?_⟩⟩
      rintro (k | ⟨k, _⟩)
      · exact k
      · omega
    · obtain ⟨p, hp, _, _, hpl⟩ := hnear _ hA
      obtain ⟨q, hq, _, _, hql⟩ := hnear _ hB
      have e : awayL a f = joinL a p q := by
        show (if _ then _ else _) = _
        rw [if_pos hB0, ← hp, ← hq, Int.toNat_natCast, Int.toNat_natCast]
      rw [e]
      refine ⟨lt16_getD (joinL_lt16 h.lt (by omega) (by omega)) u, fun j => ?_⟩
      rw [joinL_testBit hpl hql (by omega)]
      constructor
      · rintro (k | ⟨rfl, rfl⟩ | ⟨rfl, rfl⟩)
        · exact .inl k
        · exact .inr ⟨hB0, .inl ⟨hp, hq⟩⟩
        · exact .inr ⟨hB0, .inr ⟨hq, hp⟩⟩
      · rintro (k | ⟨_, ⟨k1, k2⟩ | ⟨k1, k2⟩⟩)
        · exact .inl k
        · exact .inr (.inl ⟨by omega, by omega⟩)
        · exact .inr (.inr ⟨by omega, by omega⟩)
  refine ⟨?_, ?_, ?_, sub_lt16 _ _ hL, ?_, ?_, ?_, ?_⟩
  · rw [foldG_length, awayL_length]; exact h.len
  · rw [awayL_length]; exact h.le
  · intro s hs
    obtain ⟨i, hi, rfl⟩ := List.mem_iff_getElem.1 hs
    have := (hjoin i).1
    simpa [hi] using this
  · rw [h.list]; exact list_sub hL hv16
  · intro u hu
    rw [awayL_length]
    exact h.inn u ((testBit_sub1 hL hv16 u).1 hu).1
  · intro u hu
    have hu1 := ((testBit_sub1 hL hv16 u).1 hu).1
    rw [Bool.eq_false_iff]
    intro hc
    rcases ((hjoin u).2 u).1 hc with k | ⟨k0, k⟩
    · rw [h.irr u hu1] at k; cases k
    · rcases hAB with ⟨hB, _⟩ | ⟨_, _, _, _, hlt⟩
      · omega
      · omega
  · intro u hu
    obtain ⟨hu1, huv⟩ := (testBit_sub1 hL hv16 u).1 hu
    have hul := h.inn u hu1
    rw [row_foldG g f (by rw [h.len]; exact hul)]
    have hfr : foldRow g f u = (let r1 := lessL (row g u) f.V; let r2 := if (u : Int) = f.A ∧ 0 ≤ f.B then intoL r1 f.B else r1; if (u : Int) = f.B then intoL r2 f.A else r2) := by
      have hne : ¬ (u : Int) = f.V := by rw [hV]; omega
      unfold foldRow fr2 fr1
      simp only [hne, if_false]
    rw [hfr, h.rows u hu1]
    refine rising_ext_int _ _ ?_ (near_rising ..) fun x => ?_
    · have p1 := lessL_rising (near_rising a left u) f.V
      dsimp only
      split <;> split <;> first | exact intoL_rising (intoL_rising p1) | exact intoL_rising p1 | exact p1
    · rw [mem_near (sub_lt16 _ _ hL)]
      have hm : x ∈ (let r1 := lessL (nearL a left u) f.V; let r2 := if (u : Int) = f.A ∧ 0 ≤ f.B then intoL r1 f.B else r1; if (u : Int) = f.B then intoL r2 f.A else r2) ↔
          (x ∈ nearL a left u ∧ x ≠ v) ∨ (((u : Int) = f.A ∧ 0 ≤ f.B) ∧ x = f.B) ∨ ((u : Int) = f.B ∧ x = f.A) := by
        dsimp only
        rw [mem_fold, hV]
      rw [hm, mem_near hL]
      constructor
      · rintro (⟨⟨i, rfl, k1, k2⟩, k3⟩ | ⟨⟨k1, k2⟩, rfl⟩ | ⟨k1, rfl⟩)
        · exact ⟨i, rfl, ((hjoin u).2 i).2 (.inl k1), (testBit_sub1 hL hv16 i).2 ⟨k2, fun e => k3 (by rw [e])⟩⟩
        · rcases hAB with ⟨hB, _⟩ | ⟨hA, hB, hA0, hB0, hlt⟩
          · omega
          · obtain ⟨q, hq, q1, q2, _⟩ := hnear _ hB
            exact ⟨q, hq, ((hjoin u).2 q).2 (.inr ⟨k2, .inl ⟨k1, hq⟩⟩), (testBit_sub1 hL hv16 q).2 ⟨q2, q1⟩⟩
        · rcases hAB with ⟨hB, _⟩ | ⟨hA, hB, hA0, hB0, hlt⟩
          · omega
          · obtain ⟨q, hq, q1, q2, _⟩ := hnear _ hA
            exact ⟨q, hq, ((hjoin u).2 q).2 (.inr ⟨hB0, .inr ⟨k1, hq⟩⟩), (testBit_sub1 hL hv16 q).2 ⟨q2, q1⟩⟩
      · rintro ⟨i, rfl, k1, k2⟩
        obtain ⟨k3, k4⟩ := (testBit_sub1 hL hv16 i).1 k2
        rcases ((hjoin u).2 i).1 k1 with k | ⟨k0, ⟨k5, k6⟩ | ⟨k5, k6⟩⟩
        · exact .inl ⟨⟨i, rfl, k, k3⟩, by omega⟩
        · exact .inr (.inl ⟨⟨k5, k0⟩, k6⟩)
        · exact .inr (.inr ⟨k5, k6⟩)

theorem mem_left {left v : Nat} (h : left < 65536) : v ∈ bitsOf left ↔ left.testBit v = true := mem_bitsOf' (by omega)

/-- What the program folds is what the reference folds. -/
theorem FoldsN.same {a : List Nat} {left : Nat} {fs : List Fd} {l : Nat} {a' : List Nat} (h : FoldsN a left fs l a') : ∀ {g : List (List Int)} {L : List Int}, Same g L a left →
    ∃ g', Folds g L fs (natInts (bitsOf l)) g' ∧ Same g' (natInts (bitsOf l)) a' l := by
  induction h with
  | @stop a left h =>
    intro g L hs
    have hL := hs.list
    subst hL
    refine ⟨g, .stop fun x hx => ?_, hs⟩
    obtain ⟨i, hi, rfl⟩ := mem_natInts.1 hx
    rw [Int.toNat_natCast, hs.rows i ((mem_left hs.left16).1 hi)]
    exact h i hi
  | @step a left l1 l2 v fs l a' he h1 h2 _ ih =>
    intro g L hs
    have hb : ∀ x, x ∈ l1 ++ v :: l2 → left.testBit x = true := fun x hx => (mem_left hs.left16).1 (he ▸ hx)
    have hv := hb v (by simp)
    obtain ⟨g', k1, k2⟩ := ih (hs.fold hv h2)
    refine ⟨g', ?_, k2⟩
    have hL : L = natInts l1 ++ (v : Int) :: natInts l2 := by rw [hs.list, he]; simp [natInts]
    have hr : nearL a left v = row g (v : Int).toNat := by rw [Int.toNat_natCast, hs.rows v hv]
    rw [hL, hr] at k1 ⊢
    refine .step (fun x hx => ?_) (by rw [← hr]; exact h2) k1
    obtain ⟨i, hi, rfl⟩ := mem_natInts.1 hx
    rw [Int.toNat_natCast, hs.rows i (hb i (by simp [hi]))]
    exact h1 i hi

theorem natInts_range (n : Nat) (hn : n ≤ 16) : natInts (bitsOf (2 ^ n - 1)) = allL n := by
  refine rising_ext_int _ _ (natInts_rising (bitsOf_rising _)) (allL_rising n) fun x => ?_
  rw [mem_natInts, mem_allL]
  constructor
  · rintro ⟨i, hi, rfl⟩
    rw [mem_bitsOf, testBit_firstOf, decide_eq_true_eq] at hi
    omega
  · rintro ⟨h0, h1⟩
    exact ⟨x.toNat, by rw [mem_bitsOf, testBit_firstOf, decide_eq_true_eq]; omega, by omega⟩

theorem netL_getD (g : List (List Int)) (v : Nat) : (netL g).getD v 0 = mask (row g v) := by
  unfold netL row
  by_cases h : v < g.length
  · simp [h]
  · simp [h, mask]

theorem testBit_row {g : List (List Int)} (h : GOk g) {v : Nat} (hv : v < g.length) (j : Nat) : (mask (row g v)).testBit j = true ↔ (j : Int) ∈ row g v := by
  rw [testBit_mask, List.any_eq_true]
  constructor
  · rintro ⟨x, hx, e⟩
    have h1 := (h.sets v hv).1.1 x hx
    rw [beq_iff_eq] at e
    have : x = (j : Int) := by omega
    rwa [this] at hx
  · intro hj
    exact ⟨_, hj, by simp⟩

/-- A graph and the sets that the program makes of it. -/
theorem same_start {g : List (List Int)} (h : GOk g) : Same g (allL g.length) (netL g) (2 ^ g.length - 1) := by
  have hle := h.le
  have hlt : 2 ^ g.length - 1 < 65536 := by
    have : 2 ^ g.length ≤ 2 ^ 16 := Nat.pow_le_pow_right (by decide) hle
    omega
  have hin : ∀ v, (2 ^ g.length - 1).testBit v = true → v < g.length := fun v hv => by rwa [testBit_firstOf, decide_eq_true_eq] at hv
  refine ⟨by simp [netL], by simpa [netL] using hle, netL_lt h, hlt, (natInts_range _ hle).symm, fun v hv => by simpa [netL] using hin v hv, fun v hv => ?_, fun v hv => ?_⟩
  · rw [netL_getD, Bool.eq_false_iff]
    intro hc
    exact (h.sets v (hin v hv)).2 ((testBit_row h (hin v hv) v).1 hc)
  · have hvl := hin v hv
    refine rising_ext_int _ _ (h.sets v hvl).1.2 (near_rising ..) fun x => ?_
    rw [mem_near hlt, netL_getD]
    constructor
    · intro hx
      have h1 := (h.sets v hvl).1.1 x hx
      refine ⟨x.toNat, by omega, ?_, ?_⟩
      · rw [testBit_row h hvl, show ((x.toNat : Nat) : Int) = x by omega]; exact hx
      · rw [testBit_firstOf, decide_eq_true_eq]; omega
    · rintro ⟨i, rfl, h1, _⟩
      exact (testBit_row h hvl i).1 h1

/-- What the loop of the program carries. -/
def FoldsOnN (a0 : List Nat) (left0 : Nat) (os : List Fd) (lf : Nat) (a : List Nat) : Prop :=
  ∀ fs l a', FoldsN a lf fs l a' → FoldsN a0 left0 (os ++ fs) l a'
theorem foldsOnN_start (a : List Nat) (left : Nat) : FoldsOnN a left [] left a := fun _ _ _ h => h
theorem foldsOnN_step {a0 a : List Nat} {left0 lf : Nat} {os : List Fd} {k : Nat} (h : FoldsOnN a0 left0 os lf a) (hk : k < (bitsOf lf).length) (h1 : ∀ j (hj : j < (bitsOf lf).length), j < k → 2 < (nearL a lf (bitsOf lf)[j]).length)
    (h2 : (nearL a lf (bitsOf lf)[k]).length ≤ 2) : FoldsOnN a0 left0 (os ++ [atRow (bitsOf lf)[k] (nearL a lf (bitsOf lf)[k])]) (sub lf (2 ^ (bitsOf lf)[k])) (awayL a (atRow (bitsOf lf)[k] (nearL a lf (bitsOf lf)[k]))) := by
  intro fs l a' hf
  rw [List.append_assoc, List.singleton_append]
  refine h _ _ _ (FoldsN.step (take_cons_drop _ k hk) (fun x hx => ?_) h2 hf)
  obtain ⟨j, hj, rfl⟩ := List.mem_iff_getElem.1 hx
  rw [List.length_take] at hj
  rw [List.getElem_take]
  exact h1 j (by omega) (by omega)
theorem foldsOnN_stop {a0 a : List Nat} {left0 lf : Nat} {os : List Fd} (h : FoldsOnN a0 left0 os lf a) (h1 : ∀ j (hj : j < (bitsOf lf).length), 2 < (nearL a lf (bitsOf lf)[j]).length) : FoldsN a0 left0 os lf a := by
  have := h [] lf a (FoldsN.stop fun v hv => by
    obtain ⟨j, hj, rfl⟩ := List.mem_iff_getElem.1 hv
    exact h1 j hj)
  rwa [List.append_nil] at this

end Go.Proofs.YtfphapcgjlhieaaDoor
