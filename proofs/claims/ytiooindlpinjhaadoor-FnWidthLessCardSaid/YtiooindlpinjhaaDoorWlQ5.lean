/- Plain facts, with no program in sight: folding on sets of bits, as the program does it. -/
import Derived.Test.YtiooindlpinjhaaDoorWlQ1
import Derived.Test.YtiooindlpinjhaaDoorWlQ4
namespace Go.Proofs.YtiooindlpinjhaaDoor

/-- The neighbours of v among those that are left. -/
def nearL (a : List Nat) (left v : Nat) : List Int := natInts (bitsOf (a.getD v 0 &&& left))
/-- The sets of neighbours behind a fold. -/
def awayL (a : List Nat) (f : Fd) : List Nat := if 0 ≤ f.B then joinL a f.A.toNat f.B.toNat else a

inductive FoldsN : List Nat → Nat → List Fd → Nat → List Nat → Prop
  | stop {a : List Nat} {left : Nat} (h : ∀ v ∈ bitsOf left, 2 < (nearL a left v).length) : FoldsN a left [] left a
  | step {a : List Nat} {left : Nat} {l1 l2 : List Nat} {v : Nat} {fs : List Fd} {l : Nat} {a' : List Nat} (he : bitsOf left = l1 ++ v :: l2) (h1 : ∀ x ∈ l1, 2 < (nearL a left x).length) (h2 : (nearL a left v).length ≤ 2)
      (h : FoldsN (awayL a (atRow v (nearL a left v))) (sub left (2 ^ v)) fs l a') : FoldsN a left (atRow v (nearL a left v) :: fs) l a'

theorem mem_natInts {l : List Nat} {x : Int} : x ∈ natInts l ↔ ∃ i ∈ l, (i : Int) = x := by simp [natInts]
theorem natInts_rising {l : List Nat} (h : l.Pairwise (· < ·)) : (natInts l).Pairwise (· < ·) := by
  unfold natInts
  rw [List.pairwise_map]
  exact h.imp fun h => by omega
theorem natInts_length (l : List Nat) : (natInts l).length = l.length := by simp [natInts]

theorem joinL_length (a : List Nat) (u v : Nat) : (joinL a u v).length = a.length := by simp [joinL]
theorem awayL_length (a : List Nat) (f : Fd) : (awayL a f).length = a.length := by
  unfold awayL; split
  · exact joinL_length ..
  · rfl

theorem getD_set (a : List Nat) (u i s : Nat) (hu : u < a.length) : (a.set u s).getD i 0 = if i = u then s else a.getD i 0 := by
  by_cases e : i = u
  · subst e; simp [hu]
  · simp [e, List.getElem?_set, Ne.symm e]

theorem joinL_getD {a : List Nat} {u v : Nat} (hu : u < a.length) (hv : v < a.length) (huv : u ≠ v) (i : Nat) :
    (joinL a u v).getD i 0 = if i = v then a.getD v 0 ||| 2 ^ u else if i = u then a.getD u 0 ||| 2 ^ v else a.getD i 0 := by
  have hvl : v < (a.set u (a.getD u 0 ||| 2 ^ v)).length := by simpa using hv
  show ((a.set u (a.getD u 0 ||| 2 ^ v)).set v ((a.set u (a.getD u 0 ||| 2 ^ v)).getD v 0 ||| 2 ^ u)).getD i 0 = _
  rw [getD_set _ _ _ _ hvl, getD_set _ _ _ _ hu, getD_set _ _ _ _ hu, if_neg (Ne.symm huv)]

theorem joinL_testBit {a : List Nat} {u v : Nat} (hu : u < a.length) (hv : v < a.length) (huv : u ≠ v) (i j : Nat) :
    ((joinL a u v).getD i 0).testBit j = true ↔ (a.getD i 0).testBit j = true ∨ (i = u ∧ j = v) ∨ (i = v ∧ j = u) := by
  rw [joinL_getD hu hv huv]
  by_cases e1 : i = v
  · subst e1
    simp only [if_true, Nat.testBit_or, testBit_pow, Bool.or_eq_true, decide_eq_true_eq]
    constructor
    · rintro (h | h)
      · exact .inl h
      · exact .inr (.inr ⟨trivial, h.symm⟩)
    · rintro (h | ⟨h, _⟩ | ⟨_, h⟩)
      · exact .inl h
      · exact absurd h.symm huv
      · exact .inr h.symm
  · rw [if_neg e1]
    by_cases e2 : i = u
    · subst e2
      simp only [if_true, Nat.testBit_or, testBit_pow, Bool.or_eq_true, decide_eq_true_eq]
      constructor
      · rintro (h | h)
        · exact .inl h
        · exact .inr (.inl ⟨trivial, h.symm⟩)
      · rintro (h | ⟨_, h⟩ | ⟨h, _⟩)
        · exact .inl h
        · exact .inr h.symm
        · exact absurd h e1
    · rw [if_neg e2]
      constructor
      · exact .inl
      · rintro (h | ⟨h, _⟩ | ⟨h, _⟩)
        · exact h
        · exact absurd h e2
        · exact absurd h e1

theorem lt16_getD {a : List Nat} (h : ∀ s ∈ a, s < 65536) (i : Nat) : a.getD i 0 < 65536 := by
  by_cases hi : i < a.length
  · have := h _ (List.getElem_mem hi)
    simpa [hi] using this
  · simp [hi]

theorem joinL_lt16 {a : List Nat} (h : ∀ s ∈ a, s < 65536) {u v : Nat} (hu : u < 16) (hv : v < 16) : ∀ s ∈ joinL a u v, s < 65536 := by
  intro s hs
  have h1 : ∀ t ∈ a.set u (a.getD u 0 ||| 2 ^ v), t < 65536 := by
    intro t ht
    rcases List.mem_or_eq_of_mem_set ht with e | e
    · exact h t e
    · subst e; exact or_lt16 _ _ (lt16_getD h u) (pow_lt16 v hv)
  rcases List.mem_or_eq_of_mem_set hs with e | e
  · exact h1 s e
  · subst e; exact or_lt16 _ _ (lt16_getD h1 v) (pow_lt16 u hu)

/-- A graph and its sets of neighbours, where some vertices are left. -/
structure Same (g : List (List Int)) (L : List Int) (a : List Nat) (left : Nat) : Prop where
  len : g.length = a.length
  le : a.length ≤ 16
  lt : ∀ s ∈ a, s < 65536
  left16 : left < 65536
  list : L = natInts (bitsOf left)
  inn : ∀ v, left.testBit v = true → v < a.length
  irr : ∀ v, left.testBit v = true → (a.getD v 0).testBit v = false
  rows : ∀ v, left.testBit v = true → row g v = nearL a left v

theorem mem_near {a : List Nat} {left v : Nat} (h : left < 65536) {x : Int} : x ∈ nearL a left v ↔ ∃ i : Nat, (i : Int) = x ∧ (a.getD v 0).testBit i = true ∧ left.testBit i = true := by
  unfold nearL
  rw [mem_natInts]
  have h32 : a.getD v 0 &&& left < 4294967296 := Nat.lt_of_le_of_lt Nat.and_le_right (by omega)
  constructor
  · rintro ⟨i, hi, rfl⟩
    rw [mem_bitsOf' h32, Nat.testBit_and, Bool.and_eq_true] at hi
    exact ⟨i, rfl, hi.1, hi.2⟩
  · rintro ⟨i, rfl, h1, h2⟩
    exact ⟨i, by rw [mem_bitsOf' h32, Nat.testBit_and, h1, h2]; rfl, rfl⟩
theorem near_rising (a : List Nat) (left v : Nat) : (nearL a left v).Pairwise (· < ·) := natInts_rising (bitsOf_rising _)

theorem list_sub {left v : Nat} (h : left < 65536) (hv : v < 16) : lessL (natInts (bitsOf left)) v = natInts (bitsOf (sub left (2 ^ v))) := by
  refine rising_ext_int _ _ (lessL_rising (natInts_rising (bitsOf_rising _)) _) (natInts_rising (bitsOf_rising _)) fun x => ?_
  rw [mem_lessL, mem_natInts, mem_natInts]
  have h1 : left < 4294967296 := by omega
  have h2 := pow_lt32 v (by omega)
  have h3 := sub_lt32 left (2 ^ v) h1
  constructor
  · rintro ⟨⟨i, hi, rfl⟩, hne⟩
    rw [mem_bitsOf' h1] at hi
    refine ⟨i, ?_, rfl⟩
    rw [mem_bitsOf' h3, testBit_sub _ _ h1 h2, testBit_pow, hi]
    simp only [Bool.true_and, Bool.not_eq_true', decide_eq_false_iff_not]
    intro e; exact hne (by rw [e])
  · rintro ⟨i, hi, rfl⟩
    rw [mem_bitsOf' h3, testBit_sub _ _ h1 h2, testBit_pow] at hi
    simp only [Bool.and_eq_true, Bool.not_eq_true', decide_eq_false_iff_not] at hi
    exact ⟨⟨i, (mem_bitsOf' h1).2 hi.1, rfl⟩, fun e => hi.2 (by omega)⟩

theorem testBit_sub1 {left v : Nat} (h : left < 65536) (hv : v < 16) (j : Nat) : (sub left (2 ^ v)).testBit j = true ↔ left.testBit j = true ∧ j ≠ v := by
  rw [testBit_sub _ _ (by omega) (pow_lt32 v (by omega)), testBit_pow]
  simp only [Bool.and_eq_true, Bool.not_eq_true', decide_eq_false_iff_not]
  constructor
  · exact fun ⟨h1, h2⟩ => ⟨h1, fun e => h2 e.symm⟩
  · exact fun ⟨h1, h2⟩ => ⟨h1, fun e => h2 e.symm⟩

/-- What a fold of at most two neighbours is made of. -/
theorem atRow_cases (v : Int) {r : List Int} (hr : r.Pairwise (· < ·)) (h2 : r.length ≤ 2) (h0 : ∀ x ∈ r, 0 ≤ x) :
    ((atRow v r).V = v) ∧ (((atRow v r).B = -1 ∧ ((atRow v r).A = -1 ∨ (atRow v r).A ∈ r)) ∨ ((atRow v r).A ∈ r ∧ (atRow v r).B ∈ r ∧ 0 ≤ (atRow v r).A ∧ 0 ≤ (atRow v r).B ∧ (atRow v r).A < (atRow v r).B)) := by
  refine ⟨rfl, ?_⟩
  match r, h2 with
  | [], _ => exact .inl ⟨rfl, .inl rfl⟩
  | [x], _ => exact .inl ⟨rfl, .inr (by simp [atRow])⟩
  | [x, y], _ =>
    refine .inr ⟨by simp [atRow], by simp [atRow], ?_, ?_, ?_⟩
    · exact h0 x (by simp)
    · exact h0 y (by simp)
    · simpa [atRow] using hr
  | x :: y :: z :: r, h => simp at h

theorem mem_fold {P1 P2 : Prop} [Decidable P1] [Decidable P2] (l : List Int) (A B v x : Int) :
    x ∈ (if P2 then intoL (if P1 then intoL (lessL l v) B else lessL l v) A else if P1 then intoL (lessL l v) B else lessL l v) ↔ (x ∈ l ∧ x ≠ v) ∨ (P1 ∧ x = B) ∨ (P2 ∧ x = A) := by
  by_cases c1 : P1 <;> by_cases c2 : P2 <;> simp [c1, c2, mem_intoL, mem_lessL, or_assoc]

theorem Same.fold {g : List (List Int)} {L : List Int} {a : List Nat} {left v : Nat} (h : Same g L a left) (hv : left.testBit v = true) (h2 : (nearL a left v).length ≤ 2) :
    Same (foldG g (atRow v (nearL a left v))) (lessL L v) (awayL a (atRow v (nearL a left v))) (sub left (2 ^ v)) := by
  have hvl := h.inn v hv
  have hle := h.le
  have hv16 : v < 16 := by omega
  have hL := h.left16
  have hnear : ∀ x ∈ nearL a left v, ∃ i : Nat, (i : Int) = x ∧ i ≠ v ∧ left.testBit i = true ∧ i < a.length := by
    intro x hx
    obtain ⟨i, rfl, h1, h3⟩ := (mem_near hL).1 hx
    refine ⟨i, rfl, fun e => ?_, h3, h.inn i h3⟩
    subst e
    rw [h.irr i hv] at h1
    cases h1
  obtain ⟨hV, hAB⟩ := atRow_cases (v : Int) (near_rising a left v) h2 (fun x hx => by obtain ⟨i, rfl, _⟩ := hnear x hx; omega)
  generalize atRow (v : Int) (nearL a left v) = f at *
  have hjoin : ∀ u, ((awayL a f).getD u 0 < 65536) ∧ ∀ j, ((awayL a f).getD u 0).testBit j = true ↔ (a.getD u 0).testBit j = true ∨ (0 ≤ f.B ∧ (((u : Int) = f.A ∧ (j : Int) = f.B) ∨ ((u : Int) = f.B ∧ (j : Int) = f.A))) := by
    intro u
    rcases hAB with ⟨hB, _⟩ | ⟨hA, hB, hA0, hB0, hlt⟩
    · have e : awayL a f = a := if_neg (by omega)
      rw [e]
      refine ⟨lt16_getD h.lt u, fun j => ⟨.inl, ?_⟩⟩
      rintro (k | ⟨k, _⟩)
      · exact k
      · omega
    · obtain ⟨p, hp, _, _, hpl⟩ := hnear _ hA
      obtain ⟨q, hq, _, _, hql⟩ := hnear _ hB
      have e : awayL a f = joinL a p q := by
        show (if _ then _ else _) = _
        rw [if_pos hB0, ← hp, ← hq, Int.toNat_natCast, Int.toNat_natCast]
      rw [e]
      refine ⟨lt16_getD (joinL_lt16 h.lt (by omega) (by omega)) u, fun j => ?_⟩
      rw [joinL_testBit hpl hql (by omega)]
      constructor
      · rintro (k | ⟨rfl, rfl⟩ | ⟨rfl, rfl⟩)
        · exact .inl k
        · exact .inr ⟨hB0, .inl ⟨hp, hq⟩⟩
        · exact .inr ⟨hB0, .inr ⟨hq, hp⟩⟩
      · rintro (k | ⟨_, ⟨k1, k2⟩ | ⟨k1, k2⟩⟩)
        · exact .inl k
        · exact .inr (.inl ⟨by omega, by omega⟩)
        · exact .inr (.inr ⟨by omega, by omega⟩)
  refine ⟨?_, ?_, ?_, sub_lt16 _ _ hL, ?_, ?_, ?_, ?_⟩
  · rw [foldG_length, awayL_length]; exact h.len
  · rw [awayL_length]; exact h.le
  · intro s hs
    obtain ⟨i, hi, rfl⟩ := List.mem_iff_getElem.1 hs
    have := (hjoin i).1
    simpa [hi] using this
  · rw [h.list]; exact list_sub hL hv16
  · intro u hu
    rw [awayL_length]
    exact h.inn u ((testBit_sub1 hL hv16 u).1 hu).1
  · intro u hu
    have hu1 := ((testBit_sub1 hL hv16 u).1 hu).1
    rw [Bool.eq_false_iff]
    intro hc
    rcases ((hjoin u).2 u).1 hc with k | ⟨k0, k⟩
    · rw [h.irr u hu1] at k; cases k
    · rcases hAB with ⟨hB, _⟩ | ⟨_, _, _, _, hlt⟩
      · omega
      · omega
  · intro u hu
    obtain ⟨hu1, huv⟩ := (testBit_sub1 hL hv16 u).1 hu
    have hul := h.inn u hu1
    rw [row_foldG g f (by rw [h.len]; exact hul)]
    have hfr : foldRow g f u = (let r1 := lessL (row g u) f.V; let r2 := if (u : Int) = f.A ∧ 0 ≤ f.B then intoL r1 f.B else r1; if (u : Int) = f.B then intoL r2 f.A else r2) := by
      have hne : ¬ (u : Int) = f.V := by rw [hV]; omega
      unfold foldRow fr2 fr1
      simp only [hne, if_false]
    rw [hfr, h.rows u hu1]
    refine rising_ext_int _ _ ?_ (near_rising ..) fun x => ?_
    · have p1 := lessL_rising (near_rising a left u) f.V
      dsimp only
      split <;> split <;> first | exact intoL_rising (intoL_rising p1) | exact intoL_rising p1 | exact p1
    · rw [mem_near (sub_lt16 _ _ hL)]
      have hm : x ∈ (let r1 := lessL (nearL a left u) f.V; let r2 := if (u : Int) = f.A ∧ 0 ≤ f.B then intoL r1 f.B else r1; if (u : Int) = f.B then intoL r2 f.A else r2) ↔
          (x ∈ nearL a left u ∧ x ≠ v) ∨ (((u : Int) = f.A ∧ 0 ≤ f.B) ∧ x = f.B) ∨ ((u : Int) = f.B ∧ x = f.A) := by
        dsimp only
        rw [mem_fold, hV]
      rw [hm, mem_near hL]
      constructor
      · rintro (⟨⟨i, rfl, k1, k2⟩, k3⟩ | ⟨⟨k1, k2⟩, rfl⟩ | ⟨k1, rfl⟩)
        · exact ⟨i, rfl, ((hjoin u).2 i).2 (.inl k1), (testBit_sub1 hL hv16 i).2 ⟨k2, fun e => k3 (by rw [e])⟩⟩
        · rcases hAB with ⟨hB, _⟩ | ⟨hA, hB, hA0, hB0, hlt⟩
          · omega
          · obtain ⟨q, hq, q1, q2, _⟩ := hnear _ hB
            exact ⟨q, hq, ((hjoin u).2 q).2 (.inr ⟨k2, .inl ⟨k1, hq⟩⟩), (testBit_sub1 hL hv16 q).2 ⟨q2, q1⟩⟩
        · rcases hAB with ⟨hB, _⟩ | ⟨hA, hB, hA0, hB0, hlt⟩
          · omega
          · obtain ⟨q, hq, q1, q2, _⟩ := hnear _ hA
            exact ⟨q, hq, ((hjoin u).2 q).2 (.inr ⟨hB0, .inr ⟨k1, hq⟩⟩), (testBit_sub1 hL hv16 q).2 ⟨q2, q1⟩⟩
      · rintro ⟨i, rfl, k1, k2⟩
        obtain ⟨k3, k4⟩ := (testBit_sub1 hL hv16 i).1 k2
        rcases ((hjoin u).2 i).1 k1 with k | ⟨k0, ⟨k5, k6⟩ | ⟨k5, k6⟩⟩
        · exact .inl ⟨⟨i, rfl, k, k3⟩, by omega⟩
        · exact .inr (.inl ⟨⟨k5, k0⟩, k6⟩)
        · exact .inr (.inr ⟨k5, k6⟩)

theorem mem_left {left v : Nat} (h : left < 65536) : v ∈ bitsOf left ↔ left.testBit v = true := mem_bitsOf' (by omega)

/-- What the program folds is what the reference folds. -/
theorem FoldsN.same {a : List Nat} {left : Nat} {fs : List Fd} {l : Nat} {a' : List Nat} (h : FoldsN a left fs l a') : ∀ {g : List (List Int)} {L : List Int}, Same g L a left →
    ∃ g', Folds g L fs (natInts (bitsOf l)) g' ∧ Same g' (natInts (bitsOf l)) a' l := by
  induction h with
  | @stop a left h =>
    intro g L hs
    have hL := hs.list
    subst hL
    refine ⟨g, .stop fun x hx => ?_, hs⟩
    obtain ⟨i, hi, rfl⟩ := mem_natInts.1 hx
    rw [Int.toNat_natCast, hs.rows i ((mem_left hs.left16).1 hi)]
    exact h i hi
  | @step a left l1 l2 v fs l a' he h1 h2 _ ih =>
    intro g L hs
    have hb : ∀ x, x ∈ l1 ++ v :: l2 → left.testBit x = true := fun x hx => (mem_left hs.left16).1 (he ▸ hx)
    have hv := hb v (by simp)
    obtain ⟨g', k1, k2⟩ := ih (hs.fold hv h2)
    refine ⟨g', ?_, k2⟩
    have hL : L = natInts l1 ++ (v : Int) :: natInts l2 := by rw [hs.list, he]; simp [natInts]
    have hr : nearL a left v = row g (v : Int).toNat := by rw [Int.toNat_natCast, hs.rows v hv]
    rw [hL, hr] at k1 ⊢
    refine .step (fun x hx => ?_) (by rw [← hr]; exact h2) k1
    obtain ⟨i, hi, rfl⟩ := mem_natInts.1 hx
    rw [Int.toNat_natCast, hs.rows i (hb i (by simp [hi]))]
    exact h1 i hi

theorem natInts_range (n : Nat) (hn : n ≤ 16) : natInts (bitsOf (2 ^ n - 1)) = allL n := by
  refine rising_ext_int _ _ (natInts_rising (bitsOf_rising _)) (allL_rising n) fun x => ?_
  rw [mem_natInts, mem_allL]
  constructor
  · rintro ⟨i, hi, rfl⟩
    rw [mem_bitsOf, testBit_firstOf, decide_eq_true_eq] at hi
    omega
  · rintro ⟨h0, h1⟩
    exact ⟨x.toNat, by rw [mem_bitsOf, testBit_firstOf, decide_eq_true_eq]; omega, by omega⟩

theorem netL_getD (g : List (List Int)) (v : Nat) : (netL g).getD v 0 = mask (row g v) := by
  unfold netL row
  by_cases h : v < g.length
  · simp [h]
  · simp [h, mask]

theorem testBit_row {g : List (List Int)} (h : GOk g) {v : Nat} (hv : v < g.length) (j : Nat) : (mask (row g v)).testBit j = true ↔ (j : Int) ∈ row g v := by
  rw [testBit_mask, List.any_eq_true]
  constructor
  · rintro ⟨x, hx, e⟩
    have h1 := (h.sets v hv).1.1 x hx
    rw [beq_iff_eq] at e
    have : x = (j : Int) := by omega
    rwa [this] at hx
  · intro hj
    exact ⟨_, hj, by simp⟩

/-- A graph and the sets that the program makes of it. -/
theorem same_start {g : List (List Int)} (h : GOk g) : Same g (allL g.length) (netL g) (2 ^ g.length - 1) := by
  have hle := h.le
  have hlt : 2 ^ g.length - 1 < 65536 := by
    have : 2 ^ g.length ≤ 2 ^ 16 := Nat.pow_le_pow_right (by decide) hle
    omega
  have hin : ∀ v, (2 ^ g.length - 1).testBit v = true → v < g.length := fun v hv => by rwa [testBit_firstOf, decide_eq_true_eq] at hv
  refine ⟨by simp [netL], by simpa [netL] using hle, netL_lt h, hlt, (natInts_range _ hle).symm, fun v hv => by simpa [netL] using hin v hv, fun v hv => ?_, fun v hv => ?_⟩
  · rw [netL_getD, Bool.eq_false_iff]
    intro hc
    exact (h.sets v (hin v hv)).2 ((testBit_row h (hin v hv) v).1 hc)
  · have hvl := hin v hv
    refine rising_ext_int _ _ (h.sets v hvl).1.2 (near_rising ..) fun x => ?_
    rw [mem_near hlt, netL_getD]
    constructor
    · intro hx
      have h1 := (h.sets v hvl).1.1 x hx
      refine ⟨x.toNat, by omega, ?_, ?_⟩
      · rw [testBit_row h hvl, show ((x.toNat : Nat) : Int) = x by omega]; exact hx
      · rw [testBit_firstOf, decide_eq_true_eq]; omega
    · rintro ⟨i, rfl, h1, _⟩
      exact (testBit_row h hvl i).1 h1

/-- What the loop of the program carries. -/
def FoldsOnN (a0 : List Nat) (left0 : Nat) (os : List Fd) (lf : Nat) (a : List Nat) : Prop :=
  ∀ fs l a', FoldsN a lf fs l a' → FoldsN a0 left0 (os ++ fs) l a'
theorem foldsOnN_start (a : List Nat) (left : Nat) : FoldsOnN a left [] left a := fun _ _ _ h => h
theorem foldsOnN_step {a0 a : List Nat} {left0 lf : Nat} {os : List Fd} {k : Nat} (h : FoldsOnN a0 left0 os lf a) (hk : k < (bitsOf lf).length) (h1 : ∀ j (hj : j < (bitsOf lf).length), j < k → 2 < (nearL a lf (bitsOf lf)[j]).length)
    (h2 : (nearL a lf (bitsOf lf)[k]).length ≤ 2) : FoldsOnN a0 left0 (os ++ [atRow (bitsOf lf)[k] (nearL a lf (bitsOf lf)[k])]) (sub lf (2 ^ (bitsOf lf)[k])) (awayL a (atRow (bitsOf lf)[k] (nearL a lf (bitsOf lf)[k]))) := by
  intro fs l a' hf
  rw [List.append_assoc, List.singleton_append]
  refine h _ _ _ (FoldsN.step (take_cons_drop _ k hk) (fun x hx => ?_) h2 hf)
  obtain ⟨j, hj, rfl⟩ := List.mem_iff_getElem.1 hx
  rw [List.length_take] at hj
  rw [List.getElem_take]
  exact h1 j (by omega) (by omega)
theorem foldsOnN_stop {a0 a : List Nat} {left0 lf : Nat} {os : List Fd} (h : FoldsOnN a0 left0 os lf a) (h1 : ∀ j (hj : j < (bitsOf lf).length), 2 < (nearL a lf (bitsOf lf)[j]).length) : FoldsN a0 left0 os lf a := by
  have := h [] lf a (FoldsN.stop fun v hv => by
    obtain ⟨j, hj, rfl⟩ := List.mem_iff_getElem.1 hv
    exact h1 j hj)
  rwa [List.append_nil] at this

end Go.Proofs.YtiooindlpinjhaaDoor

/- Plain: colouring along a folding order. -/
namespace Go.Proofs.YtiooindlpinjhaaDoor

structure FdIn (n : Nat) (f : Fd) : Prop where
  V0 : 0 ≤ f.V
  V1 : f.V < n
  A0 : -1 ≤ f.A
  A1 : f.A < n
  B0 : -1 ≤ f.B
  B1 : f.B < n
  BA : 0 ≤ f.B → 0 ≤ f.A

def RowsIn (n : Nat) (g : List (List Int)) : Prop := ∀ j, ∀ x ∈ row g j, 0 ≤ x ∧ x < n

theorem atRow_in {n : Nat} {v : Int} {r : List Int} (hv : 0 ≤ v ∧ v < n) (h : ∀ x ∈ r, 0 ≤ x ∧ x < n) : FdIn n (atRow v r) := by
  match r, h with
  | [], _ => exact ⟨hv.1, hv.2, by simp [atRow], by simp [atRow]; omega, by simp [atRow], by simp [atRow]; omega, by simp [atRow]⟩
  | [a], h =>
    have := h a (by simp)
    exact ⟨hv.1, hv.2, by simp [atRow]; omega, by simp [atRow]; omega, by simp [atRow], by simp [atRow]; omega, by simp [atRow]⟩
  | a :: b :: r, h =>
    have h1 := h a (by simp)
    have h2 := h b (by simp)
    exact ⟨hv.1, hv.2, by simp [atRow]; omega, by simp [atRow]; omega, by simp [atRow]; omega, by simp [atRow]; omega, by simp [atRow]; omega⟩

theorem mem_intoL' {n x : Int} {l : List Int} (h : x ∈ intoL l n) : x ∈ l ∨ x = n := mem_intoL.1 h

theorem foldG_in {n : Nat} {g : List (List Int)} {f : Fd} (h : RowsIn n g) (hf : FdIn n f) : RowsIn n (foldG g f) := by
  intro j x hx
  by_cases hj : j < g.length
  case neg =>
    have : row (foldG g f) j = [] := by simp [row, List.getElem?_eq_none (show (foldG g f).length ≤ j by rw [foldG_length]; omega)]
    rw [this] at hx
    cases hx
  rw [row_foldG g f hj] at hx
  have k1 : ∀ x ∈ fr1 g f j, 0 ≤ x ∧ x < n := by
    intro x hx
    unfold fr1 at hx
    split at hx
    · cases hx
    · exact h j x (mem_lessL.1 hx).1
  have k2 : ∀ x ∈ fr2 g f j, 0 ≤ x ∧ x < n := by
    intro x hx
    unfold fr2 at hx
    split at hx
    · rename_i hc
      rcases mem_intoL' hx with h1 | rfl
      · exact k1 x h1
      · exact ⟨hc.2, hf.B1⟩
    · exact k1 x hx
  unfold foldRow at hx
  split at hx
  · rename_i hc
    rcases mem_intoL' hx with h1 | rfl
    · exact k2 x h1
    · exact ⟨hf.BA (by omega), hf.A1⟩
  · exact k2 x hx

theorem folds_in {n : Nat} {g : List (List Int)} {left : List Int} {fs : List Fd} {l : List Int} {g' : List (List Int)} (h : Folds g left fs l g') : RowsIn n g → (∀ x ∈ left, 0 ≤ x ∧ x < n) → ∀ f ∈ fs, FdIn n f := by
  induction h with
  | stop _ => intro _ _ f hf; cases hf
  | step h1 h2 h ih =>
    intro hg hl f hf
    rename_i g l1 l2 v fs l g'
    have hv := hl v (by simp)
    have ha := atRow_in hv (hg v.toNat)
    rcases List.mem_cons.1 hf with rfl | hf
    · exact ha
    · exact ih (foldG_in hg ha) (fun x hx => hl x (mem_lessL.1 hx).1) f hf

theorem foldedS_in {g : List (List Int)} {fs : List Fd} {l : List Int} (h : FoldedS g fs l) : ∀ f ∈ fs, FdIn g.length f := by
  rcases h with ⟨hg, g', h⟩ | ⟨_, rfl, _⟩
  · refine folds_in h ?_ ?_
    · intro j x hx
      by_cases hj : j < g.length
      · have := (hg.sets j hj).1.1 x hx
        exact this
      · have : row g j = [] := by simp [row, List.getElem?_eq_none (show g.length ≤ j by omega)]
        rw [this] at hx
        cases hx
    · intro x hx
      simp only [allL, List.mem_map, List.mem_range] at hx
      obtain ⟨i, hi, rfl⟩ := hx
      omega
  · intro f hf; cases hf

/-- A colour that a fold's neighbours bear. -/
def Taken (out : List Int) (f : Fd) (n : Int) : Prop := (0 ≤ f.A ∧ out.getD f.A.toNat 0 = n) ∨ (0 ≤ f.B ∧ out.getD f.B.toNat 0 = n)
instance (out : List Int) (f : Fd) (n : Int) : Decidable (Taken out f n) := by unfold Taken; infer_instance
def colN (out : List Int) (f : Fd) : Nat := if Taken out f 0 then (if Taken out f 1 then 2 else 1) else 0
theorem colN_le (out : List Int) (f : Fd) : colN out f ≤ 2 := by
  unfold colN; split
  · split <;> omega
  · omega
theorem colN_lt {out : List Int} {f : Fd} {k : Nat} (h : k < colN out f) : Taken out f k := by
  unfold colN at h
  split at h
  · split at h
    · match k, h with
      | 0, _ => assumption
      | 1, _ => assumption
    · match k, h with
      | 0, _ => assumption
  · omega
theorem colN_free {out : List Int} {f : Fd} : ¬ Taken out f (colN out f) := by
  unfold colN
  split
  · split
    · rename_i h0 h1
      intro h2
      unfold Taken at h0 h1 h2
      have e0 : ((2 : Nat) : Int) = 2 := rfl
      rw [e0] at h2
      omega
    · assumption
  · assumption
def colStep (out : List Int) (f : Fd) : List Int := out.set f.V.toNat (colN out f)
def colL (n : Nat) (fs : List Fd) : List Int := fs.foldr (fun f out => colStep out f) (List.replicate n 0)
theorem colL_length (n : Nat) (fs : List Fd) : (colL n fs).length = n := by
  induction fs with
  | nil => simp [colL]
  | cons f fs ih => simp only [colL, List.foldr_cons, colStep, List.length_set] at ih ⊢; exact ih
theorem colL_lt (n : Nat) (fs : List Fd) : ∀ x ∈ colL n fs, x = 0 ∨ x = 1 ∨ x = 2 := by
  induction fs with
  | nil => intro x hx; simp only [colL, List.foldr_nil, List.mem_replicate] at hx; exact .inl hx.2
  | cons f fs ih =>
    intro x hx
    simp only [colL, List.foldr_cons, colStep] at ih hx
    rcases List.mem_or_eq_of_mem_set hx with h | rfl
    · exact ih x h
    · have := colN_le (List.foldr (fun f out => out.set f.V.toNat (colN out f)) (List.replicate n 0) fs) f
      omega
theorem colL_step (n : Nat) (fs : List Fd) (k : Nat) (h : k < fs.length) : colL n (fs.drop k) = colStep (colL n (fs.drop (k + 1))) fs[k] := by
  rw [List.drop_eq_getElem_cons h]
  rfl

/-- What ThreeColours returns. -/
def ColS (g : List (List Int)) (ys : List Int) : Prop := (SerS g ∧ ∃ fs l, FoldedS g fs l ∧ ys = colL g.length fs) ∨ (¬ SerS g ∧ ys = [])

end Go.Proofs.YtiooindlpinjhaaDoor

/- Plain: the core of a graph; graphs that are written as matrices. -/
namespace Go.Proofs.YtiooindlpinjhaaDoor

theorem graph_ext {g h : List (List Int)} (hl : g.length = h.length) (hr : ∀ j, j < g.length → row g j = row h j) : g = h := by
  refine List.ext_getElem hl fun j h1 h2 => ?_
  have := hr j h1
  simpa [row, h1, h2] using this
theorem row_set (g : List (List Int)) (u j : Nat) (s : List Int) (hu : u < g.length) : row (g.set u s) j = if j = u then s else row g j := by
  by_cases e : j = u
  · subst e; simp [row, hu]
  · rw [if_neg e]
    simp [row, show ¬ u = j from fun h => e h.symm]
theorem row_out {g : List (List Int)} {j : Nat} (h : ¬ j < g.length) : row g j = [] := by simp [row, List.getElem?_eq_none (show g.length ≤ j by omega)]

/-- The graph of m vertices with the edges E. -/
def matG (m : Nat) (E : Nat → Nat → Bool) : List (List Int) := (List.range m).map fun r => natInts ((List.range m).filter (E r))
theorem matG_length (m : Nat) (E : Nat → Nat → Bool) : (matG m E).length = m := by simp [matG]
theorem row_matG {m : Nat} {E : Nat → Nat → Bool} {r : Nat} (hr : r < m) : row (matG m E) r = natInts ((List.range m).filter (E r)) := by simp [row, matG, hr]
theorem mem_matG {m : Nat} {E : Nat → Nat → Bool} {r : Nat} (hr : r < m) {x : Int} : x ∈ row (matG m E) r ↔ ∃ j : Nat, (j : Int) = x ∧ j < m ∧ E r j = true := by
  rw [row_matG hr, mem_natInts]
  simp only [List.mem_filter, List.mem_range]
  constructor
  · rintro ⟨i, ⟨h1, h2⟩, rfl⟩; exact ⟨i, rfl, h1, h2⟩
  · rintro ⟨i, rfl, h1, h2⟩; exact ⟨i, ⟨h1, h2⟩, rfl⟩
theorem matG_rising {m : Nat} {E : Nat → Nat → Bool} {r : Nat} (hr : r < m) : (row (matG m E) r).Pairwise (· < ·) := by
  rw [row_matG hr]
  exact natInts_rising (List.Pairwise.filter _ List.pairwise_lt_range)
theorem matG_congr {m : Nat} {E F : Nat → Nat → Bool} (h : ∀ r j, r < m → j < m → E r j = F r j) : matG m E = matG m F := by
  refine graph_ext (by simp [matG_length]) fun r hr => ?_
  rw [matG_length] at hr
  refine rising_ext_int _ _ (matG_rising hr) (matG_rising hr) fun x => ?_
  rw [mem_matG hr, mem_matG hr]
  constructor <;> rintro ⟨j, rfl, h1, h2⟩ <;> exact ⟨j, rfl, h1, by rw [← h2, h r j hr h1]⟩
theorem matG_none (m : Nat) {E : Nat → Nat → Bool} (h : ∀ r j, r < m → j < m → E r j = false) : matG m E = List.replicate m [] := by
  refine graph_ext (by simp [matG_length]) fun r hr => ?_
  rw [matG_length] at hr
  rw [row_matG hr]
  have e : (List.range m).filter (E r) = [] := by
    rw [List.filter_eq_nil_iff]
    intro j hj
    rw [h r j hr (by simpa using hj)]
    simp
  rw [e]
  simp [row, natInts, hr]
theorem matG_row_le {m : Nat} {E : Nat → Nat → Bool} (r : Nat) : (row (matG m E) r).length ≤ m := by
  by_cases hr : r < m
  · rw [row_matG hr, natInts_length]
    exact Nat.le_trans (List.length_filter_le _ _) (by simp)
  · rw [row_out (by rw [matG_length]; exact hr)]; simp

/-- Two vertices linked. -/
def linkL (g : List (List Int)) (u v : Nat) : List (List Int) := (g.set u (intoL (row g u) v)).set v (intoL (row (g.set u (intoL (row g u) v)) v) u)
theorem linkL_length (g : List (List Int)) (u v : Nat) : (linkL g u v).length = g.length := by simp [linkL]
theorem link_matG {m : Nat} {E : Nat → Nat → Bool} {u v : Nat} (hu : u < m) (hv : v < m) (huv : u ≠ v) :
    linkL (matG m E) u v = matG m (fun r j => E r j || (r == u && j == v) || (r == v && j == u)) := by
  have hl := matG_length m E
  have hrow : ∀ r, row (linkL (matG m E) u v) r = if r = v then intoL (row (matG m E) v) u else if r = u then intoL (row (matG m E) u) v else row (matG m E) r := by
    intro r
    unfold linkL
    rw [row_set _ _ _ _ (by simpa [hl] using hv)]
    by_cases e : r = v
    · rw [if_pos e, if_pos e, row_set _ _ _ _ (by omega), if_neg (fun h => huv h.symm)]
    · rw [if_neg e, if_neg e, row_set _ _ _ _ (by omega)]
  refine graph_ext (by rw [linkL_length, matG_length, matG_length]) fun r hr => ?_
  rw [linkL_length, matG_length] at hr
  rw [hrow]
  by_cases e : r = v
  · subst e
    rw [if_pos rfl]
    refine rising_ext_int _ _ (intoL_rising (matG_rising hr)) (matG_rising hr) fun x => ?_
    rw [mem_intoL, mem_matG hr, mem_matG hr]
    constructor
    · rintro (⟨j, rfl, h1, h2⟩ | rfl)
      · exact ⟨j, rfl, h1, by simp [h2]⟩
      · exact ⟨u, rfl, hu, by simp⟩
    · rintro ⟨j, rfl, h1, h2⟩
      simp only [Bool.or_eq_true, Bool.and_eq_true, beq_iff_eq] at h2
      rcases h2 with (h2 | ⟨h2, _⟩) | ⟨_, h2⟩
      · exact .inl ⟨j, rfl, h1, h2⟩
      · exact absurd h2.symm huv
      · exact .inr (by rw [h2])
  · rw [if_neg e]
    by_cases e2 : r = u
    · subst e2
      rw [if_pos rfl]
      refine rising_ext_int _ _ (intoL_rising (matG_rising hr)) (matG_rising hr) fun x => ?_
      rw [mem_intoL, mem_matG hr, mem_matG hr]
      constructor
      · rintro (⟨j, rfl, h1, h2⟩ | rfl)
        · exact ⟨j, rfl, h1, by simp [h2]⟩
        · exact ⟨v, rfl, hv, by simp⟩
      · rintro ⟨j, rfl, h1, h2⟩
        simp only [Bool.or_eq_true, Bool.and_eq_true, beq_iff_eq] at h2
        rcases h2 with (h2 | ⟨_, h2⟩) | ⟨h2, _⟩
        · exact .inl ⟨j, rfl, h1, h2⟩
        · exact .inr (by rw [h2])
        · exact absurd h2 e
    · rw [if_neg e2]
      refine rising_ext_int _ _ (matG_rising hr) (matG_rising hr) fun x => ?_
      rw [mem_matG hr, mem_matG hr]
      constructor <;> rintro ⟨j, rfl, h1, h2⟩ <;> refine ⟨j, rfl, h1, ?_⟩ <;> simpa [e, e2] using h2

/-- The edges among the first vertices: what the reference's double loop has made. -/
def uptoE (E : Nat → Nat → Bool) (i k : Nat) : Nat → Nat → Bool := fun r j => E r j && (decide (max r j < i) || (decide (max r j = i) && decide (min r j < k)))
structure SymE (m : Nat) (E : Nat → Nat → Bool) : Prop where
  sym : ∀ r j, r < m → j < m → E r j = E j r
  irr : ∀ r, r < m → E r r = false
theorem upto_start (m : Nat) (E : Nat → Nat → Bool) : matG m (uptoE E 0 0) = List.replicate m [] := matG_none m fun r j _ _ => by simp [uptoE]
theorem upto_row {m : Nat} {E : Nat → Nat → Bool} (h : SymE m E) {i : Nat} : matG m (uptoE E i i) = matG m (uptoE E (i + 1) 0) := by
  refine matG_congr fun r j hr hj => ?_
  by_cases e : r = j
  · subst e; simp [uptoE, h.irr r hr]
  · unfold uptoE
    congr 1
    by_cases h1 : max r j < i
    · simp [h1, show max r j < i + 1 by omega]
    · by_cases h2 : max r j = i
      · have : min r j < i := by omega
        simp [h2, this]
      · simp [h1, h2, show ¬ max r j < i + 1 by omega]
theorem upto_end {m : Nat} {E : Nat → Nat → Bool} : matG m (uptoE E m 0) = matG m E := by
  refine matG_congr fun r j hr hj => ?_
  simp [uptoE, show max r j < m by omega]
theorem upto_yes {m : Nat} {E : Nat → Nat → Bool} (h : SymE m E) {i k : Nat} (hi : i < m) (hk : k < i) (he : E i k = true) : linkL (matG m (uptoE E i k)) k i = matG m (uptoE E i (k + 1)) := by
  rw [link_matG (by omega) hi (by omega)]
  refine matG_congr fun r j hr hj => ?_
  have he' : E k i = true := by rw [h.sym k i (by omega) hi]; exact he
  by_cases h1 : r = k ∧ j = i
  · obtain ⟨rfl, rfl⟩ := h1
    have e1 : max r j = j := by omega
    have e2 : min r j < r + 1 := by omega
    simp [uptoE, he', e1, e2]
  by_cases h2 : r = i ∧ j = k
  · obtain ⟨rfl, rfl⟩ := h2
    have e1 : max r j = r := by omega
    have e2 : min r j < j + 1 := by omega
    simp [uptoE, he, e1, e2]
  have e1 : (r == k && j == i) = false := by
    simp only [Bool.and_eq_false_iff, beq_eq_false_iff_ne]
    by_cases hh : r = k
    · exact .inr fun q => h1 ⟨hh, q⟩
    · exact .inl hh
  have e2 : (r == i && j == k) = false := by
    simp only [Bool.and_eq_false_iff, beq_eq_false_iff_ne]
    by_cases hh : r = i
    · exact .inr fun q => h2 ⟨hh, q⟩
    · exact .inl hh
  simp only [e1, e2, Bool.or_false]
  unfold uptoE
  congr 2
  by_cases e : max r j = i
  · have : min r j < k ↔ min r j < k + 1 := by omega
    simp [this]
  · simp [e]
theorem upto_no {m : Nat} {E : Nat → Nat → Bool} (h : SymE m E) {i k : Nat} (hi : i < m) (hk : k < i) (he : E i k = false) : matG m (uptoE E i k) = matG m (uptoE E i (k + 1)) := by
  refine matG_congr fun r j hr hj => ?_
  have he' : E k i = false := by rw [h.sym k i (by omega) hi]; exact he
  by_cases h1 : r = k ∧ j = i
  · obtain ⟨rfl, rfl⟩ := h1
    simp [uptoE, he']
  by_cases h2 : r = i ∧ j = k
  · obtain ⟨rfl, rfl⟩ := h2
    simp [uptoE, he]
  unfold uptoE
  congr 2
  by_cases e : max r j = i
  · have : min r j < k ↔ min r j < k + 1 := by omega
    simp [this]
  · simp [e]

/-- Which of the listed vertices are neighbours. -/
def indE (g : List (List Int)) (l : List Int) : Nat → Nat → Bool := fun r j => decide (l.getD j 0 ∈ row g (l.getD r 0).toNat)
def indL (g : List (List Int)) (l : List Int) : List (List Int) := matG l.length (indE g l)
theorem getD_int {l : List Int} {j : Nat} (h : j < l.length) : l.getD j 0 = l[j] := by simp [h]
theorem indE_sym {g : List (List Int)} (hg : GOk g) {l : List Int} (hl : ∀ x ∈ l, 0 ≤ x ∧ x < g.length) : SymE l.length (indE g l) := by
  refine ⟨fun r j hr hj => ?_, fun r hr => ?_⟩
  · unfold indE
    rw [getD_int hr, getD_int hj]
    have hr' := hl _ (List.getElem_mem hr)
    have hj' := hl _ (List.getElem_mem hj)
    have h1 := hg.both (l[r].toNat) (by omega)
    have h2 := hg.both (l[j].toNat) (by omega)
    have e1 : ((l[r].toNat : Nat) : Int) = l[r] := Int.toNat_of_nonneg hr'.1
    have e2 : ((l[j].toNat : Nat) : Int) = l[j] := Int.toNat_of_nonneg hj'.1
    rw [e1] at h1
    rw [e2] at h2
    exact decide_eq_decide.2 ⟨fun h => h1 _ h, fun h => h2 _ h⟩
  · unfold indE
    rw [getD_int hr]
    have hr' := hl _ (List.getElem_mem hr)
    have h := (hg.sets (l[r].toNat) (by omega)).2
    rw [Int.toNat_of_nonneg hr'.1] at h
    exact decide_eq_false h

/-- Folding keeps a graph right. -/
theorem foldG_ok {g : List (List Int)} (hg : GOk g) {v : Nat} (hv : v < g.length) (h2 : (row g v).length ≤ 2) : GOk (foldG g (atRow v (row g v))) := by
  obtain ⟨hs, hirr⟩ := hg.sets v hv
  obtain ⟨hV, hAB⟩ := atRow_cases (v : Int) hs.2 h2 (fun x hx => (hs.1 x hx).1)
  have hA : 0 ≤ (atRow (v : Int) (row g v)).B → (atRow (v : Int) (row g v)).A ∈ row g v ∧ (atRow (v : Int) (row g v)).B ∈ row g v ∧ (atRow (v : Int) (row g v)).A ≠ (atRow (v : Int) (row g v)).B := by
    intro h
    rcases hAB with ⟨hB, _⟩ | ⟨h1, h3, _, _, h5⟩
    · omega
    · exact ⟨h1, h3, by omega⟩
  generalize hf : atRow (v : Int) (row g v) = f at *
  have hA1 : 0 ≤ f.B → (0 ≤ f.A ∧ f.A < g.length) ∧ (0 ≤ f.B ∧ f.B < g.length) ∧ f.A ≠ v ∧ f.B ≠ v ∧ f.A ≠ f.B := by
    intro h
    obtain ⟨a1, a2, a3⟩ := hA h
    exact ⟨hs.1 _ a1, hs.1 _ a2, fun e => hirr (e ▸ a1), fun e => hirr (e ▸ a2), a3⟩
  have hmem : ∀ u, u < g.length → ∀ x, x ∈ foldRow g f u ↔ ((u : Int) ≠ v ∧ x ≠ v ∧ x ∈ row g u) ∨ (0 ≤ f.B ∧ (((u : Int) = f.A ∧ x = f.B) ∨ ((u : Int) = f.B ∧ x = f.A))) := by
    intro u hu x
    have k1 : ∀ x, x ∈ fr1 g f u ↔ ((u : Int) ≠ v ∧ x ≠ v ∧ x ∈ row g u) := by
      intro x
      by_cases e : (u : Int) = f.V
      · rw [fr1_yes e]; rw [hV] at e; simp [e]
      · rw [fr1_no e, mem_lessL]; rw [hV] at e ⊢; simp [e]; exact and_comm
    have k2 : ∀ x, x ∈ fr2 g f u ↔ ((u : Int) ≠ v ∧ x ≠ v ∧ x ∈ row g u) ∨ (0 ≤ f.B ∧ (u : Int) = f.A ∧ x = f.B) := by
      intro x
      by_cases e : (u : Int) = f.A ∧ 0 ≤ f.B
      · rw [fr2_yes e.1 e.2, mem_intoL, k1]; simp [e.1, e.2]
      · rw [fr2_no e, k1]
        constructor
        · exact .inl
        · rintro (h | h)
          · exact h
          · exact absurd ⟨h.2.1, h.1⟩ e
    by_cases e : (u : Int) = f.B
    · rw [foldRow_yes e, mem_intoL, k2]
      have hB : 0 ≤ f.B := by omega
      have := (hA1 hB).2.2.2.2
      constructor
      · rintro ((h | h) | h)
        · exact .inl h
        · exact absurd (h.2.1.symm.trans e) this
        · exact .inr ⟨hB, .inr ⟨e, h⟩⟩
      · rintro (h | ⟨_, h | h⟩)
        · exact .inl (.inl h)
        · exact absurd (h.1.symm.trans e) this
        · exact .inr h.2
    · rw [foldRow_no e, k2]
      constructor
      · rintro (h | h)
        · exact .inl h
        · exact .inr ⟨h.1, .inl h.2⟩
      · rintro (h | ⟨h0, h | h⟩)
        · exact .inl h
        · exact .inr ⟨h0, h⟩
        · exact absurd h.1 e
  have hris : ∀ u, u < g.length → (foldRow g f u).Pairwise (· < ·) := by
    intro u hu
    have k1 : (fr1 g f u).Pairwise (· < ·) := by
      by_cases e : (u : Int) = f.V
      · rw [fr1_yes e]; exact List.Pairwise.nil
      · rw [fr1_no e]; exact lessL_rising (hg.sets u hu).1.2 _
    have k2 : (fr2 g f u).Pairwise (· < ·) := by
      by_cases e : (u : Int) = f.A ∧ 0 ≤ f.B
      · rw [fr2_yes e.1 e.2]; exact intoL_rising k1
      · rw [fr2_no e]; exact k1
    by_cases e : (u : Int) = f.B
    · rw [foldRow_yes e]; exact intoL_rising k2
    · rw [foldRow_no e]; exact k2
  refine ⟨by rw [foldG_length]; exact hg.pos, by rw [foldG_length]; exact hg.le, fun u hu => ?_, fun u hu x hx => ?_⟩
  · rw [foldG_length] at hu ⊢
    rw [row_foldG g f hu]
    refine ⟨⟨fun x hx => ?_, hris u hu⟩, fun h => ?_⟩
    · rcases (hmem u hu x).1 hx with ⟨_, _, h⟩ | ⟨h0, ⟨_, rfl⟩ | ⟨_, rfl⟩⟩
      · exact (hg.sets u hu).1.1 x h
      · exact (hA1 h0).2.1
      · exact (hA1 h0).1
    · rcases (hmem u hu _).1 h with ⟨_, _, h⟩ | ⟨h0, ⟨e1, e2⟩ | ⟨e1, e2⟩⟩
      · exact (hg.sets u hu).2 h
      · exact (hA1 h0).2.2.2.2 (e1.symm.trans e2)
      · exact (hA1 h0).2.2.2.2 (e2.symm.trans e1)
  · rw [foldG_length] at hu
    rw [row_foldG g f hu] at hx
    rcases (hmem u hu x).1 hx with ⟨h1, h3, h⟩ | ⟨h0, h⟩
    · obtain ⟨x0, xn⟩ := (hg.sets u hu).1.1 x h
      have hb := hg.both u hu x h
      rw [row_foldG g f (by omega)]
      refine (hmem _ (by omega) _).2 (.inl ⟨by omega, h1, hb⟩)
    · obtain ⟨⟨a0, an⟩, ⟨b0, bn⟩, _⟩ := hA1 h0
      rcases h with ⟨e1, rfl⟩ | ⟨e1, rfl⟩
      · rw [row_foldG g f (by omega)]
        exact (hmem _ (by omega) _).2 (.inr ⟨h0, .inr ⟨by omega, e1⟩⟩)
      · rw [row_foldG g f (by omega)]
        exact (hmem _ (by omega) _).2 (.inr ⟨h0, .inl ⟨by omega, e1⟩⟩)

theorem folds_ok {g : List (List Int)} {left : List Int} {fs : List Fd} {l : List Int} {g' : List (List Int)} (h : Folds g left fs l g') : GOk g → (∀ x ∈ left, 0 ≤ x ∧ x < g.length) → left.Pairwise (· < ·) → GOk g' ∧ g'.length = g.length ∧ SetIn g.length l := by
  induction h with
  | stop _ => intro hg hl hs; exact ⟨hg, rfl, hl, hs⟩
  | step h1 h2 h ih =>
    intro hg hl hs
    rename_i g l1 l2 v fs l g'
    have hv := hl v (by simp)
    obtain ⟨n, rfl⟩ := Int.eq_ofNat_of_zero_le hv.1
    have hgo := foldG_ok hg (v := n) (by omega) h2
    obtain ⟨r1, r2, r3⟩ := ih hgo (fun x hx => by rw [foldG_length]; exact hl x (mem_lessL.1 hx).1) (lessL_rising hs _)
    rw [foldG_length] at r2 r3
    exact ⟨r1, r2, r3⟩

/-- What CoreOf returns. -/
def CoreS (g gg : List (List Int)) (ok : Bool) : Prop :=
  (ok = true ∧ GOk g ∧ ∃ fs l g', Folds g (allL g.length) fs l g' ∧ l ≠ [] ∧ gg = indL g' l) ∨ (ok = false ∧ gg = [] ∧ (¬ GOk g ∨ ∃ fs g', Folds g (allL g.length) fs [] g'))
theorem coreS_det {g gg hh : List (List Int)} {ok ok' : Bool} (h : CoreS g gg ok) (h' : CoreS g hh ok') : gg = hh ∧ ok = ok' := by
  rcases h with ⟨rfl, hg, fs, l, g', hf, hl, rfl⟩ | ⟨rfl, rfl, h⟩ <;> rcases h' with ⟨rfl, hg', fs2, l2, g2, hf2, hl2, rfl⟩ | ⟨rfl, rfl, h'⟩
  · obtain ⟨_, rfl, rfl⟩ := folds_det hf hf2
    exact ⟨rfl, rfl⟩
  · rcases h' with h' | ⟨fs2, g2, h'⟩
    · exact absurd hg h'
    · obtain ⟨_, rfl, _⟩ := folds_det hf h'
      exact absurd rfl hl
  · rcases h with h | ⟨fs3, g3, h⟩
    · exact absurd hg' h
    · obtain ⟨_, rfl, _⟩ := folds_det hf2 h
      exact absurd rfl hl2
  · exact ⟨rfl, rfl⟩

end Go.Proofs.YtiooindlpinjhaaDoor
