/- Plain: what may be pruned away. -/
import Derived.Test.YtfphapcgjlhieaaDoorGtQ9
namespace Go.Proofs.YtfphapcgjlhieaaDoor

/-- A prune: a vertex, another one, a kind. -/
structure Pr where
  V : Int
  B : Int
  K : Int

/-- A vertex may go so, of some that are left. -/
def CondP (g : List (List Int)) (L : List Int) (v b k : Int) : Prop :=
  (k = 2 ∧ ∀ x ∈ L, (x ∈ row g v.toNat ↔ x = b)) ∨
  (k = 3 ∧ b ∉ row g v.toNat ∧ ∀ x ∈ L, x ≠ v → x ≠ b → (x ∈ row g v.toNat ↔ x ∈ row g b.toNat)) ∨
  (k = 4 ∧ b ∈ row g v.toNat ∧ ∀ x ∈ L, x ≠ v → x ≠ b → (x ∈ row g v.toNat ↔ x ∈ row g b.toNat))
def GoP (g : List (List Int)) (L : List Int) (v b k : Int) : Prop :=
  (k = 1 ∧ b = -1 ∧ ∀ x ∈ L, x ∉ row g v.toNat) ∨ (b ∈ L ∧ b ≠ v ∧ CondP g L v b k)
theorem condP_kind {g : List (List Int)} {L : List Int} {v b k : Int} (h : CondP g L v b k) : 2 ≤ k ∧ k ≤ 4 := by
  rcases h with ⟨h, _⟩ | ⟨h, _⟩ | ⟨h, _⟩ <;> omega
theorem goP_kind {g : List (List Int)} {L : List Int} {v b k : Int} (h : GoP g L v b k) : 1 ≤ k ∧ k ≤ 4 := by
  rcases h with ⟨h, _⟩ | ⟨_, _, h⟩
  · omega
  · have := condP_kind h; omega

/-- The first prune of a vertex. -/
def PrS (g : List (List Int)) (L : List Int) (v : Int) : Option Pr → Prop
  | none => ∀ k b, ¬ GoP g L v b k
  | some p => p.V = v ∧ GoP g L v p.B p.K ∧ ∀ k b, (k < p.K ∨ (k = p.K ∧ b < p.B)) → ¬ GoP g L v b k
theorem prS_det {g : List (List Int)} {L : List Int} {v : Int} {r s : Option Pr} (h : PrS g L v r) (h2 : PrS g L v s) : r = s := by
  cases r with
  | none =>
    cases s with
    | none => rfl
    | some q => exact absurd h2.2.1 (h _ _)
  | some p =>
    cases s with
    | none => exact absurd h.2.1 (h2 _ _)
    | some q =>
      obtain ⟨p1, p2, p3⟩ := p
      obtain ⟨q1, q2, q3⟩ := q
      obtain ⟨a1, a2, a3⟩ := h
      obtain ⟨b1, b2, b3⟩ := h2
      simp only at a1 a2 a3 b1 b2 b3
      subst a1; subst b1
      have hk : p3 = q3 := by
        rcases Int.lt_trichotomy p3 q3 with h | h | h
        · exact absurd a2 (b3 _ _ (.inl h))
        · exact h
        · exact absurd b2 (a3 _ _ (.inl h))
      subst hk
      have hb : p2 = q2 := by
        rcases Int.lt_trichotomy p2 q2 with h | h | h
        · exact absurd a2 (b3 _ _ (.inr ⟨rfl, h⟩))
        · exact h
        · exact absurd b2 (a3 _ _ (.inr ⟨rfl, h⟩))
      subst hb
      rfl

/-- The least vertex that may goes, again and again. -/
inductive Prunes (g : List (List Int)) : List Int → List Pr → List Int → Prop
  | done (L : List Int) : (∀ j (hj : j < L.length), PrS g L L[j] none) → Prunes g L [] L
  | step (L : List Int) (j : Nat) (hj : j < L.length) (p : Pr) (ps : List Pr) (L' : List Int) : (∀ i (hi : i < L.length), i < j → PrS g L L[i] none) → PrS g L L[j] (some p) → Prunes g (lessL L L[j]) ps L' → Prunes g L (p :: ps) L'
theorem prunes_det {g : List (List Int)} {L : List Int} {ps : List Pr} {L' : List Int} (h : Prunes g L ps L') : ∀ {qs : List Pr} {M' : List Int}, Prunes g L qs M' → ps = qs ∧ L' = M' := by
  induction h with
  | done L h =>
    intro qs M' h2
    cases h2 with
    | done _ h2 => exact ⟨rfl, rfl⟩
    | step _ j hj p ps L' h3 h4 h5 => exact nomatch prS_det (h j hj) h4
  | step L j hj p ps L' h1 h2 h3 ih =>
    intro qs M' k
    cases k with
    | done _ k1 => exact nomatch prS_det (k1 j hj) h2
    | step _ i hi q qs _ k1 k2 k3 =>
      obtain rfl : i = j := by
        rcases Nat.lt_trichotomy i j with h | h | h
        · exact nomatch prS_det (h1 i hi h) k2
        · exact h
        · exact nomatch prS_det (k1 j hj h) h2
      have e := prS_det h2 k2
      obtain rfl : p = q := Option.some.inj e
      obtain ⟨e1, e2⟩ := ih k3
      exact ⟨by rw [e1], e2⟩

def PrOn (g : List (List Int)) (L0 : List Int) (os : List Pr) (L : List Int) : Prop := ∀ ps L', Prunes g L ps L' → Prunes g L0 (os ++ ps) L'
theorem prOn_start (g : List (List Int)) (L : List Int) : PrOn g L [] L := fun _ _ h => h
theorem prOn_step {g : List (List Int)} {L0 L : List Int} {os : List Pr} {j : Nat} {p : Pr} (h : PrOn g L0 os L) (hj : j < L.length) (h1 : ∀ i (hi : i < L.length), i < j → PrS g L L[i] none) (h2 : PrS g L L[j] (some p)) :
    PrOn g L0 (os ++ [p]) (lessL L L[j]) := fun ps L' k => by
  have := h (p :: ps) L' (.step L j hj p ps L' h1 h2 k)
  simpa using this
theorem prOn_stop {g : List (List Int)} {L0 L : List Int} {os : List Pr} (h : PrOn g L0 os L) (h1 : ∀ j (hj : j < L.length), PrS g L L[j] none) : Prunes g L0 os L := by
  have := h [] L (.done L h1)
  simpa using this

/-- What PrunedOf returns. -/
def PrunedS (g : List (List Int)) (ps : List Pr) (l : List Int) : Prop := (GOk g ∧ Prunes g (allL g.length) ps l) ∨ (¬ GOk g ∧ ps = [] ∧ l = [])
theorem prunedS_det {g : List (List Int)} {ps qs : List Pr} {l m : List Int} (h : PrunedS g ps l) (h2 : PrunedS g qs m) : ps = qs ∧ l = m := by
  rcases h with ⟨hg, h⟩ | ⟨hg, rfl, rfl⟩ <;> rcases h2 with ⟨hg2, h2⟩ | ⟨hg2, rfl, rfl⟩
  · exact prunes_det h h2
  · exact absurd hg hg2
  · exact absurd hg2 hg
  · exact ⟨rfl, rfl⟩

/-- The reference's neighbours that are left, but one. -/
def nearB (g : List (List Int)) (L : List Int) (v : Nat) (b : Int) : List Int := (row g v).filter fun x => decide (x ≠ b ∧ x ∈ L)
theorem mem_nearB {g : List (List Int)} {L : List Int} {v : Nat} {b x : Int} : x ∈ nearB g L v b ↔ x ∈ row g v ∧ x ≠ b ∧ x ∈ L := by simp [nearB]
theorem nearB_len (g : List (List Int)) (L : List Int) (v : Nat) (b : Int) : (nearB g L v b).length ≤ (row g v).length := List.length_filter_le _ _
theorem nearB_rising {g : List (List Int)} (hg : GOk g) {L : List Int} {v : Nat} (hv : v < g.length) (b : Int) : (nearB g L v b).Pairwise (· < ·) := (hg.sets v hv).1.2.filter _
theorem nearB_nil {g : List (List Int)} {L : List Int} {v : Nat} {b : Int} : (nearB g L v b).length = 0 ↔ ∀ x ∈ L, x ∈ row g v → x = b := by
  constructor
  · intro h x hx hr
    refine Classical.byContradiction fun e => ?_
    have : x ∈ nearB g L v b := mem_nearB.2 ⟨hr, e, hx⟩
    rw [List.eq_nil_of_length_eq_zero h] at this
    exact absurd this (by simp)
  · intro h
    cases e : nearB g L v b with
    | nil => rfl
    | cons y l =>
      have hy : y ∈ nearB g L v b := by rw [e]; simp
      obtain ⟨h1, h2, h3⟩ := mem_nearB.1 hy
      exact absurd (h y h3 h1) h2
theorem nearB_same {g : List (List Int)} (hg : GOk g) {L : List Int} {v b : Nat} (hv : v < g.length) (hb : b < g.length) (hvL : (v : Int) ∈ L) (hbL : (b : Int) ∈ L) (hvb : v ≠ b) :
    nearB g L v b = nearB g L b v ↔ ∀ x ∈ L, x ≠ v → x ≠ b → (x ∈ row g v ↔ x ∈ row g b) := by
  constructor
  · intro h x hx h1 h2
    have := congrArg (x ∈ ·) h
    simp only [mem_nearB, eq_iff_iff] at this
    constructor
    · intro hr; exact (this.1 ⟨hr, h2, hx⟩).1
    · intro hr; exact (this.2 ⟨hr, h1, hx⟩).1
  · intro h
    refine rising_ext_int _ _ (nearB_rising hg hv _) (nearB_rising hg hb _) fun x => ?_
    rw [mem_nearB, mem_nearB]
    constructor
    · rintro ⟨h1, h2, h3⟩
      have hne : x ≠ (v : Int) := fun e => (hg.sets v hv).2 (e ▸ h1)
      exact ⟨(h x h3 hne h2).1 h1, hne, h3⟩
    · rintro ⟨h1, h2, h3⟩
      have hne : x ≠ (b : Int) := fun e => (hg.sets b hb).2 (e ▸ h1)
      exact ⟨(h x h3 h2 hne).2 h1, hne, h3⟩

/-- The program's masks. -/
structure LOk (g : List (List Int)) (s : Nat) : Prop where
  ok : GOk g
  s16 : s < 65536
  inn : ∀ i, s.testBit i = true → i < g.length
theorem mem_bitsI {s : Nat} (h : s < 65536) {i : Nat} : ((i : Nat) : Int) ∈ natInts (bitsOf s) ↔ s.testBit i = true := by
  rw [mem_natInts]
  constructor
  · rintro ⟨j, hj, e⟩
    obtain rfl : j = i := by omega
    exact (mem_left h).1 hj
  · intro hi
    exact ⟨i, (mem_left h).2 hi, rfl⟩
theorem mem_bitsZ {s : Nat} (h : s < 65536) {x : Int} : x ∈ natInts (bitsOf s) ↔ ∃ i : Nat, (i : Int) = x ∧ s.testBit i = true := by
  rw [mem_natInts]
  constructor
  · rintro ⟨j, hj, e⟩; exact ⟨j, e, (mem_left h).1 hj⟩
  · rintro ⟨j, e, hj⟩; exact ⟨j, (mem_left h).2 hj, e⟩
theorem near_bit {g : List (List Int)} {s : Nat} (h : LOk g s) {v : Nat} (hv : v < g.length) (i : Nat) : (mask (row g v) &&& s).testBit i = true ↔ ((i : Nat) : Int) ∈ row g v ∧ s.testBit i = true := by
  rw [Nat.testBit_and, Bool.and_eq_true, testBit_row h.ok hv]
theorem alone_mask {g : List (List Int)} {s : Nat} (h : LOk g s) {v : Nat} (hv : v < g.length) : mask (row g v) &&& s = 0 ↔ ∀ x ∈ natInts (bitsOf s), x ∉ row g v := by
  constructor
  · intro e x hx hr
    obtain ⟨i, rfl, hi⟩ := (mem_bitsZ h.s16).1 hx
    have := (near_bit h hv i).2 ⟨hr, hi⟩
    rw [e] at this
    simp at this
  · intro hx
    refine Nat.eq_of_testBit_eq fun i => ?_
    rw [Nat.zero_testBit, Bool.eq_false_iff]
    intro hb
    obtain ⟨h1, h2⟩ := (near_bit h hv i).1 hb
    exact hx _ ((mem_bitsI h.s16).2 h2) h1
theorem pend_mask {g : List (List Int)} {s : Nat} (h : LOk g s) {v b : Nat} (hv : v < g.length) (hb : s.testBit b = true) : mask (row g v) &&& s = 2 ^ b ↔ ∀ x ∈ natInts (bitsOf s), (x ∈ row g v ↔ x = b) := by
  constructor
  · intro e x hx
    obtain ⟨i, rfl, hi⟩ := (mem_bitsZ h.s16).1 hx
    have h1 := near_bit h hv i
    rw [e, testBit_pow] at h1
    simp only [hi, and_true, decide_eq_true_eq] at h1
    rw [← h1]
    omega
  · intro hx
    refine Nat.eq_of_testBit_eq fun i => ?_
    rw [Bool.eq_iff_iff, near_bit h hv, testBit_pow, decide_eq_true_eq]
    constructor
    · rintro ⟨h1, h2⟩
      have := (hx _ ((mem_bitsI h.s16).2 h2)).1 h1
      omega
    · rintro rfl
      exact ⟨(hx _ ((mem_bitsI h.s16).2 hb)).2 rfl, hb⟩
theorem false_mask {g : List (List Int)} {s : Nat} (h : LOk g s) {v b : Nat} (hv : s.testBit v = true) (hb : s.testBit b = true) (hvb : v ≠ b) :
    mask (row g v) &&& s = mask (row g b) &&& s ↔ ((b : Nat) : Int) ∉ row g v ∧ ∀ x ∈ natInts (bitsOf s), x ≠ v → x ≠ b → (x ∈ row g v ↔ x ∈ row g b) := by
  have hvl := h.inn v hv
  have hbl := h.inn b hb
  constructor
  · intro e
    have key : ∀ i : Nat, s.testBit i = true → (((i : Nat) : Int) ∈ row g v ↔ ((i : Nat) : Int) ∈ row g b) := fun i hi => by
      have h1 := near_bit h hvl i
      have h2 := near_bit h hbl i
      rw [e] at h1
      simp only [hi, and_true] at h1 h2
      rw [← h1, ← h2]
    refine ⟨fun hr => ?_, fun x hx _ _ => ?_⟩
    · exact (h.ok.sets b hbl).2 ((key b hb).1 hr)
    · obtain ⟨i, rfl, hi⟩ := (mem_bitsZ h.s16).1 hx
      exact key i hi
  · rintro ⟨hn, hx⟩
    refine Nat.eq_of_testBit_eq fun i => ?_
    rw [Bool.eq_iff_iff, near_bit h hvl, near_bit h hbl]
    by_cases hi : s.testBit i = true
    · simp only [hi, and_true]
      by_cases e1 : i = v
      · subst e1
        have a1 := (h.ok.sets i hvl).2
        have a2 : ((i : Nat) : Int) ∉ row g b := fun hr => hn (by have := h.ok.both b hbl _ hr; rwa [Int.toNat_natCast] at this)
        simp [a1, a2]
      · by_cases e2 : i = b
        · subst e2
          have a1 := (h.ok.sets i hbl).2
          simp [a1, hn]
        · exact hx _ ((mem_bitsI h.s16).2 hi) (by omega) (by omega)
    · simp [hi]
theorem true_mask {g : List (List Int)} {s : Nat} (h : LOk g s) {v b : Nat} (hv : s.testBit v = true) (hb : s.testBit b = true) (hvb : v ≠ b) :
    ((mask (row g v) &&& s).testBit b = true ∧ sub (mask (row g v) &&& s) (2 ^ b) = sub (mask (row g b) &&& s) (2 ^ v)) ↔ ((b : Nat) : Int) ∈ row g v ∧ ∀ x ∈ natInts (bitsOf s), x ≠ v → x ≠ b → (x ∈ row g v ↔ x ∈ row g b) := by
  have hvl := h.inn v hv
  have hbl := h.inn b hb
  have hle := h.ok.le
  have s32 := h.s16
  have m1 : mask (row g v) &&& s < 65536 := Nat.lt_of_le_of_lt Nat.and_le_right h.s16
  have m2 : mask (row g b) &&& s < 65536 := Nat.lt_of_le_of_lt Nat.and_le_right h.s16
  rw [near_bit h hvl]
  constructor
  · rintro ⟨⟨hr, _⟩, e⟩
    refine ⟨hr, fun x hx e1 e2 => ?_⟩
    obtain ⟨i, rfl, hi⟩ := (mem_bitsZ h.s16).1 hx
    have h1 := testBit_sub1 m1 (show b < 16 by omega) i
    have h2 := testBit_sub1 m2 (show v < 16 by omega) i
    rw [e] at h1
    rw [h1, near_bit h hvl, near_bit h hbl] at h2
    have i1 : i ≠ b := fun q => e2 (by omega)
    have i2 : i ≠ v := fun q => e1 (by omega)
    simpa [hi, i1, i2] using h2
  · rintro ⟨hr, hx⟩
    refine ⟨⟨hr, hb⟩, Nat.eq_of_testBit_eq fun i => ?_⟩
    rw [Bool.eq_iff_iff, testBit_sub1 m1 (show b < 16 by omega), testBit_sub1 m2 (show v < 16 by omega), near_bit h hvl, near_bit h hbl]
    by_cases hi : s.testBit i = true
    · simp only [hi, and_true]
      by_cases e1 : i = v
      · subst e1
        have a1 := (h.ok.sets i hvl).2
        simp [a1]
      · by_cases e2 : i = b
        · subst e2
          have a1 := (h.ok.sets i hbl).2
          simp [a1]
        · have := hx _ ((mem_bitsI h.s16).2 hi) (by omega) (by omega)
          simp [e1, e2, this]
    · simp [hi]

end Go.Proofs.YtfphapcgjlhieaaDoor
