/- Plain: what may be pruned away. -/
import Derived.Test.YtiooindlpinjhaaDoorBbQ6
import Derived.Test.YtiooindlpinjhaaDoorBbQ9
namespace Go.Proofs.YtiooindlpinjhaaDoor

/-- A prune: a vertex, another one, a kind. -/
structure Pr where
  V : Int
  B : Int
  K : Int

/-- A vertex may go so, of some that are left. -/
def CondP (g : List (List Int)) (L : List Int) (v b k : Int) : Prop :=
  (k = 2 ∧ ∀ x ∈ L, (x ∈ row g v.toNat ↔ x = b)) ∨
  (k = 3 ∧ b ∉ row g v.toNat ∧ ∀ x ∈ L, x ≠ v → x ≠ b → (x ∈ row g v.toNat ↔ x ∈ row g b.toNat)) ∨
  (k = 4 ∧ b ∈ row g v.toNat ∧ ∀ x ∈ L, x ≠ v → x ≠ b → (x ∈ row g v.toNat ↔ x ∈ row g b.toNat))
def GoP (g : List (List Int)) (L : List Int) (v b k : Int) : Prop :=
  (k = 1 ∧ b = -1 ∧ ∀ x ∈ L, x ∉ row g v.toNat) ∨ (b ∈ L ∧ b ≠ v ∧ CondP g L v b k)
theorem condP_kind {g : List (List Int)} {L : List Int} {v b k : Int} (h : CondP g L v b k) : 2 ≤ k ∧ k ≤ 4 := by
  rcases h with ⟨h, _⟩ | ⟨h, _⟩ | ⟨h, _⟩ <;> omega
theorem goP_kind {g : List (List Int)} {L : List Int} {v b k : Int} (h : GoP g L v b k) : 1 ≤ k ∧ k ≤ 4 := by
  rcases h with ⟨h, _⟩ | ⟨_, _, h⟩
  · omega
  · have := condP_kind h; omega

/-- The first prune of a vertex. -/
def PrS (g : List (List Int)) (L : List Int) (v : Int) : Option Pr → Prop
  | none => ∀ k b, ¬ GoP g L v b k
  | some p => p.V = v ∧ GoP g L v p.B p.K ∧ ∀ k b, (k < p.K ∨ (k = p.K ∧ b < p.B)) → ¬ GoP g L v b k
theorem prS_det {g : List (List Int)} {L : List Int} {v : Int} {r s : Option Pr} (h : PrS g L v r) (h2 : PrS g L v s) : r = s := by
  cases r with
  | none =>
    cases s with
    | none => rfl
    | some q => exact absurd h2.2.1 (h _ _)
  | some p =>
    cases s with
    | none => exact absurd h.2.1 (h2 _ _)
    | some q =>
      obtain ⟨p1, p2, p3⟩ := p
      obtain ⟨q1, q2, q3⟩ := q
      obtain ⟨a1, a2, a3⟩ := h
      obtain ⟨b1, b2, b3⟩ := h2
      simp only at a1 a2 a3 b1 b2 b3
      subst a1; subst b1
      have hk : p3 = q3 := by
        rcases Int.lt_trichotomy p3 q3 with h | h | h
        · exact absurd a2 (b3 _ _ (.inl h))
        · exact h
        · exact absurd b2 (a3 _ _ (.inl h))
      subst hk
      have hb : p2 = q2 := by
        rcases Int.lt_trichotomy p2 q2 with h | h | h
        · exact absurd a2 (b3 _ _ (.inr ⟨rfl, h⟩))
        · exact h
        · exact absurd b2 (a3 _ _ (.inr ⟨rfl, h⟩))
      subst hb
      rfl

/-- The least vertex that may goes, again and again. -/
inductive Prunes (g : List (List Int)) : List Int → List Pr → List Int → Prop
  | done (L : List Int) : (∀ j (hj : j < L.length), PrS g L L[j] none) → Prunes g L [] L
  | step (L : List Int) (j : Nat) (hj : j < L.length) (p : Pr) (ps : List Pr) (L' : List Int) : (∀ i (hi : i < L.length), i < j → PrS g L L[i] none) → PrS g L L[j] (some p) → Prunes g (lessL L L[j]) ps L' → Prunes g L (p :: ps) L'
theorem prunes_det {g : List (List Int)} {L : List Int} {ps : List Pr} {L' : List Int} (h : Prunes g L ps L') : ∀ {qs : List Pr} {M' : List Int}, Prunes g L qs M' → ps = qs ∧ L' = M' := by
  induction h with
  | done L h =>
    intro qs M' h2
    cases h2 with
    | done _ h2 => exact ⟨rfl, rfl⟩
    | step _ j hj p ps L' h3 h4 h5 => exact nomatch prS_det (h j hj) h4
  | step L j hj p ps L' h1 h2 h3 ih =>
    intro qs M' k
    cases k with
    | done _ k1 => exact nomatch prS_det (k1 j hj) h2
    | step _ i hi q qs _ k1 k2 k3 =>
      obtain rfl : i = j := by
        rcases Nat.lt_trichotomy i j with h | h | h
        · exact nomatch prS_det (h1 i hi h) k2
        · exact h
        · exact nomatch prS_det (k1 j hj h) h2
      have e := prS_det h2 k2
      obtain rfl : p = q := Option.some.inj e
      obtain ⟨e1, e2⟩ := ih k3
      exact ⟨by rw [e1], e2⟩

def PrOn (g : List (List Int)) (L0 : List Int) (os : List Pr) (L : List Int) : Prop := ∀ ps L', Prunes g L ps L' → Prunes g L0 (os ++ ps) L'
theorem prOn_start (g : List (List Int)) (L : List Int) : PrOn g L [] L := fun _ _ h => h
theorem prOn_step {g : List (List Int)} {L0 L : List Int} {os : List Pr} {j : Nat} {p : Pr} (h : PrOn g L0 os L) (hj : j < L.length) (h1 : ∀ i (hi : i < L.length), i < j → PrS g L L[i] none) (h2 : PrS g L L[j] (some p)) :
    PrOn g L0 (os ++ [p]) (lessL L L[j]) := fun ps L' k => by
  have := h (p :: ps) L' (.step L j hj p ps L' h1 h2 k)
  simpa using this
theorem prOn_stop {g : List (List Int)} {L0 L : List Int} {os : List Pr} (h : PrOn g L0 os L) (h1 : ∀ j (hj : j < L.length), PrS g L L[j] none) : Prunes g L0 os L := by
  have := h [] L (.done L h1)
  simpa using this

/-- What PrunedOf returns. -/
def PrunedS (g : List (List Int)) (ps : List Pr) (l : List Int) : Prop := (GOk g ∧ Prunes g (allL g.length) ps l) ∨ (¬ GOk g ∧ ps = [] ∧ l = [])
theorem prunedS_det {g : List (List Int)} {ps qs : List Pr} {l m : List Int} (h : PrunedS g ps l) (h2 : PrunedS g qs m) : ps = qs ∧ l = m := by
  rcases h with ⟨hg, h⟩ | ⟨hg, rfl, rfl⟩ <;> rcases h2 with ⟨hg2, h2⟩ | ⟨hg2, rfl, rfl⟩
  · exact prunes_det h h2
  · exact absurd hg hg2
  · exact absurd hg2 hg
  · exact ⟨rfl, rfl⟩

/-- The reference's neighbours that are left, but one. -/
def nearB (g : List (List Int)) (L : List Int) (v : Nat) (b : Int) : List Int := (row g v).filter fun x => decide (x ≠ b ∧ x ∈ L)
theorem mem_nearB {g : List (List Int)} {L : List Int} {v : Nat} {b x : Int} : x ∈ nearB g L v b ↔ x ∈ row g v ∧ x ≠ b ∧ x ∈ L := by simp [nearB]
theorem nearB_len (g : List (List Int)) (L : List Int) (v : Nat) (b : Int) : (nearB g L v b).length ≤ (row g v).length := List.length_filter_le _ _
theorem nearB_rising {g : List (List Int)} (hg : GOk g) {L : List Int} {v : Nat} (hv : v < g.length) (b : Int) : (nearB g L v b).Pairwise (· < ·) := (hg.sets v hv).1.2.filter _
theorem nearB_nil {g : List (List Int)} {L : List Int} {v : Nat} {b : Int} : (nearB g L v b).length = 0 ↔ ∀ x ∈ L, x ∈ row g v → x = b := by
  constructor
  · intro h x hx hr
    refine Classical.byContradiction fun e => ?_
    have : x ∈ nearB g L v b := mem_nearB.2 ⟨hr, e, hx⟩
    rw [List.eq_nil_of_length_eq_zero h] at this
    exact absurd this (by simp)
  · intro h
    cases e : nearB g L v b with
    | nil => rfl
    | cons y l =>
      have hy : y ∈ nearB g L v b := by rw [e]; simp
      obtain ⟨h1, h2, h3⟩ := mem_nearB.1 hy
      exact absurd (h y h3 h1) h2
theorem nearB_same {g : List (List Int)} (hg : GOk g) {L : List Int} {v b : Nat} (hv : v < g.length) (hb : b < g.length) (hvL : (v : Int) ∈ L) (hbL : (b : Int) ∈ L) (hvb : v ≠ b) :
    nearB g L v b = nearB g L b v ↔ ∀ x ∈ L, x ≠ v → x ≠ b → (x ∈ row g v ↔ x ∈ row g b) := by
  constructor
  · intro h x hx h1 h2
    have := congrArg (x ∈ ·) h
    simp only [mem_nearB, eq_iff_iff] at this
    constructor
    · intro hr; exact (this.1 ⟨hr, h2, hx⟩).1
    · intro hr; exact (this.2 ⟨hr, h1, hx⟩).1
  · intro h
    refine rising_ext_int _ _ (nearB_rising hg hv _) (nearB_rising hg hb _) fun x => ?_
    rw [mem_nearB, mem_nearB]
    constructor
    · rintro ⟨h1, h2, h3⟩
      have hne : x ≠ (v : Int) := fun e => (hg.sets v hv).2 (e ▸ h1)
      exact ⟨(h x h3 hne h2).1 h1, hne, h3⟩
    · rintro ⟨h1, h2, h3⟩
      have hne : x ≠ (b : Int) := fun e => (hg.sets b hb).2 (e ▸ h1)
      exact ⟨(h x h3 h2 hne).2 h1, hne, h3⟩

/-- The program's masks. -/
structure LOk (g : List (List Int)) (s : Nat) : Prop where
  ok : GOk g
  s16 : s < 65536
  inn : ∀ i, s.testBit i = true → i < g.length
theorem mem_bitsI {s : Nat} (h : s < 65536) {i : Nat} : ((i : Nat) : Int) ∈ natInts (bitsOf s) ↔ s.testBit i = true := by
  rw [mem_natInts]
  constructor
  · rintro ⟨j, hj, e⟩
    obtain rfl : j = i := by omega
    exact (mem_left h).1 hj
  · intro hi
    exact ⟨i, (mem_left h).2 hi, rfl⟩
theorem mem_bitsZ {s : Nat} (h : s < 65536) {x : Int} : x ∈ natInts (bitsOf s) ↔ ∃ i : Nat, (i : Int) = x ∧ s.testBit i = true := by
  rw [mem_natInts]
  constructor
  · rintro ⟨j, hj, e⟩; exact ⟨j, e, (mem_left h).1 hj⟩
  · rintro ⟨j, e, hj⟩; exact ⟨j, (mem_left h).2 hj, e⟩
theorem near_bit {g : List (List Int)} {s : Nat} (h : LOk g s) {v : Nat} (hv : v < g.length) (i : Nat) : (mask (row g v) &&& s).testBit i = true ↔ ((i : Nat) : Int) ∈ row g v ∧ s.testBit i = true := by
  rw [Nat.testBit_and, Bool.and_eq_true, testBit_row h.ok hv]
theorem alone_mask {g : List (List Int)} {s : Nat} (h : LOk g s) {v : Nat} (hv : v < g.length) : mask (row g v) &&& s = 0 ↔ ∀ x ∈ natInts (bitsOf s), x ∉ row g v := by
  constructor
  · intro e x hx hr
    obtain ⟨i, rfl, hi⟩ := (mem_bitsZ h.s16).1 hx
    have := (near_bit h hv i).2 ⟨hr, hi⟩
    rw [e] at this
    simp at this
  · intro hx
    refine Nat.eq_of_testBit_eq fun i => ?_
    rw [Nat.zero_testBit, Bool.eq_false_iff]
    intro hb
    obtain ⟨h1, h2⟩ := (near_bit h hv i).1 hb
    exact hx _ ((mem_bitsI h.s16).2 h2) h1
theorem pend_mask {g : List (List Int)} {s : Nat} (h : LOk g s) {v b : Nat} (hv : v < g.length) (hb : s.testBit b = true) : mask (row g v) &&& s = 2 ^ b ↔ ∀ x ∈ natInts (bitsOf s), (x ∈ row g v ↔ x = b) := by
  constructor
  · intro e x hx
    obtain ⟨i, rfl, hi⟩ := (mem_bitsZ h.s16).1 hx
    have h1 := near_bit h hv i
    rw [e, testBit_pow] at h1
    simp only [hi, and_true, decide_eq_true_eq] at h1
    rw [← h1]
    omega
  · intro hx
    refine Nat.eq_of_testBit_eq fun i => ?_
    rw [Bool.eq_iff_iff, near_bit h hv, testBit_pow, decide_eq_true_eq]
    constructor
    · rintro ⟨h1, h2⟩
      have := (hx _ ((mem_bitsI h.s16).2 h2)).1 h1
      omega
    · rintro rfl
      exact ⟨(hx _ ((mem_bitsI h.s16).2 hb)).2 rfl, hb⟩
theorem false_mask {g : List (List Int)} {s : Nat} (h : LOk g s) {v b : Nat} (hv : s.testBit v = true) (hb : s.testBit b = true) (hvb : v ≠ b) :
    mask (row g v) &&& s = mask (row g b) &&& s ↔ ((b : Nat) : Int) ∉ row g v ∧ ∀ x ∈ natInts (bitsOf s), x ≠ v → x ≠ b → (x ∈ row g v ↔ x ∈ row g b) := by
  have hvl := h.inn v hv
  have hbl := h.inn b hb
  constructor
  · intro e
    have key : ∀ i : Nat, s.testBit i = true → (((i : Nat) : Int) ∈ row g v ↔ ((i : Nat) : Int) ∈ row g b) := fun i hi => by
      have h1 := near_bit h hvl i
      have h2 := near_bit h hbl i
      rw [e] at h1
      simp only [hi, and_true] at h1 h2
      rw [← h1, ← h2]
    refine ⟨fun hr => ?_, fun x hx _ _ => ?_⟩
    · exact (h.ok.sets b hbl).2 ((key b hb).1 hr)
    · obtain ⟨i, rfl, hi⟩ := (mem_bitsZ h.s16).1 hx
      exact key i hi
  · rintro ⟨hn, hx⟩
    refine Nat.eq_of_testBit_eq fun i => ?_
    rw [Bool.eq_iff_iff, near_bit h hvl, near_bit h hbl]
    by_cases hi : s.testBit i = true
    · simp only [hi, and_true]
      by_cases e1 : i = v
      · subst e1
        have a1 := (h.ok.sets i hvl).2
        have a2 : ((i : Nat) : Int) ∉ row g b := fun hr => hn (by have := h.ok.both b hbl _ hr; rwa [Int.toNat_natCast] at this)
        simp [a1, a2]
      · by_cases e2 : i = b
        · subst e2
          have a1 := (h.ok.sets i hbl).2
          simp [a1, hn]
        · exact hx _ ((mem_bitsI h.s16).2 hi) (by omega) (by omega)
    · simp [hi]
theorem true_mask {g : List (List Int)} {s : Nat} (h : LOk g s) {v b : Nat} (hv : s.testBit v = true) (hb : s.testBit b = true) (hvb : v ≠ b) :
    ((mask (row g v) &&& s).testBit b = true ∧ sub (mask (row g v) &&& s) (2 ^ b) = sub (mask (row g b) &&& s) (2 ^ v)) ↔ ((b : Nat) : Int) ∈ row g v ∧ ∀ x ∈ natInts (bitsOf s), x ≠ v → x ≠ b → (x ∈ row g v ↔ x ∈ row g b) := by
  have hvl := h.inn v hv
  have hbl := h.inn b hb
  have hle := h.ok.le
  have s32 := h.s16
  have m1 : mask (row g v) &&& s < 65536 := Nat.lt_of_le_of_lt Nat.and_le_right h.s16
  have m2 : mask (row g b) &&& s < 65536 := Nat.lt_of_le_of_lt Nat.and_le_right h.s16
  rw [near_bit h hvl]
  constructor
  · rintro ⟨⟨hr, _⟩, e⟩
    refine ⟨hr, fun x hx e1 e2 => ?_⟩
    obtain ⟨i, rfl, hi⟩ := (mem_bitsZ h.s16).1 hx
    have h1 := testBit_sub1 m1 (show b < 16 by omega) i
    have h2 := testBit_sub1 m2 (show v < 16 by omega) i
    rw [e] at h1
    rw [h1, near_bit h hvl, near_bit h hbl] at h2
    have i1 : i ≠ b := fun q => e2 (by omega)
    have i2 : i ≠ v := fun q => e1 (by omega)
    simpa [hi, i1, i2] using h2
  · rintro ⟨hr, hx⟩
    refine ⟨⟨hr, hb⟩, Nat.eq_of_testBit_eq fun i => ?_⟩
    rw [Bool.eq_iff_iff, testBit_sub1 m1 (show b < 16 by omega), testBit_sub1 m2 (show v < 16 by omega), near_bit h hvl, near_bit h hbl]
    by_cases hi : s.testBit i = true
    · simp only [hi, and_true]
      by_cases e1 : i = v
      · subst e1
        have a1 := (h.ok.sets i hvl).2
        simp [a1]
      · by_cases e2 : i = b
        · subst e2
          have a1 := (h.ok.sets i hbl).2
          simp [a1]
        · have := hx _ ((mem_bitsI h.s16).2 hi) (by omega) (by omega)
          simp [e1, e2, this]
    · simp [hi]

end Go.Proofs.YtiooindlpinjhaaDoor

/- Plain: what can be reached in a set; the parts of a set. -/
namespace Go.Proofs.YtiooindlpinjhaaDoor

/-- Reached from u along E in S. -/
inductive Rch (E : Nat → Nat → Bool) (S : Nat → Prop) (u : Nat) : Nat → Prop
  | base : Rch E S u u
  | step {x y : Nat} : Rch E S u x → E x y = true → S y → Rch E S u y
theorem rch_closed {E : Nat → Nat → Bool} {S : Nat → Prop} {u : Nat} {T : Nat → Prop} (h0 : T u) (hcl : ∀ x y, T x → E x y = true → S y → T y) : ∀ x, Rch E S u x → T x := by
  intro x h
  induction h with
  | base => exact h0
  | step _ h2 h3 ih => exact hcl _ _ ih h2 h3
theorem rch_in {E : Nat → Nat → Bool} {S : Nat → Prop} {u : Nat} (hu : S u) : ∀ x, Rch E S u x → S x := rch_closed hu fun _ _ _ _ h => h
theorem rch_trans {E : Nat → Nat → Bool} {S : Nat → Prop} {u x y : Nat} (h : Rch E S u x) (k : Rch E S x y) : Rch E S u y := by
  induction k with
  | base => exact h
  | step _ h2 h3 ih => exact .step ih h2 h3
theorem rch_sym {E : Nat → Nat → Bool} (hE : ∀ r j, E r j = true → E j r = true) {S : Nat → Prop} {u x : Nat} (hu : S u) (h : Rch E S u x) : Rch E S x u := by
  induction h with
  | base => exact .base
  | step h1 h2 h3 ih => exact rch_trans (.step .base (hE _ _ h2) (rch_in hu _ h1)) ih
theorem rch_mono {E : Nat → Nat → Bool} {S S' : Nat → Prop} {u : Nat} (h : ∀ x, S x → S' x) : ∀ x, Rch E S u x → Rch E S' u x := by
  intro x hx
  induction hx with
  | base => exact .base
  | step _ h2 h3 ih => exact .step ih h2 (h _ h3)
/-- Away from closed parts the same is reached. -/
theorem rch_away {E : Nat → Nat → Bool} (hE : ∀ r j, E r j = true → E j r = true) {S D : Nat → Prop} (hD : ∀ x y, D x → E x y = true → S y → D y) {u : Nat} (hu : S u) (hnu : ¬ D u) :
    ∀ x, Rch E S u x ↔ Rch E (fun y => S y ∧ ¬ D y) u x := by
  intro x
  constructor
  · intro h
    induction h with
    | base => exact .base
    | @step x y h1 h2 h3 ih =>
      refine .step ih h2 ⟨h3, fun hd => ?_⟩
      have hx := rch_in (S := fun y => S y ∧ ¬ D y) ⟨hu, hnu⟩ _ ih
      exact hx.2 (hD _ _ hd (hE _ _ h2) hx.1)
  · exact rch_mono (fun _ h => h.1) x

/-- The part of a vertex, as a list out of L. -/
noncomputable def partL (E : Nat → Nat → Bool) (L : List Nat) (u : Nat) : List Nat := L.filter fun x => dec (Rch E (· ∈ L) u x)
theorem mem_partL {E : Nat → Nat → Bool} {L : List Nat} {u x : Nat} : x ∈ partL E L u ↔ x ∈ L ∧ Rch E (· ∈ L) u x := by
  simp [partL, dec_iff]
theorem partL_rising {E : Nat → Nat → Bool} {L : List Nat} (h : L.Pairwise (· < ·)) (u : Nat) : (partL E L u).Pairwise (· < ·) := List.Pairwise.filter _ h
theorem partL_length (E : Nat → Nat → Bool) (L : List Nat) (u : Nat) : (partL E L u).length ≤ L.length := List.length_filter_le _ _
noncomputable def restL (E : Nat → Nat → Bool) (L : List Nat) (u : Nat) : List Nat := L.filter fun x => !dec (Rch E (· ∈ L) u x)
theorem mem_restL {E : Nat → Nat → Bool} {L : List Nat} {u x : Nat} : x ∈ restL E L u ↔ x ∈ L ∧ ¬ Rch E (· ∈ L) u x := by
  simp only [restL, List.mem_filter, Bool.not_eq_true', and_congr_right_iff]
  intro _
  by_cases h : Rch E (· ∈ L) u x
  · simp [dec_true h, h]
  · simp [dec_false h, h]
theorem restL_rising {E : Nat → Nat → Bool} {L : List Nat} (h : L.Pairwise (· < ·)) (u : Nat) : (restL E L u).Pairwise (· < ·) := List.Pairwise.filter _ h
theorem restL_lt {E : Nat → Nat → Bool} {L : List Nat} {u : Nat} (hu : u ∈ L) : (restL E L u).length < L.length := by
  rcases Nat.lt_or_ge (restL E L u).length L.length with h | h
  · exact h
  · exfalso
    have e : restL E L u = L := List.filter_eq_self.2 (fun x hx => by
      have h2 : (restL E L u).length = L.length := Nat.le_antisymm (List.length_filter_le _ _) h
      exact List.length_filter_eq_length_iff.1 h2 x hx)
    have : u ∈ restL E L u := by rw [e]; exact hu
    exact (mem_restL.1 this).2 .base

/-- The parts of a rising list, by their least ones. -/
inductive Parts (E : Nat → Nat → Bool) : List Nat → List (List Nat) → Prop
  | done : Parts E [] []
  | step (u : Nat) (L : List Nat) (ps : List (List Nat)) : Parts E (restL E (u :: L) u) ps → Parts E (u :: L) (partL E (u :: L) u :: ps)
theorem parts_det {E : Nat → Nat → Bool} {L : List Nat} {ps : List (List Nat)} (h : Parts E L ps) : ∀ {qs : List (List Nat)}, Parts E L qs → ps = qs := by
  induction h with
  | done => intro qs h2; cases h2; rfl
  | step u L ps _ ih =>
    intro qs h2
    cases h2 with
    | step _ _ qs h3 => rw [ih h3]

def PartOn (E : Nat → Nat → Bool) (L0 : List Nat) (os : List (List Nat)) (L : List Nat) : Prop := ∀ ps, Parts E L ps → Parts E L0 (os ++ ps)
theorem partOn_start (E : Nat → Nat → Bool) (L : List Nat) : PartOn E L [] L := fun _ h => h
theorem partOn_step {E : Nat → Nat → Bool} {L0 L : List Nat} {os : List (List Nat)} {u : Nat} (h : PartOn E L0 os (u :: L)) : PartOn E L0 (os ++ [partL E (u :: L) u]) (restL E (u :: L) u) := fun ps k => by
  have := h _ (.step u L ps k)
  simpa using this
theorem partOn_stop {E : Nat → Nat → Bool} {L0 : List Nat} {os : List (List Nat)} (h : PartOn E L0 os []) : Parts E L0 os := by
  have := h [] .done
  simpa using this

end Go.Proofs.YtiooindlpinjhaaDoor

/- Plain: connected sets; a search by a list that grows at its end. -/
namespace Go.Proofs.YtiooindlpinjhaaDoor

/-- A list that is not empty and in which each is reached from the first. -/
def ConnL (E : Nat → Nat → Bool) (L : List Nat) : Prop := L ≠ [] ∧ ∀ x ∈ L, Rch E (· ∈ L) (L.headD 0) x
theorem connL_part {E : Nat → Nat → Bool} {u : Nat} {T : List Nat} : ConnL E (u :: T) ↔ partL E (u :: T) u = u :: T := by
  unfold ConnL partL
  rw [List.filter_eq_self]
  constructor
  · rintro ⟨_, h⟩ x hx
    exact dec_iff.2 (h x hx)
  · intro h
    exact ⟨by simp, fun x hx => dec_iff.1 (h x hx)⟩
theorem connL_len {E : Nat → Nat → Bool} {u : Nat} {T : List Nat} : ConnL E (u :: T) ↔ (partL E (u :: T) u).length = (u :: T).length := by
  rw [connL_part]
  constructor
  · intro h; rw [h]
  · intro h
    refine List.filter_eq_self.2 fun x hx => ?_
    exact List.length_filter_eq_length_iff.1 h x hx
theorem not_connL_nil (E : Nat → Nat → Bool) : ¬ ConnL E [] := fun h => h.1 rfl

theorem nodup_le : ∀ (n : Nat) (M : List Nat), M.Nodup → (∀ x ∈ M, x < n) → M.length ≤ n
  | 0, M, _, h => by
    cases M with
    | nil => exact Nat.le_refl _
    | cons x M => exact absurd (h x (by simp)) (Nat.not_lt_zero _)
  | n + 1, M, hn, h => by
    by_cases hm : n ∈ M
    · have h1 := List.length_erase_of_mem hm
      have h2 := nodup_le n (M.erase n) (hn.erase n) fun x hx => by
        have h3 := (List.Nodup.mem_erase_iff hn).1 hx
        have := h x h3.2
        have := h3.1
        omega
      omega
    · have := nodup_le n M hn fun x hx => by
        have := h x hx
        have : x ≠ n := fun e => hm (e ▸ hx)
        omega
      omega

/-- The search: what is met has a number that is not negative. -/
structure Bf (E : Nat → Nat → Bool) (L : List Nat) (n u : Nat) (F : List Int) (M : List Nat) : Prop where
  len : F.length = n
  nod : M.Nodup
  inn : ∀ x ∈ M, x ∈ L ∧ x < n
  rch : ∀ x ∈ M, Rch E (· ∈ L) u x
  frm : u ∈ M
  sgn : ∀ x, x < n → (0 ≤ F.getD x 0 ↔ x ∈ M)
  bnd : ∀ x, x < n → -1 ≤ F.getD x 0 ∧ F.getD x 0 < M.length
  stp : ∀ x, x < n → 0 < F.getD x 0 → ∃ y, y < n ∧ E y x = true ∧ F.getD y 0 + 1 = F.getD x 0
  zer : ∀ x, x < n → F.getD x 0 = 0 → x = u
theorem Bf.start {E : Nat → Nat → Bool} {L : List Nat} {n u : Nat} (hu : u ∈ L) (hn : u < n) : Bf E L n u ((List.replicate n (-1 : Int)).set u 0) [u] where
  len := by simp
  nod := by simp
  inn := fun x hx => by
    obtain rfl : x = u := by simpa using hx
    exact ⟨hu, hn⟩
  rch := fun x hx => by
    obtain rfl : x = u := by simpa using hx
    exact .base
  frm := by simp
  sgn := fun x hx => by
    rw [List.getD_eq_getElem?_getD, List.getElem?_set]
    by_cases e : u = x
    · subst e; simp [hn]
    · simp [e, hx, Ne.symm e]
  bnd := fun x hx => by
    rw [List.getD_eq_getElem?_getD, List.getElem?_set]
    by_cases e : u = x
    · subst e; simp [hn]
    · simp [e, hx]
  stp := fun x hx h => by
    rw [List.getD_eq_getElem?_getD, List.getElem?_set] at h
    by_cases e : u = x
    · subst e; simp [hn] at h
    · simp [e, hx] at h
  zer := fun x hx h => by
    rw [List.getD_eq_getElem?_getD, List.getElem?_set] at h
    by_cases e : u = x
    · exact e.symm
    · simp [e, hx] at h
theorem Bf.le {E : Nat → Nat → Bool} {L : List Nat} {n u : Nat} {F : List Int} {M : List Nat} (h : Bf E L n u F M) : M.length ≤ n := nodup_le n M h.nod fun x hx => (h.inn x hx).2
theorem Bf.add {E : Nat → Nat → Bool} {L : List Nat} {n u x y : Nat} {F : List Int} {M : List Nat} (h : Bf E L n u F M) (hx : x ∈ M) (hE : E x y = true) (hy : y ∈ L) (hn : y < n) (hm : y ∉ M) : Bf E L n u (F.set y (F.getD x 0 + 1)) (M ++ [y]) where
  len := by rw [List.length_set]; exact h.len
  nod := by
    rw [List.nodup_append]
    exact ⟨h.nod, by simp, fun a ha b hb => by
      obtain rfl : b = y := by simpa using hb
      exact fun e => hm (e ▸ ha)⟩
  inn := fun z hz => by
    rcases List.mem_append.1 hz with e | e
    · exact h.inn z e
    · obtain rfl : z = y := by simpa using e
      exact ⟨hy, hn⟩
  rch := fun z hz => by
    rcases List.mem_append.1 hz with e | e
    · exact h.rch z e
    · obtain rfl : z = y := by simpa using e
      exact .step (h.rch x hx) hE hy
  frm := List.mem_append_left _ h.frm
  sgn := fun z hz => by
    have hxn := (h.inn x hx).2
    have h0 := (h.sgn x hxn).2 hx
    generalize F.getD x 0 = q at h0 ⊢
    rw [List.getD_eq_getElem?_getD, List.getElem?_set]
    by_cases e : y = z
    · subst e
      simp [h.len, hn]
      omega
    · have := h.sgn z hz
      rw [List.getD_eq_getElem?_getD] at this
      simp [e, this, Ne.symm e]
  bnd := fun z hz => by
    have hxn := (h.inn x hx).2
    have h1 := h.bnd x hxn
    have h2 := h.bnd z hz
    generalize F.getD x 0 = q at h1 ⊢
    rw [List.getD_eq_getElem?_getD] at h2
    rw [List.getD_eq_getElem?_getD, List.getElem?_set, List.length_append]
    by_cases e : y = z
    · subst e
      simp [h.len, hn]
      omega
    · simp only [e, if_false]
      simp
      omega
  stp := fun z hz h0 => by
    have hxn := (h.inn x hx).2
    have hxy : x ≠ y := fun e => hm (e ▸ hx)
    have get : ∀ a, a ≠ y → (F.set y (F.getD x 0 + 1)).getD a 0 = F.getD a 0 := fun a ha => by
      rw [List.getD_eq_getElem?_getD, List.getD_eq_getElem?_getD, List.getElem?_set]
      simp [Ne.symm ha]
    by_cases e : z = y
    · subst e
      refine ⟨x, hxn, hE, ?_⟩
      rw [get x hxy, List.getD_eq_getElem?_getD (l := F.set _ _), List.getElem?_set]
      simp [h.len, hn]
    · rw [get z e] at h0 ⊢
      obtain ⟨q, h1, h2, h3⟩ := h.stp z hz h0
      refine ⟨q, h1, h2, ?_⟩
      rw [get q (fun e2 => hm (e2 ▸ (h.sgn q h1).1 (by omega)))]
      exact h3
  zer := fun z hz h0 => by
    have hxn := (h.inn x hx).2
    have h1 := (h.sgn x hxn).2 hx
    rw [List.getD_eq_getElem?_getD, List.getElem?_set] at h0
    by_cases e : y = z
    · subst e
      simp [h.len, hn] at h0
      rw [List.getD_eq_getElem?_getD] at h1
      omega
    · simp only [e, if_false] at h0
      exact h.zer z hz (by rw [List.getD_eq_getElem?_getD]; exact h0)
/-- Of the first so many met all neighbours are met. -/
def BfTo (E : Nat → Nat → Bool) (L M : List Nat) (i : Nat) : Prop := ∀ j, j < i → ∀ y, y ∈ L → E (M.getD j 0) y = true → y ∈ M
theorem BfTo.more {E : Nat → Nat → Bool} {L M : List Nat} {i y : Nat} (h : BfTo E L M i) (hi : i ≤ M.length) : BfTo E L (M ++ [y]) i := fun j hj z hz hE => by
  have e : (M ++ [y]).getD j 0 = M.getD j 0 := by simp [List.getElem?_append_left (show j < M.length by omega)]
  rw [e] at hE
  exact List.mem_append_left _ (h j hj z hz hE)
theorem Bf.done {E : Nat → Nat → Bool} {L : List Nat} {n u : Nat} {F : List Int} {M : List Nat} (h : Bf E L n u F M) (hc : BfTo E L M M.length) : ∀ x, x ∈ M ↔ x ∈ partL E L u := by
  intro x
  rw [mem_partL]
  constructor
  · intro hx
    exact ⟨(h.inn x hx).1, h.rch x hx⟩
  · rintro ⟨_, hx⟩
    refine rch_closed (T := (· ∈ M)) h.frm (fun a b ha hE hb => ?_) x hx
    obtain ⟨j, hj, e⟩ := List.getElem_of_mem ha
    exact hc j hj b hb (by have k : M.getD j 0 = a := by simp [hj, e]
                           rw [k]; exact hE)

end Go.Proofs.YtiooindlpinjhaaDoor
