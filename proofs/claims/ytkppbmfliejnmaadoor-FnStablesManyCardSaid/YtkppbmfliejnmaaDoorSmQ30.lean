/- Plain: the least module that contains a set; how many modules there are. -/
import Derived.Test.YtkppbmfliejnmaaDoorSmQ28
import Derived.Test.YtkppbmfliejnmaaDoorSmQ26
import Derived.Test.YtkppbmfliejnmaaDoorSmQ15
import Derived.Deep.RegionLaw
import Derived.Deep.DeepCutAuto
import Derived.Deep.RegionHeld3
namespace Go.Proofs.YtkppbmfliejnmaaDoor

def SubB (s t : Nat) : Prop := ∀ v, s.testBit v = true → t.testBit v = true
theorem and_sub_zero {a s m : Nat} (h : SubB s m) (k : a &&& m = 0) : a &&& s = 0 := by
  refine Nat.eq_of_testBit_eq fun v => ?_
  have := congrArg (fun x => x.testBit v) k
  simp only [Nat.testBit_and, Nat.zero_testBit] at this ⊢
  cases hs : s.testBit v with
  | false => simp
  | true =>
    rw [h v hs] at this
    simpa using this
theorem and_sub_all {a s m : Nat} (h : SubB s m) (k : a &&& m = m) : a &&& s = s := by
  refine Nat.eq_of_testBit_eq fun v => ?_
  have := congrArg (fun x => x.testBit v) k
  simp only [Nat.testBit_and] at this ⊢
  cases hs : s.testBit v with
  | false => simp
  | true =>
    rw [h v hs] at this
    simpa using this
theorem sub_eq {s t : Nat} (h : SubB s t) (k : SubB t s) : s = t := by
  refine Nat.eq_of_testBit_eq fun v => ?_
  cases hs : s.testBit v with
  | true => exact (h v hs).symm
  | false =>
    cases ht : t.testBit v with
    | false => rfl
    | true =>
      rw [k v ht] at hs
      exact absurd hs (by decide)
theorem full_bit {n v : Nat} : (2 ^ n - 1).testBit v = decide (v < n) := Nat.testBit_two_pow_sub_one n v
theorem sub_full {s n : Nat} (h : s < 2 ^ n) : SubB s (2 ^ n - 1) := fun v hv => by
  rw [full_bit, decide_eq_true_eq]
  rcases Nat.lt_or_ge v n with h1 | h1
  · exact h1
  · have : s < 2 ^ v := Nat.lt_of_lt_of_le h (Nat.pow_le_pow_right (by decide) h1)
    rw [Nat.testBit_lt_two_pow this] at hv
    exact absurd hv (by decide)
theorem lt_of_sub {s n : Nat} (h : SubB s (2 ^ n - 1)) : s < 2 ^ n := by
  rcases Nat.lt_or_ge s (2 ^ n) with h1 | h1
  · exact h1
  · obtain ⟨v, hv, hb⟩ := Nat.exists_ge_and_testBit_of_ge_two_pow h1
    have := h v hb
    rw [full_bit, decide_eq_true_eq] at this
    omega

/-- The set s0 has grown to s, and no further than any module that contains it. -/
structure ClI (g : List (List Int)) (s0 s : Nat) : Prop where
  lt : s < 2 ^ g.length
  sup : SubB s0 s
  low : ∀ m, ModN g m → SubB s0 m → SubB s m
theorem ClI.start {g : List (List Int)} {s : Nat} (h : s < 2 ^ g.length) : ClI g s s := ⟨h, fun _ h => h, fun _ _ h => h⟩
theorem ClI.spl {g : List (List Int)} {s0 s v : Nat} (h : ClI g s0 s) (hv : v < g.length) (hs : ¬ (mask (row g v) &&& s = 0 ∨ mask (row g v) &&& s = s)) : ∀ m, ModN g m → SubB s0 m → m.testBit v = true := by
  intro m hm h0
  cases e : m.testBit v with
  | true => rfl
  | false => exact absurd ((hm v hv e).imp (and_sub_zero (h.low m hm h0)) (and_sub_all (h.low m hm h0))) hs
theorem ClI.more {g : List (List Int)} {s0 s z : Nat} (h : ClI g s0 s) (hz : ∀ v, z.testBit v = true → v < g.length ∧ ¬ (mask (row g v) &&& s = 0 ∨ mask (row g v) &&& s = s)) : ClI g s0 (s ||| z) where
  lt := lt_of_sub fun v hv => by
    rw [Nat.testBit_or, Bool.or_eq_true] at hv
    rcases hv with hv | hv
    · exact sub_full h.lt v hv
    · rw [full_bit, decide_eq_true_eq]
      exact (hz v hv).1
  sup := fun v hv => by
    rw [Nat.testBit_or, h.sup v hv]
    rfl
  low := fun m hm h0 v hv => by
    rw [Nat.testBit_or, Bool.or_eq_true] at hv
    rcases hv with hv | hv
    · exact h.low m hm h0 v hv
    · exact h.spl (hz v hv).1 (hz v hv).2 m hm h0
theorem or_grows {s z : Nat} (hz : z ≠ 0) (hd : ∀ v, z.testBit v = true → s.testBit v = false) : s < s ||| z := by
  have h1 : s ≤ s ||| z := Nat.left_le_or
  rcases Nat.lt_or_ge s (s ||| z) with h | h
  · exact h
  · exfalso
    have e : s ||| z = s := by omega
    obtain ⟨v, hv⟩ := Nat.exists_testBit_of_ne_zero hz
    have h3 := congrArg (fun x => x.testBit v) e
    simp only [Nat.testBit_or, hv, Bool.or_true, hd v hv] at h3
    exact absurd h3 (by decide)
/-- c is the least module that contains s. -/
def ClsN (g : List (List Int)) (s c : Nat) : Prop := ClI g s c ∧ ModN g c
theorem cls_det {g : List (List Int)} {s c d : Nat} (h : ClsN g s c) (k : ClsN g s d) : c = d := sub_eq (h.1.low d k.2 k.1.sup) (k.1.low c h.2 h.1.sup)
theorem cls_self {g : List (List Int)} {s c : Nat} (h : ClsN g s c) : c = s ↔ ModN g s := by
  constructor
  · intro e; rw [← e]; exact h.2
  · intro hm; exact sub_eq (h.1.low s hm fun _ h => h) h.1.sup
/-- A module that is not all contains the set. -/
def PrmP (g : List (List Int)) (s : Nat) : Prop := ∃ m, ModN g m ∧ SubB s m ∧ m < 2 ^ g.length ∧ m ≠ 2 ^ g.length - 1
theorem cls_prm {g : List (List Int)} {s c : Nat} (h : ClsN g s c) : c ≠ 2 ^ g.length - 1 ↔ PrmP g s := by
  constructor
  · intro e; exact ⟨c, h.2, h.1.sup, h.1.lt, e⟩
  · rintro ⟨m, h1, h2, h3, h4⟩ e
    refine h4 (sub_eq (sub_full h3) ?_)
    rw [← e]
    exact h.1.low m h1 h2

theorem sub_len {α : Type} [DecidableEq α] : ∀ (l m : List α), l.Nodup → (∀ x ∈ l, x ∈ m) → l.length ≤ m.length
  | [], _, _, _ => Nat.zero_le _
  | a :: l, m, hl, h => by
    have ha := h a (List.mem_cons_self ..)
    have hn := List.nodup_cons.1 hl
    have ih := sub_len l (m.erase a) hn.2 fun x hx => (List.mem_erase_of_ne (fun e => hn.1 (by rw [← e]; exact hx))).2 (h x (List.mem_cons_of_mem _ hx))
    have h1 := List.length_erase_of_mem ha
    have h2 := List.length_pos_of_mem ha
    rw [List.length_cons]
    omega
theorem bit_one {i v : Nat} : (2 ^ i).testBit v = decide (i = v) := Nat.testBit_two_pow
/-- Single vertices are modules, and so is the whole. -/
theorem mod_one {g : List (List Int)} (i : Nat) : ModN g (2 ^ i) := fun v _ _ => by
  cases h : (mask (row g v)).testBit i with
  | false =>
    left
    refine Nat.eq_of_testBit_eq fun u => ?_
    rw [Nat.testBit_and, bit_one, Nat.zero_testBit]
    by_cases e : i = u
    · subst e; simp [h]
    · simp [e]
  | true =>
    right
    refine Nat.eq_of_testBit_eq fun u => ?_
    rw [Nat.testBit_and, bit_one]
    by_cases e : i = u
    · subst e; simp [h]
    · simp [e]
theorem mod_full {g : List (List Int)} : ModN g (2 ^ g.length - 1) := fun v hv h => by
  rw [full_bit, decide_eq_false_iff_not] at h
  exact absurd hv h
def numsM (L : List (List Nat)) : List Nat := L.map fun l => mask (natInts l)
theorem mem_numsM {P : Nat → Prop} {k : Nat} {L : List (List Nat)} (hk : k ≤ 65536) (h : MdOn P k L) (s : Nat) : s ∈ numsM L ↔ 1 ≤ s ∧ s < k ∧ P s := by
  unfold numsM
  rw [List.mem_map]
  constructor
  · rintro ⟨l, hl, rfl⟩
    obtain ⟨t, h1, h2, h3, rfl⟩ := (h.mem l).1 hl
    rw [mask_bitsOf (by omega)]
    exact ⟨h1, h2, h3⟩
  · rintro ⟨h1, h2, h3⟩
    exact ⟨bitsOf s, (h.mem _).2 ⟨s, h1, h2, h3, rfl⟩, mask_bitsOf (by omega)⟩
theorem nodup_numsM {P : Nat → Prop} {k : Nat} {L : List (List Nat)} (_hk : k ≤ 65536) (h : MdOn P k L) : (numsM L).Nodup := by
  unfold numsM
  rw [List.Nodup, List.pairwise_map]
  refine h.srt.imp_of_mem fun {a b} ha hb hab e => ?_
  obtain ⟨s, _, h2, _, rfl⟩ := (h.mem _).1 ha
  obtain ⟨t, _, k2, _, rfl⟩ := (h.mem _).1 hb
  rw [mask_bitsOf (by omega), mask_bitsOf (by omega)] at e
  subst e
  exact lessP_irrefl _ hab
def onesK (n : Nat) : List Nat := (List.range n).map fun i => 2 ^ i
theorem nodup_ones (n : Nat) : (onesK n).Nodup := by
  unfold onesK
  rw [List.Nodup, List.pairwise_map]
  exact List.pairwise_lt_range.imp fun {a b} h e => by
    have : (2 : Nat) ^ a < 2 ^ b := Nat.pow_lt_pow_right (by decide) h
    omega
theorem mem_ones {n s : Nat} : s ∈ onesK n ↔ ∃ i, i < n ∧ s = 2 ^ i := by
  unfold onesK
  rw [List.mem_map]
  exact ⟨fun ⟨i, h, e⟩ => ⟨i, List.mem_range.1 h, e.symm⟩, fun ⟨i, h, e⟩ => ⟨i, List.mem_range.2 h, e.symm⟩⟩
theorem two_le (n : Nat) (h16 : n ≤ 16) : 2 ^ n ≤ 65536 := Nat.le_trans (Nat.pow_le_pow_right (by decide) h16) (by decide)
theorem md_many {g : List (List Int)} {L : List (List Nat)} (h16 : g.length ≤ 16) (h : MdOn (ModN g) (2 ^ g.length) L) : g.length ≤ L.length := by
  have := sub_len (onesK g.length) (numsM L) (nodup_ones _) fun s hs => by
    obtain ⟨i, hi, rfl⟩ := mem_ones.1 hs
    exact (mem_numsM (two_le _ h16) h _).2 ⟨Nat.two_pow_pos i, Nat.pow_lt_pow_right (by decide) hi, mod_one i⟩
  simpa [onesK, numsM] using this
theorem full_ne_one {n i : Nat} (hn : 2 ≤ n) (hi : i < n) : 2 ^ n - 1 ≠ 2 ^ i := by
  have h1 : (2 : Nat) ^ n = 2 * 2 ^ (n - 1) := by
    obtain ⟨k, rfl⟩ : ∃ k, n = k + 1 := ⟨n - 1, by omega⟩
    rw [Nat.pow_succ, Nat.add_sub_cancel]; omega
  have h2 : (2 : Nat) ^ i ≤ 2 ^ (n - 1) := Nat.pow_le_pow_right (by decide) (by omega)
  have h3 : (2 : Nat) ^ 1 ≤ 2 ^ (n - 1) := Nat.pow_le_pow_right (by decide) (by omega)
  omega
/-- One more than the vertices: just where no other module has two vertices. -/
theorem md_prime {g : List (List Int)} {L : List (List Nat)} (h2 : 2 ≤ g.length) (h16 : g.length ≤ 16) (h : MdOn (ModN g) (2 ^ g.length) L) :
    L.length = g.length + 1 ↔ ∀ i k, i < k → k < g.length → ¬ PrmP g (2 ^ i ||| 2 ^ k) := by
  have hl : (numsM L).length = L.length := by simp [numsM]
  have ho : (onesK g.length).length = g.length := by simp [onesK]
  have hp : 2 < 2 ^ g.length := by
    have : (2 : Nat) ^ 2 ≤ 2 ^ g.length := Nat.pow_le_pow_right (by decide) h2
    omega
  have hfull : 2 ^ g.length - 1 ∈ numsM L := (mem_numsM (two_le _ h16) h _).2 ⟨by omega, by omega, mod_full⟩
  have hones : ∀ s ∈ onesK g.length, s ∈ numsM L := fun s hs => by
    obtain ⟨i, hi, rfl⟩ := mem_ones.1 hs
    exact (mem_numsM (two_le _ h16) h _).2 ⟨Nat.two_pow_pos i, Nat.pow_lt_pow_right (by decide) hi, mod_one i⟩
  have hnd : (onesK g.length ++ [2 ^ g.length - 1]).Nodup := by
    rw [List.Nodup, List.pairwise_append]
    refine ⟨nodup_ones _, by simp, fun a ha b hb e => ?_⟩
    obtain ⟨i, hi, rfl⟩ := mem_ones.1 ha
    rw [List.mem_singleton] at hb
    subst hb
    exact full_ne_one h2 hi e.symm
  have hge := sub_len _ (numsM L) hnd fun s hs => by
    rcases List.mem_append.1 hs with h1 | h1
    · exact hones s h1
    · rw [List.mem_singleton] at h1; subst h1; exact hfull
  rw [List.length_append, List.length_singleton, ho, hl] at hge
  constructor
  · rintro he i k hik hk ⟨m, m1, m2, m3, m4⟩
    have hbi : m.testBit i = true := m2 i (by rw [Nat.testBit_or, bit_one]; simp)
    have hbk : m.testBit k = true := m2 k (by rw [Nat.testBit_or, bit_one, bit_one]; simp)
    have hm0 : m ≠ 0 := fun e => by rw [e] at hbi; simp at hbi
    have hm1 : m ∉ onesK g.length ++ [2 ^ g.length - 1] := fun hm => by
      rcases List.mem_append.1 hm with h1 | h1
      · obtain ⟨j, _, rfl⟩ := mem_ones.1 h1
        rw [bit_one, decide_eq_true_eq] at hbi hbk
        omega
      · rw [List.mem_singleton] at h1
        exact m4 h1
    have := sub_len (m :: (onesK g.length ++ [2 ^ g.length - 1])) (numsM L) (List.nodup_cons.2 ⟨hm1, hnd⟩) fun s hs => by
      rcases List.mem_cons.1 hs with rfl | hs
      · exact (mem_numsM (two_le _ h16) h _).2 ⟨by omega, m3, m1⟩
      · rcases List.mem_append.1 hs with h1 | h1
        · exact hones s h1
        · rw [List.mem_singleton] at h1; subst h1; exact hfull
    rw [List.length_cons, List.length_append, List.length_singleton, ho, hl] at this
    omega
  · intro hno
    have := sub_len (numsM L) (onesK g.length ++ [2 ^ g.length - 1]) (nodup_numsM (two_le _ h16) h) fun s hs => by
      obtain ⟨s1, s2, s3⟩ := (mem_numsM (two_le _ h16) h _).1 hs
      obtain ⟨i, hi⟩ := Nat.exists_testBit_of_ne_zero (show s ≠ 0 by omega)
      have hin : i < g.length := by
        have := sub_full s2 i hi
        rwa [full_bit, decide_eq_true_eq] at this
      by_cases he : ∃ k, k ≠ i ∧ s.testBit k = true
      · obtain ⟨k, hk, hkb⟩ := he
        have hkn : k < g.length := by
          have := sub_full s2 k hkb
          rwa [full_bit, decide_eq_true_eq] at this
        refine List.mem_append_right _ (List.mem_singleton.2 ?_)
        by_cases hf : s = 2 ^ g.length - 1
        · exact hf
        · exfalso
          rcases Nat.lt_or_ge i k with hik | hik
          · refine hno i k hik hkn ⟨s, s3, fun v hv => ?_, s2, hf⟩
            rw [Nat.testBit_or, bit_one, bit_one, Bool.or_eq_true, decide_eq_true_eq, decide_eq_true_eq] at hv
            rcases hv with rfl | rfl
            · exact hi
            · exact hkb
          · refine hno k i (by omega) hin ⟨s, s3, fun v hv => ?_, s2, hf⟩
            rw [Nat.testBit_or, bit_one, bit_one, Bool.or_eq_true, decide_eq_true_eq, decide_eq_true_eq] at hv
            rcases hv with rfl | rfl
            · exact hkb
            · exact hi
      · refine List.mem_append_left _ (mem_ones.2 ⟨i, hin, Nat.eq_of_testBit_eq fun v => ?_⟩)
        rw [bit_one]
        by_cases e : i = v
        · subst e; simp [hi]
        · cases hv : s.testBit v with
          | false => simp [e]
          | true => exact absurd ⟨v, fun h => e h.symm, hv⟩ he
    rw [List.length_append, List.length_singleton, ho, hl] at this
    omega

end Go.Proofs.YtkppbmfliejnmaaDoor

/- Plain facts: each clique lies in a greatest one. -/
namespace Go.Proofs.YtkppbmfliejnmaaDoor

def pkL (n : Nat) (p : Nat → Bool) : List Nat := (List.range n).filter p
theorem mem_pkL {n : Nat} {p : Nat → Bool} {x : Nat} : x ∈ pkL n p ↔ x < n ∧ p x = true := by simp [pkL]
theorem pkL_inc (n : Nat) (p : Nat → Bool) : (pkL n p).Pairwise (· < ·) := List.Pairwise.filter _ List.pairwise_lt_range
theorem pkL_len (n : Nat) (p : Nat → Bool) : (pkL n p).length ≤ n := by
  have := List.length_filter_le p (List.range n)
  rwa [List.length_range] at this
theorem clq_grow {n : Nat} {E : Nat → Nat → Bool} (hs : ∀ a b, E a b = E b a) (hirr : ∀ v, E v v = false) : ∀ (m : Nat) (p : Nat → Bool), n - (pkL n p).length ≤ m → (∀ a b, a < n → b < n → p a = true → p b = true → a < b → E a b = true) →
    ∃ T ∈ clsP n E, ∀ x, x < n → p x = true → x ∈ T := by
  intro m
  induction m with
  | zero => exact fun p hm hc => base n E hirr p hc (fun y hy hp => by
      have h1 := pkL_len n p
      have h2 : (pkL n p).length = n := by omega
      have h3 := sub_len (y :: pkL n p) (List.range n) (List.nodup_cons.2 ⟨fun h => (by rw [(mem_pkL.1 h).2] at hp; cases hp), (pkL_inc n p).imp fun h => Nat.ne_of_lt h⟩) (fun x hx => by
        rcases List.mem_cons.1 hx with rfl | hx
        · exact List.mem_range.2 hy
        · exact List.mem_range.2 (mem_pkL.1 hx).1)
      rw [List.length_cons, List.length_range] at h3
      omega)
  | succ m ih =>
    intro p hm hc
    by_cases h : ∃ y, y < n ∧ p y = false ∧ ∀ t, t < n → p t = true → E t y = true
    · obtain ⟨y, hy, hp, ht⟩ := h
      have hlen : (pkL n p).length + 1 ≤ (pkL n fun x => p x || x == y).length := by
        have h3 := sub_len (y :: pkL n p) (pkL n fun x => p x || x == y) (List.nodup_cons.2 ⟨fun h => (by rw [(mem_pkL.1 h).2] at hp; cases hp), (pkL_inc n p).imp fun h => Nat.ne_of_lt h⟩) (fun x hx => by
          rcases List.mem_cons.1 hx with rfl | hx
          · exact mem_pkL.2 ⟨hy, by simp⟩
          · exact mem_pkL.2 ⟨(mem_pkL.1 hx).1, by simp [(mem_pkL.1 hx).2]⟩)
        simpa using h3
      obtain ⟨T, hT, hin⟩ := ih (fun x => p x || x == y) (by have := pkL_len n p; omega) (fun a b ha hb pa pb hab => by
        simp only [Bool.or_eq_true, beq_iff_eq] at pa pb
        rcases pa with pa | rfl <;> rcases pb with pb | rfl
        · exact hc a b ha hb pa pb hab
        · exact ht a ha pa
        · rw [hs]; exact ht b hb pb
        · omega)
      exact ⟨T, hT, fun x hx px => hin x hx (by simp [px])⟩
    · exact base n E hirr p hc fun y hy hp => Decidable.byContradiction fun k => h ⟨y, hy, hp, fun t ht pt => by
        cases e : E t y
        · exact absurd ⟨t, ht, pt, e⟩ k
        · rfl⟩
where
  base (n : Nat) (E : Nat → Nat → Bool) (hirr : ∀ v, E v v = false) (p : Nat → Bool) (hc : ∀ a b, a < n → b < n → p a = true → p b = true → a < b → E a b = true) (hm : ∀ y, y < n → p y = false → ∃ t, t < n ∧ p t = true ∧ E t y = false) : ∃ T ∈ clsP n E, ∀ x, x < n → p x = true → x ∈ T := by
    refine ⟨pkL n p, ?_, fun x hx px => mem_pkL.2 ⟨hx, px⟩⟩
    have := clF_all hirr (n + 1) [] (List.range n) [] (pkL n p) (by rw [List.length_range]; omega) List.pairwise_lt_range (pkL_inc n p) ⟨fun y hy => List.mem_range.2 (mem_pkL.1 hy).1, (pkL_inc n p).imp_of_mem fun {a b} ha hb hab => hc a b (mem_pkL.1 ha).1 (mem_pkL.1 hb).1 (mem_pkL.1 ha).2 (mem_pkL.1 hb).2 hab, fun y hy hn => by
      rcases hy with hy | hy
      · have hyn := List.mem_range.1 hy
        have hp : p y = false := by
          cases e : p y
          · rfl
          · exact absurd (mem_pkL.2 ⟨hyn, e⟩) hn
        obtain ⟨t, h1, h2, h3⟩ := hm y hyn hp
        exact ⟨t, mem_pkL.2 ⟨h1, h2⟩, h3⟩
      · cases hy⟩
    simpa [clsP] using this

end Go.Proofs.YtkppbmfliejnmaaDoor

/- What a law's bytes read as. -/
namespace Go.Proofs.YtkppbmfliejnmaaDoor
open Go.RowKit

def ArgB (w : World) (v : Value) (bs : List Int) : Prop := ∃ p c, v = .slice p bs.length c ∧ bs.length ≤ 9223372036854775807 ∧ (∀ x ∈ bs, 0 ≤ x ∧ x ≤ 255) ∧ Cl w p (bs.map (Value.int .u8))
theorem ArgB.below {w w' : World} {v : Value} {bs : List Int} (h : ArgB w v bs) (hb : Below w.heap.size w w') : ArgB w' v bs := by
  obtain ⟨p, c, h1, h2, h3, h4⟩ := h
  exact ⟨p, c, h1, h2, h3, h4.below hb⟩
theorem ArgB.get {w : World} {p : Option Addr} {n c : Nat} {bs : List Int} (h : ArgB w (.slice p n c) bs) {k : Nat} (hk : k < bs.length) :
    ∃ b o, p = some ⟨b, o, none⟩ ∧ w.cell? ⟨b, o + k, none⟩ = some (.int .u8 bs[k]) ∧ 0 ≤ bs[k] ∧ bs[k] ≤ 255 := by
  obtain ⟨p', c', e, _, h3, h4⟩ := h
  cases e
  rcases h4 with h4 | ⟨b, o, rfl, h5⟩
  · rw [List.map_eq_nil_iff] at h4
    subst h4
    simp at hk
  · refine ⟨b, o, rfl, h5 k _ (by simp [hk]), h3 _ (List.getElem_mem hk)⟩

end Go.Proofs.YtkppbmfliejnmaaDoor

/- Walks: the laws' dice (big, roll, below). -/
namespace Go.Proofs.YtkppbmfliejnmaaDoor
open Go.RowKit

structure BoxD (w : World) (b : Nat) (x y z : Value) : Prop where
  blk : w.heap[b]? = some (.cells #[x, y, z] 66 (0, 0))
section
variable {w w' : World} {b : Nat} {x y z : Value}
theorem BoxD.c0 (h : BoxD w b x y z) : w.cell? ⟨b, 0, none⟩ = some x := by unfold World.cell?; rw [h.blk]; rfl
theorem BoxD.c1 (h : BoxD w b x y z) : w.cell? ⟨b, 1, none⟩ = some y := by unfold World.cell?; rw [h.blk]; rfl
theorem BoxD.c2 (h : BoxD w b x y z) : w.cell? ⟨b, 2, none⟩ = some z := by unfold World.cell?; rw [h.blk]; rfl
theorem BoxD.free (h : BoxD w b x y z) (i : Nat) : w.frozen? ⟨b, i, none⟩ = false := by simp [World.frozen?, h.blk]
theorem BoxD.lt (h : BoxD w b x y z) : b < w.heap.size := lt_of_block h.blk
theorem BoxD.new (w : World) (x y z : Value) : BoxD (w.alloc (.cells #[x, y, z] 66)) w.heap.size x y z := ⟨heap_alloc_new w _⟩
theorem BoxD.to (h : BoxD w b x y z) (hk : w'.heap[b]? = w.heap[b]?) : BoxD w' b x y z := ⟨hk.trans h.blk⟩
theorem BoxD.s1 (h : BoxD w b x y z) (u : Value) : BoxD (w.setCell ⟨b, 1, none⟩ u) b x u z := ⟨by have := heap_setCell_same w b 1 _ _ u h.blk; simpa using this⟩
theorem BoxD.s2 (h : BoxD w b x y z) (u : Value) : BoxD (w.setCell ⟨b, 2, none⟩ u) b x y u := ⟨by have := heap_setCell_same w b 2 _ _ u h.blk; simpa using this⟩
theorem BoxD.keep (h : BoxD w b x y z) (hb : Below w.heap.size w w') : BoxD w' b x y z := h.to (hb.block b h.lt)
end

theorem grown_setD (w : World) (b i : Nat) (u : Value) : w.grownBy (w.setCell ⟨b, i, none⟩ u) (some b) :=
  ⟨rfl, rfl, rfl, by rw [World.size_setCell]; exact Nat.le_refl _, fun k _ hne => Below.heap_setCell _ _ _ _ (fun e => hne (by simp only at e; rw [e]))⟩

/-- The dice stand in block db: the bytes, how many were read, a number. -/
structure Dice (w0 w : World) (db : Nat) (bs : List Int) : Prop where
  ex : ∃ (bv : Value) (i : Nat) (h : Int), BoxD w db bv (.int .i64 i) (.int .u64 h) ∧ i ≤ bs.length ∧ ArgB w0 bv bs
  few : bs.length ≤ 4096
  lo : w0.heap.size ≤ db
  bel : Below w0.heap.size w0 w
theorem Dice.keep {w0 w w' : World} {db : Nat} {bs : List Int} (h : Dice w0 w db bs) (hb : Below w.heap.size w w') : Dice w0 w' db bs := by
  obtain ⟨bv, i, z, h1, h2, h3⟩ := h.ex
  exact ⟨⟨bv, i, z, h1.keep hb, h2, h3⟩, h.few, h.lo, h.bel.trans (hb.mono h.bel.size)⟩
theorem below_grownD {w0 w w' : World} {cb : Nat} (h : Below w0.heap.size w0 w) (hg : w.grownBy w' (some cb)) (hl : w0.heap.size ≤ cb) : Below w0.heap.size w0 w' :=
  ⟨hg.os.trans h.os, hg.tape.trans h.tape, hg.output.trans h.output, Nat.le_trans h.size hg.size, fun k hk => (hg.block k (Nat.lt_of_lt_of_le hk h.size) (fun e => by simp only [Option.some.injEq] at e; omega)).trans (h.block k hk)⟩
theorem andM (x : Int) : ∃ r : Nat, bits BinOp.and IntKind.u64 x 16777215 = (r : Int) ∧ r ≤ 16777215 := by
  refine ⟨(BitVec.ofInt 64 x &&& BitVec.ofInt 64 16777215).toNat, ?_, ?_⟩
  · show IntKind.u64.wrap ((BitVec.ofInt 64 x &&& BitVec.ofInt 64 16777215).toNat : Int) = _
    have h : (BitVec.ofInt 64 x &&& BitVec.ofInt 64 16777215).toNat ≤ 16777215 := by
      rw [BitVec.toNat_and]
      exact Nat.le_trans Nat.and_le_right (by decide)
    generalize (BitVec.ofInt 64 x &&& BitVec.ofInt 64 16777215).toNat = r at h
    simp [IntKind.wrap, IntKind.bits, IntKind.signed]
    omega
  · rw [BitVec.toNat_and]
    exact Nat.le_trans Nat.and_le_right (by decide)

set_option maxRecDepth 100000 in
theorem big_any (v : Value) (bs : List Int) (w : World) (h : ArgB w v bs) :
    Calls Tryd.prog 11 #[v] w fun e w' => e = .returned (.bool (decide (4096 < bs.length))) ∧ w = w' := by
  obtain ⟨p, c, rfl, hl, _⟩ := h
  go_enter Tryd.func11, Tryd.ntmps11
  go_wp2
  go_ret
  exact ⟨ret_bool (by simp; omega), rfl⟩

set_option maxRecDepth 100000 in
set_option maxHeartbeats 4000000 in
theorem below_any (w0 : World) (cb : Nat) (bs : List Int) (k : Nat) (n : Int) (hkn : n = k) (hkp : 0 < k) (hk : k ≤ 1000000) (w : World) (hc : Dice w0 w cb bs) :
    Calls Tryd.prog 28 #[.pointer (some ⟨cb, 0, none⟩), .int .i64 n] w fun e w' => ∃ r : Nat, e = .returned (.int .i64 (r : Int)) ∧ r < k ∧ Dice w0 w' cb bs ∧ w.grownBy w' (some cb) := by
  subst hkn
  have hk0 : ((k : Int) == 0) = false := by simp; omega
  have htm : ∀ r : Nat, Int.tmod (r : Int) (k : Int) = ((r % k : Nat) : Int) := fun r => (Int.ofNat_tmod r k).symm
  have HML : Hid (∀ r : Nat, r % k < k) := Lib.hid (fun r => Nat.mod_lt r hkp)
  obtain ⟨⟨bv, i, h, hb, hi, ha⟩, few, lo, bel⟩ := hc
  obtain ⟨bp, bc, e, ha2⟩ := id ha
  subst e
  have c2 := hb.c2
  have f2 := hb.free 2
  have HB := Lib.hid hb
  have HA := Lib.hid ha
  have HBEL := Lib.hid bel
  clear ha2 ha hb bel
  go_enter Tryd.func28, Tryd.ntmps28
  go_upto_region 1 with fail
  go_cut [14] (fun _ wx => ∃ h2 : Int, wx = w.setCell ⟨cb, 2, none⟩ (.int .u64 h2))
  case first =>
    go_wp2
    go_meet
    exact ⟨_, rfl⟩
  case rest =>
    obtain ⟨h2, rfl⟩ := hcut
    have HB2 := Lib.hid (HB.out.s2 (.int .u64 h2))
    have HG2 := Lib.hid (grown_setD w cb 2 (.int .u64 h2))
    have c2 := HB2.out.c2
    obtain ⟨w2, hw2⟩ : ∃ w2, w2 = w.setCell ⟨cb, 2, none⟩ (.int .u64 h2) := ⟨_, rfl⟩
    rw [← hw2] at c2 HB2 HG2 ⊢
    clear hw2 f2
    obtain ⟨r, hr1, hr⟩ := andM (h2 / 8589934592)
    have hrw : wrap64 (bits BinOp.and IntKind.u64 (h2 / 8589934592) 16777215) = (r : Int) := by rw [hr1]; unfold wrap64; omega
    have c0 := HB2.out.c0
    have c1 := HB2.out.c1
    go_upto_region 3 with fail
    go_cut [31] (fun s wx => s = .bool (decide (i < bs.length)) ∧ Below w2.heap.size w2 wx)
    case first =>
      go_region_held3 (fun w' => w'.cell? ⟨cb, 1, none⟩ = some (.int .i64 i) ∧ w'.cell? ⟨cb, 0, none⟩ = some (.slice bp bs.length bc))
        (first | go_keep | exact ⟨c1, c0⟩)
        (fail)
      all_goals go_wp2
      all_goals go_meet
      all_goals exact ⟨rfl, below_dN (Below.refl _ _) _⟩
    case rest =>
      obtain ⟨rfl, hb4⟩ := hcut
      have HB4 := Lib.hid (HB2.out.keep hb4)
      have HG4 := Lib.hid (grown_trans HG2.out (grown_of_below hb4 _))
      have HL4 := Lib.hid (below_grownD HBEL.out HG4.out lo)
      have c0 := HB4.out.c0
      have c1 := HB4.out.c1
      clear hb4 c2
      by_cases hlt : i < bs.length
      · obtain ⟨xb, xo, rfl, hcx, hx0, hx1⟩ := (HA.out.below HL4.out).get hlt
        generalize bs[i] = x at hcx hx0 hx1
        have hdt : decide (i < bs.length) = true := by simp [hlt]
        have e0 : (0 : Int) ≤ (i : Int) := by omega
        have e1 : (i : Int) < (bs.length : Int) := by omega
        obtain ⟨y, rfl⟩ : ∃ y : Nat, x = (y : Int) := ⟨x.toNat, by omega⟩
        have hwy : IntKind.i64.wrap (y : Int) = (y : Int) := by rw [IntKind.wrap_i64]; omega
        have hws : IntKind.i64.wrap ((r : Int) + (y : Int)) = ((r + y : Nat) : Int) := by rw [IntKind.wrap_i64]; omega
        go_upto_region 4 with fail
        go_cut [5] (fun s wx => s = .int .i64 ((r + y : Nat) : Int) ∧ Below wc.heap.size wc wx)
        case first =>
          go_region_held3 (fun w' => w'.cell? ⟨cb, 1, none⟩ = some (.int .i64 i) ∧ w'.cell? ⟨cb, 0, none⟩ = some (.slice (some ⟨xb, xo, none⟩) bs.length bc) ∧ w'.cell? ⟨xb, xo + i, none⟩ = some (.int .u8 (y : Int)))
            (first | go_keep | exact ⟨c1, c0, hcx⟩)
            (fail)
          all_goals go_wp2
          all_goals go_meet
          all_goals exact ⟨by first | rfl | exact val_int (by omega), below_dN (Below.refl _ _) _⟩
        case rest =>
          obtain ⟨rfl, hb5⟩ := hcut
          have HB5 := Lib.hid (HB4.out.keep hb5)
          have HG5 := Lib.hid (grown_trans HG4.out (grown_of_below hb5 _))
          have c1 := HB5.out.c1
          have f1 := HB5.out.free 1
          have htm2 := htm (r + y)
          clear hb5 hcx c0 htm
          generalize r + y = z at *
          go_wp2
          go_ret
          have HB6 := HB5.out.s1 (.int .i64 ((i + 1 : Nat) : Int))
          have HG6 := grown_trans HG5.out (grown_setD wc cb 1 (.int .i64 ((i + 1 : Nat) : Int)))
          exact ⟨z % k, by first | rfl | (rw [← htm2]; rfl), HML.out _, ⟨⟨_, i + 1, h2, HB6, by omega, HA.out⟩, few, lo, below_grownD HBEL.out HG6 lo⟩, HG6⟩
      · have hdt : decide (i < bs.length) = false := by simp [hlt]
        have htm2 := htm r
        go_wp2
        go_ret
        exact ⟨r % k, by first | rfl | (rw [← htm2]; rfl), HML.out _, ⟨⟨_, i, h2, HB4.out, hi, HA.out⟩, few, lo, HL4.out⟩, HG4.out⟩

end Go.Proofs.YtkppbmfliejnmaaDoor
