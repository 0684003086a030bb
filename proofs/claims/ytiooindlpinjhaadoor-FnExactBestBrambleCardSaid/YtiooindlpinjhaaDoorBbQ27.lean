/- Plain: the modules, in the order of size and of lists. -/
import Derived.Test.YtiooindlpinjhaaDoorBbQ9
import Derived.Test.YtiooindlpinjhaaDoorBbQ10
namespace Go.Proofs.YtiooindlpinjhaaDoor

/-- Two strictly sorted lists with the same members are one. -/
theorem sorted_ext {α : Type} (lt : α → α → Prop) (hirr : ∀ x, ¬ lt x x) (htr : ∀ {x y z}, lt x y → lt y z → lt x z) : ∀ (l m : List α), l.Pairwise lt → m.Pairwise lt → (∀ x, x ∈ l ↔ x ∈ m) → l = m
  | [], [], _, _, _ => rfl
  | [], b :: m, _, _, h => absurd ((h b).2 (by simp)) (by simp)
  | a :: l, [], _, _, h => absurd ((h a).1 (by simp)) (by simp)
  | a :: l, b :: m, hl, hm, h => by
    have hla := List.pairwise_cons.1 hl
    have hmb := List.pairwise_cons.1 hm
    have hab : a = b := by
      rcases List.mem_cons.1 ((h a).1 (by simp)) with e | h1
      · exact e
      · rcases List.mem_cons.1 ((h b).2 (by simp)) with e | h2
        · exact e.symm
        · exact absurd (htr (hla.1 b h2) (hmb.1 a h1)) (hirr a)
    subst hab
    rw [sorted_ext lt hirr htr l m hla.2 hmb.2 fun x => ?_]
    constructor
    · intro hx
      rcases List.mem_cons.1 ((h x).1 (List.mem_cons_of_mem _ hx)) with e | h1
      · subst e
        exact absurd (hla.1 x hx) (hirr x)
      · exact h1
    · intro hx
      rcases List.mem_cons.1 ((h x).2 (List.mem_cons_of_mem _ hx)) with e | h1
      · subst e
        exact absurd (hmb.1 x hx) (hirr x)
      · exact h1

/-- No vertex outside splits the set. -/
def ModN (g : List (List Int)) (s : Nat) : Prop := ∀ v, v < g.length → s.testBit v = false → mask (row g v) &&& s = 0 ∨ mask (row g v) &&& s = s
/-- The sets numbered below k that are modules, sorted. -/
structure MdOn (P : Nat → Prop) (k : Nat) (L : List (List Nat)) : Prop where
  srt : L.Pairwise lessP
  mem : ∀ x, x ∈ L ↔ ∃ s, 1 ≤ s ∧ s < k ∧ P s ∧ x = bitsOf s
theorem mdOn_start (P : Nat → Prop) : MdOn P 1 [] := ⟨by simp, fun x => by
  constructor
  · intro h; simp at h
  · rintro ⟨s, h1, h2, _⟩; omega⟩
theorem mdOn_skip {P : Nat → Prop} {k : Nat} {L : List (List Nat)} (h : MdOn P k L) (hk : ¬ P k) : MdOn P (k + 1) L := ⟨h.srt, fun x => by
  rw [h.mem]
  constructor
  · rintro ⟨s, h1, h2, h3, h4⟩
    exact ⟨s, h1, by omega, h3, h4⟩
  · rintro ⟨s, h1, h2, h3, h4⟩
    by_cases e : s = k
    · subst e; exact absurd h3 hk
    · exact ⟨s, h1, by omega, h3, h4⟩⟩
theorem mdOn_put {P : Nat → Prop} {k i : Nat} {L : List (List Nat)} (h : MdOn P k L) (hk : P k) (h1 : 1 ≤ k) (hk16 : k < 65536) (hi : i ≤ L.length)
    (hhi : ∀ j (hj : j < L.length), i ≤ j → lessP (bitsOf k) L[j]) (hlo : ∀ (h0 : 0 < i), ¬ lessP (bitsOf k) (L[i - 1]'(by omega))) : MdOn P (k + 1) (L.take i ++ [bitsOf k] ++ L.drop i) := by
  have hnew : bitsOf k ∉ L := fun hm => by
    obtain ⟨s, _, h2, _, h4⟩ := (h.mem _).1 hm
    have e : mask (natInts (bitsOf k)) = mask (natInts (bitsOf s)) := by rw [h4]
    rw [mask_bitsOf hk16, mask_bitsOf (by omega)] at e
    omega
  have hlow : ∀ x ∈ L.take i, lessP x (bitsOf k) := by
    intro x hx
    obtain ⟨j, hj, rfl⟩ := List.getElem_of_mem hx
    rw [List.length_take] at hj
    rw [List.getElem_take]
    have h0 : 0 < i := by omega
    have hl := hlo h0
    have hlast : lessP (L[i - 1]'(by omega)) (bitsOf k) := by
      by_cases hc : lessP (L[i - 1]'(by omega)) (bitsOf k)
      · exact hc
      · exact absurd (lessP_tri hl hc ▸ List.getElem_mem _) hnew
    by_cases hji : j = i - 1
    · subst hji; exact hlast
    · exact lessP_trans (List.pairwise_iff_getElem.1 h.srt j (i - 1) (by omega) (by omega) (by omega)) hlast
  have hhigh : ∀ x ∈ L.drop i, lessP (bitsOf k) x := by
    intro x hx
    obtain ⟨j, hj, rfl⟩ := List.getElem_of_mem hx
    rw [List.length_drop] at hj
    rw [List.getElem_drop]
    exact hhi _ (by omega) (by omega)
  refine ⟨?_, fun x => ?_⟩
  · rw [List.append_assoc, List.pairwise_append]
    refine ⟨h.srt.sublist (List.take_sublist _ _), ?_, fun a ha b hb => ?_⟩
    · rw [List.singleton_append, List.pairwise_cons]
      exact ⟨hhigh, h.srt.sublist (List.drop_sublist _ _)⟩
    · rw [List.singleton_append] at hb
      rcases List.mem_cons.1 hb with rfl | hb
      · exact hlow a ha
      · exact lessP_trans (hlow a ha) (hhigh b hb)
  · rw [List.mem_append, List.mem_append, List.mem_singleton]
    have hx : (x ∈ L.take i ∨ x ∈ L.drop i) ↔ x ∈ L := by rw [← List.mem_append, List.take_append_drop]
    constructor
    · intro hh
      have : x = bitsOf k ∨ x ∈ L := by
        rcases hh with (hh | hh) | hh
        · exact .inr (hx.1 (.inl hh))
        · exact .inl hh
        · exact .inr (hx.1 (.inr hh))
      rcases this with rfl | hm
      · exact ⟨k, h1, by omega, hk, rfl⟩
      · obtain ⟨s, a, b, c, d⟩ := (h.mem x).1 hm
        exact ⟨s, a, by omega, c, d⟩
    · rintro ⟨s, a, b, c, d⟩
      by_cases e : s = k
      · subst e; exact .inl (.inr d)
      · rcases hx.2 ((h.mem x).2 ⟨s, a, by omega, c, d⟩) with hh | hh
        · exact .inl (.inl hh)
        · exact .inr hh
theorem mdOn_det {P : Nat → Prop} {k : Nat} {L M : List (List Nat)} (h : MdOn P k L) (h2 : MdOn P k M) : L = M :=
  sorted_ext lessP lessP_irrefl lessP_trans L M h.srt h2.srt fun x => by rw [h.mem, h2.mem]
/-- What ModulesOf returns. -/
def MdS (g gg : List (List Int)) : Prop := ((GOk g ∧ g.length ≤ 8) ∧ ∃ L, MdOn (ModN g) (2 ^ g.length) L ∧ gg = L.map natInts) ∨ (¬ (GOk g ∧ g.length ≤ 8) ∧ gg = [])
theorem mdS_det {g gg hh : List (List Int)} (h : MdS g gg) (k : MdS g hh) : gg = hh := by
  rcases h with ⟨h1, L, h2, rfl⟩ | ⟨h1, rfl⟩ <;> rcases k with ⟨k1, M, k2, rfl⟩ | ⟨k1, rfl⟩
  · rw [mdOn_det h2 k2]
  · exact absurd h1 k1
  · exact absurd k1 h1
  · rfl
/-- A sorted arrangement of the modules' numbers. -/
theorem mdOn_sorted {P : Nat → Prop} {k : Nat} (hk : k ≤ 65536) {L : List (List Nat)} (hnd : L.Nodup) (hs : L.Pairwise fun x y => ¬ lessP y x) (hm : ∀ x, x ∈ L ↔ ∃ s, 1 ≤ s ∧ s < k ∧ P s ∧ x = bitsOf s) : MdOn P k L := by
  refine ⟨?_, hm⟩
  have hb := hnd.and hs
  exact hb.imp fun {a b} hab => by
    by_cases hc : lessP a b
    · exact hc
    · exact absurd (lessP_tri hc hab.2) hab.1

end Go.Proofs.YtiooindlpinjhaaDoor

/- Plain: the least module that contains a set; how many modules there are. -/
namespace Go.Proofs.YtiooindlpinjhaaDoor

def SubB (s t : Nat) : Prop := ∀ v, s.testBit v = true → t.testBit v = true
theorem and_sub_zero {a s m : Nat} (h : SubB s m) (k : a &&& m = 0) : a &&& s = 0 := by
  refine Nat.eq_of_testBit_eq fun v => ?_
  have := congrArg (fun x => x.testBit v) k
  simp only [Nat.testBit_and, Nat.zero_testBit] at this ⊢
  cases hs : s.testBit v with
  | false => simp
  | true =>
    rw [h v hs] at this
    simpa using this
theorem and_sub_all {a s m : Nat} (h : SubB s m) (k : a &&& m = m) : a &&& s = s := by
  refine Nat.eq_of_testBit_eq fun v => ?_
  have := congrArg (fun x => x.testBit v) k
  simp only [Nat.testBit_and] at this ⊢
  cases hs : s.testBit v with
  | false => simp
  | true =>
    rw [h v hs] at this
    simpa using this
theorem sub_eq {s t : Nat} (h : SubB s t) (k : SubB t s) : s = t := by
  refine Nat.eq_of_testBit_eq fun v => ?_
  cases hs : s.testBit v with
  | true => exact (h v hs).symm
  | false =>
    cases ht : t.testBit v with
    | false => rfl
    | true =>
      rw [k v ht] at hs
      exact absurd hs (by decide)
theorem full_bit {n v : Nat} : (2 ^ n - 1).testBit v = decide (v < n) := Nat.testBit_two_pow_sub_one n v
theorem sub_full {s n : Nat} (h : s < 2 ^ n) : SubB s (2 ^ n - 1) := fun v hv => by
  rw [full_bit, decide_eq_true_eq]
  rcases Nat.lt_or_ge v n with h1 | h1
  · exact h1
  · have : s < 2 ^ v := Nat.lt_of_lt_of_le h (Nat.pow_le_pow_right (by decide) h1)
    rw [Nat.testBit_lt_two_pow this] at hv
    exact absurd hv (by decide)
theorem lt_of_sub {s n : Nat} (h : SubB s (2 ^ n - 1)) : s < 2 ^ n := by
  rcases Nat.lt_or_ge s (2 ^ n) with h1 | h1
  · exact h1
  · obtain ⟨v, hv, hb⟩ := Nat.exists_ge_and_testBit_of_ge_two_pow h1
    have := h v hb
    rw [full_bit, decide_eq_true_eq] at this
    omega

/-- The set s0 has grown to s, and no further than any module that contains it. -/
structure ClI (g : List (List Int)) (s0 s : Nat) : Prop where
  lt : s < 2 ^ g.length
  sup : SubB s0 s
  low : ∀ m, ModN g m → SubB s0 m → SubB s m
theorem ClI.start {g : List (List Int)} {s : Nat} (h : s < 2 ^ g.length) : ClI g s s := ⟨h, fun _ h => h, fun _ _ h => h⟩
theorem ClI.spl {g : List (List Int)} {s0 s v : Nat} (h : ClI g s0 s) (hv : v < g.length) (hs : ¬ (mask (row g v) &&& s = 0 ∨ mask (row g v) &&& s = s)) : ∀ m, ModN g m → SubB s0 m → m.testBit v = true := by
  intro m hm h0
  cases e : m.testBit v with
  | true => rfl
  | false => exact absurd ((hm v hv e).imp (and_sub_zero (h.low m hm h0)) (and_sub_all (h.low m hm h0))) hs
theorem ClI.more {g : List (List Int)} {s0 s z : Nat} (h : ClI g s0 s) (hz : ∀ v, z.testBit v = true → v < g.length ∧ ¬ (mask (row g v) &&& s = 0 ∨ mask (row g v) &&& s = s)) : ClI g s0 (s ||| z) where
  lt := lt_of_sub fun v hv => by
    rw [Nat.testBit_or, Bool.or_eq_true] at hv
    rcases hv with hv | hv
    · exact sub_full h.lt v hv
    · rw [full_bit, decide_eq_true_eq]
      exact (hz v hv).1
  sup := fun v hv => by
    rw [Nat.testBit_or, h.sup v hv]
    rfl
  low := fun m hm h0 v hv => by
    rw [Nat.testBit_or, Bool.or_eq_true] at hv
    rcases hv with hv | hv
    · exact h.low m hm h0 v hv
    · exact h.spl (hz v hv).1 (hz v hv).2 m hm h0
theorem or_grows {s z : Nat} (hz : z ≠ 0) (hd : ∀ v, z.testBit v = true → s.testBit v = false) : s < s ||| z := by
  have h1 : s ≤ s ||| z := Nat.left_le_or
  rcases Nat.lt_or_ge s (s ||| z) with h | h
  · exact h
  · exfalso
    have e : s ||| z = s := by omega
    obtain ⟨v, hv⟩ := Nat.exists_testBit_of_ne_zero hz
    have h3 := congrArg (fun x => x.testBit v) e
    simp only [Nat.testBit_or, hv, Bool.or_true, hd v hv] at h3
    exact absurd h3 (by decide)
/-- c is the least module that contains s. -/
def ClsN (g : List (List Int)) (s c : Nat) : Prop := ClI g s c ∧ ModN g c
theorem cls_det {g : List (List Int)} {s c d : Nat} (h : ClsN g s c) (k : ClsN g s d) : c = d := sub_eq (h.1.low d k.2 k.1.sup) (k.1.low c h.2 h.1.sup)
theorem cls_self {g : List (List Int)} {s c : Nat} (h : ClsN g s c) : c = s ↔ ModN g s := by
  constructor
  · intro e; rw [← e]; exact h.2
  · intro hm; exact sub_eq (h.1.low s hm fun _ h => h) h.1.sup
/-- A module that is not all contains the set. -/
def PrmP (g : List (List Int)) (s : Nat) : Prop := ∃ m, ModN g m ∧ SubB s m ∧ m < 2 ^ g.length ∧ m ≠ 2 ^ g.length - 1
theorem cls_prm {g : List (List Int)} {s c : Nat} (h : ClsN g s c) : c ≠ 2 ^ g.length - 1 ↔ PrmP g s := by
  constructor
  · intro e; exact ⟨c, h.2, h.1.sup, h.1.lt, e⟩
  · rintro ⟨m, h1, h2, h3, h4⟩ e
    refine h4 (sub_eq (sub_full h3) ?_)
    rw [← e]
    exact h.1.low m h1 h2

theorem sub_len {α : Type} [DecidableEq α] : ∀ (l m : List α), l.Nodup → (∀ x ∈ l, x ∈ m) → l.length ≤ m.length
  | [], _, _, _ => Nat.zero_le _
  | a :: l, m, hl, h => by
    have ha := h a (List.mem_cons_self ..)
    have hn := List.nodup_cons.1 hl
    have ih := sub_len l (m.erase a) hn.2 fun x hx => (List.mem_erase_of_ne (fun e => hn.1 (by rw [← e]; exact hx))).2 (h x (List.mem_cons_of_mem _ hx))
    have h1 := List.length_erase_of_mem ha
    have h2 := List.length_pos_of_mem ha
    rw [List.length_cons]
    omega
theorem bit_one {i v : Nat} : (2 ^ i).testBit v = decide (i = v) := Nat.testBit_two_pow
/-- Single vertices are modules, and so is the whole. -/
theorem mod_one {g : List (List Int)} (i : Nat) : ModN g (2 ^ i) := fun v _ _ => by
  cases h : (mask (row g v)).testBit i with
  | false =>
    left
    refine Nat.eq_of_testBit_eq fun u => ?_
    rw [Nat.testBit_and, bit_one, Nat.zero_testBit]
    by_cases e : i = u
    · subst e; simp [h]
    · simp [e]
  | true =>
    right
    refine Nat.eq_of_testBit_eq fun u => ?_
    rw [Nat.testBit_and, bit_one]
    by_cases e : i = u
    · subst e; simp [h]
    · simp [e]
theorem mod_full {g : List (List Int)} : ModN g (2 ^ g.length - 1) := fun v hv h => by
  rw [full_bit, decide_eq_false_iff_not] at h
  exact absurd hv h
def numsM (L : List (List Nat)) : List Nat := L.map fun l => mask (natInts l)
theorem mem_numsM {P : Nat → Prop} {k : Nat} {L : List (List Nat)} (hk : k ≤ 65536) (h : MdOn P k L) (s : Nat) : s ∈ numsM L ↔ 1 ≤ s ∧ s < k ∧ P s := by
  unfold numsM
  rw [List.mem_map]
  constructor
  · rintro ⟨l, hl, rfl⟩
    obtain ⟨t, h1, h2, h3, rfl⟩ := (h.mem l).1 hl
    rw [mask_bitsOf (by omega)]
    exact ⟨h1, h2, h3⟩
  · rintro ⟨h1, h2, h3⟩
    exact ⟨bitsOf s, (h.mem _).2 ⟨s, h1, h2, h3, rfl⟩, mask_bitsOf (by omega)⟩
theorem nodup_numsM {P : Nat → Prop} {k : Nat} {L : List (List Nat)} (_hk : k ≤ 65536) (h : MdOn P k L) : (numsM L).Nodup := by
  unfold numsM
  rw [List.Nodup, List.pairwise_map]
  refine h.srt.imp_of_mem fun {a b} ha hb hab e => ?_
  obtain ⟨s, _, h2, _, rfl⟩ := (h.mem _).1 ha
  obtain ⟨t, _, k2, _, rfl⟩ := (h.mem _).1 hb
  rw [mask_bitsOf (by omega), mask_bitsOf (by omega)] at e
  subst e
  exact lessP_irrefl _ hab
def onesK (n : Nat) : List Nat := (List.range n).map fun i => 2 ^ i
theorem nodup_ones (n : Nat) : (onesK n).Nodup := by
  unfold onesK
  rw [List.Nodup, List.pairwise_map]
  exact List.pairwise_lt_range.imp fun {a b} h e => by
    have : (2 : Nat) ^ a < 2 ^ b := Nat.pow_lt_pow_right (by decide) h
    omega
theorem mem_ones {n s : Nat} : s ∈ onesK n ↔ ∃ i, i < n ∧ s = 2 ^ i := by
  unfold onesK
  rw [List.mem_map]
  exact ⟨fun ⟨i, h, e⟩ => ⟨i, List.mem_range.1 h, e.symm⟩, fun ⟨i, h, e⟩ => ⟨i, List.mem_range.2 h, e.symm⟩⟩
theorem two_le (n : Nat) (h16 : n ≤ 16) : 2 ^ n ≤ 65536 := Nat.le_trans (Nat.pow_le_pow_right (by decide) h16) (by decide)
theorem md_many {g : List (List Int)} {L : List (List Nat)} (h16 : g.length ≤ 16) (h : MdOn (ModN g) (2 ^ g.length) L) : g.length ≤ L.length := by
  have := sub_len (onesK g.length) (numsM L) (nodup_ones _) fun s hs => by
    obtain ⟨i, hi, rfl⟩ := mem_ones.1 hs
    exact (mem_numsM (two_le _ h16) h _).2 ⟨Nat.two_pow_pos i, Nat.pow_lt_pow_right (by decide) hi, mod_one i⟩
  simpa [onesK, numsM] using this
theorem full_ne_one {n i : Nat} (hn : 2 ≤ n) (hi : i < n) : 2 ^ n - 1 ≠ 2 ^ i := by
  have h1 : (2 : Nat) ^ n = 2 * 2 ^ (n - 1) := by
    obtain ⟨k, rfl⟩ : ∃ k, n = k + 1 := ⟨n - 1, by omega⟩
    rw [Nat.pow_succ, Nat.add_sub_cancel]; omega
  have h2 : (2 : Nat) ^ i ≤ 2 ^ (n - 1) := Nat.pow_le_pow_right (by decide) (by omega)
  have h3 : (2 : Nat) ^ 1 ≤ 2 ^ (n - 1) := Nat.pow_le_pow_right (by decide) (by omega)
  omega
/-- One more than the vertices: just where no other module has two vertices. -/
theorem md_prime {g : List (List Int)} {L : List (List Nat)} (h2 : 2 ≤ g.length) (h16 : g.length ≤ 16) (h : MdOn (ModN g) (2 ^ g.length) L) :
    L.length = g.length + 1 ↔ ∀ i k, i < k → k < g.length → ¬ PrmP g (2 ^ i ||| 2 ^ k) := by
  have hl : (numsM L).length = L.length := by simp [numsM]
  have ho : (onesK g.length).length = g.length := by simp [onesK]
  have hp : 2 < 2 ^ g.length := by
    have : (2 : Nat) ^ 2 ≤ 2 ^ g.length := Nat.pow_le_pow_right (by decide) h2
    omega
  have hfull : 2 ^ g.length - 1 ∈ numsM L := (mem_numsM (two_le _ h16) h _).2 ⟨by omega, by omega, mod_full⟩
  have hones : ∀ s ∈ onesK g.length, s ∈ numsM L := fun s hs => by
    obtain ⟨i, hi, rfl⟩ := mem_ones.1 hs
    exact (mem_numsM (two_le _ h16) h _).2 ⟨Nat.two_pow_pos i, Nat.pow_lt_pow_right (by decide) hi, mod_one i⟩
  have hnd : (onesK g.length ++ [2 ^ g.length - 1]).Nodup := by
    rw [List.Nodup, List.pairwise_append]
    refine ⟨nodup_ones _, by simp, fun a ha b hb e => ?_⟩
    obtain ⟨i, hi, rfl⟩ := mem_ones.1 ha
    rw [List.mem_singleton] at hb
    subst hb
    exact full_ne_one h2 hi e.symm
  have hge := sub_len _ (numsM L) hnd fun s hs => by
    rcases List.mem_append.1 hs with h1 | h1
    · exact hones s h1
    · rw [List.mem_singleton] at h1; subst h1; exact hfull
  rw [List.length_append, List.length_singleton, ho, hl] at hge
  constructor
  · rintro he i k hik hk ⟨m, m1, m2, m3, m4⟩
    have hbi : m.testBit i = true := m2 i (by rw [Nat.testBit_or, bit_one]; simp)
    have hbk : m.testBit k = true := m2 k (by rw [Nat.testBit_or, bit_one, bit_one]; simp)
    have hm0 : m ≠ 0 := fun e => by rw [e] at hbi; simp at hbi
    have hm1 : m ∉ onesK g.length ++ [2 ^ g.length - 1] := fun hm => by
      rcases List.mem_append.1 hm with h1 | h1
      · obtain ⟨j, _, rfl⟩ := mem_ones.1 h1
        rw [bit_one, decide_eq_true_eq] at hbi hbk
        omega
      · rw [List.mem_singleton] at h1
        exact m4 h1
    have := sub_len (m :: (onesK g.length ++ [2 ^ g.length - 1])) (numsM L) (List.nodup_cons.2 ⟨hm1, hnd⟩) fun s hs => by
      rcases List.mem_cons.1 hs with rfl | hs
      · exact (mem_numsM (two_le _ h16) h _).2 ⟨by omega, m3, m1⟩
      · rcases List.mem_append.1 hs with h1 | h1
        · exact hones s h1
        · rw [List.mem_singleton] at h1; subst h1; exact hfull
    rw [List.length_cons, List.length_append, List.length_singleton, ho, hl] at this
    omega
  · intro hno
    have := sub_len (numsM L) (onesK g.length ++ [2 ^ g.length - 1]) (nodup_numsM (two_le _ h16) h) fun s hs => by
      obtain ⟨s1, s2, s3⟩ := (mem_numsM (two_le _ h16) h _).1 hs
      obtain ⟨i, hi⟩ := Nat.exists_testBit_of_ne_zero (show s ≠ 0 by omega)
      have hin : i < g.length := by
        have := sub_full s2 i hi
        rwa [full_bit, decide_eq_true_eq] at this
      by_cases he : ∃ k, k ≠ i ∧ s.testBit k = true
      · obtain ⟨k, hk, hkb⟩ := he
        have hkn : k < g.length := by
          have := sub_full s2 k hkb
          rwa [full_bit, decide_eq_true_eq] at this
        refine List.mem_append_right _ (List.mem_singleton.2 ?_)
        by_cases hf : s = 2 ^ g.length - 1
        · exact hf
        · exfalso
          rcases Nat.lt_or_ge i k with hik | hik
          · refine hno i k hik hkn ⟨s, s3, fun v hv => ?_, s2, hf⟩
            rw [Nat.testBit_or, bit_one, bit_one, Bool.or_eq_true, decide_eq_true_eq, decide_eq_true_eq] at hv
            rcases hv with rfl | rfl
            · exact hi
            · exact hkb
          · refine hno k i (by omega) hin ⟨s, s3, fun v hv => ?_, s2, hf⟩
            rw [Nat.testBit_or, bit_one, bit_one, Bool.or_eq_true, decide_eq_true_eq, decide_eq_true_eq] at hv
            rcases hv with rfl | rfl
            · exact hkb
            · exact hi
      · refine List.mem_append_left _ (mem_ones.2 ⟨i, hin, Nat.eq_of_testBit_eq fun v => ?_⟩)
        rw [bit_one]
        by_cases e : i = v
        · subst e; simp [hi]
        · cases hv : s.testBit v with
          | false => simp [e]
          | true => exact absurd ⟨v, fun h => e h.symm, hv⟩ he
    rw [List.length_append, List.length_singleton, ho, hl] at this
    omega

end Go.Proofs.YtiooindlpinjhaaDoor
