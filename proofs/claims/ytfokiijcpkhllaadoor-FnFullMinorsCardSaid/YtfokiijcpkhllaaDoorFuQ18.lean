/- Plain: the least module that contains a set; how many modules there are. -/
import Derived.Test.YtfokiijcpkhllaaDoorFuQ17
import Derived.Test.YtfokiijcpkhllaaDoorFuQ3
namespace Go.Proofs.YtfokiijcpkhllaaDoor

def SubB (s t : Nat) : Prop := ∀ v, s.testBit v = true → t.testBit v = true
theorem and_sub_zero {a s m : Nat} (h : SubB s m) (k : a &&& m = 0) : a &&& s = 0 := by
  refine Nat.eq_of_testBit_eq fun v => ?_
  have := congrArg (fun x => x.testBit v) k
  simp only [Nat.testBit_and, Nat.zero_testBit] at this ⊢
  cases hs : s.testBit v with
  | false => simp
  | true =>
    rw [h v hs] at this
    simpa using this
theorem and_sub_all {a s m : Nat} (h : SubB s m) (k : a &&& m = m) : a &&& s = s := by
  refine Nat.eq_of_testBit_eq fun v => ?_
  have := congrArg (fun x => x.testBit v) k
  simp only [Nat.testBit_and] at this ⊢
  cases hs : s.testBit v with
  | false => simp
  | true =>
    rw [h v hs] at this
    simpa using this
theorem sub_eq {s t : Nat} (h : SubB s t) (k : SubB t s) : s = t := by
  refine Nat.eq_of_testBit_eq fun v => ?_
  cases hs : s.testBit v with
  | true => exact (h v hs).symm
  | false =>
    cases ht : t.testBit v with
    | false => rfl
    | true =>
      rw [k v ht] at hs
      exact absurd hs (by decide)
theorem full_bit {n v : Nat} : (2 ^ n - 1).testBit v = decide (v < n) := Nat.testBit_two_pow_sub_one n v
theorem sub_full {s n : Nat} (h : s < 2 ^ n) : SubB s (2 ^ n - 1) := fun v hv => by
  rw [full_bit, decide_eq_true_eq]
  rcases Nat.lt_or_ge v n with h1 | h1
  · exact h1
  · have : s < 2 ^ v := Nat.lt_of_lt_of_le h (Nat.pow_le_pow_right (by decide) h1)
    rw [Nat.testBit_lt_two_pow this] at hv
    exact absurd hv (by decide)
theorem lt_of_sub {s n : Nat} (h : SubB s (2 ^ n - 1)) : s < 2 ^ n := by
  rcases Nat.lt_or_ge s (2 ^ n) with h1 | h1
  · exact h1
  · obtain ⟨v, hv, hb⟩ := Nat.exists_ge_and_testBit_of_ge_two_pow h1
    have := h v hb
    rw [full_bit, decide_eq_true_eq] at this
    omega

/-- The set s0 has grown to s, and no further than any module that contains it. -/
structure ClI (g : List (List Int)) (s0 s : Nat) : Prop where
  lt : s < 2 ^ g.length
  sup : SubB s0 s
  low : ∀ m, ModN g m → SubB s0 m → SubB s m
theorem ClI.start {g : List (List Int)} {s : Nat} (h : s < 2 ^ g.length) : ClI g s s := ⟨h, fun _ h => h, fun _ _ h => h⟩
theorem ClI.spl {g : List (List Int)} {s0 s v : Nat} (h : ClI g s0 s) (hv : v < g.length) (hs : ¬ (mask (row g v) &&& s = 0 ∨ mask (row g v) &&& s = s)) : ∀ m, ModN g m → SubB s0 m → m.testBit v = true := by
  intro m hm h0
  cases e : m.testBit v with
  | true => rfl
  | false => exact absurd ((hm v hv e).imp (and_sub_zero (h.low m hm h0)) (and_sub_all (h.low m hm h0))) hs
theorem ClI.more {g : List (List Int)} {s0 s z : Nat} (h : ClI g s0 s) (hz : ∀ v, z.testBit v = true → v < g.length ∧ ¬ (mask (row g v) &&& s = 0 ∨ mask (row g v) &&& s = s)) : ClI g s0 (s ||| z) where
  lt := lt_of_sub fun v hv => by
    rw [Nat.testBit_or, Bool.or_eq_true] at hv
    rcases hv with hv | hv
    · exact sub_full h.lt v hv
    · rw [full_bit, decide_eq_true_eq]
      exact (hz v hv).1
  sup := fun v hv => by
    rw [Nat.testBit_or, h.sup v hv]
    rfl
  low := fun m hm h0 v hv => by
    rw [Nat.testBit_or, Bool.or_eq_true] at hv
    rcases hv with hv | hv
    · exact h.low m hm h0 v hv
    · exact h.spl (hz v hv).1 (hz v hv).2 m hm h0
theorem or_grows {s z : Nat} (hz : z ≠ 0) (hd : ∀ v, z.testBit v = true → s.testBit v = false) : s < s ||| z := by
  have h1 : s ≤ s ||| z := Nat.left_le_or
  rcases Nat.lt_or_ge s (s ||| z) with h | h
  · exact h
  · exfalso
    have e : s ||| z = s := by omega
    obtain ⟨v, hv⟩ := Nat.exists_testBit_of_ne_zero hz
    have h3 := congrArg (fun x => x.testBit v) e
    simp only [Nat.testBit_or, hv, Bool.or_true, hd v hv] at h3
    exact absurd h3 (by decide)
/-- c is the least module that contains s. -/
def ClsN (g : List (List Int)) (s c : Nat) : Prop := ClI g s c ∧ ModN g c
theorem cls_det {g : List (List Int)} {s c d : Nat} (h : ClsN g s c) (k : ClsN g s d) : c = d := sub_eq (h.1.low d k.2 k.1.sup) (k.1.low c h.2 h.1.sup)
theorem cls_self {g : List (List Int)} {s c : Nat} (h : ClsN g s c) : c = s ↔ ModN g s := by
  constructor
  · intro e; rw [← e]; exact h.2
  · intro hm; exact sub_eq (h.1.low s hm fun _ h => h) h.1.sup
/-- A module that is not all contains the set. -/
def PrmP (g : List (List Int)) (s : Nat) : Prop := ∃ m, ModN g m ∧ SubB s m ∧ m < 2 ^ g.length ∧ m ≠ 2 ^ g.length - 1
theorem cls_prm {g : List (List Int)} {s c : Nat} (h : ClsN g s c) : c ≠ 2 ^ g.length - 1 ↔ PrmP g s := by
  constructor
  · intro e; exact ⟨c, h.2, h.1.sup, h.1.lt, e⟩
  · rintro ⟨m, h1, h2, h3, h4⟩ e
    refine h4 (sub_eq (sub_full h3) ?_)
    rw [← e]
    exact h.1.low m h1 h2

theorem sub_len {α : Type} [DecidableEq α] : ∀ (l m : List α), l.Nodup → (∀ x ∈ l, x ∈ m) → l.length ≤ m.length
  | [], _, _, _ => Nat.zero_le _
  | a :: l, m, hl, h => by
    have ha := h a (List.mem_cons_self ..)
    have hn := List.nodup_cons.1 hl
    have ih := sub_len l (m.erase a) hn.2 fun x hx => (List.mem_erase_of_ne (fun e => hn.1 (by rw [← e]; exact hx))).2 (h x (List.mem_cons_of_mem _ hx))
    have h1 := List.length_erase_of_mem ha
    have h2 := List.length_pos_of_mem ha
    rw [List.length_cons]
    omega
theorem bit_one {i v : Nat} : (2 ^ i).testBit v = decide (i = v) := Nat.testBit_two_pow
/-- Single vertices are modules, and so is the whole. -/
theorem mod_one {g : List (List Int)} (i : Nat) : ModN g (2 ^ i) := fun v _ _ => by
  cases h : (mask (row g v)).testBit i with
  | false =>
    left
    refine Nat.eq_of_testBit_eq fun u => ?_
    rw [Nat.testBit_and, bit_one, Nat.zero_testBit]
    by_cases e : i = u
    · subst e; simp [h]
    · simp [e]
  | true =>
    right
    refine Nat.eq_of_testBit_eq fun u => ?_
    rw [Nat.testBit_and, bit_one]
    by_cases e : i = u
    · subst e; simp [h]
    · simp [e]
theorem mod_full {g : List (List Int)} : ModN g (2 ^ g.length - 1) := fun v hv h => by
  rw [full_bit, decide_eq_false_iff_not] at h
  exact absurd hv h
def numsM (L : List (List Nat)) : List Nat := L.map fun l => mask (natInts l)
theorem mem_numsM {P : Nat → Prop} {k : Nat} {L : List (List Nat)} (hk : k ≤ 65536) (h : MdOn P k L) (s : Nat) : s ∈ numsM L ↔ 1 ≤ s ∧ s < k ∧ P s := by
  unfold numsM
  rw [List.mem_map]
  constructor
  · rintro ⟨l, hl, rfl⟩
    obtain ⟨t, h1, h2, h3, rfl⟩ := (h.mem l).1 hl
    rw [mask_bitsOf (by omega)]
    exact ⟨h1, h2, h3⟩
  · rintro ⟨h1, h2, h3⟩
    exact ⟨bitsOf s, (h.mem _).2 ⟨s, h1, h2, h3, rfl⟩, mask_bitsOf (by omega)⟩
theorem nodup_numsM {P : Nat → Prop} {k : Nat} {L : List (List Nat)} (_hk : k ≤ 65536) (h : MdOn P k L) : (numsM L).Nodup := by
  unfold numsM
  rw [List.Nodup, List.pairwise_map]
  refine h.srt.imp_of_mem fun {a b} ha hb hab e => ?_
  obtain ⟨s, _, h2, _, rfl⟩ := (h.mem _).1 ha
  obtain ⟨t, _, k2, _, rfl⟩ := (h.mem _).1 hb
  rw [mask_bitsOf (by omega), mask_bitsOf (by omega)] at e
  subst e
  exact lessP_irrefl _ hab
def onesK (n : Nat) : List Nat := (List.range n).map fun i => 2 ^ i
theorem nodup_ones (n : Nat) : (onesK n).Nodup := by
  unfold onesK
  rw [List.Nodup, List.pairwise_map]
  exact List.pairwise_lt_range.imp fun {a b} h e => by
    have : (2 : Nat) ^ a < 2 ^ b := Nat.pow_lt_pow_right (by decide) h
    omega
theorem mem_ones {n s : Nat} : s ∈ onesK n ↔ ∃ i, i < n ∧ s = 2 ^ i := by
  unfold onesK
  rw [List.mem_map]
  exact ⟨fun ⟨i, h, e⟩ => ⟨i, List.mem_range.1 h, e.symm⟩, fun ⟨i, h, e⟩ => ⟨i, List.mem_range.2 h, e.symm⟩⟩
theorem two_le (n : Nat) (h16 : n ≤ 16) : 2 ^ n ≤ 65536 := Nat.le_trans (Nat.pow_le_pow_right (by decide) h16) (by decide)
theorem md_many {g : List (List Int)} {L : List (List Nat)} (h16 : g.length ≤ 16) (h : MdOn (ModN g) (2 ^ g.length) L) : g.length ≤ L.length := by
  have := sub_len (onesK g.length) (numsM L) (nodup_ones _) fun s hs => by
    obtain ⟨i, hi, rfl⟩ := mem_ones.1 hs
    exact (mem_numsM (two_le _ h16) h _).2 ⟨Nat.two_pow_pos i, Nat.pow_lt_pow_right (by decide) hi, mod_one i⟩
  simpa [onesK, numsM] using this
theorem full_ne_one {n i : Nat} (hn : 2 ≤ n) (hi : i < n) : 2 ^ n - 1 ≠ 2 ^ i := by
  have h1 : (2 : Nat) ^ n = 2 * 2 ^ (n - 1) := by
    obtain ⟨k, rfl⟩ : ∃ k, n = k + 1 := ⟨n - 1, by omega⟩
    rw [Nat.pow_succ, Nat.add_sub_cancel]; omega
  have h2 : (2 : Nat) ^ i ≤ 2 ^ (n - 1) := Nat.pow_le_pow_right (by decide) (by omega)
  have h3 : (2 : Nat) ^ 1 ≤ 2 ^ (n - 1) := Nat.pow_le_pow_right (by decide) (by omega)
  omega
/-- One more than the vertices: just where no other module has two vertices. -/
theorem md_prime {g : List (List Int)} {L : List (List Nat)} (h2 : 2 ≤ g.length) (h16 : g.length ≤ 16) (h : MdOn (ModN g) (2 ^ g.length) L) :
    L.length = g.length + 1 ↔ ∀ i k, i < k → k < g.length → ¬ PrmP g (2 ^ i ||| 2 ^ k) := by
  have hl : (numsM L).length = L.length := by simp [numsM]
  have ho : (onesK g.length).length = g.length := by simp [onesK]
  have hp : 2 < 2 ^ g.length := by
    have : (2 : Nat) ^ 2 ≤ 2 ^ g.length := Nat.pow_le_pow_right (by decide) h2
    omega
  have hfull : 2 ^ g.length - 1 ∈ numsM L := (mem_numsM (two_le _ h16) h _).2 ⟨by omega, by omega, mod_full⟩
  have hones : ∀ s ∈ onesK g.length, s ∈ numsM L := fun s hs => by
    obtain ⟨i, hi, rfl⟩ := mem_ones.1 hs
    exact (mem_numsM (two_le _ h16) h _).2 ⟨Nat.two_pow_pos i, Nat.pow_lt_pow_right (by decide) hi, mod_one i⟩
  have hnd : (onesK g.length ++ [2 ^ g.length - 1]).Nodup := by
    rw [List.Nodup, List.pairwise_append]
    refine ⟨nodup_ones _, by simp, fun a ha b hb e => ?_⟩
    obtain ⟨i, hi, rfl⟩ := mem_ones.1 ha
    rw [List.mem_singleton] at hb
    subst hb
    exact full_ne_one h2 hi e.symm
  have hge := sub_len _ (numsM L) hnd fun s hs => by
    rcases List.mem_append.1 hs with h1 | h1
    · exact hones s h1
    · rw [List.mem_singleton] at h1; subst h1; exact hfull
  rw [List.length_append, List.length_singleton, ho, hl] at hge
  constructor
  · rintro he i k hik hk ⟨m, m1, m2, m3, m4⟩
    have hbi : m.testBit i = true := m2 i (by rw [Nat.testBit_or, bit_one]; simp)
    have hbk : m.testBit k = true := m2 k (by rw [Nat.testBit_or, bit_one, bit_one]; simp)
    have hm0 : m ≠ 0 := fun e => by rw [e] at hbi; simp at hbi
    have hm1 : m ∉ onesK g.length ++ [2 ^ g.length - 1] := fun hm => by
      rcases List.mem_append.1 hm with h1 | h1
      · obtain ⟨j, _, rfl⟩ := mem_ones.1 h1
        rw [bit_one, decide_eq_true_eq] at hbi hbk
        omega
      · rw [List.mem_singleton] at h1
        exact m4 h1
    have := sub_len (m :: (onesK g.length ++ [2 ^ g.length - 1])) (numsM L) (List.nodup_cons.2 ⟨hm1, hnd⟩) fun s hs => by
      rcases List.mem_cons.1 hs with rfl | hs
      · exact (mem_numsM (two_le _ h16) h _).2 ⟨by omega, m3, m1⟩
      · rcases List.mem_append.1 hs with h1 | h1
        · exact hones s h1
        · rw [List.mem_singleton] at h1; subst h1; exact hfull
    rw [List.length_cons, List.length_append, List.length_singleton, ho, hl] at this
    omega
  · intro hno
    have := sub_len (numsM L) (onesK g.length ++ [2 ^ g.length - 1]) (nodup_numsM (two_le _ h16) h) fun s hs => by
      obtain ⟨s1, s2, s3⟩ := (mem_numsM (two_le _ h16) h _).1 hs
      obtain ⟨i, hi⟩ := Nat.exists_testBit_of_ne_zero (show s ≠ 0 by omega)
      have hin : i < g.length := by
        have := sub_full s2 i hi
        rwa [full_bit, decide_eq_true_eq] at this
      by_cases he : ∃ k, k ≠ i ∧ s.testBit k = true
      · obtain ⟨k, hk, hkb⟩ := he
        have hkn : k < g.length := by
          have := sub_full s2 k hkb
          rwa [full_bit, decide_eq_true_eq] at this
        refine List.mem_append_right _ (List.mem_singleton.2 ?_)
        by_cases hf : s = 2 ^ g.length - 1
        · exact hf
        · exfalso
          rcases Nat.lt_or_ge i k with hik | hik
          · refine hno i k hik hkn ⟨s, s3, fun v hv => ?_, s2, hf⟩
            rw [Nat.testBit_or, bit_one, bit_one, Bool.or_eq_true, decide_eq_true_eq, decide_eq_true_eq] at hv
            rcases hv with rfl | rfl
            · exact hi
            · exact hkb
          · refine hno k i (by omega) hin ⟨s, s3, fun v hv => ?_, s2, hf⟩
            rw [Nat.testBit_or, bit_one, bit_one, Bool.or_eq_true, decide_eq_true_eq, decide_eq_true_eq] at hv
            rcases hv with rfl | rfl
            · exact hkb
            · exact hi
      · refine List.mem_append_left _ (mem_ones.2 ⟨i, hin, Nat.eq_of_testBit_eq fun v => ?_⟩)
        rw [bit_one]
        by_cases e : i = v
        · subst e; simp [hi]
        · cases hv : s.testBit v with
          | false => simp [e]
          | true => exact absurd ⟨v, fun h => e h.symm, hv⟩ he
    rw [List.length_append, List.length_singleton, ho, hl] at this
    omega

end Go.Proofs.YtfokiijcpkhllaaDoor

/- Plain: models of full graphs: what taking a vertex away does to them, and what contracting an edge does. -/
namespace Go.Proofs.YtfokiijcpkhllaaDoor

/-- So many sets that are connected, apart, and joined two by two. -/
structure KM (R : Nat → Nat → Prop) (k : Nat) (B : Nat → Nat → Prop) : Prop where
  ne : ∀ i, i < k → ∃ x, B i x
  conn : ∀ i, i < k → ∀ P : Nat → Prop, (∃ x, B i x ∧ P x) → (∃ x, B i x ∧ ¬ P x) → ∃ x y, B i x ∧ B i y ∧ P x ∧ ¬ P y ∧ R x y
  dis : ∀ i, i < k → ∀ j, j < k → ∀ x, B i x → B j x → i = j
  jn : ∀ i, i < k → ∀ j, j < k → i ≠ j → ∃ x y, B i x ∧ B j y ∧ R x y

theorem KM.mono {R S : Nat → Nat → Prop} {k : Nat} {B : Nat → Nat → Prop} (h : KM R k B) (hRS : ∀ i, i < k → ∀ j, j < k → ∀ x y, B i x → B j y → R x y → S x y) : KM S k B where
  ne := h.ne
  conn i hi P h1 h2 := by
    obtain ⟨x, y, a, b, c, d, e⟩ := h.conn i hi P h1 h2
    exact ⟨x, y, a, b, c, d, hRS i hi i hi x y a b e⟩
  dis := h.dis
  jn i hi j hj hij := by
    obtain ⟨x, y, a, b, c⟩ := h.jn i hi j hj hij
    exact ⟨x, y, a, b, hRS i hi j hj x y a b c⟩

/-- Who is in a set has a neighbour. -/
theorem KM.near {R : Nat → Nat → Prop} {k : Nat} {B : Nat → Nat → Prop} (h : KM R k B) (hk : 2 ≤ k) {i x : Nat} (hi : i < k) (hx : B i x) : ∃ y, R x y := by
  by_cases c : ∃ y, B i y ∧ ¬ y = x
  · obtain ⟨a, b, _, _, e, _, r⟩ := h.conn i hi (· = x) ⟨x, hx, rfl⟩ c
    exact ⟨b, e ▸ r⟩
  · have key : ∀ y, B i y → y = x := fun y hy => Classical.byContradiction fun h => c ⟨y, hy, h⟩
    obtain ⟨a, b, ha, _, r⟩ := h.jn i hi (if i = 0 then 1 else 0) (by split <;> omega) (by split <;> omega)
    exact ⟨b, key a ha ▸ r⟩
theorem KM.none {R : Nat → Nat → Prop} {k : Nat} {B : Nat → Nat → Prop} (h : KM R k B) (hk : 2 ≤ k) (hR : ∀ x y, ¬ R x y) : False := by
  obtain ⟨x, hx⟩ := h.ne 0 (by omega)
  obtain ⟨y, hy⟩ := h.near hk (by omega) hx
  exact hR x y hy

/-- What is left when a vertex goes whose neighbours are joined to each other first. -/
def goneR (R : Nat → Nat → Prop) (v : Nat) : Nat → Nat → Prop := fun x y => x ≠ v ∧ y ≠ v ∧ x ≠ y ∧ (R x y ∨ (R v x ∧ R v y))
theorem KM.gone {R : Nat → Nat → Prop} {k : Nat} {B : Nat → Nat → Prop} (hs : ∀ x y, R x y → R y x) (h : KM R k B) {v : Nat} {l : List Nat} (hl : l.length + 2 ≤ k) (hN : ∀ x, R v x → x ∈ l) :
    KM (goneR R v) k fun i x => B i x ∧ x ≠ v := by
  have hne : ∀ i, i < k → ∃ x, B i x ∧ x ≠ v := by
    intro i hi
    refine Classical.byContradiction fun hno => ?_
    have hall : ∀ x, B i x → x = v := fun x hx => Classical.byContradiction fun h => hno ⟨x, hx, h⟩
    have hj : ∀ j, j < k → i ≠ j → ∃ y, B j y ∧ R v y := fun j hj hij => by
      obtain ⟨x, y, a, b, c⟩ := h.jn i hi j hj hij
      exact ⟨y, b, hall x a ▸ c⟩
    classical
    let f : Nat → Nat := fun j => if hh : ∃ y, B j y ∧ R v y then hh.choose else 0
    have hf : ∀ j, j < k → i ≠ j → B j (f j) ∧ R v (f j) := fun j hj1 hij => by
      have hh := hj j hj1 hij
      show B j (if hh : ∃ y, B j y ∧ R v y then hh.choose else 0) ∧ R v (if hh : ∃ y, B j y ∧ R v y then hh.choose else 0)
      rw [dif_pos hh]
      exact hh.choose_spec
    have hsub := sub_len (((List.range k).filter fun j => decide (j ≠ i)).map f) l (by
        rw [List.Nodup, List.pairwise_map]
        refine (List.Pairwise.and_mem.1 (List.Pairwise.filter (fun j => decide (j ≠ i)) (List.nodup_range (n := k)))).imp fun {a b} hab => ?_
        obtain ⟨ha, hb, hne⟩ := hab
        rw [List.mem_filter, List.mem_range, decide_eq_true_eq] at ha hb
        intro e
        exact hne (h.dis a ha.1 b hb.1 (f a) (hf a ha.1 (Ne.symm ha.2)).1 (e ▸ (hf b hb.1 (Ne.symm hb.2)).1))) fun x hx => by
        obtain ⟨j, hj1, rfl⟩ := List.mem_map.1 hx
        rw [List.mem_filter, List.mem_range, decide_eq_true_eq] at hj1
        exact hN _ (hf j hj1.1 (Ne.symm hj1.2)).2
    rw [List.length_map] at hsub
    have hcount : k ≤ ((List.range k).filter fun j => decide (j ≠ i)).length + 1 := by
      have h1 := List.length_eq_countP_add_countP (fun j => decide (j ≠ i)) (l := List.range k)
      rw [List.length_range, List.countP_eq_length_filter, List.countP_eq_length_filter] at h1
      have h2 : ((List.range k).filter fun a => decide (¬ decide (a ≠ i) = true)).length ≤ 1 := by
        have := sub_len ((List.range k).filter fun a => decide (¬ decide (a ≠ i) = true)) [i] (List.Pairwise.filter _ List.nodup_range) fun x hx => by
          rw [List.mem_filter, decide_eq_true_eq, decide_eq_true_eq] at hx
          have := hx.2
          simp only [ne_eq, Decidable.not_not] at this
          simp [this]
        simpa using this
      omega
    omega
  refine ⟨hne, fun i hi P hp hq => ?_, fun i hi j hj x hx hy => h.dis i hi j hj x hx.1 hy.1, fun i hi j hj hij => ?_⟩
  · obtain ⟨x0, ⟨hx0, hx0v⟩, hpx0⟩ := hp
    obtain ⟨x1, ⟨hx1, hx1v⟩, hpx1⟩ := hq
    by_cases c : ∃ n, B i n ∧ n ≠ v ∧ R v n ∧ P n
    · obtain ⟨n, hn1, hn2, hn3, hn4⟩ := c
      obtain ⟨x, y, a, b, hx, hy, r⟩ := h.conn i hi (fun x => x = v ∨ P x) ⟨x0, hx0, .inr hpx0⟩ ⟨x1, hx1, fun e => e.elim hx1v hpx1⟩
      have hyv : y ≠ v := fun e => hy (.inl e)
      have hyP : ¬ P y := fun e => hy (.inr e)
      by_cases e : x = v
      · subst e
        exact ⟨n, y, ⟨hn1, hn2⟩, ⟨b, hyv⟩, hn4, hyP, hn2, hyv, fun e => hyP (e ▸ hn4), .inr ⟨hn3, r⟩⟩
      · have hxP := hx.resolve_left e
        exact ⟨x, y, ⟨a, e⟩, ⟨b, hyv⟩, hxP, hyP, e, hyv, fun e => hyP (e ▸ hxP), .inl r⟩
    · obtain ⟨x, y, a, b, ⟨hxv, hxP⟩, hy, r⟩ := h.conn i hi (fun x => x ≠ v ∧ P x) ⟨x0, hx0, hx0v, hpx0⟩ ⟨x1, hx1, fun e => hpx1 e.2⟩
      have hyv : y ≠ v := fun e => c ⟨x, a, hxv, e ▸ hs _ _ r, hxP⟩
      have hyP : ¬ P y := fun e => hy ⟨hyv, e⟩
      exact ⟨x, y, ⟨a, hxv⟩, ⟨b, hyv⟩, hxP, hyP, hxv, hyv, fun e => hyP (e ▸ hxP), .inl r⟩
  · obtain ⟨x, y, a, b, r⟩ := h.jn i hi j hj hij
    by_cases ex : x = v
    · subst ex
      have hy : y ≠ x := fun e => hij (h.dis i hi j hj x a (e ▸ b))
      obtain ⟨x', hx', hx'v⟩ := hne i hi
      obtain ⟨z, y', _, hy', rfl, hy'v, r'⟩ := h.conn i hi (· = x) ⟨x, a, rfl⟩ ⟨x', hx', hx'v⟩
      exact ⟨y', y, ⟨hy', hy'v⟩, ⟨b, hy⟩, hy'v, hy, fun e => hij (h.dis i hi j hj y' hy' (e ▸ b)), .inr ⟨r', r⟩⟩
    · by_cases ey : y = v
      · subst ey
        obtain ⟨x', hx', hx'v⟩ := hne j hj
        obtain ⟨z, y', _, hy', rfl, hy'v, r'⟩ := h.conn j hj (· = y) ⟨y, b, rfl⟩ ⟨x', hx', hx'v⟩
        exact ⟨x, y', ⟨a, ex⟩, ⟨hy', hy'v⟩, ex, hy'v, fun e => hij (h.dis i hi j hj x a (e ▸ hy')), .inr ⟨hs _ _ r, r'⟩⟩
      · exact ⟨x, y, ⟨a, ex⟩, ⟨b, ey⟩, ex, ey, fun e => hij (h.dis i hi j hj x a (e ▸ b)), .inl r⟩

/-- A vertex of two neighbours at most comes back. -/
theorem KM.back {R : Nat → Nat → Prop} {k : Nat} {B : Nat → Nat → Prop} (hs : ∀ x y, R x y → R y x) {v a b : Nat} (hN : ∀ x, R v x → x = a ∨ x = b) (h : KM (goneR R v) k B) (hk : 2 ≤ k) :
    ∃ C, KM R k C := by
  have hv : ∀ i, i < k → ¬ B i v := fun i hi hb => by
    obtain ⟨y, hy⟩ := h.near hk hi hb
    exact hy.1 rfl
  by_cases hab : R v a ∧ R v b ∧ a ≠ b
  · obtain ⟨ha, hb, hab⟩ := hab
    have two : ∀ x y, R v x → R v y → x ≠ y → (x = a ∧ y = b) ∨ (x = b ∧ y = a) := fun x y h1 h2 h3 => by
      rcases hN x h1 with e | e <;> rcases hN y h2 with e' | e'
      · exact absurd (e.trans e'.symm) h3
      · exact .inl ⟨e, e'⟩
      · exact .inr ⟨e, e'⟩
      · exact absurd (e.trans e'.symm) h3
    refine ⟨fun i x => B i x ∨ (x = v ∧ B i a), fun i hi => ?_, fun i hi P hp hq => ?_, fun i hi j hj x hx hy => ?_, fun i hi j hj hij => ?_⟩
    · obtain ⟨x, hx⟩ := h.ne i hi
      exact ⟨x, .inl hx⟩
    · by_cases c : (∃ x, B i x ∧ P x) ∧ (∃ x, B i x ∧ ¬ P x)
      · obtain ⟨x, y, h1, h2, h3, h4, _, _, hne, r | ⟨r1, r2⟩⟩ := h.conn i hi P c.1 c.2
        · exact ⟨x, y, .inl h1, .inl h2, h3, h4, r⟩
        · have hia : B i a := by
            rcases two x y r1 r2 hne with ⟨e, _⟩ | ⟨_, e⟩
            · exact e ▸ h1
            · exact e ▸ h2
          by_cases hpv : P v
          · exact ⟨v, y, .inr ⟨rfl, hia⟩, .inl h2, hpv, h4, r2⟩
          · exact ⟨x, v, .inl h1, .inr ⟨rfl, hia⟩, h3, hpv, hs _ _ r1⟩
      · obtain ⟨x0, hx0, hp0⟩ := hp
        obtain ⟨x1, hx1, hp1⟩ := hq
        rcases hx0 with hx0 | ⟨rfl, hx0⟩
        · rcases hx1 with hx1 | ⟨rfl, hx1⟩
          · exact absurd ⟨⟨x0, hx0, hp0⟩, ⟨x1, hx1, hp1⟩⟩ c
          · refine ⟨a, x1, .inl hx1, .inr ⟨rfl, hx1⟩, Classical.byContradiction fun hpa => c ⟨⟨x0, hx0, hp0⟩, ⟨a, hx1, hpa⟩⟩, hp1, hs _ _ ha⟩
        · rcases hx1 with hx1 | ⟨rfl, hx1⟩
          · refine ⟨x0, a, .inr ⟨rfl, hx0⟩, .inl hx0, hp0, fun hpa => c ⟨⟨a, hx0, hpa⟩, ⟨x1, hx1, hp1⟩⟩, ha⟩
          · exact absurd hp0 hp1
    · rcases hx with hx | ⟨rfl, hx⟩
      · rcases hy with hy | ⟨rfl, hy⟩
        · exact h.dis i hi j hj x hx hy
        · exact absurd hx (hv i hi)
      · rcases hy with hy | ⟨_, hy⟩
        · exact absurd hy (hv j hj)
        · exact h.dis i hi j hj a hx hy
    · obtain ⟨x, y, h1, h2, _, _, hne, r | ⟨r1, r2⟩⟩ := h.jn i hi j hj hij
      · exact ⟨x, y, .inl h1, .inl h2, r⟩
      · rcases two x y r1 r2 hne with ⟨rfl, rfl⟩ | ⟨rfl, rfl⟩
        · exact ⟨v, y, .inr ⟨rfl, h1⟩, .inl h2, r2⟩
        · exact ⟨x, v, .inl h1, .inr ⟨rfl, h2⟩, hs _ _ r1⟩
  · refine ⟨B, h.mono fun i hi j hj x y hx hy r => ?_⟩
    obtain ⟨_, _, hne, r | ⟨r1, r2⟩⟩ := r
    · exact r
    · refine absurd ?_ hab
      rcases hN x r1 with rfl | rfl <;> rcases hN y r2 with rfl | rfl
      · exact absurd rfl hne
      · exact ⟨r1, r2, hne⟩
      · exact ⟨r2, r1, Ne.symm hne⟩
      · exact absurd rfl hne

/-- What is left when an edge is contracted into its first end. -/
def conR (R : Nat → Nat → Prop) (u v : Nat) : Nat → Nat → Prop := fun x y => x ≠ v ∧ y ≠ v ∧ x ≠ y ∧ (R x y ∨ (x = u ∧ R v y) ∨ (y = u ∧ R v x))
theorem KM.contr {R : Nat → Nat → Prop} {k : Nat} {B : Nat → Nat → Prop} (hs : ∀ x y, R x y → R y x) (h : KM R k B) {u v i0 : Nat} (huv : u ≠ v) (hi0 : i0 < k) (hu : B i0 u) (hv : B i0 v) :
    KM (conR R u v) k fun i x => B i x ∧ x ≠ v := by
  refine ⟨fun i hi => ?_, fun i hi P hp hq => ?_, fun i hi j hj x hx hy => h.dis i hi j hj x hx.1 hy.1, fun i hi j hj hij => ?_⟩
  · obtain ⟨x, hx⟩ := h.ne i hi
    by_cases e : x = v
    · subst e
      obtain rfl := h.dis i hi i0 hi0 x hx hv
      exact ⟨u, hu, huv⟩
    · exact ⟨x, hx, e⟩
  · obtain ⟨x0, ⟨hx0, hx0v⟩, hpx0⟩ := hp
    obtain ⟨x1, ⟨hx1, hx1v⟩, hpx1⟩ := hq
    have key : ∀ z, B i z → B i (if z = v then u else z) ∧ (if z = v then u else z) ≠ v := fun z hz => by
      by_cases e : z = v
      · rw [if_pos e]
        subst e
        obtain rfl := h.dis i hi i0 hi0 z hz hv
        exact ⟨hu, huv⟩
      · rw [if_neg e]; exact ⟨hz, e⟩
    obtain ⟨x, y, a, b, hx, hy, r⟩ := h.conn i hi (fun z => P (if z = v then u else z)) ⟨x0, hx0, by rw [if_neg hx0v]; exact hpx0⟩ ⟨x1, hx1, by rw [if_neg hx1v]; exact hpx1⟩
    refine ⟨_, _, key x a, key y b, hx, hy, (key x a).2, (key y b).2, fun e => hy (by rw [← e]; exact hx), ?_⟩
    by_cases ex : x = v
    · rw [if_pos ex]
      by_cases ey : y = v
      · subst ex ey; exact absurd hx hy
      · rw [if_neg ey]; exact .inr (.inl ⟨rfl, ex ▸ r⟩)
    · rw [if_neg ex]
      by_cases ey : y = v
      · rw [if_pos ey]; exact .inr (.inr ⟨rfl, ey ▸ hs _ _ r⟩)
      · rw [if_neg ey]; exact .inl r
  · obtain ⟨x, y, a, b, r⟩ := h.jn i hi j hj hij
    by_cases ex : x = v
    · subst ex
      obtain rfl := h.dis i hi i0 hi0 x a hv
      have hyx : y ≠ x := fun e => hij (h.dis i hi j hj x a (e ▸ b))
      exact ⟨u, y, ⟨hu, huv⟩, ⟨b, hyx⟩, huv, hyx, fun e => hij (h.dis i hi j hj u hu (e ▸ b)), .inr (.inl ⟨rfl, r⟩)⟩
    · by_cases ey : y = v
      · subst ey
        obtain rfl := h.dis j hj i0 hi0 y b hv
        exact ⟨x, u, ⟨a, ex⟩, ⟨hu, huv⟩, ex, huv, fun e => hij (h.dis i hi j hj x a (e ▸ hu)), .inr (.inr ⟨rfl, hs _ _ r⟩)⟩
      · exact ⟨x, y, ⟨a, ex⟩, ⟨b, ey⟩, ex, ey, fun e => hij (h.dis i hi j hj x a (e ▸ b)), .inl r⟩

end Go.Proofs.YtfokiijcpkhllaaDoor
