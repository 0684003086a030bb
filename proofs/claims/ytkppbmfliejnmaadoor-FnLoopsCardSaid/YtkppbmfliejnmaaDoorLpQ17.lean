/- Plain: the least module that contains a set; how many modules there are. -/
import Derived.Test.YtkppbmfliejnmaaDoorLpQ16
import Derived.Test.YtkppbmfliejnmaaDoorLpQ7
import Derived.Test.YtkppbmfliejnmaaDoorLpQ8
import Derived.Test.YtkppbmfliejnmaaDoorLpQ3
import Derived.Test.YtkppbmfliejnmaaDoorLpQ4
namespace Go.Proofs.YtkppbmfliejnmaaDoor

def SubB (s t : Nat) : Prop := ∀ v, s.testBit v = true → t.testBit v = true
theorem and_sub_zero {a s m : Nat} (h : SubB s m) (k : a &&& m = 0) : a &&& s = 0 := by
  refine Nat.eq_of_testBit_eq fun v => ?_
  have := congrArg (fun x => x.testBit v) k
  simp only [Nat.testBit_and, Nat.zero_testBit] at this ⊢
  cases hs : s.testBit v with
  | false => simp
  | true =>
    rw [h v hs] at this
    simpa using this
theorem and_sub_all {a s m : Nat} (h : SubB s m) (k : a &&& m = m) : a &&& s = s := by
  refine Nat.eq_of_testBit_eq fun v => ?_
  have := congrArg (fun x => x.testBit v) k
  simp only [Nat.testBit_and] at this ⊢
  cases hs : s.testBit v with
  | false => simp
  | true =>
    rw [h v hs] at this
    simpa using this
theorem sub_eq {s t : Nat} (h : SubB s t) (k : SubB t s) : s = t := by
  refine Nat.eq_of_testBit_eq fun v => ?_
  cases hs : s.testBit v with
  | true => exact (h v hs).symm
  | false =>
    cases ht : t.testBit v with
    | false => rfl
    | true =>
      rw [k v ht] at hs
      exact absurd hs (by decide)
theorem full_bit {n v : Nat} : (2 ^ n - 1).testBit v = decide (v < n) := Nat.testBit_two_pow_sub_one n v
theorem sub_full {s n : Nat} (h : s < 2 ^ n) : SubB s (2 ^ n - 1) := fun v hv => by
  rw [full_bit, decide_eq_true_eq]
  rcases Nat.lt_or_ge v n with h1 | h1
  · exact h1
  · have : s < 2 ^ v := Nat.lt_of_lt_of_le h (Nat.pow_le_pow_right (by decide) h1)
    rw [Nat.testBit_lt_two_pow this] at hv
    exact absurd hv (by decide)
theorem lt_of_sub {s n : Nat} (h : SubB s (2 ^ n - 1)) : s < 2 ^ n := by
  rcases Nat.lt_or_ge s (2 ^ n) with h1 | h1
  · exact h1
  · obtain ⟨v, hv, hb⟩ := Nat.exists_ge_and_testBit_of_ge_two_pow h1
    have := h v hb
    rw [full_bit, decide_eq_true_eq] at this
    omega

/-- The set s0 has grown to s, and no further than any module that contains it. -/
structure ClI (g : List (List Int)) (s0 s : Nat) : Prop where
  lt : s < 2 ^ g.length
  sup : SubB s0 s
  low : ∀ m, ModN g m → SubB s0 m → SubB s m
theorem ClI.start {g : List (List Int)} {s : Nat} (h : s < 2 ^ g.length) : ClI g s s := ⟨h, fun _ h => h, fun _ _ h => h⟩
theorem ClI.spl {g : List (List Int)} {s0 s v : Nat} (h : ClI g s0 s) (hv : v < g.length) (hs : ¬ (mask (row g v) &&& s = 0 ∨ mask (row g v) &&& s = s)) : ∀ m, ModN g m → SubB s0 m → m.testBit v = true := by
  intro m hm h0
  cases e : m.testBit v with
  | true => rfl
  | false => exact absurd ((hm v hv e).imp (and_sub_zero (h.low m hm h0)) (and_sub_all (h.low m hm h0))) hs
theorem ClI.more {g : List (List Int)} {s0 s z : Nat} (h : ClI g s0 s) (hz : ∀ v, z.testBit v = true → v < g.length ∧ ¬ (mask (row g v) &&& s = 0 ∨ mask (row g v) &&& s = s)) : ClI g s0 (s ||| z) where
  lt := lt_of_sub fun v hv => by
    rw [Nat.testBit_or, Bool.or_eq_true] at hv
    rcases hv with hv | hv
    · exact sub_full h.lt v hv
    · rw [full_bit, decide_eq_true_eq]
      exact (hz v hv).1
  sup := fun v hv => by
    rw [Nat.testBit_or, h.sup v hv]
    rfl
  low := fun m hm h0 v hv => by
    rw [Nat.testBit_or, Bool.or_eq_true] at hv
    rcases hv with hv | hv
    · exact h.low m hm h0 v hv
    · exact h.spl (hz v hv).1 (hz v hv).2 m hm h0
theorem or_grows {s z : Nat} (hz : z ≠ 0) (hd : ∀ v, z.testBit v = true → s.testBit v = false) : s < s ||| z := by
  have h1 : s ≤ s ||| z := Nat.left_le_or
  rcases Nat.lt_or_ge s (s ||| z) with h | h
  · exact h
  · exfalso
    have e : s ||| z = s := by omega
    obtain ⟨v, hv⟩ := Nat.exists_testBit_of_ne_zero hz
    have h3 := congrArg (fun x => x.testBit v) e
    simp only [Nat.testBit_or, hv, Bool.or_true, hd v hv] at h3
    exact absurd h3 (by decide)
/-- c is the least module that contains s. -/
def ClsN (g : List (List Int)) (s c : Nat) : Prop := ClI g s c ∧ ModN g c
theorem cls_det {g : List (List Int)} {s c d : Nat} (h : ClsN g s c) (k : ClsN g s d) : c = d := sub_eq (h.1.low d k.2 k.1.sup) (k.1.low c h.2 h.1.sup)
theorem cls_self {g : List (List Int)} {s c : Nat} (h : ClsN g s c) : c = s ↔ ModN g s := by
  constructor
  · intro e; rw [← e]; exact h.2
  · intro hm; exact sub_eq (h.1.low s hm fun _ h => h) h.1.sup
/-- A module that is not all contains the set. -/
def PrmP (g : List (List Int)) (s : Nat) : Prop := ∃ m, ModN g m ∧ SubB s m ∧ m < 2 ^ g.length ∧ m ≠ 2 ^ g.length - 1
theorem cls_prm {g : List (List Int)} {s c : Nat} (h : ClsN g s c) : c ≠ 2 ^ g.length - 1 ↔ PrmP g s := by
  constructor
  · intro e; exact ⟨c, h.2, h.1.sup, h.1.lt, e⟩
  · rintro ⟨m, h1, h2, h3, h4⟩ e
    refine h4 (sub_eq (sub_full h3) ?_)
    rw [← e]
    exact h.1.low m h1 h2

theorem sub_len {α : Type} [DecidableEq α] : ∀ (l m : List α), l.Nodup → (∀ x ∈ l, x ∈ m) → l.length ≤ m.length
  | [], _, _, _ => Nat.zero_le _
  | a :: l, m, hl, h => by
    have ha := h a (List.mem_cons_self ..)
    have hn := List.nodup_cons.1 hl
    have ih := sub_len l (m.erase a) hn.2 fun x hx => (List.mem_erase_of_ne (fun e => hn.1 (by rw [← e]; exact hx))).2 (h x (List.mem_cons_of_mem _ hx))
    have h1 := List.length_erase_of_mem ha
    have h2 := List.length_pos_of_mem ha
    rw [List.length_cons]
    omega
theorem bit_one {i v : Nat} : (2 ^ i).testBit v = decide (i = v) := Nat.testBit_two_pow
/-- Single vertices are modules, and so is the whole. -/
theorem mod_one {g : List (List Int)} (i : Nat) : ModN g (2 ^ i) := fun v _ _ => by
  cases h : (mask (row g v)).testBit i with
  | false =>
    left
    refine Nat.eq_of_testBit_eq fun u => ?_
    rw [Nat.testBit_and, bit_one, Nat.zero_testBit]
    by_cases e : i = u
    · subst e; simp [h]
    · simp [e]
  | true =>
    right
    refine Nat.eq_of_testBit_eq fun u => ?_
    rw [Nat.testBit_and, bit_one]
    by_cases e : i = u
    · subst e; simp [h]
    · simp [e]
theorem mod_full {g : List (List Int)} : ModN g (2 ^ g.length - 1) := fun v hv h => by
  rw [full_bit, decide_eq_false_iff_not] at h
  exact absurd hv h
def numsM (L : List (List Nat)) : List Nat := L.map fun l => mask (natInts l)
theorem mem_numsM {P : Nat → Prop} {k : Nat} {L : List (List Nat)} (hk : k ≤ 65536) (h : MdOn P k L) (s : Nat) : s ∈ numsM L ↔ 1 ≤ s ∧ s < k ∧ P s := by
  unfold numsM
  rw [List.mem_map]
  constructor
  · rintro ⟨l, hl, rfl⟩
    obtain ⟨t, h1, h2, h3, rfl⟩ := (h.mem l).1 hl
    rw [mask_bitsOf (by omega)]
    exact ⟨h1, h2, h3⟩
  · rintro ⟨h1, h2, h3⟩
    exact ⟨bitsOf s, (h.mem _).2 ⟨s, h1, h2, h3, rfl⟩, mask_bitsOf (by omega)⟩
theorem nodup_numsM {P : Nat → Prop} {k : Nat} {L : List (List Nat)} (_hk : k ≤ 65536) (h : MdOn P k L) : (numsM L).Nodup := by
  unfold numsM
  rw [List.Nodup, List.pairwise_map]
  refine h.srt.imp_of_mem fun {a b} ha hb hab e => ?_
  obtain ⟨s, _, h2, _, rfl⟩ := (h.mem _).1 ha
  obtain ⟨t, _, k2, _, rfl⟩ := (h.mem _).1 hb
  rw [mask_bitsOf (by omega), mask_bitsOf (by omega)] at e
  subst e
  exact lessP_irrefl _ hab
def onesK (n : Nat) : List Nat := (List.range n).map fun i => 2 ^ i
theorem nodup_ones (n : Nat) : (onesK n).Nodup := by
  unfold onesK
  rw [List.Nodup, List.pairwise_map]
  exact List.pairwise_lt_range.imp fun {a b} h e => by
    have : (2 : Nat) ^ a < 2 ^ b := Nat.pow_lt_pow_right (by decide) h
    omega
theorem mem_ones {n s : Nat} : s ∈ onesK n ↔ ∃ i, i < n ∧ s = 2 ^ i := by
  unfold onesK
  rw [List.mem_map]
  exact ⟨fun ⟨i, h, e⟩ => ⟨i, List.mem_range.1 h, e.symm⟩, fun ⟨i, h, e⟩ => ⟨i, List.mem_range.2 h, e.symm⟩⟩
theorem two_le (n : Nat) (h16 : n ≤ 16) : 2 ^ n ≤ 65536 := Nat.le_trans (Nat.pow_le_pow_right (by decide) h16) (by decide)
theorem md_many {g : List (List Int)} {L : List (List Nat)} (h16 : g.length ≤ 16) (h : MdOn (ModN g) (2 ^ g.length) L) : g.length ≤ L.length := by
  have := sub_len (onesK g.length) (numsM L) (nodup_ones _) fun s hs => by
    obtain ⟨i, hi, rfl⟩ := mem_ones.1 hs
    exact (mem_numsM (two_le _ h16) h _).2 ⟨Nat.two_pow_pos i, Nat.pow_lt_pow_right (by decide) hi, mod_one i⟩
  simpa [onesK, numsM] using this
theorem full_ne_one {n i : Nat} (hn : 2 ≤ n) (hi : i < n) : 2 ^ n - 1 ≠ 2 ^ i := by
  have h1 : (2 : Nat) ^ n = 2 * 2 ^ (n - 1) := by
    obtain ⟨k, rfl⟩ : ∃ k, n = k + 1 := ⟨n - 1, by omega⟩
    rw [Nat.pow_succ, Nat.add_sub_cancel]; omega
  have h2 : (2 : Nat) ^ i ≤ 2 ^ (n - 1) := Nat.pow_le_pow_right (by decide) (by omega)
  have h3 : (2 : Nat) ^ 1 ≤ 2 ^ (n - 1) := Nat.pow_le_pow_right (by decide) (by omega)
  omega
/-- One more than the vertices: just where no other module has two vertices. -/
theorem md_prime {g : List (List Int)} {L : List (List Nat)} (h2 : 2 ≤ g.length) (h16 : g.length ≤ 16) (h : MdOn (ModN g) (2 ^ g.length) L) :
    L.length = g.length + 1 ↔ ∀ i k, i < k → k < g.length → ¬ PrmP g (2 ^ i ||| 2 ^ k) := by
  have hl : (numsM L).length = L.length := by simp [numsM]
  have ho : (onesK g.length).length = g.length := by simp [onesK]
  have hp : 2 < 2 ^ g.length := by
    have : (2 : Nat) ^ 2 ≤ 2 ^ g.length := Nat.pow_le_pow_right (by decide) h2
    omega
  have hfull : 2 ^ g.length - 1 ∈ numsM L := (mem_numsM (two_le _ h16) h _).2 ⟨by omega, by omega, mod_full⟩
  have hones : ∀ s ∈ onesK g.length, s ∈ numsM L := fun s hs => by
    obtain ⟨i, hi, rfl⟩ := mem_ones.1 hs
    exact (mem_numsM (two_le _ h16) h _).2 ⟨Nat.two_pow_pos i, Nat.pow_lt_pow_right (by decide) hi, mod_one i⟩
  have hnd : (onesK g.length ++ [2 ^ g.length - 1]).Nodup := by
    rw [List.Nodup, List.pairwise_append]
    refine ⟨nodup_ones _, by simp, fun a ha b hb e => ?_⟩
    obtain ⟨i, hi, rfl⟩ := mem_ones.1 ha
    rw [List.mem_singleton] at hb
    subst hb
    exact full_ne_one h2 hi e.symm
  have hge := sub_len _ (numsM L) hnd fun s hs => by
    rcases List.mem_append.1 hs with h1 | h1
    · exact hones s h1
    · rw [List.mem_singleton] at h1; subst h1; exact hfull
  rw [List.length_append, List.length_singleton, ho, hl] at hge
  constructor
  · rintro he i k hik hk ⟨m, m1, m2, m3, m4⟩
    have hbi : m.testBit i = true := m2 i (by rw [Nat.testBit_or, bit_one]; simp)
    have hbk : m.testBit k = true := m2 k (by rw [Nat.testBit_or, bit_one, bit_one]; simp)
    have hm0 : m ≠ 0 := fun e => by rw [e] at hbi; simp at hbi
    have hm1 : m ∉ onesK g.length ++ [2 ^ g.length - 1] := fun hm => by
      rcases List.mem_append.1 hm with h1 | h1
      · obtain ⟨j, _, rfl⟩ := mem_ones.1 h1
        rw [bit_one, decide_eq_true_eq] at hbi hbk
        omega
      · rw [List.mem_singleton] at h1
        exact m4 h1
    have := sub_len (m :: (onesK g.length ++ [2 ^ g.length - 1])) (numsM L) (List.nodup_cons.2 ⟨hm1, hnd⟩) fun s hs => by
      rcases List.mem_cons.1 hs with rfl | hs
      · exact (mem_numsM (two_le _ h16) h _).2 ⟨by omega, m3, m1⟩
      · rcases List.mem_append.1 hs with h1 | h1
        · exact hones s h1
        · rw [List.mem_singleton] at h1; subst h1; exact hfull
    rw [List.length_cons, List.length_append, List.length_singleton, ho, hl] at this
    omega
  · intro hno
    have := sub_len (numsM L) (onesK g.length ++ [2 ^ g.length - 1]) (nodup_numsM (two_le _ h16) h) fun s hs => by
      obtain ⟨s1, s2, s3⟩ := (mem_numsM (two_le _ h16) h _).1 hs
      obtain ⟨i, hi⟩ := Nat.exists_testBit_of_ne_zero (show s ≠ 0 by omega)
      have hin : i < g.length := by
        have := sub_full s2 i hi
        rwa [full_bit, decide_eq_true_eq] at this
      by_cases he : ∃ k, k ≠ i ∧ s.testBit k = true
      · obtain ⟨k, hk, hkb⟩ := he
        have hkn : k < g.length := by
          have := sub_full s2 k hkb
          rwa [full_bit, decide_eq_true_eq] at this
        refine List.mem_append_right _ (List.mem_singleton.2 ?_)
        by_cases hf : s = 2 ^ g.length - 1
        · exact hf
        · exfalso
          rcases Nat.lt_or_ge i k with hik | hik
          · refine hno i k hik hkn ⟨s, s3, fun v hv => ?_, s2, hf⟩
            rw [Nat.testBit_or, bit_one, bit_one, Bool.or_eq_true, decide_eq_true_eq, decide_eq_true_eq] at hv
            rcases hv with rfl | rfl
            · exact hi
            · exact hkb
          · refine hno k i (by omega) hin ⟨s, s3, fun v hv => ?_, s2, hf⟩
            rw [Nat.testBit_or, bit_one, bit_one, Bool.or_eq_true, decide_eq_true_eq, decide_eq_true_eq] at hv
            rcases hv with rfl | rfl
            · exact hkb
            · exact hi
      · refine List.mem_append_left _ (mem_ones.2 ⟨i, hin, Nat.eq_of_testBit_eq fun v => ?_⟩)
        rw [bit_one]
        by_cases e : i = v
        · subst e; simp [hi]
        · cases hv : s.testBit v with
          | false => simp [e]
          | true => exact absurd ⟨v, fun h => e h.symm, hv⟩ he
    rw [List.length_append, List.length_singleton, ho, hl] at this
    omega

end Go.Proofs.YtkppbmfliejnmaaDoor

/- Walk: what the program reaches. -/
namespace Go.Proofs.YtkppbmfliejnmaaDoor
open Go.RowKit

theorem filter_lt {α : Type} (p q : α → Bool) : ∀ (l : List α), (∀ x ∈ l, p x = true → q x = true) → (∃ x ∈ l, q x = true ∧ ¬ p x = true) → (l.filter p).length < (l.filter q).length
  | [], _, ⟨x, hx, _⟩ => by simp at hx
  | a :: l, h, ⟨x, hx, hq, hp⟩ => by
    have hle : ∀ m : List α, (∀ x ∈ m, p x = true → q x = true) → (m.filter p).length ≤ (m.filter q).length := by
      intro m
      induction m with
      | nil => intro _; simp
      | cons b m ih =>
        intro hm
        have := ih fun x hx => hm x (by simp [hx])
        by_cases hb : p b = true
        · rw [List.filter_cons_of_pos hb, List.filter_cons_of_pos (hm b (by simp) hb)]; simp; exact this
        · rw [List.filter_cons_of_neg hb]
          by_cases hb2 : q b = true
          · rw [List.filter_cons_of_pos hb2]; simp; omega
          · rw [List.filter_cons_of_neg hb2]; exact this
    by_cases ha : p a = true
    · have hqa := h a (by simp) ha
      rw [List.filter_cons_of_pos ha, List.filter_cons_of_pos hqa]
      have hxl : x ∈ l := by
        rcases List.mem_cons.1 hx with e | e
        · subst e; exact absurd ha hp
        · exact e
      have := filter_lt p q l (fun x hx => h x (by simp [hx])) ⟨x, hxl, hq, hp⟩
      simp; exact this
    · rw [List.filter_cons_of_neg ha]
      have h1 := hle l fun x hx => h x (by simp [hx])
      by_cases hqa : q a = true
      · rw [List.filter_cons_of_pos hqa]; simp; omega
      · rw [List.filter_cons_of_neg hqa]
        have hxl : x ∈ l := by
          rcases List.mem_cons.1 hx with e | e
          · subst e; exact absurd hq hqa
          · exact e
        exact filter_lt p q l (fun x hx => h x (by simp [hx])) ⟨x, hxl, hq, hp⟩
theorem bits_len_lt {m k : Nat} (hm : m < 65536) (hk : k < 65536) (h : ∀ i, m.testBit i = true → k.testBit i = true) (hne : m ≠ k) : (bitsOf m).length < (bitsOf k).length := by
  unfold bitsOf
  have hx : ∃ i, k.testBit i = true ∧ ¬ m.testBit i = true := Classical.byContradiction fun hn => hne (Nat.eq_of_testBit_eq fun i => by
    rw [Bool.eq_iff_iff]
    exact ⟨h i, fun hi => Classical.byContradiction fun hmi => hn ⟨i, hi, hmi⟩⟩)
  obtain ⟨i, hi, hmi⟩ := hx
  have hi16 : i < 16 := bitsOf_lt16 hk ((mem_left hk).2 hi)
  exact filter_lt _ _ _ (fun x _ => h x) ⟨i, by simp; omega, hi, hmi⟩

/-- What the walks need of the sets: the masks of the graph of n vertices with the edges E. -/
structure NE (w : World) (x : Value) (n : Nat) (E : Nat → Nat → Bool) : Prop where
  le : n ≤ 16
  sl : Sl w 70 x n ((indN n E).map u32v)
theorem NE.next {w w' : World} {x : Value} {n : Nat} {E : Nat → Nat → Bool} (h : NE w x n E) (hb : Below w.heap.size w w') : NE w' x n E := ⟨h.le, h.sl.below hb⟩
theorem NE.get {w : World} {p : Option Addr} {m c n : Nat} {E : Nat → Nat → Bool} (h : NE w (.slice p m c) n E) {v : Nat} (hv : v < n) :
    ∃ (b o a : Nat), p = some ⟨b, o, none⟩ ∧ w.cell? ⟨b, o + v, none⟩ = some (.int .u32 (a : Int)) ∧ a < 65536 ∧ ∀ j, a.testBit j = (decide (j < n) && E v j) := by
  have hvl : v < (indN n E).length := by rw [indN_length]; exact hv
  obtain ⟨b, o, h1, h2⟩ := nets_cell (a := indN n E) (by rw [indN_length]; exact h.sl) hvl
  have h3 := indN_bit (E := E) hv
  have e : (indN n E).getD v 0 = (indN n E)[v] := by simp [hvl]
  rw [e] at h3
  exact ⟨b, o, _, h1, h2, indN_lt16 h.le _ (List.getElem_mem hvl), h3⟩

set_option maxRecDepth 100000 in
set_option maxHeartbeats 4000000 in
theorem reach_any (x : Value) (y z : Int) (n : Nat) (E : Nat → Nat → Bool) (v W : Nat) (hy : y = v) (hz : z = W) (hW : W < 65536) (hWn : ∀ i, W.testBit i = true → i < n) (hv : W.testBit v = true) (w : World) (hx : NE w x n E) (hT : Tab w) :
    Calls Tryd.prog 219 #[x, .int .i64 y, .int .u32 z] w fun e w' => ∃ m : Nat, e = .returned (.int .u32 (m : Int)) ∧ m < 65536 ∧ (∀ i, m.testBit i = true ↔ i ∈ partL E (bitsOf W) v) ∧ Below w.heap.size w w' := by
  subst hy; subst hz
  obtain ⟨xp, xc, rfl⟩ : ∃ p c, x = .slice p n c := by obtain ⟨p, c, e, _⟩ := hx.sl; exact ⟨p, c, e⟩
  have hvn := hWn v hv
  have hle := hx.le
  have hv32 : v < 32 := by omega
  have HX := Lib.hid hx
  have HT := Lib.hid hT
  have HWN := Lib.hid hWn
  have HV := Lib.hid hv
  have h2v : 2 ^ v < 65536 := pow_lt16 v (by omega)
  have hb2 : Hid (∀ i, (2 ^ v : Nat).testBit i = true ↔ v = i) := Lib.hid fun i => by rw [testBit_pow]; simp
  have c1 := Lib.hid (fun w => one_any (v : Int) v rfl hv32 w)
  clear hx hT hWn hv
  generalize hpv : 2 ^ v = pv at h2v hb2 c1
  clear hpv
  go_enter Tryd.func219, Tryd.ntmps219
  go_wp2_with (go_at_call 156; refine (c1.out _).mono ?_; rintro e w2 ⟨rfl, rfl⟩)
  go_loopw [7] (fun s7 wr => ∃ m : Nat, s7 = .int .u32 (m : Int) ∧ m < 65536 ∧ m.testBit v = true ∧ (∀ i, m.testBit i = true → W.testBit i = true ∧ Rch E (· ∈ bitsOf W) v i) ∧ Below w.heap.size w wr)
    (fun s7 _ => 32 - (bitsOf (intOf s7).toNat).length)
  case atStart =>
    refine ⟨pv, rfl, h2v, (hb2.out v).2 rfl, fun i hi => ?_, Below.refl _ _⟩
    obtain rfl := (hb2.out i).1 hi
    exact ⟨HV.out, .base⟩
  case round =>
    clear h2v hb2
    obtain ⟨m, rfl, hm, hmv, hmr, hbel⟩ := hrel
    have HMV := Lib.hid hmv
    have HMR := Lib.hid hmr
    have HBel := Lib.hid hbel
    have hlen := bitsOf_length m
    have hT1 := HT.out.keep hbel
    clear hmv hmr hbel
    go_wp2_with (go_at_call 180; refine (list_any _ m rfl (by omega) _ hT1).mono ?_; rintro e w3 ⟨lv, rfl, hown3, hb3⟩; have hnl := Nums.of_owns hown3 (natInts_length _).symm (by omega); obtain ⟨lp, lc, rfl, _, _, _, hat⟩ := hnl.shape; rw [natInts_length])
    have HB3 := Lib.hid (HBel.out.trans (hb3.mono HBel.out.size))
    have HAT := Lib.hid hat
    clear hb3 hown3 hnl hat hT1
    go_loopw [8, 17] (fun s8 i wx => ∃ (t nx : Nat), t ≤ (bitsOf m).length ∧ i = .int .i64 t ∧ s8 = .int .u32 (nx : Int) ∧ nx < 65536 ∧ (∀ i, m.testBit i = true → nx.testBit i = true) ∧ (∀ i, nx.testBit i = true → W.testBit i = true ∧ Rch E (· ∈ bitsOf W) v i) ∧
        (∀ s (hs : s < (bitsOf m).length), s < t → ∀ y, E (bitsOf m)[s] y = true → W.testBit y = true → nx.testBit y = true) ∧ Below w3.heap.size w3 wx) (fun _ i _ => (bitsOf m).length - (intOf i).toNat)
    case atStart => exact ⟨0, m, Nat.zero_le _, rfl, rfl, hm, fun _ h => h, HMR.out, fun s hs h => by omega, Below.refl _ _⟩
    case round =>
      obtain ⟨t, nx, ht, rfl, rfl, hnx, hsub, hrch, hdone, hbx⟩ := hrel
      have HSUB := Lib.hid hsub
      have HRCH := Lib.hid hrch
      have HDONE := Lib.hid hdone
      have HBx := Lib.hid hbx
      clear hsub hrch hdone hbx
      by_cases hlt : t < (bitsOf m).length
      · obtain ⟨u, hu⟩ : ∃ u : Nat, u = (bitsOf m)[t] := ⟨_, rfl⟩
        have hub : m.testBit u = true := (mem_left hm).1 (hu ▸ List.getElem_mem hlt)
        have huW := HMR.out u hub
        have hun := HWN.out u huW.1
        have hjl : t < (natInts (bitsOf m)).length := by rw [natInts_length]; exact hlt
        obtain ⟨lb, lo, rfl, hcl⟩ := (HAT.out.below HBx.out).num hjl
        have hval : (natInts (bitsOf m))[t] = (u : Int) := by rw [hu]; simp [natInts]
        rw [hval] at hcl
        obtain ⟨ab, ao, av, rfl, hca, ha16, hbit⟩ := (HX.out.next (HB3.out.trans (HBx.out.mono HB3.out.size))).get hun
        have hand := u32_and_nat av W (by omega) (by omega)
        have hq16 : av &&& W < 65536 := and_lt16 _ _ ha16
        have hor := or_u32 nx (av &&& W) hnx hq16
        have hn216 := or_lt16 nx (av &&& W) hnx hq16
        have HQ : Hid (∀ j, (nx ||| (av &&& W)).testBit j = true ↔ nx.testBit j = true ∨ ((j < n ∧ E u j = true) ∧ W.testBit j = true)) := Lib.hid fun j => by
          rw [Nat.testBit_or, Nat.testBit_and, hbit]
          simp only [Bool.or_eq_true, Bool.and_eq_true, decide_eq_true_eq]
        have HU := Lib.hid hu
        have HUW := Lib.hid huW
        have e0 : (0 : Int) ≤ (u : Int) := by omega
        have e1 : (u : Int) < (n : Int) := by omega
        clear hval hu hub huW hbit ha16
        generalize hn2 : nx ||| (av &&& W) = n2 at hor hn216 HQ
        generalize av &&& W = q at hand hor hq16
        clear hn2
        go_wp2
        go_roundw
        case rel =>
          refine ⟨t + 1, n2, by omega, by go_num, rfl, hn216, fun i hi => (HQ.out i).2 (.inl (HSUB.out i hi)), fun i hi => ?_, fun s hs h y hE hy => ?_, HBx.out⟩
          · rcases (HQ.out i).1 hi with h | ⟨⟨_, hE⟩, hWi⟩
            · exact HRCH.out i h
            · exact ⟨hWi, .step HUW.out.2 hE ((mem_left hW).2 hWi)⟩
          · by_cases e : s = t
            · subst e
              rw [← HU.out] at hE
              exact (HQ.out y).2 (.inr ⟨⟨HWN.out y hy, hE⟩, hy⟩)
            · exact (HQ.out y).2 (.inl (HDONE.out s hs (by omega) y hE hy))
        case measure => simp [intOf]; omega
      · obtain rfl : t = (bitsOf m).length := by omega
        by_cases he : nx = m
        · have he' : (((nx : Nat) : Int) == ((m : Nat) : Int)) = true := by simp [he]
          have HE := Lib.hid he
          clear he
          go_wp2
          go_ret
          refine ⟨m, rfl, hm, fun i => ?_, HB3.out.trans (HBx.out.mono HB3.out.size)⟩
          rw [mem_partL]
          constructor
          · intro hi
            exact ⟨(mem_left hW).2 (HMR.out i hi).1, (HMR.out i hi).2⟩
          · rintro ⟨_, hr⟩
            refine rch_closed (T := fun i => m.testBit i = true) HMV.out (fun a b ha hE hb => ?_) i hr
            obtain ⟨s, hs, e⟩ := List.getElem_of_mem ((mem_left hm).2 ha)
            have := HDONE.out s hs hs b (by rw [e]; exact hE) ((mem_left hW).1 hb)
            rwa [HE.out] at this
        · have he' : (((nx : Nat) : Int) == ((m : Nat) : Int)) = false := by simpa using fun e => he (by omega)
          have HE := Lib.hid he
          clear he
          go_wp2
          go_roundw
          case rel => exact ⟨nx, rfl, hnx, HSUB.out v HMV.out, HRCH.out, HB3.out.trans (HBx.out.mono HB3.out.size)⟩
          case measure =>
            have h1 := bits_len_lt hm hnx HSUB.out (fun e => HE.out e.symm)
            have h2 := bitsOf_length nx
            simp [intOf]
            omega

end Go.Proofs.YtkppbmfliejnmaaDoor
