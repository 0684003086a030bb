/- Plain facts, with no program in sight: sets of small numbers as bits of a number, strictly rising lists. -/
import Derived.Lib.TrailingZeros
import Derived.Test.YtfphapcgjlhieaaDoorProg
import Derived.Test.YtfphapcgjlhieaaDoorGtQ1
import Derived.BigQuiet
import Derived.Deep.QuietTactic
namespace Go.Proofs.YtfphapcgjlhieaaDoor

/-- Two strictly rising lists with the same members are equal. -/
theorem rising_ext : ∀ (l m : List Nat), l.Pairwise (· < ·) → m.Pairwise (· < ·) → (∀ x, x ∈ l ↔ x ∈ m) → l = m
  | [], [], _, _, _ => rfl
  | [], b :: m, _, _, h => by have := (h b).2 (by simp); simp at this
  | a :: l, [], _, _, h => by have := (h a).1 (by simp); simp at this
  | a :: l, b :: m, hl, hm, h => by
    rw [List.pairwise_cons] at hl hm
    have hab : a = b := by
      have h1 := (h a).1 (by simp)
      have h2 := (h b).2 (by simp)
      simp only [List.mem_cons] at h1 h2
      rcases h1 with h1 | h1
      · exact h1
      · rcases h2 with h2 | h2
        · exact h2.symm
        · have := hm.1 a h1; have := hl.1 b h2; omega
    subst hab
    congr 1
    refine rising_ext l m hl.2 hm.2 fun x => ?_
    have hx := h x
    simp only [List.mem_cons] at hx
    constructor
    · intro hxl
      have := hl.1 x hxl
      rcases hx.1 (.inr hxl) with e | e
      · omega
      · exact e
    · intro hxm
      have := hm.1 x hxm
      rcases hx.2 (.inr hxm) with e | e
      · omega
      · exact e

/-- The numbers of the bits that are set, rising. -/
def bitsOf (s : Nat) : List Nat := (List.range 32).filter (fun i => s.testBit i)

theorem bitsOf_rising (s : Nat) : (bitsOf s).Pairwise (· < ·) := List.Pairwise.filter _ List.pairwise_lt_range

theorem mem_bitsOf {s i : Nat} : i ∈ bitsOf s ↔ i < 32 ∧ s.testBit i = true := by simp [bitsOf]

theorem mem_bitsOf' {s i : Nat} (h : s < 4294967296) : i ∈ bitsOf s ↔ s.testBit i = true := by
  rw [mem_bitsOf]
  constructor
  · exact fun x => x.2
  · intro hi
    refine ⟨?_, hi⟩
    apply Nat.lt_of_not_le
    intro hle
    have : s.testBit i = false := Nat.testBit_lt_two_pow (Nat.lt_of_lt_of_le h (by have := Nat.pow_le_pow_right (n := 2) (by decide) hle; simpa using this))
    rw [this] at hi; cases hi

theorem bitsOf_length (s : Nat) : (bitsOf s).length ≤ 32 := by
  have := List.length_filter_le (fun i => s.testBit i) (List.range 32)
  simpa [bitsOf] using this

theorem bitsOf_zero : bitsOf 0 = [] := by simp [bitsOf]

theorem testBit_lowest (k m j : Nat) : (2 ^ k * (2 * m + 1)).testBit j = (decide (k = j) || (decide (k < j) && (2 ^ k * (2 * m)).testBit j)) := by
  rw [Nat.mul_comm (2 ^ k), Nat.mul_comm (2 ^ k), Nat.testBit_mul_two_pow, Nat.testBit_mul_two_pow]
  by_cases h1 : k = j
  · subst h1; simp
  · by_cases h2 : k < j
    · obtain ⟨d, rfl⟩ : ∃ d, j = k + (d + 1) := ⟨j - k - 1, by omega⟩
      have e3 : k + (d + 1) - k = d + 1 := by omega
      have d1 : (2 * m + 1) / 2 = m := by omega
      have d2 : (2 * m) / 2 = m := by omega
      rw [e3, Nat.testBit_succ, Nat.testBit_succ, d1, d2]
      have : (k = k + (d + 1)) = False := by simp
      simp [this, h2, show k ≤ k + (d + 1) by omega]
    · have : ¬ k ≤ j := by omega
      simp [h1, h2, this]

/-- 's & (s - 1)' takes the lowest bit away. -/
theorem testBit_drop_low (s : Nat) (hs : s ≠ 0) (h : s < 4294967296) (j : Nat) :
    (s &&& (s - 1)).testBit j = (s.testBit j && !decide (Lib.ctz 32 s = j)) := by
  obtain ⟨m, hm, hk⟩ := Lib.ctzFrom_spec 32 s (by omega) (by simpa using h)
  have hc : Lib.ctz 32 s = Lib.ctzFrom 32 s := by simp [Lib.ctz, hs]
  rw [hc]
  generalize Lib.ctzFrom 32 s = k at *
  have h1 : s - 1 = 2 ^ k * (2 * m) + (2 ^ k - 1) := by
    have hp : 0 < 2 ^ k := Nat.two_pow_pos k
    have e : 2 ^ k * (2 * m + 1) = 2 ^ k * (2 * m) + 2 ^ k := by rw [Nat.mul_add, Nat.mul_one]
    omega
  have hp : 2 ^ k - 1 < 2 ^ k := by have := Nat.two_pow_pos k; omega
  rw [Nat.testBit_and, h1, Nat.testBit_two_pow_mul_add _ hp, hm]
  rw [testBit_lowest]
  by_cases e1 : k = j
  · subst e1
    simp [Nat.testBit_two_pow_mul, Nat.mul_comm]
  · by_cases e2 : k < j
    · have : ¬ j < k := by omega
      simp only [e1, e2, decide_true, decide_false, Bool.false_or, Bool.true_and, Bool.not_false, Bool.and_true, this, if_false, ite_false]
      rw [Nat.mul_comm (2 ^ k), Nat.testBit_mul_two_pow]
      simp [show k ≤ j by omega]
    · simp [e1, e2]

theorem testBit_ctz (s : Nat) (hs : s ≠ 0) (h : s < 4294967296) : s.testBit (Lib.ctz 32 s) = true ∧ Lib.ctz 32 s < 32 ∧ ∀ j, j < Lib.ctz 32 s → s.testBit j = false := by
  obtain ⟨m, hm, hk⟩ := Lib.ctzFrom_spec 32 s (by omega) (by simpa using h)
  have hc : Lib.ctz 32 s = Lib.ctzFrom 32 s := by simp [Lib.ctz, hs]
  rw [hc]
  generalize Lib.ctzFrom 32 s = k at *
  rw [hm]
  refine ⟨by rw [testBit_lowest]; simp, hk, fun j hj => ?_⟩
  rw [testBit_lowest]
  have h1 : ¬ k = j := by omega
  have h2 : ¬ k < j := by omega
  simp [h1, h2]

theorem and_lt32 (a b : Nat) (h : a < 4294967296) : a &&& b < 4294967296 := Nat.lt_of_le_of_lt Nat.and_le_left h
theorem or_lt32 (a b : Nat) (h : a < 4294967296) (h' : b < 4294967296) : a ||| b < 4294967296 := Nat.or_lt_two_pow (n := 32) h h'
theorem and_lt16 (a b : Nat) (h : a < 65536) : a &&& b < 65536 := Nat.lt_of_le_of_lt Nat.and_le_left h
theorem or_lt16 (a b : Nat) (h : a < 65536) (h' : b < 65536) : a ||| b < 65536 := Nat.or_lt_two_pow (n := 16) h h'
theorem pow_lt32 (v : Nat) (h : v < 32) : 2 ^ v < 4294967296 := Nat.pow_lt_pow_right (n := 32) (by decide) h
theorem pow_lt16 (v : Nat) (h : v < 16) : 2 ^ v < 65536 := Nat.pow_lt_pow_right (n := 16) (by decide) h

theorem bitsOf_step (s : Nat) (hs : s ≠ 0) (h : s < 4294967296) : bitsOf s = Lib.ctz 32 s :: bitsOf (s &&& (s - 1)) := by
  obtain ⟨h1, h2, h3⟩ := testBit_ctz s hs h
  have hlt := and_lt32 s (s - 1) h
  refine rising_ext _ _ (bitsOf_rising s) ?_ fun x => ?_
  · rw [List.pairwise_cons]
    refine ⟨fun a ha => ?_, bitsOf_rising _⟩
    rw [mem_bitsOf' hlt, testBit_drop_low s hs h] at ha
    simp only [Bool.and_eq_true, Bool.not_eq_true', decide_eq_false_iff_not] at ha
    apply Nat.lt_of_not_le
    intro hle
    have := h3 a (by omega)
    rw [this] at ha
    simp at ha
  · rw [mem_bitsOf' h, List.mem_cons, mem_bitsOf' hlt, testBit_drop_low s hs h]
    by_cases e : x = Lib.ctz 32 s
    · subst e; simp [h1]
    · have e' : ¬ Lib.ctz 32 s = x := fun q => e q.symm
      simp [e, e']

theorem bitsOf_lt16 {s : Nat} (h : s < 65536) {i : Nat} (hi : i ∈ bitsOf s) : i < 16 := by
  rw [mem_bitsOf] at hi
  apply Nat.lt_of_not_le
  intro hle
  have : s.testBit i = false := Nat.testBit_lt_two_pow (Nat.lt_of_lt_of_le h (by have := Nat.pow_le_pow_right (n := 2) (by decide) hle; simpa using this))
  rw [this] at hi; simp at hi

theorem bit_ext16 {s t : Nat} (h : ∀ i, s.testBit i = t.testBit i) : s = t := Nat.eq_of_testBit_eq h

theorem testBit_pow (v j : Nat) : (2 ^ v).testBit j = decide (v = j) := Nat.testBit_two_pow ..

theorem testBit_firstOf (n j : Nat) : (2 ^ n - 1).testBit j = decide (j < n) := Nat.testBit_two_pow_sub_one ..

theorem testBit_andNot (a b : Nat) (hb : b < 4294967296) (ha : a < 4294967296) (j : Nat) : (a &&& (4294967295 - b)).testBit j = (a.testBit j && !b.testBit j) := by
  have hx : 4294967295 - b = 2 ^ 32 - (b + 1) := by omega
  rw [Nat.testBit_and, hx, Nat.testBit_two_pow_sub_succ (by simpa using hb)]
  by_cases h : j < 32
  · simp [h]
  · have : a.testBit j = false := Nat.testBit_lt_two_pow (Nat.lt_of_lt_of_le ha (by have := Nat.pow_le_pow_right (n := 2) (show 0 < 2 by decide) (show 32 ≤ j by omega); simpa using this))
    simp [this]

/-- a without b. -/
def sub (a b : Nat) : Nat := a &&& (4294967295 - b)
theorem testBit_sub (a b : Nat) (ha : a < 4294967296) (hb : b < 4294967296) (j : Nat) : (sub a b).testBit j = (a.testBit j && !b.testBit j) := testBit_andNot a b hb ha j
theorem sub_lt32 (a b : Nat) (h : a < 4294967296) : sub a b < 4294967296 := and_lt32 _ _ h
theorem sub_lt16 (a b : Nat) (h : a < 65536) : sub a b < 65536 := and_lt16 _ _ h

/-- The set of some numbers. -/
def mask (xs : List Int) : Nat := xs.foldl (fun a x => a ||| 2 ^ x.toNat) 0

theorem mask_snoc (xs : List Int) (x : Int) : mask (xs ++ [x]) = mask xs ||| 2 ^ x.toNat := by simp [mask]

theorem foldl_or_testBit (xs : List Int) (a j : Nat) : (xs.foldl (fun a x => a ||| 2 ^ x.toNat) a).testBit j = (a.testBit j || xs.any (fun x => x.toNat == j)) := by
  induction xs generalizing a with
  | nil => simp
  | cons x xs ih =>
    rw [List.foldl_cons, ih, Nat.testBit_or, testBit_pow, List.any_cons, Bool.or_assoc]
    rfl

theorem testBit_mask (xs : List Int) (j : Nat) : (mask xs).testBit j = xs.any (fun x => x.toNat == j) := by
  rw [mask, foldl_or_testBit]; simp

theorem mask_lt16 (xs : List Int) (h : ∀ x ∈ xs, x < 16) : mask xs < 65536 := by
  have : mask xs < 2 ^ 16 := by
    apply Nat.lt_pow_two_of_testBit
    intro i hi
    rw [testBit_mask, List.any_eq_false]
    intro x hx
    have := h x hx
    simp; omega
  simpa using this

end Go.Proofs.YtfphapcgjlhieaaDoor

/- Walks: the program's sets of vertices (bits of a number), and slices of numbers. -/
namespace Go.Proofs.YtfphapcgjlhieaaDoor
open Go.RowKit

theorem ty_i64 : SlTy Tryd.prog 52 2 (.int .i64 0) 1 8 := ⟨Tryd.underlying52, by kernel_rfl, rfl, by decide, by decide⟩
theorem ty_int : SlTy Tryd.prog 78 3 (.int .i64 0) 1 8 := ⟨Tryd.underlying78, by kernel_rfl, rfl, by decide, by decide⟩
theorem ty_nets : SlTy Tryd.prog 74 76 (.int .u32 0) 1 4 := ⟨Tryd.underlying74, by kernel_rfl, rfl, by decide, by decide⟩
theorem ty_rows : SlTy Tryd.prog 24 52 (.slice none 0 0) 1 24 := ⟨Tryd.underlying24, by kernel_rfl, rfl, by decide, by decide⟩

theorem ret_u32 {a b : Int} (h : a = b) : Ending.returned (.int .u32 a) = .returned (.int .u32 b) := by rw [h]

theorem int_pow (v : Nat) (hv : v < 32) : ((2 ^ v : Int) % 4294967296) = ((2 ^ v : Nat) : Int) := by
  have := pow_lt32 v hv
  have e : (2 ^ v : Int) = ((2 ^ v : Nat) : Int) := by simp
  rw [e]; generalize (2 ^ v : Nat) = t at *; omega

set_option maxHeartbeats 400000 in
theorem one_any (z : Int) (v : Nat) (hz : z = v) (hv : v < 32) (w : World) :
    Calls Tryd.prog 98 #[.int .i64 z] w fun e w' => e = .returned (.int .u32 ((2 ^ v : Nat) : Int)) ∧ w = w' := by
  subst hz
  go_enter Tryd.func98, Tryd.ntmps98
  go_wp2
  go_ret
  exact ⟨ret_u32 (int_pow v hv), rfl⟩

theorem shr_bit (s v : Nat) (hs : s < 4294967296) : (bits BinOp.and IntKind.u32 ((s : Int) / 2 ^ v) 1 == 1) = s.testBit v := by
  have e : ((s : Int) / 2 ^ v) = ((s / 2 ^ v : Nat) : Int) := by simp
  have hle : s / 2 ^ v < 4294967296 := Nat.lt_of_le_of_lt (Nat.div_le_self _ _) hs
  have e1 : (1 : Int) = ((1 : Nat) : Int) := rfl
  rw [e, e1, u32_and_nat _ _ hle (by decide), Nat.testBit, Nat.shiftRight_eq_div_pow, Nat.and_comm]
  have : 1 &&& s / 2 ^ v = s / 2 ^ v % 2 := by rw [Nat.and_comm]; exact Nat.and_two_pow_sub_one_eq_mod _ 1
  rw [Bool.eq_iff_iff]
  simp [Nat.and_comm]
  omega

set_option maxHeartbeats 400000 in
theorem has_any (y z : Int) (s v : Nat) (hy : y = s) (hz : z = v) (hs : s < 4294967296) (hv : v < 32) (w : World) :
    Calls Tryd.prog 123 #[.int .u32 y, .int .i64 z] w fun e w' => e = .returned (.bool (s.testBit v)) ∧ w = w' := by
  subst hy; subst hz
  have hb := Lib.hid (shr_bit s v hs)
  go_enter Tryd.func123, Tryd.ntmps123
  go_wp2
  go_ret
  exact ⟨ret_bool hb.out, rfl⟩

set_option maxHeartbeats 400000 in
theorem firstOf_any (z : Int) (v : Nat) (hz : z = v) (hv : v < 32) (w : World) :
    Calls Tryd.prog 90 #[.int .i64 z] w fun e w' => e = .returned (.int .u32 ((2 ^ v - 1 : Nat) : Int)) ∧ w = w' := by
  subst hz
  go_enter Tryd.func90, Tryd.ntmps90
  go_wp2
  go_ret
  refine ⟨ret_u32 ?_, rfl⟩
  show ((2 ^ v : Int) % 4294967296 - 1) % 4294967296 = _
  rw [int_pow v hv]
  have := pow_lt32 v hv
  have h2 := Nat.two_pow_pos v
  omega

/-- The table of math/bits lies in its variable. -/
def Tab (w : World) : Prop := ∀ j, j < Lib.deBruijn32tab.length → w.cell? ⟨0, j, none⟩ = some (.int .u8 (Lib.deBruijn32tab.getD j 0))
theorem Tab.below {w w' : World} {B : Nat} (h : Tab w) (hb : Below B w w') (hB : 0 < B) : Tab w' := fun j hj => (hb.cell (p := ⟨_, j, none⟩) hB).trans (h j hj)
theorem Tab.pos {w : World} (h : Tab w) : 0 < w.heap.size := World.block_lt_of_cell? w _ (h 0 (by decide))
theorem Tab.keep {w w' : World} (h : Tab w) (hb : Below w.heap.size w w') : Tab w' := h.below hb h.pos

set_option maxHeartbeats 1000000 in
theorem tz_core (x k idx : Nat) (w : World) (hx0 : ((x : Int) == 0) = false)
    (key : bits BinOp.and IntKind.u32 (x : Int) (-(x : Int) % 4294967296) * 125613361 % 4294967296 / 134217728 = (idx : Int))
    (hi : idx < 32) (hk : k < 32) (hcell : w.cell? ⟨0, idx, none⟩ = some (.int .u8 k)) :
    Calls Tryd.prog 122 #[.int .u32 x] w fun e w' => e = .returned (.int .i64 k) ∧ w = w' := by
  go_enter Tryd.func122, Tryd.ntmps122
  go_wp2_with (simp only [key])
  go_ret
  exact ⟨rfl, rfl⟩

theorem tz_any (x : Nat) (h0 : x ≠ 0) (hx : x < 4294967296) (w : World) (hT : Tab w) :
    Calls Tryd.prog 122 #[.int .u32 x] w fun e w' => e = .returned (.int .i64 (Lib.ctz 32 x)) ∧ w = w' := by
  obtain ⟨m, hm, hk⟩ := Lib.ctzFrom_spec 32 x (by omega) (by simpa using hx)
  have hc : Lib.ctz 32 x = Lib.ctzFrom 32 x := by simp [Lib.ctz, h0]
  rw [hc]
  generalize Lib.ctzFrom 32 x = k at *
  obtain ⟨hi, htab⟩ := Lib.deBruijn32_at k hk
  have hcell := hT _ (show _ < Lib.deBruijn32tab.length from hi)
  rw [htab] at hcell
  refine tz_core x k _ w (by simp; omega) ?_ hi hk hcell
  have hlow : x &&& (4294967296 - x) = 2 ^ k := by rw [hm]; exact Lib.and_neg 32 k m (by rw [← hm]; simpa using hx)
  have e1 : -(x : Int) % 4294967296 = ((4294967296 - x : Nat) : Int) := by omega
  rw [e1, u32_and_nat _ _ hx (by omega), hlow]
  clear hlow hm hcell htab hi
  generalize (2 ^ k : Nat) = t at *
  omega

set_option maxHeartbeats 400000 in
theorem least_any (y : Int) (s : Nat) (hy : y = s) (h0 : s ≠ 0) (hs : s < 4294967296) (w : World) (hT : Tab w) :
    Calls Tryd.prog 65 #[.int .u32 y] w fun e w' => e = .returned (.int .i64 (Lib.ctz 32 s)) ∧ w = w' := by
  subst hy
  go_enter Tryd.func65, Tryd.ntmps65
  go_wp2_with (go_at_call 122; refine (tz_any s h0 hs _ hT).mono ?_; rintro e w' ⟨rfl, rfl⟩)
  go_ret
  exact ⟨rfl, rfl⟩

theorem drop_low (s : Nat) (hs : s < 4294967296) (h0 : s ≠ 0) : bits BinOp.and IntKind.u32 (s : Int) ((s : Int) - 1) = ((s &&& (s - 1) : Nat) : Int) := by
  have e : ((s : Int) - 1) = ((s - 1 : Nat) : Int) := by omega
  rw [e, u32_and_nat _ _ hs (by omega)]

def natInts (l : List Nat) : List Int := l.map (fun (i : Nat) => (i : Int))

set_option maxRecDepth 100000 in
set_option maxHeartbeats 1000000 in
theorem list_any (y : Int) (s : Nat) (hy : y = s) (hs : s < 4294967296) (w : World) (hT : Tab w) :
    Calls Tryd.prog 50 #[.int .u32 y] w fun e w' => ∃ v, e = .returned v ∧
      w'.ownsRow w.heap.size 3 1 v (bitsOf s).length ((natInts (bitsOf s)).map (Value.int .i64)) ∧ Below w.heap.size w w' := by
  subst hy
  have hpos := hT.pos
  go_enter Tryd.func50, Tryd.ntmps50
  go_wp2
  go_loopw [0, 3] (fun x v wr => ∃ (r : Nat) (d : List Nat), x = .int .u32 r ∧ r < 4294967296 ∧ d ++ bitsOf r = bitsOf s ∧ wr.ownsRow w.heap.size 3 1 v d.length ((natInts d).map (Value.int .i64)) ∧ Below w.heap.size w wr)
    (fun x _ _ => (bitsOf (intOf x).toNat).length)
  case atStart => exact ⟨s, [], rfl, hs, rfl, ownsRow_empty _ _ _, below_alloc _ _⟩
  case round =>
    obtain ⟨r, d, rfl, hr, hd, hown, hbel⟩ := hrel
    by_cases h0 : r = 0
    · subst h0
      have Hd := Lib.hid hd
      clear hd
      go_wp2
      go_ret
      have hd := Hd.out
      rw [bitsOf_zero, List.append_nil] at hd
      subst hd
      exact ⟨_, rfl, hown, hbel⟩
    · have h0' : ((r : Int) != 0) = true := by simp; omega
      have hTr : Tab wr := hT.below hbel hpos
      have hsz := hbel.size
      have hstep := Lib.hid (bitsOf_step r h0 hr)
      have hlow := Lib.hid (drop_low r hr h0)
      have hlen : d.length < 1000000000 := by
        have h1 := bitsOf_length s
        rw [← hd, List.length_append] at h1
        omega
      have Hd := Lib.hid hd
      clear hd
      go_wp2_with (first
        | (go_at_call 65; refine (least_any _ r rfl h0 hr _ hTr).mono ?_; rintro e w' ⟨rfl, rfl⟩)
        | (at_builtin; refine wpList_app1 ty_int rfl rfl rfl hown rfl rfl hlen hsz ?_; intro v' w1 hown' hg _))
      go_roundw
      case rel =>
        refine ⟨r &&& (r - 1), d ++ [Lib.ctz 32 r], val_int hlow.out, and_lt32 _ _ hr, ?_, ?_, below_grown hbel hown hg (Nat.le_refl _) hsz⟩
        · rw [List.append_assoc, List.singleton_append, ← hstep.out]; exact Hd.out
        · simpa [natInts] using hown'
      case measure =>
        rw [hlow.out]
        simp [intOf, hstep.out]

theorem numsInt_of (w : World) (base : Nat) (v : Value) (l : List Nat) (h : w.ownsRow base 3 1 v l.length ((natInts l).map (Value.int .i64))) (hl : l.length ≤ 1000000000) : Nums w 3 .i64 v (natInts l) :=
  Nums.of_owns h (by simp [natInts]) hl

set_option maxRecDepth 100000 in
set_option maxHeartbeats 1000000 in
theorem wide_any (v : Value) (xs : List Int) (w : World) (hx : Nums w 3 .i64 v xs) :
    Calls Tryd.prog 99 #[v] w fun e w' => ∃ u, e = .returned u ∧
      w'.ownsRow w.heap.size 2 1 u xs.length (xs.map (Value.int .i64)) ∧ Below w.heap.size w w' := by
  obtain ⟨p, c, rfl, _, _, hn, hat⟩ := hx
  go_enter Tryd.func99, Tryd.ntmps99
  go_wp2_with (at_make; refine wpList_mk0 ty_i64 rfl rfl xs.length rfl rfl rfl hn ?_; intro w1 hown1 hg1)
  have hb1 := grown_below hg1
  clear hg1
  go_loopw [3, 5, 11] (fun u _ i wr => ∃ k : Nat, k ≤ xs.length ∧ i = .int .i64 k ∧ wr.ownsRow w.heap.size 2 1 u k ((xs.take k).map (Value.int .i64)) ∧ Below w.heap.size w wr)
    (fun _ _ i _ => xs.length - (intOf i).toNat)
  case atStart => exact ⟨0, Nat.zero_le _, rfl, by simpa using hown1, hb1⟩
  case round =>
    obtain ⟨k, hk, rfl, hown, hbel⟩ := hrel
    clear hown1 hb1
    by_cases hlt : k < xs.length
    · obtain ⟨b, o, rfl, hc⟩ := hat.num hlt
      have hcell := (hbel.cell (p := ⟨b, o + k, none⟩) (World.block_lt_of_cell? w _ hc)).trans hc
      have ht := Lib.hid (take_snoc xs k hlt)
      have hsz := hbel.size
      clear hc hat
      go_wp2_with (at_builtin; refine wpList_app1 ty_i64 rfl rfl rfl hown rfl rfl (by omega) hsz ?_; intro v' w1 hown' hg _)
      go_roundw
      case rel =>
        refine ⟨k + 1, by omega, by go_num, ?_, below_grown hbel hown hg (Nat.le_refl _) hsz⟩
        rw [ht.out, List.map_append]; exact hown'
      case measure => simp [intOf]; omega
    · obtain rfl : k = xs.length := by omega
      go_wp2
      go_ret
      rw [List.take_length] at hown
      exact ⟨_, rfl, hown, hbel⟩

set_option maxRecDepth 100000 in
set_option maxHeartbeats 1000000 in
theorem numbers_any (y : Int) (s : Nat) (hy : y = s) (hs : s < 4294967296) (w : World) (hT : Tab w) :
    Calls Tryd.prog 94 #[.int .u32 y] w fun e w' => ∃ v, e = .returned v ∧
      w'.ownsRow w.heap.size 2 1 v (bitsOf s).length ((natInts (bitsOf s)).map (Value.int .i64)) ∧ Below w.heap.size w w' := by
  subst hy
  have hl := bitsOf_length s
  go_enter Tryd.func94, Tryd.ntmps94
  go_wp2_with (first
    | (go_at_call 50; refine (list_any _ s rfl hs _ hT).mono ?_; rintro e w1 ⟨v, rfl, hown, hb1⟩)
    | (go_at_call 99; refine (wide_any _ _ _ (numsInt_of _ _ _ _ hown (by omega))).mono ?_; rintro e w2 ⟨u, rfl, hown2, hb2⟩))
  go_ret
  refine ⟨_, rfl, ?_, hb1.trans (hb2.mono hb1.size)⟩
  have e : (natInts (bitsOf s)).length = (bitsOf s).length := by simp [natInts]
  rw [e] at hown2
  exact ownsRow_base hown2 hb1.size

end Go.Proofs.YtfphapcgjlhieaaDoor
