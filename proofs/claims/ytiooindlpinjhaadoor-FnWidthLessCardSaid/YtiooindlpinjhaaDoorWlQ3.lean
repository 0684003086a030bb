/- Walks: the program's sets of vertices (bits of a number), and slices of numbers. -/
import Derived.Test.YtiooindlpinjhaaDoorProg
import Derived.Test.YtiooindlpinjhaaDoorWlQ2
import Derived.Test.YtiooindlpinjhaaDoorWlQ1
import Derived.BigQuiet
import Derived.Deep.QuietTactic
namespace Go.Proofs.YtiooindlpinjhaaDoor
open Go.RowKit

theorem ty_i64 : SlTy Tryd.prog 26 2 (.int .i64 0) 1 8 := ⟨Tryd.underlying26, by kernel_rfl, rfl, by decide, by decide⟩
theorem ty_int : SlTy Tryd.prog 85 3 (.int .i64 0) 1 8 := ⟨Tryd.underlying85, by kernel_rfl, rfl, by decide, by decide⟩
theorem ty_nets : SlTy Tryd.prog 67 71 (.int .u32 0) 1 4 := ⟨Tryd.underlying67, by kernel_rfl, rfl, by decide, by decide⟩
theorem ty_rows : SlTy Tryd.prog 22 26 (.slice none 0 0) 1 24 := ⟨Tryd.underlying22, by kernel_rfl, rfl, by decide, by decide⟩

theorem ret_u32 {a b : Int} (h : a = b) : Ending.returned (.int .u32 a) = .returned (.int .u32 b) := by rw [h]

theorem int_pow (v : Nat) (hv : v < 32) : ((2 ^ v : Int) % 4294967296) = ((2 ^ v : Nat) : Int) := by
  have := pow_lt32 v hv
  have e : (2 ^ v : Int) = ((2 ^ v : Nat) : Int) := by simp
  rw [e]; generalize (2 ^ v : Nat) = t at *; omega

set_option maxHeartbeats 400000 in
theorem one_any (z : Int) (v : Nat) (hz : z = v) (hv : v < 32) (w : World) :
    Calls Tryd.prog 70 #[.int .i64 z] w fun e w' => e = .returned (.int .u32 ((2 ^ v : Nat) : Int)) ∧ w = w' := by
  subst hz
  go_enter Tryd.func70, Tryd.ntmps70
  go_wp2
  go_ret
  exact ⟨ret_u32 (int_pow v hv), rfl⟩

theorem shr_bit (s v : Nat) (hs : s < 4294967296) : (bits BinOp.and IntKind.u32 ((s : Int) / 2 ^ v) 1 == 1) = s.testBit v := by
  have e : ((s : Int) / 2 ^ v) = ((s / 2 ^ v : Nat) : Int) := by simp
  have hle : s / 2 ^ v < 4294967296 := Nat.lt_of_le_of_lt (Nat.div_le_self _ _) hs
  have e1 : (1 : Int) = ((1 : Nat) : Int) := rfl
  rw [e, e1, u32_and_nat _ _ hle (by decide), Nat.testBit, Nat.shiftRight_eq_div_pow, Nat.and_comm]
  have : 1 &&& s / 2 ^ v = s / 2 ^ v % 2 := by rw [Nat.and_comm]; exact Nat.and_two_pow_sub_one_eq_mod _ 1
  rw [Bool.eq_iff_iff]
  simp [Nat.and_comm]
  omega

set_option maxHeartbeats 400000 in
theorem has_any (y z : Int) (s v : Nat) (hy : y = s) (hz : z = v) (hs : s < 4294967296) (hv : v < 32) (w : World) :
    Calls Tryd.prog 111 #[.int .u32 y, .int .i64 z] w fun e w' => e = .returned (.bool (s.testBit v)) ∧ w = w' := by
  subst hy; subst hz
  have hb := Lib.hid (shr_bit s v hs)
  go_enter Tryd.func111, Tryd.ntmps111
  go_wp2
  go_ret
  exact ⟨ret_bool hb.out, rfl⟩

set_option maxHeartbeats 400000 in
theorem firstOf_any (z : Int) (v : Nat) (hz : z = v) (hv : v < 32) (w : World) :
    Calls Tryd.prog 66 #[.int .i64 z] w fun e w' => e = .returned (.int .u32 ((2 ^ v - 1 : Nat) : Int)) ∧ w = w' := by
  subst hz
  go_enter Tryd.func66, Tryd.ntmps66
  go_wp2
  go_ret
  refine ⟨ret_u32 ?_, rfl⟩
  show ((2 ^ v : Int) % 4294967296 - 1) % 4294967296 = _
  rw [int_pow v hv]
  have := pow_lt32 v hv
  have h2 := Nat.two_pow_pos v
  omega

/-- The table of math/bits lies in its variable. -/
def Tab (w : World) : Prop := ∀ j, j < Lib.deBruijn32tab.length → w.cell? ⟨0, j, none⟩ = some (.int .u8 (Lib.deBruijn32tab.getD j 0))
theorem Tab.below {w w' : World} {B : Nat} (h : Tab w) (hb : Below B w w') (hB : 0 < B) : Tab w' := fun j hj => (hb.cell (p := ⟨_, j, none⟩) hB).trans (h j hj)
theorem Tab.pos {w : World} (h : Tab w) : 0 < w.heap.size := World.block_lt_of_cell? w _ (h 0 (by decide))
theorem Tab.keep {w w' : World} (h : Tab w) (hb : Below w.heap.size w w') : Tab w' := h.below hb h.pos

set_option maxHeartbeats 1000000 in
theorem tz_core (x k idx : Nat) (w : World) (hx0 : ((x : Int) == 0) = false)
    (key : bits BinOp.and IntKind.u32 (x : Int) (-(x : Int) % 4294967296) * 125613361 % 4294967296 / 134217728 = (idx : Int))
    (hi : idx < 32) (hk : k < 32) (hcell : w.cell? ⟨0, idx, none⟩ = some (.int .u8 k)) :
    Calls Tryd.prog 157 #[.int .u32 x] w fun e w' => e = .returned (.int .i64 k) ∧ w = w' := by
  go_enter Tryd.func157, Tryd.ntmps157
  go_wp2_with (simp only [key])
  go_ret
  exact ⟨rfl, rfl⟩

theorem tz_any (x : Nat) (h0 : x ≠ 0) (hx : x < 4294967296) (w : World) (hT : Tab w) :
    Calls Tryd.prog 157 #[.int .u32 x] w fun e w' => e = .returned (.int .i64 (Lib.ctz 32 x)) ∧ w = w' := by
  obtain ⟨m, hm, hk⟩ := Lib.ctzFrom_spec 32 x (by omega) (by simpa using hx)
  have hc : Lib.ctz 32 x = Lib.ctzFrom 32 x := by simp [Lib.ctz, h0]
  rw [hc]
  generalize Lib.ctzFrom 32 x = k at *
  obtain ⟨hi, htab⟩ := Lib.deBruijn32_at k hk
  have hcell := hT _ (show _ < Lib.deBruijn32tab.length from hi)
  rw [htab] at hcell
  refine tz_core x k _ w (by simp; omega) ?_ hi hk hcell
  have hlow : x &&& (4294967296 - x) = 2 ^ k := by rw [hm]; exact Lib.and_neg 32 k m (by rw [← hm]; simpa using hx)
  have e1 : -(x : Int) % 4294967296 = ((4294967296 - x : Nat) : Int) := by omega
  rw [e1, u32_and_nat _ _ hx (by omega), hlow]
  clear hlow hm hcell htab hi
  generalize (2 ^ k : Nat) = t at *
  omega

set_option maxHeartbeats 400000 in
theorem least_any (y : Int) (s : Nat) (hy : y = s) (h0 : s ≠ 0) (hs : s < 4294967296) (w : World) (hT : Tab w) :
    Calls Tryd.prog 138 #[.int .u32 y] w fun e w' => e = .returned (.int .i64 (Lib.ctz 32 s)) ∧ w = w' := by
  subst hy
  go_enter Tryd.func138, Tryd.ntmps138
  go_wp2_with (go_at_call 157; refine (tz_any s h0 hs _ hT).mono ?_; rintro e w' ⟨rfl, rfl⟩)
  go_ret
  exact ⟨rfl, rfl⟩

theorem drop_low (s : Nat) (hs : s < 4294967296) (h0 : s ≠ 0) : bits BinOp.and IntKind.u32 (s : Int) ((s : Int) - 1) = ((s &&& (s - 1) : Nat) : Int) := by
  have e : ((s : Int) - 1) = ((s - 1 : Nat) : Int) := by omega
  rw [e, u32_and_nat _ _ hs (by omega)]

def natInts (l : List Nat) : List Int := l.map (fun (i : Nat) => (i : Int))

set_option maxRecDepth 100000 in
set_option maxHeartbeats 1000000 in
theorem list_any (y : Int) (s : Nat) (hy : y = s) (hs : s < 4294967296) (w : World) (hT : Tab w) :
    Calls Tryd.prog 127 #[.int .u32 y] w fun e w' => ∃ v, e = .returned v ∧
      w'.ownsRow w.heap.size 3 1 v (bitsOf s).length ((natInts (bitsOf s)).map (Value.int .i64)) ∧ Below w.heap.size w w' := by
  subst hy
  have hpos := hT.pos
  go_enter Tryd.func127, Tryd.ntmps127
  go_wp2
  go_loopw [0, 3] (fun x v wr => ∃ (r : Nat) (d : List Nat), x = .int .u32 r ∧ r < 4294967296 ∧ d ++ bitsOf r = bitsOf s ∧ wr.ownsRow w.heap.size 3 1 v d.length ((natInts d).map (Value.int .i64)) ∧ Below w.heap.size w wr)
    (fun x _ _ => (bitsOf (intOf x).toNat).length)
  case atStart => exact ⟨s, [], rfl, hs, rfl, ownsRow_empty _ _ _, below_alloc _ _⟩
  case round =>
    obtain ⟨r, d, rfl, hr, hd, hown, hbel⟩ := hrel
    by_cases h0 : r = 0
    · subst h0
      have Hd := Lib.hid hd
      clear hd
      go_wp2
      go_ret
      have hd := Hd.out
      rw [bitsOf_zero, List.append_nil] at hd
      subst hd
      exact ⟨_, rfl, hown, hbel⟩
    · have h0' : ((r : Int) != 0) = true := by simp; omega
      have hTr : Tab wr := hT.below hbel hpos
      have hsz := hbel.size
      have hstep := Lib.hid (bitsOf_step r h0 hr)
      have hlow := Lib.hid (drop_low r hr h0)
      have hlen : d.length < 1000000000 := by
        have h1 := bitsOf_length s
        rw [← hd, List.length_append] at h1
        omega
      have Hd := Lib.hid hd
      clear hd
      go_wp2_with (first
        | (go_at_call 138; refine (least_any _ r rfl h0 hr _ hTr).mono ?_; rintro e w' ⟨rfl, rfl⟩)
        | (at_builtin; refine wpList_app1 ty_int rfl rfl rfl hown rfl rfl hlen hsz ?_; intro v' w1 hown' hg _))
      go_roundw
      case rel =>
        refine ⟨r &&& (r - 1), d ++ [Lib.ctz 32 r], val_int hlow.out, and_lt32 _ _ hr, ?_, ?_, below_grown hbel hown hg (Nat.le_refl _) hsz⟩
        · rw [List.append_assoc, List.singleton_append, ← hstep.out]; exact Hd.out
        · simpa [natInts] using hown'
      case measure =>
        rw [hlow.out]
        simp [intOf, hstep.out]

theorem numsInt_of (w : World) (base : Nat) (v : Value) (l : List Nat) (h : w.ownsRow base 3 1 v l.length ((natInts l).map (Value.int .i64))) (hl : l.length ≤ 1000000000) : Nums w 3 .i64 v (natInts l) :=
  Nums.of_owns h (by simp [natInts]) hl

set_option maxRecDepth 100000 in
set_option maxHeartbeats 1000000 in
theorem wide_any (v : Value) (xs : List Int) (w : World) (hx : Nums w 3 .i64 v xs) :
    Calls Tryd.prog 71 #[v] w fun e w' => ∃ u, e = .returned u ∧
      w'.ownsRow w.heap.size 2 1 u xs.length (xs.map (Value.int .i64)) ∧ Below w.heap.size w w' := by
  obtain ⟨p, c, rfl, _, _, hn, hat⟩ := hx
  go_enter Tryd.func71, Tryd.ntmps71
  go_wp2_with (at_make; refine wpList_mk0 ty_i64 rfl rfl xs.length rfl rfl rfl hn ?_; intro w1 hown1 hg1)
  have hb1 := grown_below hg1
  clear hg1
  go_loopw [3, 5, 11] (fun u _ i wr => ∃ k : Nat, k ≤ xs.length ∧ i = .int .i64 k ∧ wr.ownsRow w.heap.size 2 1 u k ((xs.take k).map (Value.int .i64)) ∧ Below w.heap.size w wr)
    (fun _ _ i _ => xs.length - (intOf i).toNat)
  case atStart => exact ⟨0, Nat.zero_le _, rfl, by simpa using hown1, hb1⟩
  case round =>
    obtain ⟨k, hk, rfl, hown, hbel⟩ := hrel
    clear hown1 hb1
    by_cases hlt : k < xs.length
    · obtain ⟨b, o, rfl, hc⟩ := hat.num hlt
      have hcell := (hbel.cell (p := ⟨b, o + k, none⟩) (World.block_lt_of_cell? w _ hc)).trans hc
      have ht := Lib.hid (take_snoc xs k hlt)
      have hsz := hbel.size
      clear hc hat
      go_wp2_with (at_builtin; refine wpList_app1 ty_i64 rfl rfl rfl hown rfl rfl (by omega) hsz ?_; intro v' w1 hown' hg _)
      go_roundw
      case rel =>
        refine ⟨k + 1, by omega, by go_num, ?_, below_grown hbel hown hg (Nat.le_refl _) hsz⟩
        rw [ht.out, List.map_append]; exact hown'
      case measure => simp [intOf]; omega
    · obtain rfl : k = xs.length := by omega
      go_wp2
      go_ret
      rw [List.take_length] at hown
      exact ⟨_, rfl, hown, hbel⟩

set_option maxRecDepth 100000 in
set_option maxHeartbeats 1000000 in
theorem numbers_any (y : Int) (s : Nat) (hy : y = s) (hs : s < 4294967296) (w : World) (hT : Tab w) :
    Calls Tryd.prog 61 #[.int .u32 y] w fun e w' => ∃ v, e = .returned v ∧
      w'.ownsRow w.heap.size 2 1 v (bitsOf s).length ((natInts (bitsOf s)).map (Value.int .i64)) ∧ Below w.heap.size w w' := by
  subst hy
  have hl := bitsOf_length s
  go_enter Tryd.func61, Tryd.ntmps61
  go_wp2_with (first
    | (go_at_call 127; refine (list_any _ s rfl hs _ hT).mono ?_; rintro e w1 ⟨v, rfl, hown, hb1⟩)
    | (go_at_call 71; refine (wide_any _ _ _ (numsInt_of _ _ _ _ hown (by omega))).mono ?_; rintro e w2 ⟨u, rfl, hown2, hb2⟩))
  go_ret
  refine ⟨_, rfl, ?_, hb1.trans (hb2.mono hb1.size)⟩
  have e : (natInts (bitsOf s)).length = (bitsOf s).length := by simp [natInts]
  rw [e] at hown2
  exact ownsRow_base hown2 hb1.size

end Go.Proofs.YtiooindlpinjhaaDoor

/- Walks: the reference's small functions on lists of numbers, and both GraphOk. -/
namespace Go.Proofs.YtiooindlpinjhaaDoor
open Go.RowKit

set_option maxHeartbeats 400000 in
theorem l1In_any (x lo hi : Int) (w : World) :
    Calls Tryd.prog 116 #[.int .i64 x, .int .i64 lo, .int .i64 hi] w fun e w' => e = .returned (.bool (dec (lo ≤ x ∧ x ≤ hi))) ∧ w = w' := by
  by_cases h1 : lo ≤ x
  · by_cases h2 : x ≤ hi
    · go_enter Tryd.func116, Tryd.ntmps116
      go_wp2
      go_ret
      exact ⟨ret_bool (true_dec ⟨h1, h2⟩), rfl⟩
    · go_enter Tryd.func116, Tryd.ntmps116
      go_wp2
      go_ret
      exact ⟨ret_bool (false_dec (by omega)), rfl⟩
  · go_enter Tryd.func116, Tryd.ntmps116
    go_wp2
    go_ret
    exact ⟨ret_bool (false_dec (by omega)), rfl⟩

set_option maxHeartbeats 400000 in
theorem inRange_any (x lo hi : Int) (w : World) :
    Calls Tryd.prog 153 #[.int .i64 x, .int .i64 lo, .int .i64 hi] w fun e w' => e = .returned (.bool (dec (lo ≤ x ∧ x ≤ hi))) ∧ w = w' := by
  by_cases h1 : lo ≤ x
  · by_cases h2 : x ≤ hi
    · go_enter Tryd.func153, Tryd.ntmps153
      go_wp2
      go_ret
      exact ⟨ret_bool (true_dec ⟨h1, h2⟩), rfl⟩
    · go_enter Tryd.func153, Tryd.ntmps153
      go_wp2
      go_ret
      exact ⟨ret_bool (false_dec (by omega)), rfl⟩
  · go_enter Tryd.func153, Tryd.ntmps153
    go_wp2
    go_ret
    exact ⟨ret_bool (false_dec (by omega)), rfl⟩

set_option maxRecDepth 100000 in
set_option maxHeartbeats 400000 in
theorem l1Has_any (v : Value) (xs : List Int) (n : Int) (w : World) (hx : Nums w 2 .i64 v xs) :
    Calls Tryd.prog 72 #[v, .int .i64 n] w fun e w' => e = .returned (.bool (dec (n ∈ xs))) ∧ w = w' := by
  obtain ⟨p, c, rfl, _, _, hn, hat⟩ := hx
  go_enter Tryd.func72, Tryd.ntmps72
  go_wp2
  go_loop [5] (fun i => ∃ k : Nat, k ≤ xs.length ∧ i = .int .i64 k ∧ n ∉ xs.take k) (fun i => xs.length - (intOf i).toNat)
  case atStart => exact ⟨0, Nat.zero_le _, rfl, by simp⟩
  case round =>
    obtain ⟨k, hk, rfl, hnk⟩ := hrel
    by_cases hlt : k < xs.length
    · obtain ⟨b, o, rfl, hcell⟩ := hat.num hlt
      clear hat
      by_cases he : xs[k] = n
      · have he' : (xs[k] == n) = true := by simpa using he
        have H := Lib.hid he
        clear he
        go_wp2
        go_ret
        exact ⟨ret_bool (true_dec (mem_of_getElem hlt H.out)), rfl⟩
      · have he' : (xs[k] == n) = false := by simpa using he
        go_wp2
        go_round
        case rel => exact ⟨k + 1, by omega, by go_num, not_mem_take_succ hlt hnk he⟩
        case measure => simp [intOf]; omega
    · obtain rfl : k = xs.length := by omega
      go_wp2
      go_ret
      rw [List.take_length] at hnk
      exact ⟨ret_bool (false_dec hnk), rfl⟩

set_option maxRecDepth 100000 in
set_option maxHeartbeats 400000 in
theorem index_any (v : Value) (xs : List Int) (n : Int) (w : World) (hx : Nums w 2 .i64 v xs) :
    Calls Tryd.prog 154 #[v, .int .i64 n] w fun e w' => (∃ z : Int, e = .returned (.int .i64 z) ∧ -1 ≤ z ∧ z ≤ 1000000000 ∧ (0 ≤ z ↔ n ∈ xs)) ∧ w = w' := by
  obtain ⟨p, c, rfl, _, _, hn, hat⟩ := hx
  go_enter Tryd.func154, Tryd.ntmps154
  go_wp2
  go_loop [5, 8] (fun _ i => ∃ k : Nat, k ≤ xs.length ∧ i = .int .i64 k ∧ n ∉ xs.take k) (fun _ i => xs.length - (intOf i).toNat)
  case atStart => exact ⟨0, Nat.zero_le _, rfl, by simp⟩
  case round =>
    obtain ⟨k, hk, rfl, hnk⟩ := hrel
    by_cases hlt : k < xs.length
    · obtain ⟨b, o, rfl, hcell⟩ := hat.num hlt
      clear hat
      by_cases he : xs[k] = n
      · have he' : (n == xs[k]) = true := by simpa using he.symm
        have H := Lib.hid he
        clear he
        go_wp2
        go_ret
        exact ⟨⟨(k : Int), rfl, by omega, by omega, fun _ => mem_of_getElem hlt H.out, fun _ => by omega⟩, rfl⟩
      · have he' : (n == xs[k]) = false := by simpa using fun e => he e.symm
        go_wp2
        go_round
        case rel => exact ⟨k + 1, by omega, by go_num, not_mem_take_succ hlt hnk he⟩
        case measure => simp [intOf]; omega
    · obtain rfl : k = xs.length := by omega
      go_wp2
      go_ret
      rw [List.take_length] at hnk
      exact ⟨⟨-1, rfl, by omega, by omega, fun h => by omega, fun h => absurd h hnk⟩, rfl⟩

set_option maxRecDepth 100000 in
set_option maxHeartbeats 400000 in
theorem contains_any (v : Value) (xs : List Int) (n : Int) (w : World) (hx : Nums w 2 .i64 v xs) :
    Calls Tryd.prog 122 #[v, .int .i64 n] w fun e w' => e = .returned (.bool (dec (n ∈ xs))) ∧ w = w' := by
  go_enter Tryd.func122, Tryd.ntmps122
  go_wp2_with (go_at_call 154; refine (index_any _ xs n _ hx).mono ?_; rintro e w' ⟨⟨z, rfl, hz1, hz2, hz3⟩, rfl⟩)
  go_ret
  exact ⟨ret_bool decide_dec, rfl⟩

set_option maxRecDepth 100000 in
set_option maxHeartbeats 1000000 in
theorem l1Set_any (v : Value) (xs : List Int) (n : Int) (h0 : 0 ≤ n) (h1 : n ≤ 1000000000) (w : World) (hx : Nums w 2 .i64 v xs) :
    Calls Tryd.prog 117 #[v, .int .i64 n] w fun e w' => e = .returned (.bool (dec (SetIn n xs))) ∧ Below w.heap.size w w' := by
  obtain ⟨p, c, rfl, _, _, hn, hat⟩ := hx
  have hatW : ∀ wr, Below w.heap.size w wr → At wr 2 p (xs.map (Value.int .i64)) := fun wr hb => hat.keep fun b _ _ _ _ h => hb.block b (Array.getElem?_eq_some_iff.1 h).1
  by_cases hlen : n < (xs.length : Int)
  · go_enter Tryd.func117, Tryd.ntmps117
    go_wp2
    go_ret
    exact ⟨ret_bool (false_dec fun h => by have := setIn_length h0 h; omega), Below.refl _ _⟩
  go_enter Tryd.func117, Tryd.ntmps117
  go_wp2
  go_loopw [5] (fun i wr => ∃ k : Nat, k ≤ xs.length ∧ i = .int .i64 k ∧ SetIn n (xs.take k) ∧ Below w.heap.size w wr) (fun i _ => xs.length - (intOf i).toNat)
  case atStart => exact ⟨0, Nat.zero_le _, rfl, by simpa using setIn_nil n, Below.refl _ _⟩
  case round =>
    obtain ⟨k, hk, rfl, hset, hbel⟩ := hrel
    by_cases hlt : k < xs.length
    · obtain ⟨b, o, rfl, hcs⟩ := (hatW wr hbel).cells (k := k) (by simpa using hlt)
      have hcell : wr.cell? ⟨b, o + k, none⟩ = some (.int .i64 xs[k]) := hcs k _ (by simp [hlt])
      have hcell' : 0 < k → ∃ y, y = xs[k - 1]'(by omega) ∧ wr.cell? ⟨b, o + (k - 1), none⟩ = some (.int .i64 y) := fun hk0 => ⟨_, rfl, hcs (k - 1) _ (by rw [List.getElem?_map, List.getElem?_eq_getElem (by omega)]; rfl)⟩
      have hstep := setIn_step (n := n) hlt
      clear hcs hatW hat
      have Hset := Lib.hid hset
      have Hstep := Lib.hid hstep
      clear hset hstep
      have e1 : IntKind.i64.wrap (n - 1) = n - 1 := IntWalk.i64_in _ (by omega)
      by_cases hin : 0 ≤ xs[k] ∧ xs[k] ≤ n - 1
      · have hin' := dec_true hin
        by_cases hk0 : 0 < k
        · obtain ⟨y, hy, hcy⟩ := hcell' hk0
          clear hcell'
          have Hy := Lib.hid hy
          clear hy
          have hkd : decide ((0 : Int) < (k : Int)) = true := by simpa using hk0
          have e2 : IntKind.i64.wrap ((k : Int) - 1) = (k : Int) - 1 := IntWalk.i64_in _ (by omega)
          have e3 : 0 ≤ (k : Int) - 1 := by omega
          have e4 : ((k : Int) - 1).toNat = k - 1 := by omega
          have e5 : (k : Int) - 1 < (xs.length : Int) := by omega
          by_cases hle : xs[k] ≤ y
          · have hled : decide (xs[k] ≤ y) = true := by simpa using hle
            go_wp2
            go_quiet ((go_at_call 116; exact Calls.quiet_of_same (flip (l1In_any _ _ _ _))))
            go_wp2
            go_ret
            exact ⟨ret_bool (false_dec fun h => by have h3 := (Hstep.out.1 (setIn_take h _)).2.2 hk0; have := Hy.out; omega), below_dN hbel _⟩
          · have hled : decide (xs[k] ≤ y) = false := by simpa using hle
            go_wp2
            go_quiet ((go_at_call 116; exact Calls.quiet_of_same (flip (l1In_any _ _ _ _))))
            go_wp2
            go_roundw
            case rel => exact ⟨k + 1, by omega, by go_num, Hstep.out.2 ⟨Hset.out, by omega, fun _ => by have := Hy.out; omega⟩, below_dN hbel _⟩
            case measure => simp [intOf]; omega
        · have hkd : decide ((0 : Int) < (k : Int)) = false := by simpa using hk0
          go_wp2
          go_quiet ((go_at_call 116; exact Calls.quiet_of_same (flip (l1In_any _ _ _ _))))
          go_wp2
          go_roundw
          case rel => exact ⟨k + 1, by omega, by go_num, Hstep.out.2 ⟨Hset.out, by omega, fun h => absurd h hk0⟩, below_dN hbel _⟩
          case measure => simp [intOf]; omega
      · have hin' := dec_false hin
        have Hin := Lib.hid hin
        clear hin
        go_wp2
        go_quiet ((go_at_call 116; exact Calls.quiet_of_same (flip (l1In_any _ _ _ _))))
        go_wp2
        go_ret
        exact ⟨ret_bool (false_dec fun h => by have h3 := (Hstep.out.1 (setIn_take h _)).2.1; have := Hin.out; omega), below_dN hbel _⟩
    · obtain rfl : k = xs.length := by omega
      go_wp2
      go_ret
      rw [List.take_length] at hset
      exact ⟨ret_bool (true_dec hset), hbel⟩

end Go.Proofs.YtiooindlpinjhaaDoor
