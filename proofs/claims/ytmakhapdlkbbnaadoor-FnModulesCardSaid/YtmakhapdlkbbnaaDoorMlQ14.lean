/- Walk: the laws' rising list with one more number. -/
import Derived.Test.YtmakhapdlkbbnaaDoorMlQ5
import Derived.Test.YtmakhapdlkbbnaaDoorMlQ13
import Derived.Test.YtmakhapdlkbbnaaDoorMlQ11
import Derived.Test.YtmakhapdlkbbnaaDoorMlQ3
import Derived.Test.YtmakhapdlkbbnaaDoorMlQ2
import Derived.Deep.RegionHeld3
import Derived.Deep.DeepCutAuto
namespace Go.Proofs.YtmakhapdlkbbnaaDoor
open Go.RowKit

def outW (b : Bool) (l : List Int) (n : Int) : List Int := if b then intoL l n else l
theorem outW_length (b : Bool) (l : List Int) (n : Int) : (outW b l n).length ≤ l.length + 1 := by
  cases b
  · exact Nat.le_succ _
  · exact intoL_length l n

set_option maxRecDepth 100000 in
set_option maxHeartbeats 2000000 in
theorem w9With_any (v : Value) (xs : List Int) (n : Int) (hl : xs.length ≤ 1000000) (w : World) (hx : Nums w 2 .i64 v xs) :
    Calls Tryd.prog 25 #[v, .int .i64 n] w fun e w' => ∃ u, e = .returned u ∧ w'.ownsRow w.heap.size 2 1 u (intoL xs n).length ((intoL xs n).map (Value.int .i64)) ∧ Below w.heap.size w w' := by
  obtain ⟨p, c, rfl, _⟩ := id hx.shape
  have HX := Lib.hid hx
  have START : Hid ((w.alloc (.cells #[] 2)).ownsRow w.heap.size 2 1 (.slice (some ⟨w.heap.size, 0, none⟩) 0 0) (outW false (xs.take 0) n).length ((outW false (xs.take 0) n).map (Value.int .i64))) := Lib.hid (ownsRow_empty _ _ _)
  have START2 := Lib.hid (below_alloc w (.cells #[] 2))
  clear hx
  go_enter Tryd.func25, Tryd.ntmps25
  go_wp2
  go_loopw [5, 6, 7] (fun o d i wr => ∃ (k : Nat) (b : Bool), k ≤ xs.length ∧ i = .int .i64 k ∧ d = .bool b ∧ Hid (b = true ↔ ∃ y ∈ xs.take k, ¬ y < n) ∧ Hid (wr.ownsRow w.heap.size 2 1 o (outW b (xs.take k) n).length ((outW b (xs.take k) n).map (Value.int .i64))) ∧ Hid (Below w.heap.size w wr)) (fun _ _ i _ => xs.length - (intOf i).toNat)
  case atStart => exact ⟨0, false, Nat.zero_le _, rfl, rfl, Lib.hid (by simp), START, START2⟩
  case round =>
    clear START START2
    obtain ⟨k, b, hk, rfl, rfl, HD, HO, HB⟩ := hrel
    by_cases hlt : k < xs.length
    · obtain ⟨lb, lo, hp, hc0⟩ := HX.out.get hlt
      subst hp
      have htk := Lib.hid (take_snoc xs k hlt)
      have hsz := HB.out.size
      have hol := outW_length b (xs.take k) n
      rw [List.length_take] at hol
      generalize xs[k] = x at hc0 htk
      have hc := HB.out.at' hc0
      cases b
      · have hlow : Hid (∀ y ∈ xs.take k, y < n) := Lib.hid (fun y hy => by
          by_cases h : y < n
          · exact h
          · exact absurd (HD.out.2 ⟨y, hy, h⟩) (by decide))
        have hown : wr.ownsRow w.heap.size 2 1 _ (xs.take k).length ((xs.take k).map (Value.int .i64)) := HO.out
        have hlk : (xs.take k).length ≤ 1000000 := by rw [List.length_take]; omega
        by_cases h1 : n < x
        · have HUP := Lib.hid (intoL_up h1 hlow.out)
          have HDT : Hid (true = true ↔ ∃ y ∈ xs.take (k + 1), ¬ y < n) := Lib.hid ⟨fun _ => ⟨x, by rw [htk.out]; simp, by omega⟩, fun _ => rfl⟩
          go_wp2_with (first
            | (at_builtin; refine wpList_app1 ty_i64 rfl rfl rfl hown5 rfl rfl (by omega) hsz5 ?_; intro v6 w6 hown6 hg6 _)
            | (at_builtin; refine wpList_app1 ty_i64 rfl rfl rfl hown rfl rfl (by omega) hsz ?_; intro v5 w5 hown5 hg5 _; have hb5 := below_grown HB.out hown hg5 (Nat.le_refl _) hsz; have hsz5 := hb5.size; have hc5 := hb5.at' hc0))
          go_roundw
          case rel => exact ⟨k + 1, true, by omega, by go_num, rfl, HDT, Lib.hid (by unfold outW; rw [if_pos rfl, htk.out, HUP.out]; simpa using hown6), Lib.hid (below_grown hb5 hown5 hg6 (Nat.le_refl _) hsz5)⟩
          case measure => simp [intOf]; omega
        · by_cases h2 : x = n
          · have h2' : (x == n) = true := by simpa using h2
            have HDT : Hid (true = true ↔ ∃ y ∈ xs.take (k + 1), ¬ y < n) := Lib.hid ⟨fun _ => ⟨x, by rw [htk.out]; simp, by omega⟩, fun _ => rfl⟩
            have HAT : Hid (intoL (xs.take k ++ [x]) n = xs.take k ++ [x]) := Lib.hid (by rw [h2]; exact intoL_at hlow.out)
            clear h2
            go_wp2_with (at_builtin; refine wpList_app1 ty_i64 rfl rfl rfl hown rfl rfl (by omega) hsz ?_; intro v5 w5 hown5 hg5 _)
            go_roundw
            case rel => exact ⟨k + 1, true, by omega, by go_num, rfl, HDT, Lib.hid (by unfold outW; rw [if_pos rfl, htk.out, HAT.out]; simpa using hown5), Lib.hid (below_grown HB.out hown hg5 (Nat.le_refl _) hsz)⟩
            case measure => simp [intOf]; omega
          · have h2' : (x == n) = false := by simpa using h2
            have HDT : Hid (false = true ↔ ∃ y ∈ xs.take (k + 1), ¬ y < n) := Lib.hid ⟨fun h => (by cases h), fun ⟨y, hy, h3⟩ => by
              rw [htk.out] at hy
              rcases List.mem_append.1 hy with hy | hy
              · exact absurd (hlow.out y hy) h3
              · obtain rfl : y = x := by simpa using hy
                omega⟩
            clear h2
            go_wp2_with (at_builtin; refine wpList_app1 ty_i64 rfl rfl rfl hown rfl rfl (by omega) hsz ?_; intro v5 w5 hown5 hg5 _)
            go_roundw
            case rel => exact ⟨k + 1, false, by omega, by go_num, rfl, HDT, Lib.hid (by show World.ownsRow _ _ _ _ _ (xs.take (k + 1)).length _; rw [show outW false (xs.take (k + 1)) n = xs.take (k + 1) from rfl, htk.out]; simpa using hown5), Lib.hid (below_grown HB.out hown hg5 (Nat.le_refl _) hsz)⟩
            case measure => simp [intOf]; omega
      · have hown : wr.ownsRow w.heap.size 2 1 _ (intoL (xs.take k) n).length ((intoL (xs.take k) n).map (Value.int .i64)) := HO.out
        have hlk : (intoL (xs.take k) n).length ≤ 1000001 := by
          have := intoL_length (xs.take k) n
          rw [List.length_take] at this
          omega
        have HAPP : Hid (intoL (xs.take k ++ [x]) n = intoL (xs.take k) n ++ [x]) := Lib.hid (intoL_app (HD.out.1 rfl))
        have HDT : Hid (true = true ↔ ∃ y ∈ xs.take (k + 1), ¬ y < n) := Lib.hid ⟨fun _ => by
          obtain ⟨y, hy, h3⟩ := HD.out.1 rfl
          exact ⟨y, by rw [htk.out]; exact List.mem_append_left _ hy, h3⟩, fun _ => rfl⟩
        go_wp2_with (at_builtin; refine wpList_app1 ty_i64 rfl rfl rfl hown rfl rfl (by omega) hsz ?_; intro v5 w5 hown5 hg5 _)
        go_roundw
        case rel => exact ⟨k + 1, true, by omega, by go_num, rfl, HDT, Lib.hid (by unfold outW; rw [if_pos rfl, htk.out, HAPP.out]; simpa using hown5), Lib.hid (below_grown HB.out hown hg5 (Nat.le_refl _) hsz)⟩
        case measure => simp [intOf]; omega
    · obtain rfl : k = xs.length := by omega
      have hsz := HB.out.size
      have htl : xs.take xs.length = xs := List.take_length
      cases b
      · have hlow : Hid (∀ y ∈ xs, y < n) := Lib.hid (fun y hy => by
          by_cases h : y < n
          · exact h
          · exact absurd (HD.out.2 ⟨y, by rw [htl]; exact hy, h⟩) (by decide))
        have hown := HO.out
        rw [htl] at hown
        change World.ownsRow _ _ _ _ _ xs.length (xs.map (Value.int .i64)) at hown
        clear htl
        go_wp2_with (at_builtin; refine wpList_app1 ty_i64 rfl rfl rfl hown rfl rfl (by omega) hsz ?_; intro v5 w5 hown5 hg5 _)
        go_ret
        exact ⟨_, rfl, by rw [intoL_low hlow.out]; simpa using hown5, below_grown HB.out hown hg5 (Nat.le_refl _) hsz⟩
      · have hown := HO.out
        rw [htl] at hown
        change World.ownsRow _ _ _ _ _ (intoL xs n).length ((intoL xs n).map (Value.int .i64)) at hown
        have HOWN := Lib.hid hown
        clear htl hown
        go_wp2
        go_ret
        exact ⟨_, rfl, HOWN.out, HB.out⟩

/-- A set of two, or of one. -/
theorem with_two {x y : Nat} : intoL [(x : Int)] (y : Int) = natInts (bitsOf (2 ^ x ||| 2 ^ y)) ∨ 16 ≤ x ∨ 16 ≤ y := by
  by_cases hx : 16 ≤ x
  · exact .inr (.inl hx)
  by_cases hy : 16 ≤ y
  · exact .inr (.inr hy)
  left
  have hs : 2 ^ x ||| 2 ^ y < 4294967296 := Nat.lt_of_lt_of_le (Nat.or_lt_two_pow (n := 16) (Nat.pow_lt_pow_right (by decide) (by omega)) (Nat.pow_lt_pow_right (by decide) (by omega))) (by decide)
  refine rising_ext_int _ _ (intoL_rising (by simp)) ?_ fun z => ?_
  · unfold natInts
    rw [List.pairwise_map]
    exact (bitsOf_rising _).imp fun h => by omega
  · rw [mem_intoL, mem_natInts]
    constructor
    · intro h
      rcases h with h | h
      · obtain rfl : z = (x : Int) := by simpa using h
        exact ⟨x, (mem_bitsOf' hs).2 (by rw [Nat.testBit_or, Nat.testBit_two_pow]; simp), rfl⟩
      · subst h
        exact ⟨y, (mem_bitsOf' hs).2 (by rw [Nat.testBit_or, Nat.testBit_two_pow, Nat.testBit_two_pow]; simp), rfl⟩
    · rintro ⟨i, hi, rfl⟩
      have := (mem_bitsOf' hs).1 hi
      rw [Nat.testBit_or, Nat.testBit_two_pow, Nat.testBit_two_pow, Bool.or_eq_true, decide_eq_true_eq, decide_eq_true_eq] at this
      rcases this with rfl | rfl
      · left; simp
      · right; rfl

end Go.Proofs.YtmakhapdlkbbnaaDoor

/- Walks: l1Less, l12Bit, l12Set. -/
namespace Go.Proofs.YtmakhapdlkbbnaaDoor
open Go.RowKit

theorem natInts_atL {l : List Nat} {k : Nat} (h : k < l.length) {h' : k < (natInts l).length} : (natInts l)[k] = ((l[k] : Nat) : Int) := by simp [natInts]
theorem lexL_at : ∀ (i : Nat) (a b : List Nat) (ha : i < a.length) (hb : i < b.length), a.take i = b.take i → a[i] ≠ b[i] → (lexL a b ↔ a[i] < b[i])
  | _, [], _, ha, _, _, _ => by simp at ha
  | _, _ :: _, [], _, hb, _, _ => by simp at hb
  | 0, x :: a, y :: b, _, _, _, hne => by
    simp only [List.getElem_cons_zero] at hne ⊢
    simp only [lexL]
    exact ⟨fun h => h.elim id fun h => absurd h.1 hne, .inl⟩
  | i + 1, x :: a, y :: b, ha, hb, ht, hne => by
    simp only [List.take_succ_cons, List.cons.injEq] at ht
    obtain ⟨rfl, ht⟩ := ht
    simp only [List.getElem_cons_succ] at hne ⊢
    simp only [lexL]
    rw [← lexL_at i a b (by simpa using ha) (by simpa using hb) ht hne]
    exact ⟨fun h => h.elim (fun h => absurd h (Nat.lt_irrefl _)) fun h => h.2, fun h => .inr ⟨trivial, h⟩⟩


theorem i64_and_nat (a b : Nat) (ha : a < 4294967296) (hb : b < 4294967296) : bits BinOp.and IntKind.i64 (a : Int) (b : Int) = ((a &&& b : Nat) : Int) :=
  (bits_nat .i64 32 (by decide) (fun n h1 h2 => by rw [IntKind.wrap_i64]; omega) a b (by omega) (by omega)).1

theorem wrap_pow (v : Nat) (hv : v < 32) : wrap64 (2 ^ v) = ((2 ^ v : Nat) : Int) := by
  have h1 := pow_lt32 v hv
  have e : (2 ^ v : Int) = ((2 ^ v : Nat) : Int) := by simp
  rw [e]
  generalize (2 ^ v : Nat) = t at *
  unfold wrap64
  omega
set_option maxHeartbeats 400000 in
theorem l12Bit_any (z : Int) (v : Nat) (hz : z = v) (hv : v < 32) (w : World) :
    Calls Tryd.prog 192 #[.int .i64 z] w fun e w' => e = .returned (.int .i64 ((2 ^ v : Nat) : Int)) ∧ w = w' := by
  subst hz
  have HB : Hid (wrap64 (2 ^ v) = ((2 ^ v : Nat) : Int)) := Lib.hid (wrap_pow v hv)
  go_enter Tryd.func192, Tryd.ntmps192
  go_wp2
  go_ret
  refine ⟨?_, rfl⟩
  rw [← HB.out]
  rfl

theorem bit_ne (s k : Nat) (hs : s < 65536) (hk : k < 17) : (bits BinOp.and IntKind.i64 (s : Int) ((2 ^ k : Nat) : Int) != 0) = s.testBit k := by
  have h1 := pow_lt32 k (by omega)
  rw [i64_and_nat _ _ (by omega) h1, Bool.eq_iff_iff]
  constructor
  · intro h
    refine Decidable.byContradiction fun hn => ?_
    have h0 : s &&& 2 ^ k = 0 := Nat.eq_of_testBit_eq fun j => by
      rw [Nat.testBit_and, Nat.testBit_two_pow, Nat.zero_testBit]
      by_cases hj : k = j
      · subst hj
        simpa using hn
      · simp [hj]
    rw [h0] at h
    simp at h
  · intro h
    have h0 : s &&& 2 ^ k ≠ 0 := fun h0 => by
      have := congrArg (fun z => z.testBit k) h0
      simp [h] at this
    simp only [bne_iff_ne, ne_eq]
    omega



def lowB (s k : Nat) : List Nat := (List.range k).filter fun i => s.testBit i
theorem lowB_len (s k : Nat) : (lowB s k).length ≤ k := Nat.le_trans (List.length_filter_le _ _) (by simp)
theorem lowB_yes {s k : Nat} (h : s.testBit k = true) : lowB s (k + 1) = lowB s k ++ [k] := by simp [lowB, List.range_succ, h]
theorem lowB_no {s k : Nat} (h : s.testBit k = false) : lowB s (k + 1) = lowB s k := by simp [lowB, List.range_succ, h]
theorem lowB_end {s k : Nat} (hs : s < 2 ^ k) (hk : k ≤ 32) : lowB s k = bitsOf s :=
  rising_ext _ _ (List.Pairwise.filter _ List.pairwise_lt_range) (bitsOf_rising s) fun x => by
    rw [mem_bitsOf, lowB, List.mem_filter, List.mem_range]
    constructor
    · rintro ⟨a, b⟩
      exact ⟨by omega, b⟩
    · rintro ⟨a, b⟩
      refine ⟨Nat.lt_of_not_le fun hge => ?_, b⟩
      have := Nat.testBit_lt_two_pow (Nat.lt_of_lt_of_le hs (Nat.pow_le_pow_right (by decide) hge) : s < 2 ^ x)
      rw [this] at b
      exact nomatch b


end Go.Proofs.YtmakhapdlkbbnaaDoor
