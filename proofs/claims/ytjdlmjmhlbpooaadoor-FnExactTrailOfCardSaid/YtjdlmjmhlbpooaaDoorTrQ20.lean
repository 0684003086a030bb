/- Walks: sets as int64 (the reference's l25Bits, l25Many, l27Low, l27Part). -/
import Derived.Test.YtjdlmjmhlbpooaaDoorTrQ16
import Derived.Test.YtjdlmjmhlbpooaaDoorTrQ18
import Derived.Test.YtjdlmjmhlbpooaaDoorTrQ19
namespace Go.Proofs.YtjdlmjmhlbpooaaDoor
open Go.RowKit

def i64v (s : Nat) : Value := .int .i64 (s : Int)
theorem i64_or_nat (a b : Nat) (ha : a < 4294967296) (hb : b < 4294967296) : bits BinOp.or IntKind.i64 (a : Int) (b : Int) = ((a ||| b : Nat) : Int) :=
  (bits_nat .i64 32 (by decide) (fun n h1 h2 => by rw [IntKind.wrap_i64]; omega) a b (by omega) (by omega)).2
theorem i64_andNot_nat (a b : Nat) (ha : a < 4294967296) (hb : b < 4294967296) : bits BinOp.andNot IntKind.i64 (a : Int) (b : Int) = ((sub a b : Nat) : Int) := by
  have hx : sub a b < 2 ^ 32 := sub_lt32 _ _ ha
  show IntKind.i64.wrap ((BitVec.ofInt 64 (a : Int) &&& ~~~BitVec.ofInt 64 (b : Int)).toNat : Int) = _
  have e1 : (BitVec.ofInt 64 (a : Int)).toNat = a := by rw [BitVec.ofInt_natCast, BitVec.toNat_ofNat]; omega
  have e2 : (BitVec.ofInt 64 (b : Int)).toNat = b := by rw [BitVec.ofInt_natCast, BitVec.toNat_ofNat]; omega
  have e3 : a &&& (2 ^ 64 - 1 - b) = sub a b := Nat.eq_of_testBit_eq fun j => by
    rw [testBit_sub _ _ ha hb, Nat.testBit_and]
    have h64 : b < 2 ^ 64 := by omega
    rw [show 2 ^ 64 - 1 - b = 2 ^ 64 - (b + 1) by omega, Nat.testBit_two_pow_sub_succ h64]
    by_cases hj : j < 64
    · simp [hj]
    · have : a.testBit j = false := Nat.testBit_lt_two_pow (Nat.lt_of_lt_of_le (show a < 2 ^ 32 by omega) (Nat.pow_le_pow_right (by decide) (by omega)))
      simp [this]
  rw [BitVec.toNat_and, BitVec.toNat_not, e1, e2, e3, IntKind.wrap_i64]
  omega
theorem shrB_bit (s k : Nat) (hs : s < 65536) : bits BinOp.and IntKind.i64 ((s : Int) / 2 ^ k) 1 = ((if s.testBit k then 1 else 0 : Nat) : Int) := by
  have e : ((s : Int) / 2 ^ k) = ((s / 2 ^ k : Nat) : Int) := by simp
  rw [e]
  have h1 : s / 2 ^ k < 4294967296 := Nat.lt_of_le_of_lt (Nat.div_le_self _ _) (by omega)
  have := i64_and_nat (s / 2 ^ k) 1 h1 (by decide)
  rw [show ((1 : Nat) : Int) = 1 from rfl] at this
  rw [this, Nat.and_one_is_mod, Nat.testBit_eq_decide_div_mod_eq]
  by_cases h : s / 2 ^ k % 2 = 1
  · simp [h]
  · have : s / 2 ^ k % 2 = 0 := by omega
    simp [this]
theorem bits_deg {n : Nat} (hn : n ≤ 16) {E : Nat → Nat → Bool} {v s : Nat} (hs : s < 65536) (hb : ∀ j, s.testBit j = (decide (j < n) && E v j)) : (bitsOf s).length = degN n E v := by
  have : bitsOf s = (List.range n).filter (E v) := rising_ext _ _ (bitsOf_rising _) (List.Pairwise.filter _ List.pairwise_lt_range) fun x => by
    rw [mem_left hs, hb, List.mem_filter, List.mem_range]
    simp
  rw [this]
  unfold degN
  rw [List.countP_eq_length_filter]

set_option maxRecDepth 100000 in
set_option maxHeartbeats 1000000 in
theorem l25Many_any (z : Int) (s : Nat) (hz : z = s) (hs : s < 65536) (w : World) :
    Calls Tryd.prog 111 #[.int .i64 z] w fun e w' => e = .returned (.int .i64 ((bitsOf s).length : Nat)) ∧ w = w' := by
  subst hz
  have hl := bitsOf_length s
  go_enter Tryd.func111, Tryd.ntmps111
  go_wp2
  go_loopw [0, 3] (fun x c wr => ∃ r k : Nat, x = .int .i64 r ∧ c = .int .i64 k ∧ r < 65536 ∧ k + (bitsOf r).length = (bitsOf s).length ∧ wr = w)
    (fun x _ _ => (bitsOf (intOf x).toNat).length)
  case atStart => exact ⟨s, 0, rfl, rfl, hs, by omega, rfl⟩
  case round =>
    obtain ⟨r, k, rfl, rfl, hr, hk, rfl⟩ := hrel
    by_cases h0 : r = 0
    · subst h0
      rw [bitsOf_zero] at hk
      simp only [List.length_nil, Nat.add_zero] at hk
      subst hk
      clear hl
      go_wp2
      go_ret
      exact ⟨rfl, rfl⟩
    · have hpos : (0 : Int) < (r : Int) := by omega
      have hstep := Lib.hid (bitsOf_step r h0 (by omega))
      have hand : bits BinOp.and IntKind.i64 (r : Int) ((r : Int) - 1) = ((r &&& (r - 1) : Nat) : Int) := by
        have := i64_and_nat r (r - 1) (by omega) (by omega)
        rw [show ((r - 1 : Nat) : Int) = (r : Int) - 1 by omega] at this
        exact this
      have hlt := and_lt16 r (r - 1) hr
      generalize r &&& (r - 1) = t at *
      have hkl : (bitsOf r).length = (bitsOf t).length + 1 := by rw [hstep.out]; rfl
      have HK := Lib.hid hk
      have HKL := Lib.hid hkl
      have hk32 : k ≤ 32 := by omega
      clear hk hkl hl
      go_wp2
      go_roundw
      case rel => exact ⟨t, k + 1, rfl, by go_num, hlt, by have := HK.out; have := HKL.out; omega, trivial⟩
      case measure => have := HKL.out; simp [intOf]; omega

set_option maxRecDepth 100000 in
set_option maxHeartbeats 1000000 in
theorem l27Low_any (z : Int) (s : Nat) (hz : z = s) (h0 : s ≠ 0) (hs : s < 65536) (w : World) :
    Calls Tryd.prog 55 #[.int .i64 z] w fun e w' => e = .returned (.int .i64 ((Lib.ctz 32 s : Nat) : Int)) ∧ w = w' := by
  subst hz
  obtain ⟨h1, h2, h3⟩ := testBit_ctz s h0 (by omega)
  generalize Lib.ctz 32 s = q at *
  have H3 := Lib.hid h3
  have H1 := Lib.hid h1
  have HS := Lib.hid hs
  clear h3 h1 hs h0
  go_enter Tryd.func55, Tryd.ntmps55
  go_wp2
  go_loopw [3] (fun c wr => ∃ k : Nat, c = .int .i64 k ∧ k ≤ q ∧ wr = w)
    (fun c _ => 40 - (intOf c).toNat)
  case atStart => exact ⟨0, rfl, Nat.zero_le _, rfl⟩
  case round =>
    obtain ⟨k, rfl, hk, rfl⟩ := hrel
    have hbit := shrB_bit s k HS.out
    by_cases hlt : k < q
    · have hf := H3.out k hlt
      rw [hf] at hbit
      simp only [Bool.false_eq_true, if_false, Int.natCast_zero] at hbit
      clear hf
      go_wp2
      go_roundw
      case rel => exact ⟨k + 1, by go_num, by omega, trivial⟩
      case measure => simp [intOf]; omega
    · obtain rfl : k = q := by omega
      rw [H1.out] at hbit
      simp only [if_true, Int.natCast_one] at hbit
      go_wp2
      go_ret
      exact ⟨rfl, rfl⟩

end Go.Proofs.YtjdlmjmhlbpooaaDoor
