/- Walks: size (of sets of sixteen), whether edges are left, canTrail (the program's). -/
import Derived.Test.YtjdlmjmhlbpooaaDoorTlQQ25
import Derived.Test.YtjdlmjmhlbpooaaDoorTlQQ16
import Derived.Lib.Tables
import Derived.Lib.BitFns
namespace Go.Proofs.YtjdlmjmhlbpooaaDoor
open Go.RowKit

theorem pop8_bitsT : ∀ n : Fin 256, Lib.pop8 (n.val : Int) = ((bitsOf n.val).length : Int) := by decide +kernel
theorem bits_count (s : Nat) : (bitsOf s).length = (List.range 32).countP fun i => s.testBit i := by
  unfold bitsOf
  rw [List.countP_eq_length_filter]
theorem bits_split (s : Nat) (hs : s < 65536) : (bitsOf s).length = (bitsOf (s / 256)).length + (bitsOf (s % 256)).length := by
  rw [bits_count, bits_count, bits_count]
  have e1 : List.range 32 = List.range 8 ++ (List.range 24).map (8 + ·) := by decide
  have e2 : List.range 32 = List.range 24 ++ (List.range 8).map (24 + ·) := by decide
  have h1 : (List.range 32).countP (fun i => (s % 256).testBit i) = (List.range 8).countP fun i => s.testBit i := by
    rw [e1, List.countP_append, List.countP_map]
    have a : (List.range 8).countP (fun i => (s % 256).testBit i) = (List.range 8).countP fun i => s.testBit i := List.countP_congr fun i hi => by
      have := List.mem_range.1 hi
      rw [show 256 = 2 ^ 8 by decide, Nat.testBit_mod_two_pow]
      simp [this]
    have b : (List.range 24).countP ((fun i => (s % 256).testBit i) ∘ (8 + ·)) = 0 := List.countP_eq_zero.2 fun i _ => by
      simp only [Function.comp]
      rw [show 256 = 2 ^ 8 by decide, Nat.testBit_mod_two_pow]
      simp
      intro h
      omega
    rw [a, b, Nat.add_zero]
  have h2 : (List.range 32).countP (fun i => (s / 256).testBit i) = (List.range 24).countP fun i => s.testBit (8 + i) := by
    rw [e2, List.countP_append, List.countP_map]
    have a : (List.range 24).countP (fun i => (s / 256).testBit i) = (List.range 24).countP fun i => s.testBit (8 + i) := List.countP_congr fun i _ => by
      rw [show 256 = 2 ^ 8 by decide, Nat.testBit_div_two_pow, Nat.add_comm]
    have b : (List.range 8).countP ((fun i => (s / 256).testBit i) ∘ (24 + ·)) = 0 := List.countP_eq_zero.2 fun i _ => by
      simp only [Function.comp]
      have : (s / 256).testBit (24 + i) = false := Nat.testBit_lt_two_pow (Nat.lt_of_lt_of_le (show s / 256 < 2 ^ 24 by omega) (Nat.pow_le_pow_right (by decide) (by omega)))
      simp [this]
    rw [a, b, Nat.add_zero]
  rw [h1, h2, e1, List.countP_append, List.countP_map, Nat.add_comm]
  rfl

set_option maxRecDepth 100000 in
set_option maxHeartbeats 1000000 in
theorem ones16_any (s : Nat) (hs : s < 65536) (w : World) :
    Calls Tryd.prog 131 #[.int .u32 s] w fun e w' => e = .returned (.int .i64 (bitsOf s).length) ∧ ∃ q, w' = w.drewN q := by
  obtain ⟨q, hq⟩ : ∃ q, q = s / 256 := ⟨_, rfl⟩
  obtain ⟨r, hr⟩ : ∃ r, r = s % 256 := ⟨_, rfl⟩
  have h24 : (s : Int) / 16777216 = 0 := by omega
  have h16 : (s : Int) / 65536 = 0 := by omega
  have h8 : (s : Int) / 256 = (q : Int) := by omega
  have k24 : (s : Int) / 2 ^ 24 = 0 := by omega
  have k16 : (s : Int) / 2 ^ 16 = 0 := by omega
  have k8 : (s : Int) / 2 ^ 8 = (q : Int) := by omega
  have a0 : bits BinOp.and IntKind.u32 0 255 = 0 := by decide
  have a255 : bits BinOp.and IntKind.u32 (s : Int) 255 = (r : Int) := by
    have e := u32_and_nat s 255 (by omega) (by decide)
    have e2 : s &&& 255 = r := by
      have := Nat.and_two_pow_sub_one_eq_mod s 8
      rw [show (2 ^ 8 - 1 : Nat) = 255 by decide] at this
      omega
    rw [e2] at e
    exact e
  have aq : bits BinOp.and IntKind.u32 (q : Int) 255 = (q : Int) := by
    have e := u32_and_nat q 255 (by omega) (by decide)
    have e2 : q &&& 255 = q := by
      have := Nat.and_two_pow_sub_one_eq_mod q 8
      rw [show (2 ^ 8 - 1 : Nat) = 255 by decide] at this
      omega
    rw [e2] at e
    exact e
  have HH : Hid ((Lib.pop8 0 + Lib.pop8 0 + Lib.pop8 (q : Int) + Lib.pop8 (r : Int)) % 256 = ((bitsOf s).length : Int)) := Lib.hid (by
    have e0 : Lib.pop8 0 = 0 := by decide +kernel
    have e1 := pop8_bitsT ⟨q, by omega⟩
    have e2 := pop8_bitsT ⟨r, by omega⟩
    have e3 := bits_split s hs
    have e4 := bitsOf_length s
    rw [← hq, ← hr] at e3
    simp only at e1 e2
    rw [e0, e1, e2]
    omega)
  have i0 : (0 : Int) ≤ (r : Int) := by omega
  have i1 : (r : Int) ≤ 255 := by omega
  have j0 : (0 : Int) ≤ (q : Int) := by omega
  have j1 : (q : Int) ≤ 255 := by omega
  clear hq hr
  go_enter Tryd.func131, Tryd.ntmps131
  go_wp2
  go_quiet (fail)
  go_wp2
  go_ret
  exact ⟨by rw [← HH.out]; rfl, _, rfl⟩

set_option maxHeartbeats 400000 in
theorem size16_any (z : Int) (s : Nat) (hz : z = s) (hs : s < 65536) (w : World) :
    Calls Tryd.prog 115 #[.int .u32 z] w fun e w' => e = .returned (.int .i64 (bitsOf s).length) ∧ ∃ q, w' = w.drewN q := by
  subst hz
  go_enter Tryd.func115, Tryd.ntmps115
  go_wp2_with (go_at_call 131; refine (ones16_any s hs _).mono ?_; rintro e w2 ⟨rfl, q, rfl⟩)
  go_ret
  exact ⟨rfl, _, rfl⟩

theorem decide_decT {p q : Prop} [Decidable p] (h : p ↔ q) : decide p = dec q := by
  by_cases k : q
  · rw [dec_true k]; simpa using h.2 k
  · rw [dec_false k]; simpa using fun x => k (h.1 x)
/-! ### Edges left -/
theorem bits0_deg {n : Nat} (hn : n ≤ 16) {E : Nat → Nat → Bool} {v s : Nat} (hs : s < 65536) (hb : ∀ j, s.testBit j = (decide (j < n) && E v j)) : s = 0 ↔ degN n E v = 0 := by
  rw [← bits_deg hn hs hb]
  constructor
  · intro h; subst h; rfl
  · intro h
    have h1 : bitsOf s = [] := List.eq_nil_of_length_eq_zero h
    rw [← mask_bitsOf hs, h1]
    rfl

set_option maxRecDepth 100000 in
set_option maxHeartbeats 1000000 in
theorem isEdge_any (z : Int) (s : Nat) (hz : z = s) (w : World) :
    Calls Tryd.prog 117 #[.int .u32 z] w fun e w' => e = .returned (.bool (dec (s ≠ 0))) ∧ w = w' := by
  subst hz
  have HD : Hid (((s : Int) != 0) = dec (s ≠ 0)) := Lib.hid (by
    by_cases h : s = 0
    · rw [dec_false (fun k => k h), h]; rfl
    · rw [dec_true h]; simp; exact h)
  go_enter Tryd.func117, Tryd.ntmps117
  go_wp2
  go_ret
  exact ⟨ret_bool HD.out, rfl⟩

set_option maxRecDepth 100000 in
set_option maxHeartbeats 2000000 in
theorem indexEdge_any (x : Value) (n : Nat) (E : Nat → Nat → Bool) (w : World) (hx : NE w x n E) :
    Calls Tryd.prog 132 #[x, .func (.func 117) #[] #[]] w fun e w' =>
      ∃ z : Int, e = .returned (.int .i64 z) ∧ (0 ≤ z ↔ ∃ j, j < n ∧ 0 < degN n E j) ∧ w = w' := by
  obtain ⟨xp, xc, rfl⟩ : ∃ p c, x = .slice p n c := by obtain ⟨p, c, e, _⟩ := hx.sl; exact ⟨p, c, e⟩
  have HX := Lib.hid hx
  have h16 := hx.le
  clear hx
  go_enter Tryd.func132, Tryd.ntmps132
  go_wp2
  go_loopw [8] (fun i wr => ∃ k : Nat, k ≤ n ∧ i = .int .i64 k ∧ Hid (∀ j, j < k → ¬ 0 < degN n E j) ∧ w = wr) (fun i _ => n - (intOf i).toNat)
  case atStart => exact ⟨0, Nat.zero_le _, rfl, Lib.hid (fun j hj => absurd hj (Nat.not_lt_zero _)), rfl⟩
  case round =>
    obtain ⟨k, hk, rfl, HNO, rfl⟩ := hrel
    by_cases hlt : k < n
    · obtain ⟨cb, co, s, rfl, hcell, hil, hib⟩ := HX.out.get hlt
      have HZ := Lib.hid (bits0_deg h16 hil hib)
      clear hib
      by_cases hs0 : s = 0
      · have hd := Lib.hid (dec_false (fun k : s ≠ 0 => k hs0))
        have HS0 := Lib.hid hs0
        clear hs0
        go_wp2_with (go_at_call 117; refine (isEdge_any _ s rfl _).mono ?_; rintro e w2 ⟨he, hw⟩; rw [hd.out] at he; subst he; subst hw)
        go_roundw
        case rel => exact ⟨k + 1, by omega, by go_num, Lib.hid (fun j hj => by
          by_cases e : j < k
          · exact HNO.out j e
          · obtain rfl : j = k := by omega
            have := HZ.out.1 HS0.out
            omega), by first | trivial | rfl⟩
        case measure => simp [intOf]; omega
      · have hd := Lib.hid (dec_true (show s ≠ 0 from hs0))
        have HS0 := Lib.hid hs0
        clear hs0
        go_wp2_with (go_at_call 117; refine (isEdge_any _ s rfl _).mono ?_; rintro e w2 ⟨he, hw⟩; rw [hd.out] at he; subst he; subst hw)
        go_ret
        exact ⟨k, rfl, ⟨fun _ => ⟨k, hlt, by have h1 := HZ.out; have h2 := HS0.out; omega⟩, fun _ => by omega⟩, rfl⟩
    · obtain rfl : k = n := by omega
      go_wp2
      go_ret
      exact ⟨-1, rfl, ⟨fun h => by omega, fun ⟨j, h1, h2⟩ => absurd h2 (HNO.out j h1)⟩, rfl⟩

set_option maxRecDepth 100000 in
set_option maxHeartbeats 1000000 in
theorem edgesLeft_any (x : Value) (n : Nat) (E : Nat → Nat → Bool) (w : World) (hx : NE w x n E) :
    Calls Tryd.prog 64 #[x] w fun e w' => e = .returned (.bool (dec (∃ j, j < n ∧ 0 < degN n E j))) ∧ w = w' := by
  have HC : Hid (∀ w0, w0 = w → Calls Tryd.prog 116 #[x, .func (.func 117) #[] #[]] w0 fun e w' => e = .returned (.bool (dec (∃ j, j < n ∧ 0 < degN n E j))) ∧ w0 = w') := Lib.hid (by
    rintro w0 rfl
    have HX := Lib.hid hx
    obtain ⟨xp, xc, rfl⟩ : ∃ p c, x = .slice p n c := by obtain ⟨p, c, e, _⟩ := hx.sl; exact ⟨p, c, e⟩
    clear hx
    go_enter Tryd.func116, Tryd.ntmps116
    go_wp2_with (go_at_call 132; refine (indexEdge_any _ n E _ HX.out).mono ?_; rintro e w2 ⟨z, rfl, hz, rfl⟩; have HZ := Lib.hid hz; clear hz)
    go_ret
    exact ⟨ret_bool (decide_decT HZ.out), rfl⟩)
  clear hx
  go_enter Tryd.func64, Tryd.ntmps64
  go_wp2_with (go_at_call 116; refine (HC.out _ rfl).mono ?_; rintro e w2 ⟨he, rfl⟩; subst he)
  go_ret
  exact ⟨rfl, rfl⟩

end Go.Proofs.YtjdlmjmhlbpooaaDoor
