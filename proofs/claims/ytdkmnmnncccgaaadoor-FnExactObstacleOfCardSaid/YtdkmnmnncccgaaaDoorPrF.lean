/- Walk: the program says whether a vertex may be pruned as a twin. -/
import Derived.Test.YtdkmnmnncccgaaaDoorPrC
namespace Go.Proofs.YtdkmnmnncccgaaaDoor
open Go.RowKit

set_option maxRecDepth 100000 in
set_option maxHeartbeats 2000000 in
theorem canPrune_three (p : Option Addr) (c : Nat) (y z : Int) (g : List (List Int)) (s v b : Nat) (hy : y = s) (hz : z = v) (hv : s.testBit v = true) (hb : s.testBit b = true) (hbv : b ≠ v) (w : World) (hx : NetI w (.slice p g.length c) g s) :
    Calls Tryd.prog 71 #[.slice p g.length c, .int .u32 y, .int .i64 z, .int .i64 b, .int .i64 3] w fun e w' => e = .returned (.bool (dec (GoP g (natInts (bitsOf s)) v b 3))) ∧ Below w.heap.size w w' := by
  subst hy; subst hz
  have hvl := hx.ok.inn v hv
  have hbl := hx.ok.inn b hb
  obtain ⟨ab, ao, av, rfl, hc, hand⟩ := hx.get hvl
  obtain ⟨_, _, av2, e9, hc2, hand2⟩ := hx.get hbl
  cases e9
  have h16 := hx.ok.ok.le
  have hs16 := hx.ok.s16
  have HE := Lib.hid (dec_congr (goP_threeN hx.ok hv hb hbv))
  have e0 : (0 : Int) ≤ (v : Int) := by omega
  have e1 : (v : Int) < (g.length : Int) := by omega
  have e2 : (0 : Int) ≤ (b : Int) := by omega
  have e3 : (b : Int) < (g.length : Int) := by omega
  have hwr : IntKind.i64.wrap ((g.length : Int) - 1) = (g.length : Int) - 1 := by rw [IntKind.wrap_i64]; omega
  have hd := dec_true (show 0 ≤ (b : Int) ∧ (b : Int) ≤ (g.length : Int) - 1 by omega)
  have hbv' : (((b : Nat) : Int) == ((v : Nat) : Int)) = false := by simpa using fun e => hbv (by omega)
  have hb32 : b < 32 := by omega
  clear hx hv
  generalize mask (row g v) &&& s = M at hand HE
  generalize mask (row g b) &&& s = M2 at hand2 HE
  by_cases h0 : M = M2
  · have h0' : ((M : Int) == (M2 : Int)) = true := by simp [h0]
    have H0 := Lib.hid h0
    clear h0
    go_enter Tryd.func71, Tryd.ntmps71
    go_wp2_with (first
      | (go_at_call 76; refine (inRange_any _ _ _ _).mono ?_; rintro e w2 ⟨he, rfl⟩; rw [hd] at he; subst he)
      | (go_at_call 82; refine (has_any _ _ s b rfl rfl (by omega) hb32 _).mono ?_; rintro e w3 ⟨he, rfl⟩; rw [hb] at he; subst he))
    go_ret
    exact ⟨ret_bool (by rw [HE.out]; exact true_dec H0.out), Below.refl _ _⟩
  · have h0' : ((M : Int) == (M2 : Int)) = false := by simpa using fun e => h0 (by omega)
    have H0 := Lib.hid h0
    clear h0
    go_enter Tryd.func71, Tryd.ntmps71
    go_wp2_with (first
      | (go_at_call 76; refine (inRange_any _ _ _ _).mono ?_; rintro e w2 ⟨he, rfl⟩; rw [hd] at he; subst he)
      | (go_at_call 82; refine (has_any _ _ s b rfl rfl (by omega) hb32 _).mono ?_; rintro e w3 ⟨he, rfl⟩; rw [hb] at he; subst he))
    go_ret
    exact ⟨ret_bool (by rw [HE.out]; exact false_dec H0.out), Below.refl _ _⟩

set_option maxRecDepth 100000 in
set_option maxHeartbeats 4000000 in
theorem canPrune_four (p : Option Addr) (c : Nat) (y z : Int) (g : List (List Int)) (s v b : Nat) (hy : y = s) (hz : z = v) (hv : s.testBit v = true) (hb : s.testBit b = true) (hbv : b ≠ v) (w : World) (hx : NetI w (.slice p g.length c) g s) :
    Calls Tryd.prog 71 #[.slice p g.length c, .int .u32 y, .int .i64 z, .int .i64 b, .int .i64 4] w fun e w' => e = .returned (.bool (dec (GoP g (natInts (bitsOf s)) v b 4))) ∧ Below w.heap.size w w' := by
  subst hy; subst hz
  have hvl := hx.ok.inn v hv
  have hbl := hx.ok.inn b hb
  obtain ⟨ab, ao, av, rfl, hc, hand⟩ := hx.get hvl
  obtain ⟨_, _, av2, e9, hc2, hand2⟩ := hx.get hbl
  cases e9
  have h16 := hx.ok.ok.le
  have hs16 := hx.ok.s16
  have HE := Lib.hid (dec_congr (goP_fourN hx.ok hv hb hbv))
  have e0 : (0 : Int) ≤ (v : Int) := by omega
  have e1 : (v : Int) < (g.length : Int) := by omega
  have e2 : (0 : Int) ≤ (b : Int) := by omega
  have e3 : (b : Int) < (g.length : Int) := by omega
  have hwr : IntKind.i64.wrap ((g.length : Int) - 1) = (g.length : Int) - 1 := by rw [IntKind.wrap_i64]; omega
  have hd := dec_true (show 0 ≤ (b : Int) ∧ (b : Int) ≤ (g.length : Int) - 1 by omega)
  have hbv' : (((b : Nat) : Int) == ((v : Nat) : Int)) = false := by simpa using fun e => hbv (by omega)
  have hb32 : b < 32 := by omega
  have hv32 : v < 32 := by omega
  have c1 := Lib.hid (fun w => one_any (b : Int) b rfl hb32 w)
  have c2 := Lib.hid (fun w => one_any (v : Int) v rfl hv32 w)
  have m1 : mask (row g v) &&& s < 4294967296 := Nat.lt_of_le_of_lt Nat.and_le_right (by omega)
  have m2 : mask (row g b) &&& s < 4294967296 := Nat.lt_of_le_of_lt Nat.and_le_right (by omega)
  have a1 : bits BinOp.andNot IntKind.u32 ((mask (row g v) &&& s : Nat) : Int) ((2 ^ b : Nat) : Int) = ((sub (mask (row g v) &&& s) (2 ^ b) : Nat) : Int) := u32_andNot_nat (mask (row g v) &&& s) (2 ^ b) m1 (pow_lt32 b hb32)
  have a2 : bits BinOp.andNot IntKind.u32 ((mask (row g b) &&& s : Nat) : Int) ((2 ^ v : Nat) : Int) = ((sub (mask (row g b) &&& s) (2 ^ v) : Nat) : Int) := u32_andNot_nat (mask (row g b) &&& s) (2 ^ v) m2 (pow_lt32 v hv32)
  have HH := Lib.hid (fun w => has_any ((mask (row g v) &&& s : Nat) : Int) (b : Int) (mask (row g v) &&& s) b rfl rfl m1 hb32 w)
  clear hx hv
  generalize mask (row g v) &&& s = M at hand HE a1 m1 HH
  generalize mask (row g b) &&& s = M2 at hand2 HE a2 m2
  generalize 2 ^ b = pb at *
  generalize 2 ^ v = pv at *
  go_enter Tryd.func71, Tryd.ntmps71
  go_upto_region 13 with (first
    | (go_at_call 76; refine (inRange_any _ _ _ _).mono ?_; rintro e w2 ⟨he, rfl⟩; rw [hd] at he; subst he)
    | (go_at_call 82; refine (has_any _ _ s b rfl rfl (by omega) hb32 _).mono ?_; rintro e w3 ⟨he, rfl⟩; rw [hb] at he; subst he))
  by_cases hM : M.testBit b = true
  case neg =>
    have hM := Bool.eq_false_iff.2 hM
    have HM := Lib.hid hM
    go_wp2_with (go_at_call 82; refine (HH.out _).mono ?_; rintro e w4 ⟨he, rfl⟩; rw [hM] at he; subst he)
    go_ret
    exact ⟨ret_bool (by rw [HE.out]; exact false_dec fun h => by rw [HM.out] at h; exact absurd h.1 (by decide)), Below.refl _ _⟩
  have HM := Lib.hid hM
  by_cases h0 : sub M pb = sub M2 pv
  · have h0' : (((sub M pb : Nat) : Int) == ((sub M2 pv : Nat) : Int)) = true := by simp [h0]
    have HF := Lib.hid (HE.out.trans (dec_true ⟨hM, h0⟩))
    clear h0
    generalize sub M pb = x1 at *
    generalize sub M2 pv = x2 at *
    go_wp2_with (first
      | (go_at_call 82; refine (HH.out _).mono ?_; rintro e w4 ⟨he, rfl⟩; rw [hM] at he; subst he)
      | (go_at_call 56; refine (c1.out _).mono ?_; rintro e w5 ⟨rfl, rfl⟩)
      | (go_at_call 56; refine (c2.out _).mono ?_; rintro e w6 ⟨rfl, rfl⟩))
    go_ret
    exact ⟨ret_bool HF.out.symm, Below.refl _ _⟩
  · have h0' : (((sub M pb : Nat) : Int) == ((sub M2 pv : Nat) : Int)) = false := by simpa using fun e => h0 (by omega)
    have HF := Lib.hid (HE.out.trans (dec_false fun h => h0 h.2))
    clear h0
    generalize sub M pb = x1 at *
    generalize sub M2 pv = x2 at *
    go_wp2_with (first
      | (go_at_call 82; refine (HH.out _).mono ?_; rintro e w4 ⟨he, rfl⟩; rw [hM] at he; subst he)
      | (go_at_call 56; refine (c1.out _).mono ?_; rintro e w5 ⟨rfl, rfl⟩)
      | (go_at_call 56; refine (c2.out _).mono ?_; rintro e w6 ⟨rfl, rfl⟩))
    go_ret
    exact ⟨ret_bool HF.out.symm, Below.refl _ _⟩

end Go.Proofs.YtdkmnmnncccgaaaDoor
