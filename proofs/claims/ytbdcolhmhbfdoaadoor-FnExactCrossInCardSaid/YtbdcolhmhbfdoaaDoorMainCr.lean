/- Walk: the law FnExactCrossIn. -/
import Derived.Test.YtbdcolhmhbfdoaaDoorLawsG
import Derived.Test.YtbdcolhmhbfdoaaDoorPermD
namespace Go.Proofs.YtbdcolhmhbfdoaaDoor
open Go.RowKit

set_option maxRecDepth 100000 in
set_option maxHeartbeats 4000000 in
theorem lawCrossIn_any (av bv : Value) (a b : List Int) (x y : Int) (w : World) (ha : ArgN w av a) (hb : ArgN w bv b) (hT : Tab w) :
    Calls Tryd.prog 8 #[av, bv, .int .i64 x, .int .i64 y] w fun e w' => e = .returned (.bool true) ∧ Below w.heap.size w w' := by
  have ha0 := ha
  have hb0 := hb
  obtain ⟨ap, ac, rfl, ha63, _⟩ := ha
  obtain ⟨bp, bc, rfl, hb63, _⟩ := hb
  have HA := Lib.hid ha0
  have HB := Lib.hid hb0
  have HT := Lib.hid hT
  clear ha0 hb0 hT
  by_cases hl20 : 1048576 < (a.length : Int)
  · go_enter Tryd.func8, Tryd.ntmps8
    go_wp2
    go_ret
    exact ⟨rfl, Below.refl _ _⟩
  by_cases hl30 : 1048576 < (b.length : Int)
  · go_enter Tryd.func8, Tryd.ntmps8
    go_wp2
    go_ret
    exact ⟨rfl, Below.refl _ _⟩
  have hl21 : a.length ≤ 1048576 := by omega
  have hl31 : b.length ≤ 1048576 := by omega
  go_enter Tryd.func8, Tryd.ntmps8
  go_upto_region 9 with (first
    | (go_at_call 33; refine (implCrossIn_any _ _ a b x y _ (Nums.of_owns (ownsRow_below HX0.out hb6) rfl (by omega)) (Nums.of_owns HX1.out rfl (by omega)) (HT.out.keep HB6.out)).mono ?_; rintro e w7 ⟨rfl, hb7⟩; have HB7 := Lib.hid (HB6.out.trans (hb7.mono HB6.out.size)); have X07 := Lib.hid (ownsRow_below (ownsRow_below HX0.out hb6) hb7); have X17 := Lib.hid (ownsRow_below HX1.out hb7))
    | (go_at_call 14; refine (toInt64S_any _ b hl31 _ (HB.out.below HB5.out)).mono ?_; rintro e w6 ⟨x1, rfl, ⟨x1b, x1c, rfl⟩, ho6, hb6⟩; have HX1 := Lib.hid ho6; have HB6 := Lib.hid (HB5.out.trans (hb6.mono HB5.out.size)); clear ho6)
    | (go_at_call 14; refine (toInt64S_any _ a hl21 _ (HA.out.below HB4.out)).mono ?_; rintro e w5 ⟨x0, rfl, ⟨x0b, x0c, rfl⟩, ho5, hb5⟩; have HX0 := Lib.hid ho5; have HB5 := Lib.hid (HB4.out.trans (hb5.mono HB4.out.size)); clear ho5)
    | (go_at_call 32; refine (specCrossIn_any _ _ a b x y (by omega) _ (Nums.of_owns (ownsRow_below ho2 hb3) rfl (by omega)) (Nums.of_owns ho3 rfl (by omega))).mono ?_; rintro e w4 ⟨rfl, hb4⟩; have HB4 := Lib.hid ((hb2.trans (hb3.mono hb2.size)).trans (hb4.mono (Nat.le_trans hb2.size hb3.size))))
    | (go_at_call 14; refine (toInt64S_any _ b hl31 _ (HB.out.below hb2)).mono ?_; rintro e w3 ⟨y1, rfl, ⟨y1b, y1c, rfl⟩, ho3, hb3⟩)
    | (go_at_call 14; refine (toInt64S_any _ a hl21 _ HA.out).mono ?_; rintro e w2 ⟨y0, rfl, ⟨y0b, y0c, rfl⟩, ho2, hb2⟩))
  clear hb2 hb3 hb4 hb5 hb6 hb7 ho2 ho3
  generalize hz : dec (CrIn a b x y) = z
  have hzz : (z != z) = false := by simp
  clear hz
  go_wp2_with (first
    | (go_at_call 17; refine (eqInt64S_b _ _ b b rfl _ (Nums.of_owns (ownsRow_below (ownsRow_below X17.out hb9) hb10) rfl (by omega)) (Nums.of_owns ho10 rfl (by omega))).mono ?_; rintro e w11 ⟨rfl, hb11⟩)
    | (go_at_call 14; refine (toInt64S_any _ b hl31 _ ((HB.out.below HB7.out).below hb9)).mono ?_; rintro e w10 ⟨z1, rfl, ⟨z1b, z1c, rfl⟩, ho10, hb10⟩)
    | (go_at_call 17; refine (eqInt64S_b _ _ a a rfl _ (Nums.of_owns (ownsRow_below X07.out hb8) rfl (by omega)) (Nums.of_owns ho8 rfl (by omega))).mono ?_; rintro e w9 ⟨rfl, hb9x⟩; have hb9 := hb8.trans (hb9x.mono hb8.size))
    | (go_at_call 14; refine (toInt64S_any _ a hl21 _ (HA.out.below HB7.out)).mono ?_; rintro e w8 ⟨z0, rfl, ⟨z0b, z0c, rfl⟩, ho8, hb8⟩))
  go_ret
  exact ⟨rfl, HB7.out.trans (((hb9.trans (hb10.mono hb9.size)).trans (hb11.mono (Nat.le_trans hb9.size hb10.size))).mono HB7.out.size)⟩

end Go.Proofs.YtbdcolhmhbfdoaaDoor
