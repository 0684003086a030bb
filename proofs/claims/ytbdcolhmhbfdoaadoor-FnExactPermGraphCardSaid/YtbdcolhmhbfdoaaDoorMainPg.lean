/- Walk: the law FnExactPermGraph. -/
import Derived.Test.YtbdcolhmhbfdoaaDoorLawsG
import Derived.Test.YtbdcolhmhbfdoaaDoorLawsF
import Derived.Test.YtbdcolhmhbfdoaaDoorPermD
namespace Go.Proofs.YtbdcolhmhbfdoaaDoor
open Go.RowKit

set_option maxRecDepth 100000 in
set_option maxHeartbeats 4000000 in
theorem lawPermGraph_any (av bv : Value) (a b : List Int) (w : World) (ha : ArgN w av a) (hb : ArgN w bv b) (hT : Tab w) :
    Calls Tryd.prog 9 #[av, bv] w fun e w' => e = .returned (.bool true) ∧ Below w.heap.size w w' := by
  have ha0 := ha
  have hb0 := hb
  obtain ⟨ap, ac, rfl, ha63, _⟩ := ha
  obtain ⟨bp, bc, rfl, hb63, _⟩ := hb
  have HA := Lib.hid ha0
  have HB := Lib.hid hb0
  have HT := Lib.hid hT
  clear ha0 hb0 hT
  by_cases hl20 : 1048576 < (a.length : Int)
  · go_enter Tryd.func9, Tryd.ntmps9
    go_wp2
    go_ret
    exact ⟨rfl, Below.refl _ _⟩
  by_cases hl30 : 1048576 < (b.length : Int)
  · go_enter Tryd.func9, Tryd.ntmps9
    go_wp2
    go_ret
    exact ⟨rfl, Below.refl _ _⟩
  have hl21 : a.length ≤ 1048576 := by omega
  have hl31 : b.length ≤ 1048576 := by omega
  go_enter Tryd.func9, Tryd.ntmps9
  go_upto_region 9 with (first
    | (go_at_call 35; refine (implPermGraph_any _ _ a b _ (Nums.of_owns (ownsRow_below HX0.out hb5i) rfl (by omega)) (Nums.of_owns HX1.out rfl (by omega)) (HT.out.keep HB5i.out)).mono ?_; rintro e w6 ⟨x1, gx, okx, rfl, hS6, hd6, hgl6, hrl6, hb6⟩; have HS6 := Lib.hid hS6; have HD6 := Lib.hid (DGh.of hd6); obtain ⟨x1p, x1c, rfl⟩ := hd6.shape; have HR6 := Lib.hid hrl6; clear hS6 hd6 hrl6)
    | (go_at_call 14; refine (toInt64S_any _ b hl31 _ (HB.out.below HB5.out)).mono ?_; rintro e w5i ⟨xi, rfl, ⟨xib, xic, rfl⟩, ho5i, hb5i⟩; have HX1 := Lib.hid ho5i; have HB5i := Lib.hid (HB5.out.trans (hb5i.mono HB5.out.size)); clear ho5i)
    | (go_at_call 14; refine (toInt64S_any _ a hl21 _ (HA.out.below HB4.out)).mono ?_; rintro e w5 ⟨x0, rfl, ⟨x0b, x0c, rfl⟩, ho5, hb5⟩; have HX0 := Lib.hid ho5; have HB5 := Lib.hid (HB4.out.trans (hb5.mono HB4.out.size)); clear ho5)
    | (go_at_call 34; refine (specPermGraph_any _ _ a b _ (Nums.of_owns (ownsRow_below ho2 hb3) rfl (by omega)) (Nums.of_owns ho3 rfl (by omega))).mono ?_; rintro e w4 ⟨y1, gy, oky, rfl, hS4, hy4, hgl4, hrl4, hb4⟩; have HS4 := Lib.hid hS4; obtain ⟨y1p, y1c, rfl⟩ := hy4.shape; have HY4 := Lib.hid (hy4.below (below_alloc w4 (.cells #[.slice y1p gy.length y1c] 27))); have B4 := Lib.hid (Box.new w4 (.slice y1p gy.length y1c) 27); have HB4 := Lib.hid (((hb2.trans (hb3.mono hb2.size)).trans (hb4.mono (Nat.le_trans hb2.size hb3.size))).alloc (Nat.le_trans (Nat.le_trans hb2.size hb3.size) hb4.size) (.cells #[.slice y1p gy.length y1c] 27)); clear hS4 hy4)
    | (go_at_call 14; refine (toInt64S_any _ b hl31 _ (HB.out.below hb2)).mono ?_; rintro e w3 ⟨yi, rfl, ⟨yib, yic, rfl⟩, ho3, hb3⟩)
    | (go_at_call 14; refine (toInt64S_any _ a hl21 _ HA.out).mono ?_; rintro e w2 ⟨y0, rfl, ⟨y0b, y0c, rfl⟩, ho2, hb2⟩))
  obtain ⟨hxy1, hxy2⟩ := permS_det HS6.out HS4.out
  subst hxy1
  subst hxy2
  obtain ⟨W4, hW4⟩ : ∃ W4, W4 = w4.alloc (.cells #[.slice y1p gx.length y1c] 27) := ⟨_, rfl⟩
  have z4 : W4.heap.size = w4.heap.size + 1 := by rw [hW4, size_alloc]
  rw [← hW4] at HY4 B4 HB4 hb5 HX0
  have s5 := hb5.size
  have s5i := hb5i.size
  have s6 := hb6.size
  have hbb : (okx != okx) = false := by simp
  have hb56 := hb5.trans (hb5i.mono s5)
  have YB6 := Lib.hid ((hb56.trans (hb6.mono (by omega))).alloc (by omega) (.cells #[.slice x1p gx.length x1c] 27))
  have B7 := Lib.hid (Box.new w6 (.slice x1p gx.length x1c) 27)
  have X16 := Lib.hid (ownsRow_below (ownsRow_below HX1.out hb6) (below_alloc w6 (.cells #[.slice x1p gx.length x1c] 27)))
  have X06 := Lib.hid (ownsRow_below (ownsRow_below (ownsRow_below HX0.out hb5i) hb6) (below_alloc w6 (.cells #[.slice x1p gx.length x1c] 27)))
  have D6 := Lib.hid (HD6.out.below (below_alloc w6 (.cells #[.slice x1p gx.length x1c] 27)))
  have hr1000 : ∀ j, (row gx j).length ≤ 1000 := fun j => by have := HR6.out j; omega
  have HR := Lib.hid hr1000
  have q4 := (B4.out.below YB6.out (by omega)).cell
  clear hb2 hb3 hb4 hb5 hb5i hb56 hb6 ho2 ho3 hrl4 hr1000
  go_upto_region 11 with (go_at_call 16; refine (eqGraph_b _ _ gx _ (D6.out.dg.gr (by omega) (fun j hj => by have := HR.out j; omega)) ((HY4.out.below YB6.out).gr (by omega) (fun j hj => by have := HR.out j; omega))).mono ?_; rintro e w8 ⟨rfl, hb8⟩)
  have YB8 := Lib.hid (YB6.out.trans (hb8.mono YB6.out.size))
  have B78 := Lib.hid (B7.out.keep hb8)
  have X18 := Lib.hid (ownsRow_below X16.out hb8)
  have X08 := Lib.hid (ownsRow_below X06.out hb8)
  have D8 := Lib.hid (D6.out.below hb8)
  have s8 := hb8.size
  rw [size_alloc] at s8
  clear hb8 q4
  go_upto_region 13 with (first
    | (go_at_call 17; refine (eqInt64S_b _ _ a a rfl _ (Nums.of_owns (ownsRow_below X08.out hbi) rfl (by omega)) (Nums.of_owns hoi rfl (by omega))).mono ?_; rintro e wj ⟨rfl, hbj⟩)
    | (go_at_call 14; refine (toInt64S_any _ a hl21 _ (HA.out.below (HB4.out.trans (YB8.out.mono HB4.out.size)))).mono ?_; rintro e wi ⟨zi, rfl, ⟨zib, zic, rfl⟩, hoi, hbi⟩))
  have hbc := hbi.trans (hbj.mono hbi.size)
  have sc := hbc.size
  have YBc := Lib.hid (YB8.out.trans (hbc.mono YB8.out.size))
  have X1c := Lib.hid (ownsRow_below X18.out hbc)
  have X0c := Lib.hid (ownsRow_below X08.out hbc)
  have Dc := Lib.hid (D8.out.below hbc)
  have B7c := Lib.hid (B78.out.keep hbc)
  clear hbi hbj hbc hoi
  go_upto_region 15 with (first
    | (go_at_call 17; refine (eqInt64S_b _ _ b b rfl _ (Nums.of_owns (ownsRow_below X1c.out hbk) rfl (by omega)) (Nums.of_owns hok rfl (by omega))).mono ?_; rintro e wl ⟨rfl, hbl⟩)
    | (go_at_call 14; refine (toInt64S_any _ b hl31 _ (HB.out.below (HB4.out.trans (YBc.out.mono HB4.out.size)))).mono ?_; rintro e wk ⟨zk, rfl, ⟨zkb, zkc, rfl⟩, hok, hbk⟩))
  have hbij := hbk.trans (hbl.mono hbk.size)
  have sj := hbij.size
  have YBj := Lib.hid (YBc.out.trans (hbij.mono YBc.out.size))
  have X1j := Lib.hid (ownsRow_below X1c.out hbij)
  have X0j := Lib.hid (ownsRow_below X0c.out hbij)
  have Dj := Lib.hid (Dc.out.below hbij)
  have B7j := Lib.hid (B7c.out.keep hbij)
  clear hbk hbl hbij hok
  go_upto_region 17 with (go_at_call 19; refine (markInt64S_any _ a.length _ _ 1 (by omega) (by decide) (by decide) _ X0j.out).mono ?_; rintro e w10 ⟨rfl, ho10, hg10, hz10⟩)
  have hap := Apart.of_grown (lo := W4.heap.size) (hi := w5.heap.size) X0j.out hg10 (by omega) (fun k hk => (HX0.out.lt k hk).2)
  have sp := hap.size
  have YBp := Lib.hid (YBj.out.trans (hap.below (by omega)))
  have X1p := Lib.hid (ownsRow_apart_hi X1j.out hap (by omega))
  have Dp0 := Lib.hid (Dj.out.apart hap (by omega))
  have B7p0 := Lib.hid (B7j.out.apart hap (by omega))
  clear hap ho10 hg10 hz10
  go_upto_region 18 with (go_at_call 19; refine (markInt64S_any _ b.length _ _ (1 + (a.length : Int)) (by omega) (by omega) (by omega) _ X1p.out).mono ?_; rintro e w10i ⟨rfl, ho10i, hg10i, hz10i⟩)
  have hapi := Apart.of_grown (lo := W4.heap.size) (hi := w5i.heap.size) X1p.out hg10i (by omega) (fun k hk => (HX1.out.lt k hk).2)
  have YBpi := Lib.hid (YBp.out.trans (hapi.below (by omega)))
  have Dp := Lib.hid (Dp0.out.apart hapi (Nat.le_refl _))
  have B7p := Lib.hid (B7p0.out.apart hapi (by omega))
  have spi := hapi.size
  have q7 := B7p.out.cell
  have q4 := (B4.out.below YBpi.out (by omega)).cell
  have z2n : ¬ (1 + (a.length : Int) + (b.length : Int)) < 0 := by omega
  clear hapi ho10i hg10i hz10i
  go_upto_region 21 with (go_at_call 16; refine (eqGraph_b _ _ gx _ (Dp.out.dg.gr (by omega) (fun j hj => by have := HR.out j; omega)) ((HY4.out.below YBpi.out).gr (by omega) (fun j hj => by have := HR.out j; omega))).mono ?_; rintro e w11 ⟨rfl, hb11⟩)
  have s11 := hb11.size
  have YB11 := Lib.hid (YBpi.out.trans (hb11.mono YBpi.out.size))
  have D11 := Lib.hid (Dp.out.below hb11)
  have B711 := Lib.hid (B7p.out.keep hb11)
  have q711 := B711.out.cell
  clear hb11 q7 q4
  go_upto_region 22 with (go_at_call 18; refine (markGraph_x _ gx _ _ 1 (by omega) HR.out (by decide) (by decide) _ D11.out).mono ?_; rintro e w12 ⟨rfl, hd12, hap12⟩)
  have s12 := hap12.size
  have YB12 := Lib.hid (YB11.out.trans ((hap12.below (by omega)).mono (by omega)))
  have B712 := Lib.hid (B711.out.apart hap12 (Nat.le_refl _))
  have q712 := B712.out.cell
  have G12 := Lib.hid (hd12.dg.gr (by rw [markG_length]; omega) (fun j hj => by rw [markG_length] at hj; rw [row_markG hj, marks_length]; have := HR.out j; omega))
  have HB12 := Lib.hid (HB4.out.trans (YB12.out.mono HB4.out.size))
  have q412 := (B4.out.below YB12.out (by omega)).cell
  have hn1 : ¬ (1 + (preL gx gx.length : Int)) < 0 := by omega
  clear hd12 hap12 q711
  go_wp2_with (first
    | (go_at_call 20; refine (heldGraph_x _ gx 1 (by omega) HR.out (by decide) (by decide) _ (G12.out.below (hb16 : Below _ w12 w16))).mono ?_; rintro e w17 ⟨rfl, hb17⟩; have hbz := hb16.trans (hb17.mono hb16.size))
    | (go_at_call 16; refine (eqGraph_b _ _ gx _ ((hd15.below (below_alloc w15 (.cells #[.slice x2p gx.length x2c] 27))).gr (by omega) (fun j hj => by have := HR.out j; omega)) ((HY4.out.below (YB12.out.trans (hb15a.mono YB12.out.size))).gr (by omega) (fun j hj => by have := HR.out j; omega))).mono ?_; rintro e w16x ⟨rfl, hb16x⟩; obtain ⟨w16, hw16⟩ : ∃ w16, w16 = w16x := ⟨_, rfl⟩; subst hw16; have hb16 : Below w12.heap.size w12 w16 := hb15a.trans (hb16x.mono hb15a.size); have q716 := hb16.at' q712)
    | (go_at_call 35; refine (implPermGraph_any _ _ a b _ (Nums.of_owns (ownsRow_below ho14 hb14i) rfl (by omega)) (Nums.of_owns ho14i rfl (by omega)) (((HT.out.keep HB13.out).keep hb14).keep hb14i)).mono ?_; rintro e w15 ⟨x2, gx3, okx3, rfl, hS15, hd15, _, _, hb15⟩; obtain ⟨hd1, hd2⟩ := permS_det hS15 HS6.out; rw [hd1] at hd15; obtain ⟨x2p, x2c, rfl⟩ := hd15.shape; rw [hd2]; have hb15b : Below w12.heap.size w12 w15 := ((hb13.trans (hb14.mono hb13.size)).trans (hb14i.mono (Nat.le_trans hb13.size hb14.size))).trans (hb15.mono (Nat.le_trans (Nat.le_trans hb13.size hb14.size) hb14i.size)); have hb15a : Below w12.heap.size w12 (w15.alloc (.cells #[.slice x2p gx.length x2c] 27)) := hb15b.alloc hb15b.size _; have q415 := fun o => (below_alloc w15 o).at' (hb15b.at' q412); clear hS15 hd1 hd2)
    | (go_at_call 14; refine (toInt64S_any _ b hl31 _ ((HB.out.below HB13.out).below hb14)).mono ?_; rintro e w14i ⟨y14i, rfl, ⟨y14b, y14cc, rfl⟩, ho14i, hb14i⟩)
    | (go_at_call 14; refine (toInt64S_any _ a hl21 _ (HA.out.below HB13.out)).mono ?_; rintro e w14 ⟨y14, rfl, ⟨y14p, y14c, rfl⟩, ho14, hb14⟩)
    | (go_at_call 20; refine (heldGraph_x _ gx 1 (by omega) HR.out (by decide) (by decide) _ G12.out).mono ?_; rintro e w13 ⟨rfl, hb13⟩; have HB13 := Lib.hid (HB12.out.trans (hb13.mono HB12.out.size))))
  go_ret
  exact ⟨rfl, HB12.out.trans (hbz.mono HB12.out.size)⟩

end Go.Proofs.YtbdcolhmhbfdoaaDoor
