/- Walk: the law FnExactFourModel: a model and whether there is one. -/
import Derived.Test.YtiklocamfgopbaaDoorFoQ28
import Derived.Test.YtiklocamfgopbaaDoorFoQ27
import Derived.Test.YtiklocamfgopbaaDoorFoQ36
import Derived.Test.YtiklocamfgopbaaDoorFoQ43
namespace Go.Proofs.YtiklocamfgopbaaDoor
open Go.RowKit

set_option maxRecDepth 100000 in
set_option maxHeartbeats 4000000 in
theorem lawFourModel_any (v : Value) (g : List (List Int)) (w : World) (hg : ArgG w v g) (hT : Tab w) :
    Calls Tryd.prog 3 #[v] w fun e w' => e = .returned (.bool true) ∧ Below w.heap.size w w' := by
  have hg0 := hg
  obtain ⟨u, rfl, hr⟩ := hg
  obtain ⟨p, c, vals, rfl, _⟩ := hr
  have hbA := Lib.hid (below_alloc w (.cells #[.slice p g.length c] 24))
  have BX := Lib.hid (Box.new w (.slice p g.length c) 24)
  have HA := Lib.hid hg0
  have HT := Lib.hid hT
  clear hg0 hT
  go_enter Tryd.func3, Tryd.ntmps3
  go_upto_region 3 with (go_at_call 5; refine (szGraph_any _ g 1048576 (by decide) (by decide) _ (HA.out.below hbA.out)).mono ?_; rintro e w2 ⟨⟨z, rfl, hz1, hz2, hz3⟩, hb2⟩)
  have HB2 := Lib.hid (hbA.out.trans (hb2.mono hbA.out.size))
  have BX2 := Lib.hid (BX.out.keep hb2)
  obtain ⟨bc2, _, bl2, _⟩ := BX2.out
  clear hb2
  by_cases hz : z < 0
  · clear hz3
    go_wp2
    go_ret
    exact ⟨rfl, HB2.out⟩
  obtain ⟨hl1, hl2⟩ := hz3 (by omega)
  have L1 : g.length ≤ 1048576 := by omega
  have L2 := Lib.hid (show ∀ j, j < g.length → (row g j).length ≤ 1048576 from fun j hj => by have := hl2 j hj; omega)
  clear hl1 hl2 hz3
  go_upto_region 8 with (first
    | (go_at_call 8; refine (implFourModel_any _ g _ (HX5.out.own.gr (by omega) (fun j hj => by have := L2.out j hj; omega)) (HT.out.keep HB5.out)).mono ?_; rintro e w6 ⟨x1, gx, okx, rfl, hS6, hd6, hgl6, hrl6, hb6⟩; have HS6 := Lib.hid hS6; have HD6 := Lib.hid (DGh.of hd6); obtain ⟨x1p, x1c, rfl⟩ := hd6.shape; have HR6 := Lib.hid hrl6; clear hS6 hd6 hrl6)
    | (go_at_call 7; refine (toGraph_any _ g L1 L2.out _ (HA.out.below HB4.out)).mono ?_; rintro e w5 ⟨x0, rfl, ho5, hb5⟩; obtain ⟨x0p, x0c, rfl⟩ := ho5.shape; have HX5 := Lib.hid ((InG.of_own ho5).below (below_alloc w5 (.cells #[.slice x0p g.length x0c] 30))); have HB5 := Lib.hid ((HB4.out.trans (hb5.mono HB4.out.size)).alloc (Nat.le_trans HB4.out.size hb5.size) (.cells #[.slice x0p g.length x0c] 30)); clear ho5)
    | (go_at_call 6; refine (specFourModel_any _ g _ (ho3.gr (by omega) (fun j hj => by have := L2.out j hj; omega))).mono ?_; rintro e w4 ⟨y1, gy, oky, rfl, hS4, hy4, hgl4, hrl4, hb4⟩; have HS4 := Lib.hid hS4; obtain ⟨y1p, y1c, rfl⟩ := hy4.shape; have HY4 := Lib.hid (hy4.below (below_alloc w4 (.cells #[.slice y1p gy.length y1c] 27))); have BX4 := Lib.hid (((BX2.out.keep hb3).keep hb4).alloc (.cells #[.slice y1p gy.length y1c] 27)); have bc4 := BX4.out.cell; have B4 := Lib.hid (Box.new w4 (.slice y1p gy.length y1c) 27); have HB4 := Lib.hid (((HB2.out.trans (hb3.mono HB2.out.size)).trans (hb4.mono (Nat.le_trans HB2.out.size hb3.size))).alloc (Nat.le_trans (Nat.le_trans HB2.out.size hb3.size) hb4.size) (.cells #[.slice y1p gy.length y1c] 27)); clear hS4 hy4)
    | (go_at_call 7; refine (toGraph_any _ g L1 L2.out _ (HA.out.below HB2.out)).mono ?_; rintro e w3 ⟨y0, rfl, ho3, hb3⟩; obtain ⟨y0p, y0c, rfl⟩ := ho3.shape))
  obtain ⟨hxy1, hxy2⟩ := fourS_det HS6.out HS4.out
  subst hxy1
  subst hxy2
  obtain ⟨W4, hW4⟩ : ∃ W4, W4 = w4.alloc (.cells #[.slice y1p gx.length y1c] 27) := ⟨_, rfl⟩
  have z4 : W4.heap.size = w4.heap.size + 1 := by rw [hW4, size_alloc]
  rw [← hW4] at HY4 BX4 B4 HB4 hb5 HX5 bc4
  have sA := hbA.out.size
  rw [size_alloc] at sA
  have s2 := HB2.out.size
  have s3 := hb3.size
  have s4 := hb4.size
  have s5 := hb5.size
  have s6 := hb6.size
  rw [size_alloc] at s6
  have lA' : w.heap.size < W4.heap.size := by omega
  have hbb : (okx != okx) = false := by simp
  have YB6 := Lib.hid (((hb5.alloc s5 (.cells #[.slice x0p g.length x0c] 30)).trans (hb6.mono (by rw [size_alloc]; omega))).alloc (by omega) (.cells #[.slice x1p gx.length x1c] 27))
  have B6 := Lib.hid (((Box.new w5 (.slice x0p g.length x0c) 30).keep hb6).alloc (.cells #[.slice x1p gx.length x1c] 27))
  have B7 := Lib.hid (Box.new w6 (.slice x1p gx.length x1c) 27)
  have X6 := Lib.hid ((HX5.out.below hb6).below (below_alloc w6 (.cells #[.slice x1p gx.length x1c] 27)))
  have D6 := Lib.hid (HD6.out.below (below_alloc w6 (.cells #[.slice x1p gx.length x1c] 27)))
  have hr1000 : ∀ j, (row gx j).length ≤ 1000 := fun j => by have := HR6.out j; omega
  have HR := Lib.hid hr1000
  have q4 := (B4.out.below YB6.out (by omega)).cell
  clear hb3 hb4 hb5 hb6 ho3 bc2 bl2 bc4 hrl4 hr1000
  go_upto_region 10 with (go_at_call 9; refine (eqModel_b _ _ gx _ (D6.out.dg.gr (by omega) (fun j hj => by have := HR.out j; omega)) ((HY4.out.below YB6.out).gr (by omega))).mono ?_; rintro e w8 ⟨rfl, hb8⟩)
  have YB8 := Lib.hid (YB6.out.trans (hb8.mono YB6.out.size))
  have B68 := Lib.hid (B6.out.keep hb8)
  have B78 := Lib.hid (B7.out.keep hb8)
  have X8 := Lib.hid (X6.out.below hb8)
  have D8 := Lib.hid (D6.out.below hb8)
  have q6 := B68.out.cell
  have q1 := (BX4.out.below YB8.out lA').cell
  have s8 := hb8.size
  rw [size_alloc] at s8
  clear hb8 q4
  go_cut [45] (fun s45 wx => s45 = .bool false ∧ Below w8.heap.size w8 wx)
  case first =>
    go_region_held3 (fun W => W.cell? ⟨w5.heap.size, 0, none⟩ = some (.slice x0p g.length x0c) ∧ W.cell? ⟨w.heap.size, 0, none⟩ = some (.slice p g.length c))
      (first | go_keep | exact ⟨hb8'.at' q6, hb8'.at' q1⟩ | exact ⟨hb9'.at' q6, hb9'.at' q1⟩)
      (first | (go_at_call 7; refine (toGraph_any _ g L1 L2.out _ (HA.out.below (below_dN (HB4.out.trans (YB8.out.mono HB4.out.size)) 1))).mono ?_; rintro e w9 ⟨x0', rfl, ho8, hb9⟩; obtain ⟨x0p', x0c', rfl⟩ := ho8.shape; have hb8' : Below w8.heap.size w8 w9 := (below_dN (Below.refl _ _) 1).trans hb9) | (go_at_call 10; refine (eqGraph_b _ _ g _ ((X8.out.below hb8').own.gr (by omega) (fun j hj => by have := L2.out j hj; omega)) (ho8.gr (by omega) (fun j hj => by have := L2.out j hj; omega))).mono ?_; rintro e w9x ⟨rfl, hb9x⟩; have hb9' : Below w8.heap.size w8 w9x := hb8'.trans (hb9x.mono hb8'.size)))
    all_goals go_wp2
    all_goals go_meet
    all_goals exact ⟨rfl, hb9'⟩
  case rest =>
    obtain ⟨rfl, hbc⟩ := hcut
    have sc := hbc.size
    have YBc := Lib.hid (YB8.out.trans (hbc.mono YB8.out.size))
    have Xc := Lib.hid (X8.out.below hbc)
    have Dc := Lib.hid (D8.out.below hbc)
    have B7c := Lib.hid (B78.out.keep hbc)
    have bc := (B68.out.keep hbc).cell
    clear hbc q1 q6
    go_upto_region 14 with (go_at_call 11; refine (markGraph_any _ g W4.heap.size w5.heap.size 1 L1 L2.out (by decide) (by decide) _ Xc.out).mono ?_; rintro e w10 ⟨⟨z2, rfl, hz2⟩, hap⟩)
    have sp := hap.size
    have YBp := Lib.hid (YBc.out.trans (hap.below (by omega)))
    have Dp := Lib.hid (Dc.out.apart hap (by rw [size_alloc]; omega))
    have B7p := Lib.hid (B7c.out.apart hap (by omega))
    have q7 := B7p.out.cell
    have q4 := (B4.out.below YBp.out (by omega)).cell
    have z2n : ¬ z2 < 0 := by omega
    clear hap bc
    go_upto_region 17 with (go_at_call 9; refine (eqModel_b _ _ gx _ (Dp.out.dg.gr (by omega) (fun j hj => by have := HR.out j; omega)) ((HY4.out.below YBp.out).gr (by omega))).mono ?_; rintro e w11 ⟨rfl, hb11⟩)
    have s11 := hb11.size
    have YB11 := Lib.hid (YBp.out.trans (hb11.mono YBp.out.size))
    have D11 := Lib.hid (Dp.out.below hb11)
    have B711 := Lib.hid (B7p.out.keep hb11)
    have q711 := B711.out.cell
    clear hb11 q7 q4
    go_upto_region 18 with (go_at_call 12; refine (markModel_x _ gx _ _ 1 (by omega) HR.out (by decide) (by decide) _ D11.out).mono ?_; rintro e w12 ⟨rfl, hd12, hap12⟩)
    have s12 := hap12.size
    have YB12 := Lib.hid (YB11.out.trans ((hap12.below (by rw [size_alloc]; omega)).mono (by rw [size_alloc]; omega)))
    have B712 := Lib.hid (B711.out.apart hap12 (Nat.le_refl _))
    have q712 := B712.out.cell
    have G12 := Lib.hid (hd12.dg.gr (by rw [markG_length]; omega) (fun j hj => by rw [markG_length] at hj; rw [row_markG hj, marks_length]; have := HR.out j; omega))
    have HB12 := Lib.hid (HB4.out.trans (YB12.out.mono HB4.out.size))
    have q12 := (BX4.out.below YB12.out lA').cell
    have q412 := (B4.out.below YB12.out (by omega)).cell
    have hn1 : ¬ (1 + (preL gx gx.length : Int)) < 0 := by omega
    clear hd12 hap12 q711
    go_wp2_with (first
      | (go_at_call 13; refine (heldModel_x _ gx 1 (by omega) HR.out (by decide) (by decide) _ (G12.out.below (hb16 : Below _ w12 w16))).mono ?_; rintro e w17 ⟨rfl, hb17⟩; have hbz := hb16.trans (hb17.mono hb16.size))
      | (go_at_call 9; refine (eqModel_b _ _ gx _ ((hd15.below (below_alloc w15 (.cells #[.slice x2p gx.length x2c] 27))).gr (by omega) (fun j hj => by have := HR.out j; omega)) ((HY4.out.below (YB12.out.trans (hb15a.mono YB12.out.size))).gr (by omega))).mono ?_; rintro e w16x ⟨rfl, hb16x⟩; obtain ⟨w16, hw16⟩ : ∃ w16, w16 = w16x := ⟨_, rfl⟩; subst hw16; have hb16 : Below w12.heap.size w12 w16 := hb15a.trans (hb16x.mono hb15a.size); have q716 := hb16.at' q712)
      | (go_at_call 8; refine (implFourModel_any _ g _ (ho14.gr (by omega) (fun j hj => by have := L2.out j hj; omega)) ((HT.out.keep HB13.out).keep hb14)).mono ?_; rintro e w15 ⟨x2, gx3, okx3, rfl, hS15, hd15, _, _, hb15⟩; obtain ⟨hd1, hd2⟩ := fourS_det hS15 HS6.out; rw [hd1] at hd15; obtain ⟨x2p, x2c, rfl⟩ := hd15.shape; rw [hd2]; have hb15b : Below w12.heap.size w12 w15 := (hb13.trans (hb14.mono hb13.size)).trans (hb15.mono (Nat.le_trans hb13.size hb14.size)); have hb15a : Below w12.heap.size w12 (w15.alloc (.cells #[.slice x2p gx.length x2c] 27)) := hb15b.alloc hb15b.size _; have q415 := fun o => (below_alloc w15 o).at' (hb15b.at' q412); clear hS15 hd1 hd2)
      | (go_at_call 7; refine (toGraph_any _ g L1 L2.out _ (HA.out.below HB13.out)).mono ?_; rintro e w14 ⟨y14, rfl, ho14, hb14⟩; obtain ⟨y14p, y14c, rfl⟩ := ho14.shape)
      | (go_at_call 13; refine (heldModel_x _ gx 1 (by omega) HR.out (by decide) (by decide) _ G12.out).mono ?_; rintro e w13 ⟨rfl, hb13⟩; have HB13 := Lib.hid (HB12.out.trans (hb13.mono HB12.out.size)); have q13 := hb13.at' q12))
    go_ret
    exact ⟨rfl, HB12.out.trans (hbz.mono HB12.out.size)⟩

end Go.Proofs.YtiklocamfgopbaaDoor
