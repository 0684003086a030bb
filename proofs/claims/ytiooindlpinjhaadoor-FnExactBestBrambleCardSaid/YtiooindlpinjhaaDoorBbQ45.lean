/- Walk: the law FnExactBestBramble: rows of numbers, of a graph. -/
import Derived.Test.YtiooindlpinjhaaDoorBbQ5
import Derived.Test.YtiooindlpinjhaaDoorBbQ8
import Derived.Test.YtiooindlpinjhaaDoorBbQ44
import Derived.Test.YtiooindlpinjhaaDoorBbQ31
namespace Go.Proofs.YtiooindlpinjhaaDoor
open Go.RowKit

set_option maxRecDepth 100000 in
set_option maxHeartbeats 4000000 in
theorem lawBestBramble_any (v : Value) (g : List (List Int)) (w : World) (hg : ArgG w v g) (hT : Tab w) :
    Calls Tryd.prog 5 #[v] w fun e w' => e = .returned (.bool true) ∧ Below w.heap.size w w' := by
  have hg0 := hg
  obtain ⟨u, rfl, hr⟩ := hg
  obtain ⟨p, c, vals, rfl, _⟩ := hr
  have hbA := Lib.hid (below_alloc w (.cells #[.slice p g.length c] 24))
  have BX := Lib.hid (Box.new w (.slice p g.length c) 24)
  have HA := Lib.hid hg0
  have HT := Lib.hid hT
  clear hg0 hT
  go_enter Tryd.func5, Tryd.ntmps5
  go_upto_region 3 with (go_at_call 7; refine (szGraph_any _ g 1048576 (by decide) (by decide) _ (HA.out.below hbA.out)).mono ?_; rintro e w2 ⟨⟨z, rfl, hz1, hz2, hz3⟩, hb2⟩)
  have HB2 := Lib.hid (hbA.out.trans (hb2.mono hbA.out.size))
  have BX2 := Lib.hid (BX.out.keep hb2)
  obtain ⟨bc2, _, bl2, _⟩ := BX2.out
  clear hb2
  by_cases hz : z < 0
  · clear hz3
    go_wp2
    go_ret
    exact ⟨rfl, HB2.out⟩
  obtain ⟨hl1, hl2⟩ := hz3 (by omega)
  have L1 : g.length ≤ 1048576 := by omega
  have L2 := Lib.hid (show ∀ j, j < g.length → (row g j).length ≤ 1048576 from fun j hj => by have := hl2 j hj; omega)
  clear hl1 hl2 hz3
  go_upto_region 8 with (first
    | (go_at_call 30; refine (implBestBramble_any _ g _ (HX5.out.own.gr (by omega) (fun j hj => by have := L2.out j hj; omega)) (HT.out.keep HB5.out)).mono ?_; rintro e w6 ⟨x1, gx, rfl, hS6, hd6, hgl6, hrl6, hb6⟩; have HS6 := Lib.hid hS6; have HD6 := Lib.hid (DGh.of hd6); obtain ⟨x1p, x1c, rfl⟩ := hd6.shape1; have HR6 := Lib.hid hrl6; clear hS6 hd6 hrl6)
    | (go_at_call 9; refine (toGraph_any _ g L1 L2.out _ (HA.out.below HB4.out)).mono ?_; rintro e w5 ⟨x0, rfl, ho5, hb5⟩; obtain ⟨x0p, x0c, rfl⟩ := ho5.shape; have HX5 := Lib.hid ((InG.of_own ho5).below (below_alloc w5 (.cells #[.slice x0p g.length x0c] 28))); have HB5 := Lib.hid ((HB4.out.trans (hb5.mono HB4.out.size)).alloc (Nat.le_trans HB4.out.size hb5.size) (.cells #[.slice x0p g.length x0c] 28)); clear ho5)
    | (go_at_call 29; refine (specBestBramble_any _ g _ (ho3.gr (by omega) (fun j hj => by have := L2.out j hj; omega))).mono ?_; rintro e w4 ⟨y1, gy, rfl, hS4, hy4, hgl4, hrl4, hb4⟩; have HS4 := Lib.hid hS4; obtain ⟨y1p, y1c, rfl⟩ := hy4.shape1; have HY4 := Lib.hid hy4; have BX4 := Lib.hid ((BX2.out.keep hb3).keep hb4); have bc4 := BX4.out.cell; have HB4 := Lib.hid ((HB2.out.trans (hb3.mono HB2.out.size)).trans (hb4.mono (Nat.le_trans HB2.out.size hb3.size))); clear hS4 hy4)
    | (go_at_call 9; refine (toGraph_any _ g L1 L2.out _ (HA.out.below HB2.out)).mono ?_; rintro e w3 ⟨y0, rfl, ho3, hb3⟩; obtain ⟨y0p, y0c, rfl⟩ := ho3.shape))
  have hxy1 := bbS_det HS6.out HS4.out
  subst hxy1
  have sA := hbA.out.size
  rw [size_alloc] at sA
  have s2 := HB2.out.size
  have s4 := HB4.out.size
  have s5 := hb5.size
  have s6 := hb6.size
  rw [size_alloc] at s6
  have lA' : w.heap.size < w4.heap.size := BX4.out.lt
  have YB6 := Lib.hid ((hb5.alloc s5 (.cells #[.slice x0p g.length x0c] 28)).trans (hb6.mono (by rw [size_alloc]; omega)))
  have B6 := Lib.hid ((Box.new w5 (.slice x0p g.length x0c) 28).keep hb6)
  have X6 := Lib.hid (HX5.out.below hb6)
  have D6 := HD6
  have hr1000 : ∀ j, (row gx j).length ≤ 1000 := fun j => by have := HR6.out j; omega
  have HR := Lib.hid hr1000
  clear hb3 hb4 hb5 hb6 ho3 bc2 bl2 bc4 hrl4 hr1000
  go_upto_region 10 with (go_at_call 31; refine (eqInt64SS_b _ _ gx _ (rws_gr (D6.out.dg.gr (by omega) (fun j hj => by have := HR.out j; omega))) (rws_gr ((HY4.out.below YB6.out).gr (by omega)))).mono ?_; rintro e w8 ⟨rfl, hb8⟩)
  have YB8 := Lib.hid (YB6.out.trans (hb8.mono YB6.out.size))
  have B68 := Lib.hid (B6.out.keep hb8)
  have X8 := Lib.hid (X6.out.below hb8)
  have D8 := Lib.hid (D6.out.below hb8)
  have q6 := B68.out.cell
  have q1 := (BX4.out.below YB8.out lA').cell
  have s8 := hb8.size
  clear hb8
  go_cut [31] (fun s45 wx => s45 = .bool false ∧ Below w8.heap.size w8 wx)
  case first =>
    go_region_held3 (fun W => W.cell? ⟨w5.heap.size, 0, none⟩ = some (.slice x0p g.length x0c) ∧ W.cell? ⟨w.heap.size, 0, none⟩ = some (.slice p g.length c))
      (first | go_keep | exact ⟨hb8'.at' q6, hb8'.at' q1⟩ | exact ⟨hb9'.at' q6, hb9'.at' q1⟩)
      (first | (go_at_call 9; refine (toGraph_any _ g L1 L2.out _ (HA.out.below (below_dN (HB4.out.trans (YB8.out.mono HB4.out.size)) 1))).mono ?_; rintro e w9 ⟨x0', rfl, ho8, hb9⟩; obtain ⟨x0p', x0c', rfl⟩ := ho8.shape; have hb8' : Below w8.heap.size w8 w9 := (below_dN (Below.refl _ _) 1).trans hb9) | (go_at_call 12; refine (eqGraph_b _ _ g _ ((X8.out.below hb8').own.gr (by omega) (fun j hj => by have := L2.out j hj; omega)) (ho8.gr (by omega) (fun j hj => by have := L2.out j hj; omega))).mono ?_; rintro e w9x ⟨rfl, hb9x⟩; have hb9' : Below w8.heap.size w8 w9x := hb8'.trans (hb9x.mono hb8'.size)))
    all_goals go_wp2
    all_goals go_meet
    all_goals exact ⟨rfl, hb9'⟩
  case rest =>
    obtain ⟨rfl, hbc⟩ := hcut
    have sc := hbc.size
    have YBc := Lib.hid (YB8.out.trans (hbc.mono YB8.out.size))
    have Xc := Lib.hid (X8.out.below hbc)
    have Dc := Lib.hid (D8.out.below hbc)
    have bc := (B68.out.keep hbc).cell
    clear hbc q1 q6
    go_upto_region 14 with (go_at_call 13; refine (markGraph_any _ g w4.heap.size w5.heap.size 1 L1 L2.out (by decide) (by decide) _ Xc.out).mono ?_; rintro e w10 ⟨⟨z2, rfl, hz20, hz21⟩, hap⟩)
    have sp := hap.size
    have YBpi := Lib.hid (YBc.out.trans (hap.below (by omega)))
    have Dp := Lib.hid (Dc.out.apart hap (by rw [size_alloc]; omega))
    have z2n : ¬ z2 < 0 := by omega
    clear hap bc
    go_upto_region 17 with (go_at_call 31; refine (eqInt64SS_b _ _ gx _ (rws_gr (Dp.out.dg.gr (by omega) (fun j hj => by have := HR.out j; omega))) (rws_gr ((HY4.out.below YBpi.out).gr (by omega)))).mono ?_; rintro e w11 ⟨rfl, hb11⟩)
    have s11 := hb11.size
    have YB11 := Lib.hid (YBpi.out.trans (hb11.mono YBpi.out.size))
    have D11 := Lib.hid (Dp.out.below hb11)
    clear hb11
    go_upto_region 18 with (go_at_call 32; refine (markSS_x _ gx _ _ 1 (by omega) HR.out (by decide) (by decide) _ D11.out).mono ?_; rintro e w12 ⟨rfl, hd12, hap12⟩)
    have s12 := hap12.size
    have YB12 := Lib.hid (YB11.out.trans ((hap12.below (by rw [size_alloc]; omega)).mono (by rw [size_alloc]; omega)))
    have G12 := Lib.hid (hd12.dg.gr (by rw [markG_length]; omega) (fun j hj => by rw [markG_length] at hj; rw [row_markG hj, marks_length]; have := HR.out j; omega))
    have HB12 := Lib.hid (HB4.out.trans (YB12.out.mono HB4.out.size))
    have q12 := (BX4.out.below YB12.out lA').cell
    have hn1 : ¬ (1 + (preL gx gx.length : Int)) < 0 := by omega
    clear hd12 hap12
    go_wp2_with (first
      | (go_at_call 33; refine (heldInt64SS_x _ gx 1 (by omega) HR.out (by decide) (by decide) _ (rws_gr (G12.out.below (hb16 : Below _ w12 w16)))).mono ?_; rintro e w17 ⟨rfl, rfl⟩; have hbz := hb16)
      | (go_at_call 31; refine (eqInt64SS_b _ _ gx _ (rws_gr (hd15.gr (by omega) (fun j hj => by have := HR.out j; omega))) (rws_gr ((HY4.out.below (YB12.out.trans (hb15b.mono YB12.out.size))).gr (by omega)))).mono ?_; rintro e w16x ⟨rfl, hb16x⟩; obtain ⟨w16, hw16⟩ : ∃ w16, w16 = w16x := ⟨_, rfl⟩; subst hw16; have hb16 : Below w12.heap.size w12 w16 := hb15b.trans (hb16x.mono hb15b.size))
      | (go_at_call 30; refine (implBestBramble_any _ g _ (ho14.gr (by omega) (fun j hj => by have := L2.out j hj; omega)) ((HT.out.keep HB13.out).keep hb14)).mono ?_; rintro e w15 ⟨x2, gx3, rfl, hS15, hd15, _, _, hb15⟩; have hd1 := bbS_det hS15 HS6.out; rw [hd1] at hd15; obtain ⟨x2p, x2c, rfl⟩ := hd15.shape1; have hb15b : Below w12.heap.size w12 w15 := hb14.trans (hb15.mono hb14.size); clear hS15 hd1)
      | (go_at_call 9; refine (toGraph_any _ g L1 L2.out _ (HA.out.below HB13.out)).mono ?_; rintro e w14 ⟨y14, rfl, ho14, hb14⟩; obtain ⟨y14p, y14c, rfl⟩ := ho14.shape)
      | (go_at_call 33; refine (heldInt64SS_x _ gx 1 (by omega) HR.out (by decide) (by decide) _ (rws_gr G12.out)).mono ?_; rintro e w13 ⟨rfl, rfl⟩; have HB13 := HB12))
    go_ret
    exact ⟨rfl, HB12.out.trans (hbz.mono HB12.out.size)⟩

end Go.Proofs.YtiooindlpinjhaaDoor
