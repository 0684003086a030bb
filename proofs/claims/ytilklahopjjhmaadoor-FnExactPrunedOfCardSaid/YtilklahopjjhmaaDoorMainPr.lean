/- Walk: the law FnExactPrunedOf. -/
import Derived.Test.YtilklahopjjhmaaDoorLawsG
import Derived.Test.YtilklahopjjhmaaDoorLawsP
import Derived.Test.YtilklahopjjhmaaDoorPrB
import Derived.Test.YtilklahopjjhmaaDoorPrE
namespace Go.Proofs.YtilklahopjjhmaaDoor
open Go.RowKit

set_option maxRecDepth 100000 in
set_option maxHeartbeats 4000000 in
theorem lawPrunedOf_any (v : Value) (g : List (List Int)) (w : World) (hg : ArgG w v g) (hT : Tab w) :
    Calls Tryd.prog 3 #[v] w fun e w' => e = .returned (.bool true) ∧ Below w.heap.size w w' := by
  have hg0 := hg
  obtain ⟨u, rfl, hr⟩ := hg
  obtain ⟨p, c, vals, rfl, _⟩ := hr
  have hbA := Lib.hid (below_alloc w (.cells #[.slice p g.length c] 24))
  have BX := Lib.hid (Box.new w (.slice p g.length c) 24)
  have HA := Lib.hid hg0
  have HT := Lib.hid hT
  clear hg0 hT
  go_enter Tryd.func3, Tryd.ntmps3
  go_upto_region 3 with (go_at_call 5; refine (szGraph_any _ g 1048576 (by decide) (by decide) _ (HA.out.below hbA.out)).mono ?_; rintro e w2 ⟨⟨z, rfl, hz1, hz2, hz3⟩, hb2⟩)
  have HB2 := Lib.hid (hbA.out.trans (hb2.mono hbA.out.size))
  have BX2 := Lib.hid (BX.out.keep hb2)
  obtain ⟨bc2, _, bl2, _⟩ := BX2.out
  clear hb2
  by_cases hz : z < 0
  · clear hz3
    go_wp2
    go_ret
    exact ⟨rfl, HB2.out⟩
  obtain ⟨hl1, hl2⟩ := hz3 (by omega)
  have L1 : g.length ≤ 1048576 := by omega
  have L2 := Lib.hid (show ∀ j, j < g.length → (row g j).length ≤ 1048576 from fun j hj => by have := hl2 j hj; omega)
  clear hl1 hl2 hz3
  go_upto_region 8 with (first
    | (go_at_call 8; refine (implPrunedOf_any _ g _ (HX5.out.own.gr (by omega) (fun j hj => by have := L2.out j hj; omega)) (HT.out.keep HB5.out)).mono ?_; rintro e w6 ⟨x1, x2, fs, l, rfl, hS6, hx16, hx26, hfl, hll, hb6⟩; have HS6 := Lib.hid hS6; have HO6 := Lib.hid hx16; have HL6 := Lib.hid hx26; obtain ⟨x1p, x1c, rfl⟩ := owns_shape hx16; obtain ⟨x2p, x2c, rfl⟩ := owns_shape hx26; clear hS6 hx16 hx26)
    | (go_at_call 7; refine (toGraph_any _ g L1 L2.out _ (HA.out.below HB4.out)).mono ?_; rintro e w5 ⟨x0, rfl, ho5, hb5⟩; obtain ⟨x0p, x0c, rfl⟩ := ho5.shape; have HX5 := Lib.hid ((InG.of_own ho5).below (below_alloc w5 (.cells #[.slice x0p g.length x0c] 30))); have HB5 := Lib.hid ((HB4.out.trans (hb5.mono HB4.out.size)).alloc (Nat.le_trans HB4.out.size hb5.size) (.cells #[.slice x0p g.length x0c] 30)); clear ho5)
    | (go_at_call 6; refine (specPrunedOf_any _ g _ (ho3.gr (by omega) (fun j hj => by have := L2.out j hj; omega))).mono ?_; rintro e w4 ⟨y1, y2, fs2, l2, rfl, hS4, hy14, hy24, hfl2, hll2, hb4⟩; have HS4 := Lib.hid hS4; have HO4 := Lib.hid (Prs.of_owns hy14 (by omega)); have HL4 := Lib.hid hy24; obtain ⟨y1p, y1c, rfl, _⟩ := HO4.out.shape; obtain ⟨y2p, y2c, rfl, _⟩ := hy24.shape; have HB4 := Lib.hid ((HB2.out.trans (hb3.mono HB2.out.size)).trans (hb4.mono (Nat.le_trans HB2.out.size hb3.size))); have BX4 := Lib.hid ((BX2.out.keep hb3).keep hb4); have bc4 := BX4.out.cell; clear hS4 hy14 hy24)
    | (go_at_call 7; refine (toGraph_any _ g L1 L2.out _ (HA.out.below HB2.out)).mono ?_; rintro e w3 ⟨y0, rfl, ho3, hb3⟩; obtain ⟨y0p, y0c, rfl⟩ := ho3.shape))
  obtain ⟨hxy1, hxy2⟩ := prunedS_det HS6.out HS4.out
  subst hxy1
  subst hxy2
  have sA := hbA.out.size
  rw [size_alloc] at sA
  have s2 := HB2.out.size
  have s3 := hb3.size
  have s4 := hb4.size
  have s5 := hb5.size
  have s6 := hb6.size
  rw [size_alloc] at s6
  have lA := BX4.out.lt
  have lA' : w.heap.size < w4.heap.size := by omega
  have YB6 := Lib.hid ((hb5.alloc s5 (.cells #[.slice x0p g.length x0c] 30)).trans (hb6.mono (by rw [size_alloc]; omega)))
  have B6 := Lib.hid ((Box.new w5 (.slice x0p g.length x0c) 30).keep hb6)
  have X6 := Lib.hid (HX5.out.below hb6)
  clear hb3 hb4 hb5 hb6 ho3 bc2 bl2 bc4 hfl2 hll2
  go_upto_region 10 with (first
    | (go_at_call 10; refine (eqInt64S_b _ _ l l rfl _ (Nums.of_owns (ownsRow_below HL6.out hb7) rfl (by omega)) ((HL4.out.below YB6.out).below hb7)).mono ?_; rintro e w8 ⟨rfl, hb8⟩)
    | (go_at_call 9; refine (eqPruneS_b _ _ fs _ (Prs.of_owns HO6.out (by omega)) (HO4.out.below YB6.out)).mono ?_; rintro e w7 ⟨rfl, hb7⟩))
  have hb78 := hb7.trans (hb8.mono hb7.size)
  have YB8 := Lib.hid (YB6.out.trans (hb78.mono YB6.out.size))
  have B8 := Lib.hid (B6.out.keep hb78)
  have X8 := Lib.hid (X6.out.below hb78)
  have O8 := Lib.hid (ownsRow_below HO6.out hb78)
  have L8 := Lib.hid (ownsRow_below HL6.out hb78)
  have q6 := B8.out.cell
  have q1 := (BX4.out.below YB8.out lA').cell
  have s8 := hb78.size
  clear hb7 hb8 hb78
  go_cut [46] (fun s45 wx => s45 = .bool false ∧ Below w8.heap.size w8 wx)
  case first =>
    go_region_held3 (fun W => W.cell? ⟨w5.heap.size, 0, none⟩ = some (.slice x0p g.length x0c) ∧ W.cell? ⟨w.heap.size, 0, none⟩ = some (.slice p g.length c))
      (first | go_keep | exact ⟨hb8'.at' q6, hb8'.at' q1⟩ | exact ⟨hb9'.at' q6, hb9'.at' q1⟩)
      (first | (go_at_call 7; refine (toGraph_any _ g L1 L2.out _ (HA.out.below (below_dN (HB4.out.trans (YB8.out.mono HB4.out.size)) 1))).mono ?_; rintro e w9 ⟨x0', rfl, ho8, hb9⟩; obtain ⟨x0p', x0c', rfl⟩ := ho8.shape; have hb8' : Below w8.heap.size w8 w9 := (below_dN (Below.refl _ _) 1).trans hb9) | (go_at_call 11; refine (eqGraph_b _ _ g _ ((X8.out.below hb8').own.gr (by omega) (fun j hj => by have := L2.out j hj; omega)) (ho8.gr (by omega) (fun j hj => by have := L2.out j hj; omega))).mono ?_; rintro e w9x ⟨rfl, hb9x⟩; have hb9' : Below w8.heap.size w8 w9x := hb8'.trans (hb9x.mono hb8'.size)))
    all_goals go_wp2
    all_goals go_meet
    all_goals exact ⟨rfl, hb9'⟩
  case rest =>
    obtain ⟨rfl, hbc⟩ := hcut
    have sc := hbc.size
    have YBc := Lib.hid (YB8.out.trans (hbc.mono YB8.out.size))
    have Xc := Lib.hid (X8.out.below hbc)
    have Oc := Lib.hid (ownsRow_below O8.out hbc)
    have Lc := Lib.hid (ownsRow_below L8.out hbc)
    have bc := (B8.out.keep hbc).cell
    clear hbc
    go_upto_region 14 with (go_at_call 12; refine (markGraph_any _ g w4.heap.size w5.heap.size 1 L1 L2.out (by decide) (by decide) _ Xc.out).mono ?_; rintro e w10 ⟨⟨z2, rfl, hz2⟩, hap⟩)
    have sp := hap.size
    have YBp := Lib.hid (YBc.out.trans (hap.below (by omega)))
    have Op := Lib.hid (ownsRow_apart_hi Oc.out hap (by rw [size_alloc]; omega))
    have Lp := Lib.hid (ownsRow_apart_hi Lc.out hap (by rw [size_alloc]; omega))
    have z2n : ¬ z2 < 0 := by omega
    clear hap
    go_upto_region 17 with (first
      | (go_at_call 10; refine (eqInt64S_b _ _ l l rfl _ (Nums.of_owns (ownsRow_below Lp.out hb11) rfl (by omega)) ((HL4.out.below YBp.out).below hb11)).mono ?_; rintro e w12 ⟨rfl, hb12⟩)
      | (go_at_call 9; refine (eqPruneS_b _ _ fs _ (Prs.of_owns Op.out (by omega)) (HO4.out.below YBp.out)).mono ?_; rintro e w11 ⟨rfl, hb11⟩))
    have hb1112 := hb11.trans (hb12.mono hb11.size)
    have s12 := hb1112.size
    have YB12 := Lib.hid (YBp.out.trans (hb1112.mono YBp.out.size))
    have O12 := Lib.hid (ownsRow_below Op.out hb1112)
    have L12 := Lib.hid (ownsRow_below Lp.out hb1112)
    clear hb11 hb12 hb1112
    go_upto_region 18 with (go_at_call 13; refine (markPruneS_any _ fs.length _ _ 1 (by omega) (by decide) (by decide) _ O12.out).mono ?_; rintro e w13 ⟨rfl, ho13, hg13, _⟩)
    have L13 := Lib.hid (ownsRow_other L12.out O12.out hg13 (by decide))
    have O13 := Lib.hid ho13
    have YB13 := Lib.hid (below_grown YB12.out O12.out hg13 (by rw [size_alloc]; omega) YB12.out.size)
    have s13 := hg13.size
    clear ho13 hg13
    go_upto_region 19 with (go_at_call 14; refine (markInt64S_any _ l.length _ _ (1 + (fs.length : Int) * 3) (by omega) (by omega) (by omega) _ L13.out).mono ?_; rintro e w14 ⟨rfl, ho14, hg14, _⟩)
    have O14 := Lib.hid (Sl.of_owns (ownsRow_other O13.out L13.out hg14 (by decide)) (by omega))
    have N14 := Lib.hid (Nums.of_owns (xs := marks (1 + (fs.length : Int) * 3) l.length) ho14 (marks_length _ _).symm (by omega))
    have YB14 := Lib.hid (below_grown YB13.out L13.out hg14 (by rw [size_alloc]; omega) YB13.out.size)
    have HB14 := Lib.hid (HB4.out.trans (YB14.out.mono HB4.out.size))
    have q14 := (BX4.out.below YB14.out lA').cell
    have hn1 : ¬ (1 + (fs.length : Int) * 3) < 0 := by omega
    have hn2 : ¬ (1 + (fs.length : Int) * 3 + (l.length : Int)) < 0 := by omega
    clear ho14 hg14
    go_wp2_with (first
      | (go_at_call 16; refine (heldInt64S_any _ l.length (1 + (fs.length : Int) * 3) (by omega) (by omega) _ N18.out).mono ?_; rintro e w20 ⟨rfl, rfl⟩)
      | (go_at_call 15; refine (heldPruneS_any _ fs.length 1 (by decide) (by decide) _ M18.out).mono ?_; rintro e w19 ⟨rfl, rfl⟩)
      | (go_at_call 10; refine (eqInt64S_b _ _ l l rfl _ (X2.out.below hb17) (((HL4.out.below YB14.out).below (hb15.trans (hb16.mono hb15.size))).below hb17)).mono ?_; rintro e w18 ⟨rfl, hb18⟩; have hbx := (hb15.trans (hb16.mono hb15.size)).trans ((hb17.trans (hb18.mono hb17.size)).mono (Nat.le_trans hb15.size hb16.size)); have N18 := Lib.hid (N14.out.below hbx); have M18 := Lib.hid (O14.out.below hbx))
      | (go_at_call 9; refine (eqPruneS_b _ _ fs _ X1.out ((HO4.out.below YB14.out).below (hb15.trans (hb16.mono hb15.size)))).mono ?_; rintro e w17 ⟨rfl, hb17⟩)
      | (go_at_call 8; refine (implPrunedOf_any _ g _ (ho15.gr (by omega) (fun j hj => by have := L2.out j hj; omega)) ((HT.out.keep HB14.out).keep hb15)).mono ?_; rintro e w16 ⟨x1, x2, fs3, l3, rfl, hS16, hx1, hx2, hfl3, hll3, hb16⟩; obtain ⟨hd1, hd2⟩ := prunedS_det hS16 HS6.out; rw [hd1] at hx1; rw [hd2] at hx2; obtain ⟨x1p', x1c', rfl⟩ := owns_shape hx1; obtain ⟨x2p', x2c', rfl⟩ := owns_shape hx2; have X1 := Lib.hid (Prs.of_owns hx1 (by omega)); have X2 := Lib.hid (Nums.of_owns hx2 rfl (by omega)); clear hS16 hx1 hx2 hd1 hd2)
      | (go_at_call 7; refine (toGraph_any _ g L1 L2.out _ (HA.out.below HB14.out)).mono ?_; rintro e w15 ⟨y15, rfl, ho15, hb15⟩; obtain ⟨y15p, y15c, rfl⟩ := ho15.shape)
      | (go_at_call 16; refine (heldInt64S_any _ l.length (1 + (fs.length : Int) * 3) (by omega) (by omega) _ N14.out).mono ?_; rintro e w14y ⟨rfl, rfl⟩)
      | (go_at_call 15; refine (heldPruneS_any _ fs.length 1 (by decide) (by decide) _ O14.out).mono ?_; rintro e w14x ⟨rfl, rfl⟩))
    go_ret
    exact ⟨rfl, HB14.out.trans (hbx.mono HB14.out.size)⟩

end Go.Proofs.YtilklahopjjhmaaDoor
