/- Walk: the law FnExactCoverOf: a graph and rows of numbers; a row of numbers. -/
import Derived.Test.YtihlcmenfopaiaaDoorCvQ28
import Derived.Test.YtihlcmenfopaiaaDoorCvQ35
import Derived.Test.YtihlcmenfopaiaaDoorCvQ41
import Derived.Test.YtihlcmenfopaiaaDoorCvQ39
namespace Go.Proofs.YtihlcmenfopaiaaDoor
open Go.RowKit

set_option maxRecDepth 100000 in
set_option maxHeartbeats 4000000 in
theorem lawCoverOf_any (v sv : Value) (g S : List (List Int)) (w : World) (hg : ArgG w v g) (hs : ArgR w sv S) (hT : Tab w) :
    Calls Tryd.prog 3 #[v, sv] w fun e w' => e = .returned (.bool true) ∧ Below w.heap.size w w' := by
  have hg0 := hg
  obtain ⟨u, rfl, hr⟩ := hg
  obtain ⟨p, c, vals, rfl, _⟩ := hr
  obtain ⟨sp, sc, svals, rfl, _⟩ := id hs
  have hbA := Lib.hid (below_alloc w (.cells #[.slice p g.length c] 24))
  have BX := Lib.hid (Box.new w (.slice p g.length c) 24)
  have HA := Lib.hid hg0
  have HAS := Lib.hid hs
  have HT := Lib.hid hT
  clear hg0 hT hs
  go_enter Tryd.func3, Tryd.ntmps3
  go_upto_region 3 with (go_at_call 11; refine (szGraph_any _ g 1048576 (by decide) (by decide) _ (HA.out.below hbA.out)).mono ?_; rintro e w2 ⟨⟨z, rfl, hz1, hz2, hz3⟩, hb2⟩)
  have HB2 := Lib.hid (hbA.out.trans (hb2.mono hbA.out.size))
  have BX2 := Lib.hid (BX.out.keep hb2)
  obtain ⟨bc2, _, bl2, _⟩ := BX2.out
  clear hb2
  by_cases hz : z < 0
  · clear hz3
    go_wp2
    go_ret
    exact ⟨rfl, HB2.out⟩
  obtain ⟨hl1, hl2⟩ := hz3 (by omega)
  have L1 : g.length ≤ 1048576 := by omega
  have L2 := Lib.hid (show ∀ j, j < g.length → (row g j).length ≤ 1048576 from fun j hj => by have := hl2 j hj; omega)
  clear hl1 hl2 hz3
  go_upto_region 6 with (go_at_call 12; refine (szInt64SS_any _ S z (by omega) (by omega) _ (HAS.out.below HB2.out)).mono ?_; rintro e w2' ⟨⟨y, rfl, hy1, hy2, hy3⟩, rfl⟩)
  by_cases hy : y < 0
  · clear hy3
    go_wp2
    go_ret
    exact ⟨rfl, HB2.out⟩
  obtain ⟨hl1, hl2⟩ := hy3 (by omega)
  have L1s : S.length ≤ 1048576 := by omega
  have L2s := Lib.hid (show ∀ j, j < S.length → (row S j).length ≤ 1048576 from fun j hj => by have := hl2 j hj; omega)
  have hyy : ¬ y < 0 := hy
  clear hl1 hl2 hy3 hz1 hz2 hy1 hy2
  go_upto_region 12 with (first
    | (go_at_call 16; refine (implCoverOf_any _ _ g S (by omega) _ (HX7.out.own.gr (by omega) (fun j hj => by have := L2.out j hj; omega)) (HR7.out.own.rws (by omega) (fun j hj => by have := L2s.out j hj; omega)) (HT.out.keep HB7.out)).mono ?_; rintro e w8 ⟨x2, xs, rfl, hS8, hx32, ho8, hb8⟩; have HS8 := Lib.hid hS8; have HO8 := Lib.hid ho8; obtain ⟨x2p, x2c, rfl⟩ := owns_shape ho8; clear hS8 ho8)
    | (go_at_call 15; refine (toInt64SS_any _ S L1s L2s.out _ (HAS.out.below HB6.out)).mono ?_; rintro e w7 ⟨x1, rfl, ⟨x1b, x1c, rfl⟩, ho7, hb7⟩; have HX7 := Lib.hid (HX6.out.below hb7); have HR7 := Lib.hid (InR.of_own ho7); have bq7 := ((Box.new w6 (.slice x0p g.length x0c) 29).keep hb7).cell; have HB7 := Lib.hid (HB6.out.trans (hb7.mono HB6.out.size)); clear ho7)
    | (go_at_call 14; refine (toGraph_any _ g L1 L2.out _ (HA.out.below HB5.out)).mono ?_; rintro e w6 ⟨x0, rfl, ho6, hb6⟩; obtain ⟨x0p, x0c, rfl⟩ := ho6.shape; have HX6 := Lib.hid ((InG.of_own ho6).below (below_alloc w6 (.cells #[.slice x0p g.length x0c] 29))); have HB6 := Lib.hid ((HB5.out.trans (hb6.mono HB5.out.size)).alloc (Nat.le_trans HB5.out.size hb6.size) (.cells #[.slice x0p g.length x0c] 29)); clear ho6)
    | (go_at_call 13; refine (specCoverOf_any _ _ g S (by omega) _ (HY4.out.gr (by omega) (fun j hj => by have := L2.out j hj; omega)) (hr4.rws (by omega) (fun j hj => by have := L2s.out j hj; omega))).mono ?_; rintro e w5 ⟨y2, ys, rfl, hS5, hy32, hn5, hb5⟩; have HS5 := Lib.hid hS5; have HN5 := Lib.hid hn5; obtain ⟨y2p, y2c, rfl, _⟩ := id hn5.shape; have HB5 := Lib.hid ((HB3.out.trans (hb4.mono HB3.out.size)).trans (hb5.mono (Nat.le_trans HB3.out.size hb4.size))); have BX5 := Lib.hid ((BX3.out.keep hb4).keep hb5); have bc5 := BX5.out.cell; clear hS5 hn5)
    | (go_at_call 15; refine (toInt64SS_any _ S L1s L2s.out _ (HAS.out.below HB3.out)).mono ?_; rintro e w4 ⟨y1, rfl, ⟨y1b, y1c, rfl⟩, hr4, hb4⟩; have HY4 := Lib.hid (ho3.below hb4))
    | (go_at_call 14; refine (toGraph_any _ g L1 L2.out _ (HA.out.below HB2.out)).mono ?_; rintro e w3 ⟨y0, rfl, ho3, hb3⟩; obtain ⟨y0p, y0c, rfl⟩ := ho3.shape; have HB3 := Lib.hid (HB2.out.trans (hb3.mono HB2.out.size)); have BX3 := Lib.hid (BX2.out.keep hb3)))
  have hxy := cvS_det HS8.out HS5.out
  subst hxy
  have sA := hbA.out.size
  rw [size_alloc] at sA
  have s2 := HB2.out.size
  have s3 := hb3.size
  have s4 := hb4.size
  have s5 := hb5.size
  have s6 := hb6.size
  have s7 := hb7.size
  rw [size_alloc] at s7
  have s8 := hb8.size
  have W5b : Below w5.heap.size w5 w8 := ((hb6.alloc hb6.size (.cells #[.slice x0p g.length x0c] 29)).trans (hb7.mono (by rw [size_alloc]; omega))).trans (hb8.mono (by omega))
  have YB8 := Lib.hid W5b
  have HB8 := Lib.hid (HB7.out.trans (hb8.mono HB7.out.size))
  have B8 := Lib.hid (((Box.new w6 (.slice x0p g.length x0c) 29).keep hb7).keep hb8)
  have X8 := Lib.hid (HX7.out.below hb8)
  have R8 := Lib.hid (HR7.out.below hb8)
  clear hb3 hb4 hb5 hb6 hb7 hb8 ho3 hr4 bc2 bl2 bc5 bq7 W5b HX6 HB3 HX7 HB7 HR7 HY4
  go_upto_region 14 with (go_at_call 17; refine (eqInt64S_b _ _ xs xs rfl _ (Nums.of_owns HO8.out rfl (by omega)) (HN5.out.below YB8.out)).mono ?_; rintro e w9 ⟨rfl, hb9⟩)
  have YB9 := Lib.hid (YB8.out.trans (hb9.mono YB8.out.size))
  have B9 := Lib.hid (B8.out.keep hb9)
  have X9 := Lib.hid (X8.out.below hb9)
  have R9 := Lib.hid (R8.out.below hb9)
  have O9 := Lib.hid (ownsRow_below HO8.out hb9)
  have q6 := B9.out.cell
  have q1 := (BX5.out.below YB9.out BX5.out.lt).cell
  have s9 := hb9.size
  clear hb9
  go_cut [44] (fun s44 wx => s44 = .bool false ∧ Below w9.heap.size w9 wx)
  case first =>
    go_region_held3 (fun W => W.cell? ⟨w6.heap.size, 0, none⟩ = some (.slice x0p g.length x0c) ∧ W.cell? ⟨w.heap.size, 0, none⟩ = some (.slice p g.length c))
      (first | go_keep | exact ⟨hb8'.at' q6, hb8'.at' q1⟩ | exact ⟨hb9'.at' q6, hb9'.at' q1⟩)
      (first | (go_at_call 14; refine (toGraph_any _ g L1 L2.out _ (HA.out.below (below_dN (HB5.out.trans (YB9.out.mono HB5.out.size)) 1))).mono ?_; rintro e w10 ⟨x0', rfl, ho8, hb8⟩; obtain ⟨x0p', x0c', rfl⟩ := ho8.shape; have hb8' : Below w9.heap.size w9 w10 := (below_dN (Below.refl _ _) 1).trans hb8) | (go_at_call 18; refine (eqGraph_b _ _ g _ ((X9.out.below hb8').own.gr (by omega) (fun j hj => by have := L2.out j hj; omega)) (ho8.gr (by omega) (fun j hj => by have := L2.out j hj; omega))).mono ?_; rintro e w11 ⟨rfl, hb9⟩; have hb9' : Below w9.heap.size w9 w11 := hb8'.trans (hb9.mono hb8'.size)))
    all_goals go_wp2
    all_goals go_meet
    all_goals exact ⟨rfl, hb9'⟩
  case rest =>
  obtain ⟨rfl, hbc⟩ := hcut
  have sc' := hbc.size
  have YBc := Lib.hid (YB9.out.trans (hbc.mono YB9.out.size))
  have Xc := Lib.hid (X9.out.below hbc)
  have Rc := Lib.hid (R9.out.below hbc)
  have Oc := Lib.hid (ownsRow_below O9.out hbc)
  have Bc := Lib.hid (B9.out.keep hbc)
  clear hbc q6 q1
  go_upto_region 18 with (first
    | (go_at_call 19; refine (eqInt64SS_b _ _ S _ ((Rc.out.below hb12).own.rws (by omega) (fun j hj => by have := L2s.out j hj; omega)) (ho12.rws (by omega) (fun j hj => by have := L2s.out j hj; omega))).mono ?_; rintro e w13 ⟨rfl, hb13x⟩; have hb13 := hb12.trans (hb13x.mono hb12.size))
    | (go_at_call 15; refine (toInt64SS_any _ S L1s L2s.out _ (HAS.out.below (HB5.out.trans (YBc.out.mono HB5.out.size)))).mono ?_; rintro e w12 ⟨x1', rfl, ⟨x1b', x1c', rfl⟩, ho12, hb12⟩))
  have s13 := hb13.size
  have YB13 := Lib.hid (YBc.out.trans (hb13.mono YBc.out.size))
  have X13 := Lib.hid (Xc.out.below hb13)
  have R13 := Lib.hid (Rc.out.below hb13)
  have O13 := Lib.hid (ownsRow_below Oc.out hb13)
  have bc13 := (Bc.out.keep hb13).cell
  clear hb12 hb13 ho12
  go_upto_region 20 with (go_at_call 20; refine (markGraph_any _ g w5.heap.size w6.heap.size 1 L1 L2.out (by decide) (by decide) _ X13.out).mono ?_; rintro e w14 ⟨⟨z2, rfl, hz2⟩, hap⟩)
  have s14 := hap.size
  have YB14 := Lib.hid (YB13.out.trans (hap.below (by omega)))
  have R14 := Lib.hid (R13.out.apart_hi hap (by rw [size_alloc]; omega))
  have O14 := Lib.hid (ownsRow_apart_hi O13.out hap (by omega))
  clear hap bc13
  go_upto_region 21 with (go_at_call 21; refine (markRows_k _ S _ w7.heap.size z2 L1s L2s.out (by omega) 2000000000000 (by omega) (by omega) _ R14.out).mono ?_; rintro e w15 ⟨⟨z3, rfl, hz3⟩, hap⟩)
  have s15 := hap.size
  have YB15 := Lib.hid (YB14.out.trans ((hap.below (by rw [size_alloc]; omega)).mono (by rw [size_alloc]; omega)))
  have O15 := Lib.hid (ownsRow_apart_hi O14.out hap (Nat.le_refl _))
  have z3n : ¬ z3 < 0 := by omega
  clear hap
  go_upto_region 23 with (go_at_call 17; refine (eqInt64S_b _ _ xs xs rfl _ (Nums.of_owns O15.out rfl (by omega)) (HN5.out.below YB15.out)).mono ?_; rintro e w16 ⟨rfl, hb16⟩)
  have s16 := hb16.size
  have YB16 := Lib.hid (YB15.out.trans (hb16.mono YB15.out.size))
  have O16 := Lib.hid (ownsRow_below O15.out hb16)
  clear hb16
  go_upto_region 25 with (go_at_call 22; refine (markInt64S_any _ xs.length _ _ 1 (by omega) (by decide) (by decide) _ O16.out).mono ?_; rintro e w17 ⟨rfl, ho17, hg17, hs17⟩)
  have hb17 := below_grown (Below.refl w7.heap.size w16) O16.out hg17 (Nat.le_refl _) (by omega)
  have YB17 := Lib.hid (YB16.out.trans (hb17.mono (by omega)))
  have HB17 := Lib.hid (HB5.out.trans (YB17.out.mono HB5.out.size))
  have N17 := Lib.hid (Nums.of_owns (xs := marks 1 xs.length) ho17 (marks_length _ _).symm (by omega))
  have q17 := (BX5.out.below YB17.out BX5.out.lt).cell
  have hn1 : ¬ (1 + (xs.length : Int)) < 0 := by omega
  clear ho17 hg17 hb17
  go_wp2_with (first
    | (go_at_call 23; refine (heldInt64S_any _ xs.length 1 (by decide) (by decide) _ (N17.out.below hb22)).mono ?_; rintro e w23 ⟨rfl, rfl⟩)
    | (go_at_call 17; refine (eqInt64S_b _ _ xs xs rfl _ N21.out (HN5.out.below (YB17.out.trans (hb21.mono YB17.out.size)))).mono ?_; rintro e w22 ⟨rfl, hb22x⟩; have hb22 : Below w17.heap.size w17 w22 := hb21.trans (hb22x.mono hb21.size))
    | (go_at_call 16; refine (implCoverOf_any _ _ g S (by omega) _ (HX20.out.gr (by omega) (fun j hj => by have := L2.out j hj; omega)) (ho20.rws (by omega) (fun j hj => by have := L2s.out j hj; omega)) ((HT.out.keep HB19.out).keep hb20)).mono ?_; rintro e w21 ⟨x3, zs, rfl, hS21, _, ho21, hb21x⟩; have hzs := cvS_det hS21 HS8.out; rw [hzs] at ho21; obtain ⟨x3p, x3c, rfl⟩ := owns_shape ho21; have N21 := Lib.hid (Nums.of_owns ho21 rfl (by omega)); have hb21 : Below w17.heap.size w17 w21 := (hb19.trans (hb20.mono hb19.size)).trans (hb21x.mono (Nat.le_trans hb19.size hb20.size)); clear hS21 ho21 hzs)
    | (go_at_call 15; refine (toInt64SS_any _ S L1s L2s.out _ (HAS.out.below HB19.out)).mono ?_; rintro e w20 ⟨x4, rfl, ⟨x4b, x4c, rfl⟩, ho20, hb20⟩; have HX20 := Lib.hid (ho19.below hb20))
    | (go_at_call 14; refine (toGraph_any _ g L1 L2.out _ (HA.out.below HB17.out)).mono ?_; rintro e w19 ⟨y14, rfl, ho19, hb19⟩; obtain ⟨y14p, y14c, rfl⟩ := ho19.shape; have HB19 := Lib.hid (HB17.out.trans (hb19.mono HB17.out.size)))
    | (go_at_call 23; refine (heldInt64S_any _ xs.length 1 (by decide) (by decide) _ N17.out).mono ?_; rintro e w18 ⟨rfl, rfl⟩))
  go_ret
  exact ⟨rfl, HB17.out.trans (hb22.mono HB17.out.size)⟩

end Go.Proofs.YtihlcmenfopaiaaDoor
