/- Walk: the law FnExactCanonical: a graph and a row of numbers. -/
import Derived.Test.YtiklocamfgopbaaDoorLawsG
import Derived.Test.YtiklocamfgopbaaDoorLawsF
import Derived.Test.YtiklocamfgopbaaDoorCnT
import Derived.Test.YtiklocamfgopbaaDoorCnI
namespace Go.Proofs.YtiklocamfgopbaaDoor
open Go.RowKit

theorem DGh.other {w w' : World} {base hi n : Nat} {v x : Value} {g : List (List Int)} {ys : List Value} (h : DGh w base hi v g) (ho : w.ownsRow hi 2 1 x n ys) (hg : w.grownBy w' x.ownBlock) : DGh w' base hi v g := by
  obtain ⟨u, vals, h1, h2, h3, h4, h5⟩ := h
  exact ⟨u, vals, h1, h2, ownsRow_other h3 ho hg (by decide), ⟨fun j hj => ownsRow_to (h4.rows j hj) fun k e => hg.block k ((h4.rows j hj).lt k e).2 fun c => by
    have := h5 j hj k e
    have := (ho.lt k c.symm).1
    omega, h4.dis⟩, h5⟩
set_option maxRecDepth 100000 in
set_option maxHeartbeats 4000000 in
theorem lawCanonical_any (v : Value) (g : List (List Int)) (w : World) (hg : ArgG w v g) (hT : Tab w) :
    Calls Tryd.prog 4 #[v] w fun e w' => e = .returned (.bool true) ∧ Below w.heap.size w w' := by
  have hg0 := hg
  obtain ⟨u, rfl, hr⟩ := hg
  obtain ⟨p, c, vals, rfl, _⟩ := hr
  have hbA := Lib.hid (below_alloc w (.cells #[.slice p g.length c] 24))
  have BX := Lib.hid (Box.new w (.slice p g.length c) 24)
  have HA := Lib.hid hg0
  have HT := Lib.hid hT
  clear hg0 hT
  go_enter Tryd.func4, Tryd.ntmps4
  go_upto_region 3 with (go_at_call 5; refine (szGraph_any _ g 1048576 (by decide) (by decide) _ (HA.out.below hbA.out)).mono ?_; rintro e w2 ⟨⟨z, rfl, hz1, hz2, hz3⟩, hb2⟩)
  have HB2 := Lib.hid (hbA.out.trans (hb2.mono hbA.out.size))
  have BX2 := Lib.hid (BX.out.keep hb2)
  obtain ⟨bc2, _, bl2, _⟩ := BX2.out
  clear hb2
  by_cases hz : z < 0
  · clear hz3
    go_wp2
    go_ret
    exact ⟨rfl, HB2.out⟩
  obtain ⟨hl1, hl2⟩ := hz3 (by omega)
  have L1 : g.length ≤ 1048576 := by omega
  have L2 := Lib.hid (show ∀ j, j < g.length → (row g j).length ≤ 1048576 from fun j hj => by have := hl2 j hj; omega)
  clear hl1 hl2 hz3
  go_upto_region 8 with (first
    | (go_at_call 15; refine (implCanonical_any _ g _ (HX5.out.own.gr (by omega) (fun j hj => by have := L2.out j hj; omega)) (HT.out.keep HB5.out)).mono ?_; rintro e w6 ⟨x1, x2v, gx, xl, mid, rfl, hS6, hgl6, hrl6, hll6, hm1, hm2, hd6, ho6, hb6⟩; have HS6 := Lib.hid hS6; have HD6 := Lib.hid hd6; obtain ⟨x1p, x1c, rfl⟩ := hd6.dg.shape; obtain ⟨x2p, x2c, rfl, _⟩ := owns_capL ho6; have HO6 := Lib.hid ho6; have HR6 := Lib.hid hrl6; clear hS6 hd6 hrl6 ho6)
    | (go_at_call 7; refine (toGraph_any _ g L1 L2.out _ (HA.out.below HB4.out)).mono ?_; rintro e w5 ⟨x0, rfl, ho5, hb5⟩; obtain ⟨x0p, x0c, rfl⟩ := ho5.shape; have HX5 := Lib.hid ((InG.of_own ho5).below (below_alloc w5 (.cells #[.slice x0p g.length x0c] 30))); have HB5 := Lib.hid ((HB4.out.trans (hb5.mono HB4.out.size)).alloc (Nat.le_trans HB4.out.size hb5.size) (.cells #[.slice x0p g.length x0c] 30)); clear ho5)
    | (go_at_call 14; refine (specCanonical_any _ g _ (ho3.gr (by omega) (fun j hj => by have := L2.out j hj; omega))).mono ?_; rintro e w4 ⟨y1, y2v, gy, yl, rfl, hS4, hy4, hny4, hgl4, hrl4, hll4, hb4⟩; have HS4 := Lib.hid hS4; obtain ⟨y2p, y2c, rfl, _⟩ := id hny4.shape; obtain ⟨y1p, y1c, rfl⟩ := hy4.shape; have NY4 := Lib.hid (hny4.below (below_alloc w4 (.cells #[.slice y1p gy.length y1c] 30))); have HY4 := Lib.hid (hy4.below (below_alloc w4 (.cells #[.slice y1p gy.length y1c] 30))); have BX4 := Lib.hid (((BX2.out.keep hb3).keep hb4).alloc (.cells #[.slice y1p gy.length y1c] 30)); have bc4 := BX4.out.cell; have B4 := Lib.hid (Box.new w4 (.slice y1p gy.length y1c) 30); have HB4 := Lib.hid (((HB2.out.trans (hb3.mono HB2.out.size)).trans (hb4.mono (Nat.le_trans HB2.out.size hb3.size))).alloc (Nat.le_trans (Nat.le_trans HB2.out.size hb3.size) hb4.size) (.cells #[.slice y1p gy.length y1c] 30)); clear hS4 hy4 hny4)
    | (go_at_call 7; refine (toGraph_any _ g L1 L2.out _ (HA.out.below HB2.out)).mono ?_; rintro e w3 ⟨y0, rfl, ho3, hb3⟩; obtain ⟨y0p, y0c, rfl⟩ := ho3.shape))
  obtain ⟨hxy1, hxy2⟩ := canS_det HS6.out HS4.out
  subst hxy1
  subst hxy2
  obtain ⟨W4, hW4⟩ : ∃ W4, W4 = w4.alloc (.cells #[.slice y1p gx.length y1c] 30) := ⟨_, rfl⟩
  have z4 : W4.heap.size = w4.heap.size + 1 := by rw [hW4, size_alloc]
  rw [← hW4] at HY4 NY4 BX4 B4 HB4 hb5 HX5 bc4
  have sA := hbA.out.size
  rw [size_alloc] at sA
  have s2 := HB2.out.size
  have s3 := hb3.size
  have s4 := hb4.size
  have s5 := hb5.size
  have s6 := hb6.size
  rw [size_alloc] at s6
  have lA' : w.heap.size < W4.heap.size := by omega
  have YB6 := Lib.hid (((hb5.alloc s5 (.cells #[.slice x0p g.length x0c] 30)).trans (hb6.mono (by rw [size_alloc]; omega))).alloc (by omega) (.cells #[.slice x1p gx.length x1c] 30))
  have B6 := Lib.hid (((Box.new w5 (.slice x0p g.length x0c) 30).keep hb6).alloc (.cells #[.slice x1p gx.length x1c] 30))
  have B7 := Lib.hid (Box.new w6 (.slice x1p gx.length x1c) 30)
  have X6 := Lib.hid ((HX5.out.below hb6).below (below_alloc w6 (.cells #[.slice x1p gx.length x1c] 30)))
  have O6 := Lib.hid (ownsRow_below HO6.out (below_alloc w6 (.cells #[.slice x1p gx.length x1c] 30)))
  have D6 := Lib.hid (HD6.out.below (below_alloc w6 (.cells #[.slice x1p gx.length x1c] 30)))
  have hpre := preL_le HR6.out gx.length
  have hr1000 : ∀ j, (row gx j).length ≤ 1000 := fun j => by have := HR6.out j; omega
  have HR := Lib.hid hr1000
  have q4 := (B4.out.below YB6.out (by omega)).cell
  clear hb3 hb4 hb5 hb6 ho3 bc2 bl2 bc4 hrl4 hr1000 hll4
  go_upto_region 10 with (first | (go_at_call 16; refine (eqInt64S_b _ _ xl xl rfl _ (Nums.of_owns (ownsRow_below O6.out hb8g) rfl (by omega)) (NY4.out.below (YB6.out.trans (hb8g.mono YB6.out.size)))).mono ?_; rintro e w8 ⟨rfl, hb8i⟩; have hb8 := hb8g.trans (hb8i.mono hb8g.size)) | (go_at_call 10; refine (eqGraph_b _ _ gx _ (D6.out.dg.gr (by omega) (fun j hj => by have := HR.out j; omega)) ((HY4.out.below YB6.out).gr (by omega))).mono ?_; rintro e w8g ⟨rfl, hb8g⟩))
  have YB8 := Lib.hid (YB6.out.trans (hb8.mono YB6.out.size))
  have B68 := Lib.hid (B6.out.keep hb8)
  have B78 := Lib.hid (B7.out.keep hb8)
  have X8 := Lib.hid (X6.out.below hb8)
  have D8 := Lib.hid (D6.out.below hb8)
  have O8 := Lib.hid (ownsRow_below O6.out hb8)
  have q6 := B68.out.cell
  have q1 := (BX4.out.below YB8.out lA').cell
  have s8 := hb8.size
  rw [size_alloc] at s8
  clear hb8 q4 hb8g hb8i
  go_cut [46] (fun s46 wx => s46 = .bool false ∧ Below w8.heap.size w8 wx)
  case first =>
    go_region_held3 (fun W => W.cell? ⟨w5.heap.size, 0, none⟩ = some (.slice x0p g.length x0c) ∧ W.cell? ⟨w.heap.size, 0, none⟩ = some (.slice p g.length c))
      (first | go_keep | exact ⟨hb8'.at' q6, hb8'.at' q1⟩ | exact ⟨hb9'.at' q6, hb9'.at' q1⟩)
      (first | (go_at_call 7; refine (toGraph_any _ g L1 L2.out _ (HA.out.below (below_dN (HB4.out.trans (YB8.out.mono HB4.out.size)) 1))).mono ?_; rintro e w9 ⟨x0', rfl, ho8, hb9⟩; obtain ⟨x0p', x0c', rfl⟩ := ho8.shape; have hb8' : Below w8.heap.size w8 w9 := (below_dN (Below.refl _ _) 1).trans hb9) | (go_at_call 10; refine (eqGraph_b _ _ g _ ((X8.out.below hb8').own.gr (by omega) (fun j hj => by have := L2.out j hj; omega)) (ho8.gr (by omega) (fun j hj => by have := L2.out j hj; omega))).mono ?_; rintro e w9x ⟨rfl, hb9x⟩; have hb9' : Below w8.heap.size w8 w9x := hb8'.trans (hb9x.mono hb8'.size)))
    all_goals go_wp2
    all_goals go_meet
    all_goals exact ⟨rfl, hb9'⟩
  case rest =>
    obtain ⟨rfl, hbc⟩ := hcut
    have sc := hbc.size
    have YBc := Lib.hid (YB8.out.trans (hbc.mono YB8.out.size))
    have Xc := Lib.hid (X8.out.below hbc)
    have Dc := Lib.hid (D8.out.below hbc)
    have Oc := Lib.hid (ownsRow_below O8.out hbc)
    have B7c := Lib.hid (B78.out.keep hbc)
    have bc := (B68.out.keep hbc).cell
    clear hbc q1 q6
    go_upto_region 14 with (go_at_call 11; refine (markGraph_any _ g W4.heap.size w5.heap.size 1 L1 L2.out (by decide) (by decide) _ Xc.out).mono ?_; rintro e w10 ⟨⟨z2, rfl, hz2⟩, hap⟩)
    have sp := hap.size
    have YBp := Lib.hid (YBc.out.trans (hap.below (by omega)))
    have Dp := Lib.hid (Dc.out.apart hap (by rw [size_alloc]; omega))
    have Op := Lib.hid (ownsRow_apart_hi Oc.out hap (by rw [size_alloc] at hm1; omega))
    have B7p := Lib.hid (B7c.out.apart hap (by omega))
    have q7 := B7p.out.cell
    have q4 := (B4.out.below YBp.out (by omega)).cell
    have z2n : ¬ z2 < 0 := by omega
    clear hap bc
    go_upto_region 17 with (first | (go_at_call 16; refine (eqInt64S_b _ _ xl xl rfl _ (Nums.of_owns (ownsRow_below Op.out hb11g) rfl (by omega)) (NY4.out.below (YBp.out.trans (hb11g.mono YBp.out.size)))).mono ?_; rintro e w11 ⟨rfl, hb11i⟩; have hb11 := hb11g.trans (hb11i.mono hb11g.size)) | (go_at_call 10; refine (eqGraph_b _ _ gx _ (Dp.out.dg.gr (by omega) (fun j hj => by have := HR.out j; omega)) ((HY4.out.below YBp.out).gr (by omega))).mono ?_; rintro e w11g ⟨rfl, hb11g⟩))
    have s11 := hb11.size
    have YB11 := Lib.hid (YBp.out.trans (hb11.mono YBp.out.size))
    have D11 := Lib.hid (Dp.out.below hb11)
    have O11 := Lib.hid (ownsRow_below Op.out hb11)
    have B711 := Lib.hid (B7p.out.keep hb11)
    have q711 := B711.out.cell
    clear hb11 q7 q4 hb11g hb11i
    go_upto_region 18 with (go_at_call 11; refine (markGraph_x _ gx _ _ 1 (by omega) HR.out (by decide) (by decide) _ D11.out).mono ?_; rintro e w12 ⟨rfl, hd12, hap12⟩)
    have s12 := hap12.size
    have YB12 := Lib.hid (YB11.out.trans ((hap12.below (by rw [size_alloc]; omega)).mono (by rw [size_alloc]; omega)))
    have B712 := Lib.hid (B711.out.apart hap12 hm2)
    have O12 := Lib.hid (ownsRow_apart_hi O11.out hap12 (Nat.le_refl _))
    have D12 := Lib.hid hd12
    have q712 := B712.out.cell
    clear hd12 hap12 q711
    go_upto_region 19 with (go_at_call 17; refine (markInt64S_any _ xl.length mid _ (1 + (preL gx gx.length : Int)) (by omega) (by omega) (by omega) _ O12.out).mono ?_; rintro e w13 ⟨rfl, ho13, hg13, hs13⟩)
    rw [size_alloc] at hm1
    have hb13 := below_grown (Below.refl mid w12) O12.out hg13 (Nat.le_refl _) (by omega)
    have YB13 := Lib.hid (YB12.out.trans (hb13.mono (by omega)))
    have D13 := Lib.hid (D12.out.other O12.out hg13)
    have B713 := Lib.hid (B712.out.grown hg13 (fun e => by
      have h1 := B712.out.blk
      rcases O12.out.2 with ⟨hx, _⟩ | ⟨gg, cap, cur, hx, _, hgg, _⟩
      · rw [hx] at e; cases e
      · have : w6.heap.size = gg := by rw [hx] at e; simpa [Value.ownBlock] using e
        subst this
        rw [h1] at hgg
        simp only [Option.some.injEq, Obj.cells.injEq] at hgg
        exact absurd hgg.2.1 (by decide)))
    have q713 := B713.out.cell
    have N13 := Lib.hid (Nums.of_owns (xs := marks (1 + (preL gx gx.length : Int)) xl.length) ho13 (marks_length _ _).symm (by omega))
    have G13 := Lib.hid (D13.out.dg.gr (by rw [markG_length]; omega) (fun j hj => by rw [markG_length] at hj; rw [row_markG hj, marks_length]; have := HR.out j; omega))
    have HB13 := Lib.hid (HB4.out.trans (YB13.out.mono HB4.out.size))
    have q13 := (BX4.out.below YB13.out lA').cell
    have q413 := (B4.out.below YB13.out (by omega)).cell
    have hn1 : ¬ (1 + (preL gx gx.length : Int)) < 0 := by omega
    have hn2 : ¬ (1 + (preL gx gx.length : Int) + (xl.length : Int)) < 0 := by omega
    clear ho13 hg13 hb13 q712
    go_wp2_with (first
      | (go_at_call 19; refine (heldInt64S_any _ xl.length (1 + (preL gx gx.length : Int)) (by omega) (by omega) _ (N13.out.below hb20)).mono ?_; rintro e w21 ⟨rfl, rfl⟩)
      | (go_at_call 18; refine (heldGraph_x _ gx 1 (by omega) HR.out (by decide) (by decide) _ (G13.out.below hb19)).mono ?_; rintro e w20 ⟨rfl, hb20x⟩; have hb20 : Below w13.heap.size w13 w20 := hb19.trans (hb20x.mono hb19.size))
      | (go_at_call 16; refine (eqInt64S_b _ _ xl xl rfl _ (Nums.of_owns (ownsRow_below (ownsRow_below ho17 (below_alloc _ _)) hb18x) rfl (by omega)) (NY4.out.below (YB13.out.trans (hb18.mono YB13.out.size)))).mono ?_; rintro e w19 ⟨rfl, hb19x⟩; have hb19 : Below w13.heap.size w13 w19 := hb18.trans (hb19x.mono hb18.size); have q719 := hb19.at' q713)
      | (go_at_call 10; refine (eqGraph_b _ _ gx _ ((hd17.dg.below (below_alloc w17 (.cells #[.slice x3p gx.length x3c] 30))).gr (by omega) (fun j hj => by have := HR.out j; omega)) ((HY4.out.below (YB13.out.trans (hb17a.mono YB13.out.size))).gr (by omega))).mono ?_; rintro e w18 ⟨rfl, hb18x⟩; have hb18 : Below w13.heap.size w13 w18 := hb17a.trans (hb18x.mono hb17a.size))
      | (go_at_call 15; refine (implCanonical_any _ g _ (ho16.gr (by omega) (fun j hj => by have := L2.out j hj; omega)) ((HT.out.keep HB14.out).keep hb16)).mono ?_; rintro e w17 ⟨x3, x4, gx3, xl3, mid3, rfl, hS17, _, _, _, _, _, hd17, ho17, hb17⟩; obtain ⟨hd1, hd2⟩ := canS_det hS17 HS6.out; rw [hd1] at hd17; rw [hd2] at ho17; obtain ⟨x3p, x3c, rfl⟩ := hd17.dg.shape; obtain ⟨x4p, x4c, rfl, _⟩ := owns_capL ho17; have hb17b : Below w13.heap.size w13 w17 := (hb14.trans (hb16.mono hb14.size)).trans (hb17.mono (Nat.le_trans hb14.size hb16.size)); have hb17a : Below w13.heap.size w13 (w17.alloc (.cells #[.slice x3p gx.length x3c] 30)) := hb17b.alloc hb17b.size _; have q417 := fun o => (below_alloc w17 o).at' (hb17b.at' q413); clear hS17 hd1 hd2)
      | (go_at_call 7; refine (toGraph_any _ g L1 L2.out _ (HA.out.below HB14.out)).mono ?_; rintro e w16 ⟨y16, rfl, ho16, hb16⟩; obtain ⟨y16p, y16c, rfl⟩ := ho16.shape)
      | (go_at_call 19; refine (heldInt64S_any _ xl.length (1 + (preL gx gx.length : Int)) (by omega) (by omega) _ (N13.out.below hb14)).mono ?_; rintro e w15 ⟨rfl, rfl⟩)
      | (go_at_call 18; refine (heldGraph_x _ gx 1 (by omega) HR.out (by decide) (by decide) _ G13.out).mono ?_; rintro e w14 ⟨rfl, hb14⟩; have HB14 := Lib.hid (HB13.out.trans (hb14.mono HB13.out.size)); have q14 := hb14.at' q13))
    go_ret
    exact ⟨rfl, HB13.out.trans (hb20.mono HB13.out.size)⟩

end Go.Proofs.YtiklocamfgopbaaDoor
