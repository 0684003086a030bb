/- Walk: the law FnExactQuotientAt: a graph, a tree, a node (printed by wip/mkMainQt.py). -/
import Derived.Test.YtfphapcgjlhieaaDoorQtQ8
import Derived.Test.YtfphapcgjlhieaaDoorQtQ21
import Derived.Test.YtfphapcgjlhieaaDoorQtQ18
import Derived.Test.YtfphapcgjlhieaaDoorQtQ42
import Derived.Test.YtfphapcgjlhieaaDoorQtQ43
namespace Go.Proofs.YtfphapcgjlhieaaDoor
open Go.RowKit

set_option maxRecDepth 100000 in
set_option maxHeartbeats 4000000 in
theorem lawQuotientAt_any (v lv : Value) (g : List (List Int)) (l : List Pt) (x : Int) (w : World) (hg : ArgG w v g) (hl : ArgPs w lv l) (hT : Tab w) :
    Calls Tryd.prog 4 #[v, lv, .int .i64 x] w fun e w' => e = .returned (.bool true) ∧ Below w.heap.size w w' := by
  have hg0 := hg
  obtain ⟨u, rfl, hr⟩ := hg
  obtain ⟨p, c, vals, rfl, _⟩ := hr
  have hl0 := hl
  obtain ⟨lp, lc, lus, rfl, hl63, _⟩ := hl
  have hbA := Lib.hid (below_alloc w (.cells #[.slice p g.length c] 36))
  have BX := Lib.hid (Box.new w (.slice p g.length c) 36)
  have HA := Lib.hid hg0
  have HT := Lib.hid hT
  have HL := Lib.hid hl0
  clear hg0 hT hl0
  go_enter Tryd.func4, Tryd.ntmps4
  go_upto_region 3 with (go_at_call 16; refine (szGraph_any _ g 1048576 (by decide) (by decide) _ (HA.out.below hbA.out)).mono ?_; rintro e w2 ⟨⟨z, rfl, hz1, hz2, hz3⟩, hb2⟩)
  have HB2 := Lib.hid (hbA.out.trans (hb2.mono hbA.out.size))
  have BX2 := Lib.hid (BX.out.keep hb2)
  have bc0 := BX2.out.cell
  clear hb2
  by_cases hz : z < 0
  · clear hz3
    go_wp2
    go_ret
    exact ⟨rfl, HB2.out⟩
  obtain ⟨hl1, hl2⟩ := hz3 (by omega)
  have L1 : g.length ≤ 1048576 := by omega
  have L2 := Lib.hid (show ∀ j, j < g.length → (row g j).length ≤ 1048576 from fun j hj => by have := hl2 j hj; omega)
  clear hl1 hl2 hz3
  go_upto_region 6 with (go_at_call 7; refine (szPartS_any _ l z (by omega) (by omega) _ (HL.out.below HB2.out)).mono ?_; rintro e w2s ⟨⟨zs, rfl, hs1, hs2, hs3⟩, hb2s⟩)
  replace BX2 := Lib.hid (BX2.out.keep hb2s)
  replace HB2 := Lib.hid (HB2.out.trans (hb2s.mono HB2.out.size))
  clear hb2s bc0
  by_cases hzs : zs < 0
  · clear hs3
    go_wp2
    go_ret
    exact ⟨rfl, HB2.out⟩
  have HSP := Lib.hid (hs3 (by omega))
  have hlp := HSP.out.1
  obtain ⟨bc2, _, bl2, _⟩ := BX2.out
  clear hs3
  go_upto_region 12 with (first
    | (go_at_call 19; refine (implQuotientAt_any _ _ g l x _ ((HX5.out.below hb5i).own.gr (by omega) (fun j hj => by have := L2.out j hj; omega)) (ho5i.trs HSP.out) (HT.out.keep HB5i.out)).mono ?_; rintro e w6 ⟨x1, gx, okx, rfl, hS6, hd6, hgl6, hrl6, hb6⟩; have HS6 := Lib.hid hS6; have HD6 := Lib.hid (DGh.of hd6); obtain ⟨x1p, x1c, rfl⟩ := hd6.shape; have HR6 := Lib.hid hrl6; clear hS6 hd6 hrl6)
    | (go_at_call 9; refine (toPartS_any _ l HSP.out _ (HL.out.below HB5.out)).mono ?_; rintro e w5i ⟨xi, rfl, ho5i, hb5i⟩; obtain ⟨xib, xic, rfl⟩ := ho5i.shape; have HXI := Lib.hid (InPs.of_own ho5i); have HB5i := Lib.hid (HB5.out.trans (hb5i.mono HB5.out.size)); have q5i := (Box.keep BX5.out hb5i).cell)
    | (go_at_call 18; refine (toGraph_any _ g L1 L2.out _ (HA.out.below HB4.out)).mono ?_; rintro e w5 ⟨x0, rfl, ho5, hb5⟩; obtain ⟨x0p, x0c, rfl⟩ := ho5.shape; have BX5 := Lib.hid (Box.new w5 (.slice x0p g.length x0c) 26); have HX5 := Lib.hid ((InG.of_own ho5).below (below_alloc w5 (.cells #[.slice x0p g.length x0c] 26))); have HB5 := Lib.hid ((HB4.out.trans (hb5.mono HB4.out.size)).alloc (Nat.le_trans HB4.out.size hb5.size) (.cells #[.slice x0p g.length x0c] 26)); clear ho5)
    | (go_at_call 17; refine (specQuotientAt_any _ _ g l x _ ((ho3.below hb3i).gr (by omega) (fun j hj => by have := L2.out j hj; omega)) (ho3i.trs HSP.out)).mono ?_; rintro e w4 ⟨y1, gy, oky, rfl, hS4, hy4, hgl4, hrl4, hb4⟩; have HS4 := Lib.hid hS4; obtain ⟨y1p, y1c, rfl⟩ := hy4.shape; have HY4 := Lib.hid (hy4.below (below_alloc w4 (.cells #[.slice y1p gy.length y1c] 26))); have BX4 := Lib.hid ((((BX2.out.keep hb3).keep hb3i).keep hb4).alloc (.cells #[.slice y1p gy.length y1c] 26)); have bc4 := BX4.out.cell; have B4 := Lib.hid (Box.new w4 (.slice y1p gy.length y1c) 26); have HB4 := Lib.hid ((HB3i.out.trans (hb4.mono HB3i.out.size)).alloc (Nat.le_trans HB3i.out.size hb4.size) (.cells #[.slice y1p gy.length y1c] 26)); clear hS4 hy4)
    | (go_at_call 9; refine (toPartS_any _ l HSP.out _ ((HL.out.below HB2.out).below hb3)).mono ?_; rintro e w3i ⟨yi, rfl, ho3i, hb3i⟩; obtain ⟨yib, yic, rfl⟩ := ho3i.shape; have HB3i := Lib.hid ((HB2.out.trans (hb3.mono HB2.out.size)).trans (hb3i.mono (Nat.le_trans HB2.out.size hb3.size))))
    | (go_at_call 18; refine (toGraph_any _ g L1 L2.out _ (HA.out.below HB2.out)).mono ?_; rintro e w3 ⟨y0, rfl, ho3, hb3⟩; obtain ⟨y0p, y0c, rfl⟩ := ho3.shape))
  obtain ⟨hxy1, hxy2⟩ := qtS_det HS6.out HS4.out
  subst hxy1
  subst hxy2
  obtain ⟨W4, hW4⟩ : ∃ W4, W4 = w4.alloc (.cells #[.slice y1p gx.length y1c] 26) := ⟨_, rfl⟩
  have z4 : W4.heap.size = w4.heap.size + 1 := by rw [hW4, size_alloc]
  rw [← hW4] at HY4 BX4 B4 HB4 hb5 HX5 bc4
  have sA := hbA.out.size
  rw [size_alloc] at sA
  have s2 := HB2.out.size
  have s4 := Nat.le_trans HB3i.out.size hb4.size
  have s5 := hb5.size
  have s5i := hb5i.size
  rw [size_alloc] at s5i
  have s6 := hb6.size
  have lA' : w.heap.size < W4.heap.size := by omega
  have hbb : (okx != okx) = false := by simp
  have hb56 := (hb5.alloc s5 (.cells #[.slice x0p g.length x0c] 26)).trans (hb5i.mono (by rw [size_alloc]; omega))
  have YB6 := Lib.hid ((hb56.trans (hb6.mono (by omega))).alloc (by omega) (.cells #[.slice x1p gx.length x1c] 26))
  have B6 := Lib.hid ((((Box.new w5 (.slice x0p g.length x0c) 26).keep hb5i).keep hb6).alloc (.cells #[.slice x1p gx.length x1c] 26))
  have B7 := Lib.hid (Box.new w6 (.slice x1p gx.length x1c) 26)
  have XI6 := Lib.hid (InPs.below (InPs.below HXI.out hb6) (below_alloc w6 (.cells #[.slice x1p gx.length x1c] 26)))
  have X6 := Lib.hid (((HX5.out.below hb5i).below hb6).below (below_alloc w6 (.cells #[.slice x1p gx.length x1c] 26)))
  have D6 := Lib.hid (HD6.out.below (below_alloc w6 (.cells #[.slice x1p gx.length x1c] 26)))
  have hr1000 : ∀ j, (row gx j).length ≤ 1000 := fun j => by have := HR6.out j; omega
  have HR := Lib.hid hr1000
  have q4 := (B4.out.below YB6.out (by omega)).cell
  clear hb3 hb3i hb4 hb5 hb5i hb56 hb6 ho3 ho3i ho5i bc2 bl2 bc4 hrl4 hr1000 q5i
  go_upto_region 14 with (go_at_call 11; refine (eqGraph_b _ _ gx _ (D6.out.dg.gr (by omega) (fun j hj => by have := HR.out j; omega)) ((HY4.out.below YB6.out).gr (by omega))).mono ?_; rintro e w8 ⟨rfl, hb8⟩)
  have YB8 := Lib.hid (YB6.out.trans (hb8.mono YB6.out.size))
  have B68 := Lib.hid (B6.out.keep hb8)
  have B78 := Lib.hid (B7.out.keep hb8)
  have X8 := Lib.hid (X6.out.below hb8)
  have XI8 := Lib.hid (InPs.below XI6.out hb8)
  have D8 := Lib.hid (D6.out.below hb8)
  have q6 := B68.out.cell
  have q1 := (BX4.out.below YB8.out lA').cell
  have s8 := hb8.size
  rw [size_alloc] at s8
  clear hb8 q4
  go_cut [62] (fun s45 wx => s45 = .bool false ∧ Below w8.heap.size w8 wx)
  case first =>
    go_region_held3 (fun W => W.cell? ⟨w5.heap.size, 0, none⟩ = some (.slice x0p g.length x0c) ∧ W.cell? ⟨w.heap.size, 0, none⟩ = some (.slice p g.length c))
      (first | go_keep | exact ⟨hb8'.at' q6, hb8'.at' q1⟩ | exact ⟨hb9'.at' q6, hb9'.at' q1⟩)
      (first | (go_at_call 18; refine (toGraph_any _ g L1 L2.out _ (HA.out.below (below_dN (HB4.out.trans (YB8.out.mono HB4.out.size)) 1))).mono ?_; rintro e w9 ⟨x0', rfl, ho8, hb9⟩; obtain ⟨x0p', x0c', rfl⟩ := ho8.shape; have hb8' : Below w8.heap.size w8 w9 := (below_dN (Below.refl _ _) 1).trans hb9) | (go_at_call 11; refine (eqGraph_b _ _ g _ ((X8.out.below hb8').own.gr (by omega) (fun j hj => by have := L2.out j hj; omega)) (ho8.gr (by omega) (fun j hj => by have := L2.out j hj; omega))).mono ?_; rintro e w9x ⟨rfl, hb9x⟩; have hb9' : Below w8.heap.size w8 w9x := hb8'.trans (hb9x.mono hb8'.size)))
    all_goals go_wp2
    all_goals go_meet
    all_goals exact ⟨rfl, hb9'⟩
  case rest =>
    obtain ⟨rfl, hbc⟩ := hcut
    have sc := hbc.size
    have YBc := Lib.hid (YB8.out.trans (hbc.mono YB8.out.size))
    have Xc := Lib.hid (X8.out.below hbc)
    have XIc := Lib.hid (InPs.below XI8.out hbc)
    have Dc := Lib.hid (D8.out.below hbc)
    have B7c := Lib.hid (B78.out.keep hbc)
    have B6c := Lib.hid (B68.out.keep hbc)
    clear hbc q1 q6
    go_upto_region 18 with (first
      | (go_at_call 12; refine (eqPartS_yes _ _ l _ ((InPs.below XIc.out hbi).own.trs HSP.out) (hoi.trs HSP.out)).mono ?_; rintro e wj ⟨rfl, hbj⟩)
      | (go_at_call 9; refine (toPartS_any _ l HSP.out _ (HL.out.below (HB4.out.trans (YBc.out.mono HB4.out.size)))).mono ?_; rintro e wi ⟨zi, rfl, hoi, hbi⟩; obtain ⟨zib, zic, rfl⟩ := hoi.shape))
    have hbij := hbi.trans (hbj.mono hbi.size)
    have sj := hbij.size
    have YBj := Lib.hid (YBc.out.trans (hbij.mono YBc.out.size))
    have Xj := Lib.hid (Xc.out.below hbij)
    have XIj := Lib.hid (InPs.below XIc.out hbij)
    have Dj := Lib.hid (Dc.out.below hbij)
    have B7j := Lib.hid (B7c.out.keep hbij)
    have bc := (B6c.out.keep hbij).cell
    clear hbi hbj hbij hoi
    go_upto_region 20 with (go_at_call 14; refine (markGraph_any _ g W4.heap.size w5.heap.size 1 L1 L2.out (by decide) (by decide) _ Xj.out).mono ?_; rintro e w10 ⟨⟨z2, rfl, hz20, hz21⟩, hap⟩)
    have sp := hap.size
    have YBp := Lib.hid (YBj.out.trans (hap.below (by omega)))
    have XIp := Lib.hid (InPs.apart_hi XIj.out hap (by rw [size_alloc]; omega))
    have Dp0 := Lib.hid (Dj.out.apart hap (by omega))
    have B7p0 := Lib.hid (B7j.out.apart hap (by omega))
    clear hap bc
    go_upto_region 21 with (go_at_call 13; refine (markPartS_k _ l _ _ z2 HSP.out hz20 3000000000000 (by omega) (by decide) _ XIp.out).mono ?_; rintro e w10i ⟨⟨z3, rfl, hz30, hz31⟩, hapi0⟩)
    have hapi : Apart W4.heap.size w5i.heap.size w10 w10i := ⟨hapi0.os, hapi0.tape, hapi0.output, hapi0.size, fun b hb h2 => hapi0.block b hb (h2.imp (fun h => by rw [size_alloc]; omega) id)⟩
    have YBpi := Lib.hid (YBp.out.trans (hapi.below (by omega)))
    have Dp := Lib.hid (Dp0.out.apart hapi (Nat.le_refl _))
    have B7p := Lib.hid (B7p0.out.apart hapi (by omega))
    have spi := hapi.size
    have q7 := B7p.out.cell
    have q4 := (B4.out.below YBpi.out (by omega)).cell
    have z2n : ¬ z3 < 0 := by omega
    clear hapi hapi0
    go_upto_region 24 with (go_at_call 11; refine (eqGraph_b _ _ gx _ (Dp.out.dg.gr (by omega) (fun j hj => by have := HR.out j; omega)) ((HY4.out.below YBpi.out).gr (by omega))).mono ?_; rintro e w11 ⟨rfl, hb11⟩)
    have s11 := hb11.size
    have YB11 := Lib.hid (YBpi.out.trans (hb11.mono YBpi.out.size))
    have D11 := Lib.hid (Dp.out.below hb11)
    have B711 := Lib.hid (B7p.out.keep hb11)
    have q711 := B711.out.cell
    clear hb11 q7 q4
    go_upto_region 25 with (go_at_call 14; refine (markGraph_x _ gx _ _ 1 (by omega) HR.out (by decide) (by decide) _ D11.out).mono ?_; rintro e w12 ⟨rfl, hd12, hap12⟩)
    have s12 := hap12.size
    have YB12 := Lib.hid (YB11.out.trans ((hap12.below (by omega)).mono (by omega)))
    have B712 := Lib.hid (B711.out.apart hap12 (Nat.le_refl _))
    have q712 := B712.out.cell
    have G12 := Lib.hid (hd12.dg.gr (by rw [markG_length]; omega) (fun j hj => by rw [markG_length] at hj; rw [row_markG hj, marks_length]; have := HR.out j; omega))
    have HB12 := Lib.hid (HB4.out.trans (YB12.out.mono HB4.out.size))
    have q12 := (BX4.out.below YB12.out lA').cell
    have q412 := (B4.out.below YB12.out (by omega)).cell
    have hn1 : ¬ (1 + (preL gx gx.length : Int)) < 0 := by omega
    clear hd12 hap12 q711
    go_wp2_with (first
      | (go_at_call 15; refine (heldGraph_x _ gx 1 (by omega) HR.out (by decide) (by decide) _ (G12.out.below (hb16 : Below _ w12 w16))).mono ?_; rintro e w17 ⟨rfl, hb17⟩; have hbz := hb16.trans (hb17.mono hb16.size))
      | (go_at_call 11; refine (eqGraph_b _ _ gx _ ((hd15.below (below_alloc w15 (.cells #[.slice x2p gx.length x2c] 26))).gr (by omega) (fun j hj => by have := HR.out j; omega)) ((HY4.out.below (YB12.out.trans (hb15a.mono YB12.out.size))).gr (by omega))).mono ?_; rintro e w16x ⟨rfl, hb16x⟩; obtain ⟨w16, hw16⟩ : ∃ w16, w16 = w16x := ⟨_, rfl⟩; subst hw16; have hb16 : Below w12.heap.size w12 w16 := hb15a.trans (hb16x.mono hb15a.size); have q716 := hb16.at' q712)
      | (go_at_call 19; refine (implQuotientAt_any _ _ g l x _ ((ho14.below hb14i).gr (by omega) (fun j hj => by have := L2.out j hj; omega)) (ho14i.trs HSP.out) (((HT.out.keep HB13.out).keep hb14).keep hb14i)).mono ?_; rintro e w15 ⟨x2, gx3, okx3, rfl, hS15, hd15, _, _, hb15⟩; obtain ⟨hd1, hd2⟩ := qtS_det hS15 HS6.out; rw [hd1] at hd15; obtain ⟨x2p, x2c, rfl⟩ := hd15.shape; rw [hd2]; have hb15b : Below w12.heap.size w12 w15 := ((hb13.trans (hb14.mono hb13.size)).trans (hb14i.mono (Nat.le_trans hb13.size hb14.size))).trans (hb15.mono (Nat.le_trans (Nat.le_trans hb13.size hb14.size) hb14i.size)); have hb15a : Below w12.heap.size w12 (w15.alloc (.cells #[.slice x2p gx.length x2c] 26)) := hb15b.alloc hb15b.size _; have q415 := fun o => (below_alloc w15 o).at' (hb15b.at' q412); clear hS15 hd1 hd2)
      | (go_at_call 9; refine (toPartS_any _ l HSP.out _ ((HL.out.below HB13.out).below hb14)).mono ?_; rintro e w14i ⟨y14i, rfl, ho14i, hb14i⟩; obtain ⟨y14b, y14cc, rfl⟩ := ho14i.shape)
      | (go_at_call 18; refine (toGraph_any _ g L1 L2.out _ (HA.out.below HB13.out)).mono ?_; rintro e w14 ⟨y14, rfl, ho14, hb14⟩; obtain ⟨y14p, y14c, rfl⟩ := ho14.shape)
      | (go_at_call 15; refine (heldGraph_x _ gx 1 (by omega) HR.out (by decide) (by decide) _ G12.out).mono ?_; rintro e w13 ⟨rfl, hb13⟩; have HB13 := Lib.hid (HB12.out.trans (hb13.mono HB12.out.size)); have q13 := hb13.at' q12))
    go_ret
    exact ⟨rfl, HB12.out.trans (hbz.mono HB12.out.size)⟩

end Go.Proofs.YtfphapcgjlhieaaDoor
