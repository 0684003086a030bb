/- Walk: the law FnExactMinorIn (printed by wip/mkLawM.py). -/
import Derived.Test.YtmakhapdlkbbnaaDoorMiQ26
import Derived.Test.YtmakhapdlkbbnaaDoorMiQ37
import Derived.Test.YtmakhapdlkbbnaaDoorMiQ38
import Derived.Test.YtmakhapdlkbbnaaDoorMiQ41
import Derived.Test.YtmakhapdlkbbnaaDoorMiQ43
import Derived.Test.YtmakhapdlkbbnaaDoorMiQ42
import Derived.Test.YtmakhapdlkbbnaaDoorMiQ44
namespace Go.Proofs.YtmakhapdlkbbnaaDoor
open Go.RowKit

set_option maxRecDepth 100000 in
set_option maxHeartbeats 4000000 in
theorem lawMinorIn_any (v0 v1 : Value) (g p : List (List Int)) (w : World) (h0 : ArgG w v0 g) (h1 : ArgG w v1 p) (hT : Tab w) :
    Calls Tryd.prog 6 #[v0, v1] w fun e w' => e = .returned (.bool true) ∧ Below w.heap.size w w' := by
  have K0 := Lib.hid h0
  obtain ⟨_, rfl, a0p, a0c, _, rfl, _⟩ := h0
  have K1 := Lib.hid h1
  obtain ⟨_, rfl, a1p, a1c, _, rfl, _⟩ := h1
  obtain ⟨W0, hW0, hbA, SZ0, B0, B1⟩ := two_boxesM w (.slice a0p g.length a0c) (.slice a1p p.length a1c) 51 51
  have HBA := Lib.hid hbA
  have HT := Lib.hid (hT.keep hbA)
  have HA0 := Lib.hid (K0.out.below hbA)
  have HX0 := Lib.hid B0
  have HA1 := Lib.hid (K1.out.below hbA)
  have HX1 := Lib.hid B1
  clear hT hbA SZ0 K0 B0 K1 B1
  go_enter Tryd.func6, Tryd.ntmps6
  go_upto_region 1 with fail
  rw [← hW0]
  clear hW0
  have c0 := (HX0.out).cell
  go_upto_region 3 with (go_at_call 41; refine (szGraph_any _ g 1048576 (by decide) (by decide) _ HA0.out).mono ?_; rintro e w1s ⟨⟨z0, rfl, hz1, hz2, hz3⟩, hb⟩)
  have HB1 : Hid (Below W0.heap.size W0 w1s) := Lib.hid hb
  clear hb c0
  by_cases hz : z0 < 0
  · clear hz3
    go_wp2
    go_ret
    exact ⟨rfl, HBA.out.trans (HB1.out.mono HBA.out.size)⟩
  have L0 : Hid (SzG g) := Lib.hid (by
    obtain ⟨hl1, hl2⟩ := hz3 (by omega)
    exact ⟨by omega, fun j hj => by have := hl2 j hj; omega⟩)
  have zl0 : z0 ≤ 1048576 := by omega
  have zn0 := hz
  clear hz1 hz2 hz3 hz
  have c1 := (HX1.out.keep HB1.out).cell
  go_upto_region 6 with (go_at_call 41; refine (szGraph_any _ p z0 (by omega) (by omega) _ (HA1.out.below HB1.out)).mono ?_; rintro e w2s ⟨⟨z1, rfl, hz1, hz2, hz3⟩, hb⟩)
  have HB2 : Hid (Below W0.heap.size W0 w2s) := Lib.hid (HB1.out.trans (hb.mono HB1.out.size))
  clear hb c1
  by_cases hz : z1 < 0
  · clear hz3
    go_wp2
    go_ret
    exact ⟨rfl, HBA.out.trans (HB2.out.mono HBA.out.size)⟩
  have L1 : Hid (SzG p) := Lib.hid (by
    obtain ⟨hl1, hl2⟩ := hz3 (by omega)
    exact ⟨by omega, fun j hj => by have := hl2 j hj; omega⟩)
  have zl1 : z1 ≤ 1048576 := by omega
  have zn1 := hz
  clear hz1 hz2 hz3 hz
  have CEL : Hid (∀ w' : World, Below w2s.heap.size w2s w' → w'.cell? ⟨w.heap.size, 0, none⟩ = some (.slice a0p g.length a0c) ∧ w'.cell? ⟨w.heap.size + 1, 0, none⟩ = some (.slice a1p p.length a1c)) := Lib.hid (fun w' hb => ⟨((HX0.out.keep HB2.out).keep hb).cell, ((HX1.out.keep HB2.out).keep hb).cell⟩)
  have ST0 : Hid (StM w2s w2s []) := Lib.hid ⟨Below.refl _ _, fun y hy => by simp at hy⟩
  have HZ0 : Hid (∀ w' : World, Below w2s.heap.size w2s w' → ArgG w' (.agg #[.slice a0p g.length a0c]) g) := Lib.hid (fun w' hb => (HA0.out.below HB2.out).below hb)
  have HZ1 : Hid (∀ w' : World, Below w2s.heap.size w2s w' → ArgG w' (.agg #[.slice a1p p.length a1c]) p) := Lib.hid (fun w' hb => (HA1.out.below HB2.out).below hb)
  go_upto_region 8 with fail
  have Q0 := CEL.out _ (Below.refl _ _)
  go_cut [6, 7] (fun s12 s13 wx => ∃ (b : Nat) (yp : Option Addr) (yc : Nat) (R : List (List Int)) (ok : Bool), s12 = .pointer (some ⟨b, 0, none⟩) ∧ s13 = .bool ok ∧ Hid (MiS g p R ok ∧ R.length ≤ 16 ∧ (∀ j, (row R j).length ≤ 16)) ∧ Below w2s.heap.size w2s wx ∧ Box wx b 54 (.slice yp R.length yc) ∧ SG wx w2s.heap.size (.agg #[.slice yp R.length yc]) R ∧ w2s.heap.size ≤ b)
  case first =>
    as_aux_lemma =>
      go_region_held3 (fun w' => w'.cell? ⟨w.heap.size, 0, none⟩ = some (.slice a0p g.length a0c) ∧ w'.cell? ⟨w.heap.size + 1, 0, none⟩ = some (.slice a1p p.length a1c))
        (first | exact Q0 | exact CEL.out _ hs3.bel | exact CEL.out _ hs2.bel | exact CEL.out _ hs1.bel | exact CEL.out _ (hs3.next (below_alloc _ _)).bel | exact CEL.out _ (hs2.next (below_alloc _ _)).bel | exact CEL.out _ (hs1.next (below_alloc _ _)).bel | exact CEL.out _ (StM.bel (hs3.next (below_alloc _ _)) |>.setCell (by first | exact Nat.le_refl _ | exact hs1.bel.size | exact hs2.bel.size | exact hs3.bel.size) _) | exact CEL.out _ (hs3.bel.setCell (by first | exact Nat.le_refl _ | exact hs1.bel.size | exact hs2.bel.size | exact hs3.bel.size) _) | go_keep)
        (first | (go_at_call 42; refine (specMinorIn_any _ _ g p _ (OwnG.gr' (base := w2s.heap.size) (StM.own (W2 := w2s) (ys := [(y1, p), (y0, g)]) (by first | exact hs2 | exact hs2.next (below_dN (Below.refl _ _) _) | exact hs2.next (below_alloc _ _) | exact (hs2.next (below_dN (Below.refl _ _) _)).next (below_alloc _ _) | exact (hs2.next (below_alloc _ _)).next (below_dN (Below.refl _ _) _)) (y0, g) (by simp)) L0.out) (OwnG.gr' (base := w2s.heap.size) (StM.own (W2 := w2s) (ys := [(y1, p), (y0, g)]) (by first | exact hs2 | exact hs2.next (below_dN (Below.refl _ _) _) | exact hs2.next (below_alloc _ _) | exact (hs2.next (below_dN (Below.refl _ _) _)).next (below_alloc _ _) | exact (hs2.next (below_alloc _ _)).next (below_dN (Below.refl _ _) _)) (y1, p) (by simp)) L1.out)).mono ?_; rintro e wy2 ⟨uv, R, ok, rfl, hS, hsg, hR16, hRr, hb2⟩; obtain ⟨yp, yc, rfl⟩ := hsg.shape; have hs3 : StM w2s wy2 [(y1, p), (y0, g)] := StM.next (by first | exact hs2 | exact hs2.next (below_dN (Below.refl _ _) _) | exact hs2.next (below_alloc _ _) | exact (hs2.next (below_dN (Below.refl _ _) _)).next (below_alloc _ _) | exact (hs2.next (below_alloc _ _)).next (below_dN (Below.refl _ _) _)) hb2; have HSR := Lib.hid (And.intro hS (And.intro hR16 hRr)); have HSG : Hid (SG wy2 w2s.heap.size (.agg #[.slice yp R.length yc]) R) := Lib.hid (hsg.baseM (StM.bel (W2 := w2s) (ys := [(y1, p), (y0, g)]) (by first | exact hs2 | exact hs2.next (below_dN (Below.refl _ _) _) | exact hs2.next (below_alloc _ _) | exact (hs2.next (below_dN (Below.refl _ _) _)).next (below_alloc _ _) | exact (hs2.next (below_alloc _ _)).next (below_dN (Below.refl _ _) _))).size); clear hS hsg hR16 hRr; (first | (have bx := bx.keep hb2; have bc := bx.cell; have bf := bx.free) | (have bx := Box.keep (Box.new _ (.slice none 0 0) 54) hb2; have bc := bx.cell; have bf := bx.free) | (have bx := Box.keep (Box.keep (Box.new _ (.slice none 0 0) 54) (below_dN (Below.refl _ _) _)) hb2; have bc := bx.cell; have bf := bx.free) | skip)) | (go_at_call 43; refine (toGraph_any _ p L1.out.1 L1.out.2 _ (HZ1.out _ (StM.bel (W2 := w2s) (ys := [(y0, g)]) (by first | exact hs1 | exact hs1.next (below_dN (Below.refl _ _) _) | exact hs1.next (below_alloc _ _) | exact (hs1.next (below_dN (Below.refl _ _) _)).next (below_alloc _ _) | exact (hs1.next (below_alloc _ _)).next (below_dN (Below.refl _ _) _))))).mono ?_; rintro e wy1 ⟨y1, rfl, ho, hb1⟩; have hs2 : StM w2s wy1 ((y1, p) :: [(y0, g)]) := StM.add (by first | exact hs1 | exact hs1.next (below_dN (Below.refl _ _) _) | exact hs1.next (below_alloc _ _) | exact (hs1.next (below_dN (Below.refl _ _) _)).next (below_alloc _ _) | exact (hs1.next (below_alloc _ _)).next (below_dN (Below.refl _ _) _)) hb1 ho; clear ho; (first | (have bx := bx.keep hb1; have bc := bx.cell; have bf := bx.free) | (have bx := Box.keep (Box.new _ (.slice none 0 0) 54) hb1; have bc := bx.cell; have bf := bx.free) | (have bx := Box.keep (Box.keep (Box.new _ (.slice none 0 0) 54) (below_dN (Below.refl _ _) _)) hb1; have bc := bx.cell; have bf := bx.free) | skip)) | (go_at_call 43; refine (toGraph_any _ g L0.out.1 L0.out.2 _ (HZ0.out _ (StM.bel (W2 := w2s) (ys := []) (by first | exact ST0.out | exact ST0.out.next (below_dN (Below.refl _ _) _) | exact ST0.out.next (below_alloc _ _) | exact (ST0.out.next (below_dN (Below.refl _ _) _)).next (below_alloc _ _) | exact (ST0.out.next (below_alloc _ _)).next (below_dN (Below.refl _ _) _))))).mono ?_; rintro e wy0 ⟨y0, rfl, ho, hb0⟩; have hs1 : StM w2s wy0 ((y0, g) :: []) := StM.add (by first | exact ST0.out | exact ST0.out.next (below_dN (Below.refl _ _) _) | exact ST0.out.next (below_alloc _ _) | exact (ST0.out.next (below_dN (Below.refl _ _) _)).next (below_alloc _ _) | exact (ST0.out.next (below_alloc _ _)).next (below_dN (Below.refl _ _) _)) hb0 ho; clear ho; (first | (have bx := bx.keep hb0; have bc := bx.cell; have bf := bx.free) | (have bx := Box.keep (Box.new _ (.slice none 0 0) 54) hb0; have bc := bx.cell; have bf := bx.free) | (have bx := Box.keep (Box.keep (Box.new _ (.slice none 0 0) 54) (below_dN (Below.refl _ _) _)) hb0; have bc := bx.cell; have bf := bx.free) | skip)))
      all_goals go_wp2
      all_goals go_meet
      all_goals first
        | exact ⟨_, yp, yc, R, ok, rfl, rfl, HSR, hs3.bel.setCell (by first | exact Nat.le_refl _ | exact hs1.bel.size | exact hs2.bel.size | exact hs3.bel.size) _, bx.set _, HSG.out.setM bx _, (by first | exact Nat.le_refl _ | exact hs1.bel.size | exact hs2.bel.size | exact hs3.bel.size)⟩
        | exact ⟨_, yp, yc, R, ok, rfl, rfl, HSR, (hs3.next (below_alloc _ _)).bel, Box.new _ _ _, HSG.out.below (below_alloc _ _), hs3.bel.size⟩
  case rest =>
  obtain ⟨yb, yp, yc, R, ok, rfl, rfl, HS4, hbc, hby, hsy, hlo⟩ := hcut
  have HBC := Lib.hid hbc
  have YB := Lib.hid hby
  have YS := Lib.hid hsy
  have YB0 := Lib.hid hby
  have YS0 := Lib.hid hsy
  have YLO := Lib.hid hlo
  have hVl_ : w2s.heap.size ≤ wc.heap.size := hbc.size
  clear hbc hby hsy hlo Q0
  have YV_ : Hid (Below wc.heap.size wc wc) := Lib.hid (Below.refl _ _)
  have hcel := (CEL.out _ (HBC.out.trans (YV_.out.mono HBC.out.size)))
  go_upto_region 10 with (go_at_call 43; refine (toGraph_any _ g L0.out.1 L0.out.2 _ (HZ0.out _ (HBC.out.trans (YV_.out.mono HBC.out.size)))).mono ?_; rintro e wx0 ⟨x0, rfl, ho, hb⟩; obtain ⟨x0p, x0c, rfl⟩ := ho.shape)
  obtain ⟨V0, hV⟩ : ∃ V, V = wx0.alloc (.cells #[.slice x0p g.length x0c] 29) := ⟨_, rfl⟩
  rw [← hV]
  have hv : Below wc.heap.size wc V0 := by rw [hV]; exact hb.alloc hb.size _
  have IN0 : Hid (InG V0 wc.heap.size wx0.heap.size (.agg #[.slice x0p g.length x0c]) g) := Lib.hid ((InG.of_own ho).below (by rw [hV]; exact below_alloc _ _))
  have BI0 : Hid (Box V0 wx0.heap.size 29 (.slice x0p g.length x0c)) := Lib.hid (by rw [hV]; exact Box.new _ _ _)
  have sV0 : V0.heap.size = wx0.heap.size + 1 := by rw [hV, size_alloc]
  have sx0 := hb.size
  replace YV_ := Lib.hid (YV_.out.trans (hv.mono YV_.out.size))
  clear hb ho hV hv hcel
  have hcel := (CEL.out _ (HBC.out.trans (YV_.out.mono HBC.out.size)))
  go_upto_region 11 with (go_at_call 43; refine (toGraph_any _ p L1.out.1 L1.out.2 _ (HZ1.out _ (HBC.out.trans (YV_.out.mono HBC.out.size)))).mono ?_; rintro e wx1 ⟨x1, rfl, ho, hb⟩; obtain ⟨x1p, x1c, rfl⟩ := ho.shape)
  obtain ⟨V1, hV⟩ : ∃ V, V = wx1.alloc (.cells #[.slice x1p p.length x1c] 29) := ⟨_, rfl⟩
  rw [← hV]
  have hv : Below V0.heap.size V0 V1 := by rw [hV]; exact hb.alloc hb.size _
  have IN1 : Hid (InG V1 V0.heap.size wx1.heap.size (.agg #[.slice x1p p.length x1c]) p) := Lib.hid ((InG.of_own ho).below (by rw [hV]; exact below_alloc _ _))
  have BI1 : Hid (Box V1 wx1.heap.size 29 (.slice x1p p.length x1c)) := Lib.hid (by rw [hV]; exact Box.new _ _ _)
  have sV1 : V1.heap.size = wx1.heap.size + 1 := by rw [hV, size_alloc]
  have sx1 := hb.size
  replace IN0 := Lib.hid (IN0.out.below hv)
  replace BI0 := Lib.hid (BI0.out.keep hv)
  replace YV_ := Lib.hid (YV_.out.trans (hv.mono YV_.out.size))
  clear hb ho hV hv hcel
  have HTV := Lib.hid (HT.out.keep (HB2.out.trans ((HBC.out.trans (YV_.out.mono HBC.out.size)).mono HB2.out.size)))
  have k0 := BI0.out.cell
  have k1 := BI1.out.cell
  go_upto_region 12 with (go_at_call 44; refine (implMinorIn_any _ _ g p _ (IN0.out.own.gr' L0.out) (IN1.out.own.gr' L1.out) HTV.out).mono ?_; rintro e wz ⟨zu, R2, ok2, rfl, hS, hd, hR16, hRr, hb⟩; obtain ⟨zp, zc, rfl⟩ := hd.shape)
  obtain ⟨e1, e2⟩ := miS_det hS HS4.out.1
  subst e1
  subst e2
  clear k0 k1
  obtain ⟨VZ, hV⟩ : ∃ V, V = wz.alloc (.cells #[.slice zp R2.length zc] 54) := ⟨_, rfl⟩
  rw [← hV]
  have hv : Below V1.heap.size V1 VZ := by rw [hV]; exact hb.alloc hb.size _
  have DZ : Hid (DGh VZ V1.heap.size wz.heap.size (.agg #[.slice zp R2.length zc]) R2) := Lib.hid ((DGh.of hd).below (by rw [hV]; exact below_alloc _ _))
  have BZ : Hid (Box VZ wz.heap.size 54 (.slice zp R2.length zc)) := Lib.hid (by rw [hV]; exact Box.new _ _ _)
  have sVZ : VZ.heap.size = wz.heap.size + 1 := by rw [hV, size_alloc]
  have sz := hb.size
  have HRr := Lib.hid hRr
  replace IN0 := Lib.hid (IN0.out.below hv)
  replace BI0 := Lib.hid (BI0.out.keep hv)
  replace IN1 := Lib.hid (IN1.out.below hv)
  replace BI1 := Lib.hid (BI1.out.keep hv)
  replace YV_ := Lib.hid (YV_.out.trans (hv.mono YV_.out.size))
  replace YS := Lib.hid (YS.out.below YV_.out)
  replace YB := Lib.hid (YB.out.keep YV_.out)
  clear hb hd hV hv hRr hS
  have ky := YB.out.cell
  have kz := BZ.out.cell
  have hbb : (ok2 != ok2) = false := by simp
  go_upto_region 14 with (go_at_call 45; refine (eqModel_b _ _ R2 _ (DZ.out.dg.gr (by omega) (fun j hj => by have := HRr.out j; omega)) (YS.out.gr (by omega))).mono ?_; rintro e wa ⟨rfl, hb⟩)
  replace IN0 := Lib.hid (IN0.out.below hb)
  replace BI0 := Lib.hid (BI0.out.keep hb)
  replace IN1 := Lib.hid (IN1.out.below hb)
  replace BI1 := Lib.hid (BI1.out.keep hb)
  replace DZ := Lib.hid (DZ.out.below hb)
  replace BZ := Lib.hid (BZ.out.keep hb)
  replace YS := Lib.hid (YS.out.below hb)
  replace YB := Lib.hid (YB.out.keep hb)
  replace YV_ := Lib.hid (YV_.out.trans (hb.mono YV_.out.size))
  clear hb ky kz
  have q6 := BI0.out.cell
  have q1 := (HX0.out.keep (HB2.out.trans ((HBC.out.trans (YV_.out.mono HBC.out.size)).mono HB2.out.size))).cell
  have HZC := Lib.hid (HZ0.out _ (HBC.out.trans (YV_.out.mono HBC.out.size)))
  go_upto_region 14 with fail
  go_cut [58] (fun s wx => s = .bool false ∧ Below wa.heap.size wa wx)
  case first =>
    as_aux_lemma =>
      go_region_held3 (fun W => W.cell? ⟨wx0.heap.size, 0, none⟩ = some (.slice x0p g.length x0c) ∧ W.cell? ⟨w.heap.size, 0, none⟩ = some (.slice a0p g.length a0c))
        (first | go_keep | exact ⟨hb8'.at' q6, hb8'.at' q1⟩ | exact ⟨hb9'.at' q6, hb9'.at' q1⟩)
        (first | (go_at_call 43; refine (toGraph_any _ g L0.out.1 L0.out.2 _ (HZC.out.below (below_dN (Below.refl _ _) 1))).mono ?_; rintro e w9 ⟨x', rfl, ho8, hb9⟩; obtain ⟨xp', xc', rfl⟩ := ho8.shape; have hb8' : Below wa.heap.size wa w9 := (below_dN (Below.refl _ _) 1).trans hb9) | (go_at_call 46; refine (eqGraph_b _ _ g _ ((IN0.out.below hb8').own.gr' L0.out) (ho8.gr' L0.out)).mono ?_; rintro e w10 ⟨rfl, hb10⟩; have hb9' : Below wa.heap.size wa w10 := hb8'.trans (hb10.mono hb8'.size)))
      all_goals go_wp2
      all_goals go_meet
      all_goals exact ⟨rfl, hb9'⟩
  case rest =>
  obtain ⟨rfl, hbc⟩ := hcut
  replace IN0 := Lib.hid (IN0.out.below hbc)
  replace BI0 := Lib.hid (BI0.out.keep hbc)
  replace IN1 := Lib.hid (IN1.out.below hbc)
  replace BI1 := Lib.hid (BI1.out.keep hbc)
  replace DZ := Lib.hid (DZ.out.below hbc)
  replace BZ := Lib.hid (BZ.out.keep hbc)
  replace YS := Lib.hid (YS.out.below hbc)
  replace YB := Lib.hid (YB.out.keep hbc)
  replace YV_ := Lib.hid (YV_.out.trans (hbc.mono YV_.out.size))
  clear hbc q6 q1 HZC
  have q6 := BI1.out.cell
  have q1 := (HX1.out.keep (HB2.out.trans ((HBC.out.trans (YV_.out.mono HBC.out.size)).mono HB2.out.size))).cell
  have HZC := Lib.hid (HZ1.out _ (HBC.out.trans (YV_.out.mono HBC.out.size)))
  go_upto_region 16 with fail
  go_cut [63] (fun s wx => s = .bool false ∧ Below wc.heap.size wc wx)
  case first =>
    as_aux_lemma =>
      go_region_held3 (fun W => W.cell? ⟨wx1.heap.size, 0, none⟩ = some (.slice x1p p.length x1c) ∧ W.cell? ⟨w.heap.size + 1, 0, none⟩ = some (.slice a1p p.length a1c))
        (first | go_keep | exact ⟨hb8'.at' q6, hb8'.at' q1⟩ | exact ⟨hb9'.at' q6, hb9'.at' q1⟩)
        (first | (go_at_call 43; refine (toGraph_any _ p L1.out.1 L1.out.2 _ (HZC.out.below (below_dN (Below.refl _ _) 1))).mono ?_; rintro e w9 ⟨x', rfl, ho8, hb9⟩; obtain ⟨xp', xc', rfl⟩ := ho8.shape; have hb8' : Below wc.heap.size wc w9 := (below_dN (Below.refl _ _) 1).trans hb9) | (go_at_call 46; refine (eqGraph_b _ _ p _ ((IN1.out.below hb8').own.gr' L1.out) (ho8.gr' L1.out)).mono ?_; rintro e w10 ⟨rfl, hb10⟩; have hb9' : Below wc.heap.size wc w10 := hb8'.trans (hb10.mono hb8'.size)))
      all_goals go_wp2
      all_goals go_meet
      all_goals exact ⟨rfl, hb9'⟩
  case rest =>
  obtain ⟨rfl, hbc⟩ := hcut
  replace IN0 := Lib.hid (IN0.out.below hbc)
  replace BI0 := Lib.hid (BI0.out.keep hbc)
  replace IN1 := Lib.hid (IN1.out.below hbc)
  replace BI1 := Lib.hid (BI1.out.keep hbc)
  replace DZ := Lib.hid (DZ.out.below hbc)
  replace BZ := Lib.hid (BZ.out.keep hbc)
  replace YS := Lib.hid (YS.out.below hbc)
  replace YB := Lib.hid (YB.out.keep hbc)
  replace YV_ := Lib.hid (YV_.out.trans (hbc.mono YV_.out.size))
  clear hbc q6 q1 HZC
  have km := BI0.out.cell
  go_upto_region 20 with (go_at_call 47; refine (markGraph_k _ g _ _ _ L0.out.1 L0.out.2 (by decide) 1 (by decide) (by decide) _ IN0.out).mono ?_; rintro e wm0 ⟨⟨z0m, rfl, hm⟩, hap⟩)
  have hm0 := Lib.hid hm
  replace IN1 := Lib.hid (IN1.out.apart_hi hap (by omega))
  replace BI1 := Lib.hid (BI1.out.apart hap (by omega))
  have lz := BZ.out.lt
  replace YV_ := Lib.hid (YV_.out.trans ((hap.below (by omega)).mono (by omega)))
  replace DZ := Lib.hid (DZ.out.apart hap (by omega))
  replace BZ := Lib.hid (BZ.out.apart hap (by omega))
  clear hap km hm lz
  have km := BI1.out.cell
  go_upto_region 21 with (go_at_call 47; refine (markGraph_k _ p _ _ _ L1.out.1 L1.out.2 hm0.out.1 1100000000001 hm0.out.2 (by decide) _ IN1.out).mono ?_; rintro e wm1 ⟨⟨z1m, rfl, hm⟩, hap⟩)
  have hm1 := Lib.hid hm
  have lz := BZ.out.lt
  replace YV_ := Lib.hid (YV_.out.trans ((hap.below (by omega)).mono (by omega)))
  replace DZ := Lib.hid (DZ.out.apart hap (by omega))
  replace BZ := Lib.hid (BZ.out.apart hap (by omega))
  clear hap km hm lz
  clear YS YB
  have YS := Lib.hid (YS0.out.below YV_.out)
  have YB := Lib.hid (YB0.out.keep YV_.out)
  have ky := YB.out.cell
  have kz := BZ.out.cell
  have hzn : ¬ z1m < 0 := by have := hm1.out.1; omega
  go_upto_region 23 with (go_at_call 45; refine (eqModel_b _ _ R2 _ (DZ.out.dg.gr (by omega) (fun j hj => by have := HRr.out j; omega)) (YS.out.gr (by omega))).mono ?_; rintro e we ⟨rfl, hb⟩)
  replace DZ := Lib.hid (DZ.out.below hb)
  replace BZ := Lib.hid (BZ.out.keep hb)
  replace YV_ := Lib.hid (YV_.out.trans (hb.mono YV_.out.size))
  clear hb ky kz YS YB
  have kz := BZ.out.cell
  go_upto_region 25 with (go_at_call 48; refine (markModel_x _ R2 _ _ 1 (by omega) (fun j => by have := HRr.out j; omega) (by decide) (by decide) _ DZ.out).mono ?_; rintro e wh ⟨rfl, hd12, hap⟩)
  have G12 := Lib.hid (hd12.dg.gr (by rw [markG_length]; omega) (fun j hj => by rw [markG_length] at hj; rw [row_markG hj, marks_length]; have := HRr.out j; omega))
  have lz := BZ.out.lt
  replace YV_ := Lib.hid (YV_.out.trans ((hap.below (by omega)).mono (by omega)))
  replace BZ := Lib.hid (BZ.out.apart hap (by omega))
  clear lz hd12 hap kz DZ
  have kz := BZ.out.cell
  have hn1 : ¬ (1 + (preL R2 R2.length : Int)) < 0 := by omega
  go_upto_region 31 with (go_at_call 49; refine (heldModel_x _ R2 1 (by omega) (fun j => by have := HRr.out j; omega) (by decide) (by decide) _ G12.out).mono ?_; rintro e wp ⟨rfl, hb⟩)
  replace G12 := Lib.hid (G12.out.below hb)
  replace BZ := Lib.hid (BZ.out.keep hb)
  replace YV_ := Lib.hid (YV_.out.trans (hb.mono YV_.out.size))
  clear hb kz
  have HW := Lib.hid (HBC.out.trans (YV_.out.mono HBC.out.size))
  have CEM : Hid (∀ w' : World, Below wp.heap.size wp w' → w'.cell? ⟨w.heap.size, 0, none⟩ = some (.slice a0p g.length a0c) ∧ w'.cell? ⟨w.heap.size + 1, 0, none⟩ = some (.slice a1p p.length a1c)) := Lib.hid (fun w' hb => CEL.out w' (HW.out.trans (hb.mono HW.out.size)))
  have ST1 : Hid (StM wp wp []) := Lib.hid ⟨Below.refl _ _, fun y hy => by simp at hy⟩
  have HTP := Lib.hid (HT.out.keep (HB2.out.trans (HW.out.mono HB2.out.size)))
  replace HZ0 : Hid (∀ w' : World, Below wp.heap.size wp w' → ArgG w' (.agg #[.slice a0p g.length a0c]) g) := Lib.hid (fun w' hb => HZ0.out w' (HW.out.trans (hb.mono HW.out.size)))
  replace HZ1 : Hid (∀ w' : World, Below wp.heap.size wp w' → ArgG w' (.agg #[.slice a1p p.length a1c]) p) := Lib.hid (fun w' hb => HZ1.out w' (HW.out.trans (hb.mono HW.out.size)))
  have Q0 := CEM.out _ (Below.refl _ _)
  go_cut [15, 16] (fun s24 s25 wx => ∃ (b : Nat) (yp : Option Addr) (yc : Nat), s24 = .pointer (some ⟨b, 0, none⟩) ∧ s25 = .bool ok2 ∧ Below wp.heap.size wp wx ∧ Box wx b 54 (.slice yp R2.length yc) ∧ DG wx wp.heap.size (.agg #[.slice yp R2.length yc]) R2 ∧ wp.heap.size ≤ b)
  case first =>
    as_aux_lemma =>
      go_region_held3 (fun w' => w'.cell? ⟨w.heap.size, 0, none⟩ = some (.slice a0p g.length a0c) ∧ w'.cell? ⟨w.heap.size + 1, 0, none⟩ = some (.slice a1p p.length a1c))
        (first | exact Q0 | exact CEM.out _ hs3.bel | exact CEM.out _ hs2.bel | exact CEM.out _ hs1.bel | exact CEM.out _ (hs3.next (below_alloc _ _)).bel | exact CEM.out _ (hs2.next (below_alloc _ _)).bel | exact CEM.out _ (hs1.next (below_alloc _ _)).bel | exact CEM.out _ (StM.bel (hs3.next (below_alloc _ _)) |>.setCell (by first | exact Nat.le_refl _ | exact hs1.bel.size | exact hs2.bel.size | exact hs3.bel.size) _) | exact CEM.out _ (hs3.bel.setCell (by first | exact Nat.le_refl _ | exact hs1.bel.size | exact hs2.bel.size | exact hs3.bel.size) _) | go_keep)
        (first | (go_at_call 44; refine (implMinorIn_any _ _ g p _ (OwnG.gr' (base := wp.heap.size) (StM.own (W2 := wp) (ys := [(y1, p), (y0, g)]) (by first | exact hs2 | exact hs2.next (below_dN (Below.refl _ _) _) | exact hs2.next (below_alloc _ _) | exact (hs2.next (below_dN (Below.refl _ _) _)).next (below_alloc _ _) | exact (hs2.next (below_alloc _ _)).next (below_dN (Below.refl _ _) _)) (y0, g) (by simp)) L0.out) (OwnG.gr' (base := wp.heap.size) (StM.own (W2 := wp) (ys := [(y1, p), (y0, g)]) (by first | exact hs2 | exact hs2.next (below_dN (Below.refl _ _) _) | exact hs2.next (below_alloc _ _) | exact (hs2.next (below_dN (Below.refl _ _) _)).next (below_alloc _ _) | exact (hs2.next (below_alloc _ _)).next (below_dN (Below.refl _ _) _)) (y1, p) (by simp)) L1.out) (HTP.out.keep (StM.bel (W2 := wp) (ys := [(y1, p), (y0, g)]) (by first | exact hs2 | exact hs2.next (below_dN (Below.refl _ _) _) | exact hs2.next (below_alloc _ _) | exact (hs2.next (below_dN (Below.refl _ _) _)).next (below_alloc _ _) | exact (hs2.next (below_alloc _ _)).next (below_dN (Below.refl _ _) _))))).mono ?_; rintro e wy2 ⟨uv, R', ok', rfl, hS, hdg, _, _, hb2⟩; obtain ⟨e1, e2⟩ := miS_det hS HS4.out.1; rw [e1] at hdg; obtain ⟨yp, yc, rfl⟩ := hdg.shape; rw [e2]; have hs3 : StM wp wy2 [(y1, p), (y0, g)] := StM.next (by first | exact hs2 | exact hs2.next (below_dN (Below.refl _ _) _) | exact hs2.next (below_alloc _ _) | exact (hs2.next (below_dN (Below.refl _ _) _)).next (below_alloc _ _) | exact (hs2.next (below_alloc _ _)).next (below_dN (Below.refl _ _) _)) hb2; have HDG : Hid (DG wy2 wp.heap.size (.agg #[.slice yp R2.length yc]) R2) := Lib.hid (hdg.base (StM.bel (W2 := wp) (ys := [(y1, p), (y0, g)]) (by first | exact hs2 | exact hs2.next (below_dN (Below.refl _ _) _) | exact hs2.next (below_alloc _ _) | exact (hs2.next (below_dN (Below.refl _ _) _)).next (below_alloc _ _) | exact (hs2.next (below_alloc _ _)).next (below_dN (Below.refl _ _) _))).size); clear hS hdg e1 e2; (first | (have bx := bx.keep hb2; have bc := bx.cell; have bf := bx.free) | (have bx := Box.keep (Box.new _ (.slice none 0 0) 54) hb2; have bc := bx.cell; have bf := bx.free) | (have bx := Box.keep (Box.keep (Box.new _ (.slice none 0 0) 54) (below_dN (Below.refl _ _) _)) hb2; have bc := bx.cell; have bf := bx.free) | skip)) | (go_at_call 43; refine (toGraph_any _ p L1.out.1 L1.out.2 _ (HZ1.out _ (StM.bel (W2 := wp) (ys := [(y0, g)]) (by first | exact hs1 | exact hs1.next (below_dN (Below.refl _ _) _) | exact hs1.next (below_alloc _ _) | exact (hs1.next (below_dN (Below.refl _ _) _)).next (below_alloc _ _) | exact (hs1.next (below_alloc _ _)).next (below_dN (Below.refl _ _) _))))).mono ?_; rintro e wy1 ⟨y1, rfl, ho, hb1⟩; have hs2 : StM wp wy1 ((y1, p) :: [(y0, g)]) := StM.add (by first | exact hs1 | exact hs1.next (below_dN (Below.refl _ _) _) | exact hs1.next (below_alloc _ _) | exact (hs1.next (below_dN (Below.refl _ _) _)).next (below_alloc _ _) | exact (hs1.next (below_alloc _ _)).next (below_dN (Below.refl _ _) _)) hb1 ho; clear ho; (first | (have bx := bx.keep hb1; have bc := bx.cell; have bf := bx.free) | (have bx := Box.keep (Box.new _ (.slice none 0 0) 54) hb1; have bc := bx.cell; have bf := bx.free) | (have bx := Box.keep (Box.keep (Box.new _ (.slice none 0 0) 54) (below_dN (Below.refl _ _) _)) hb1; have bc := bx.cell; have bf := bx.free) | skip)) | (go_at_call 43; refine (toGraph_any _ g L0.out.1 L0.out.2 _ (HZ0.out _ (StM.bel (W2 := wp) (ys := []) (by first | exact ST1.out | exact ST1.out.next (below_dN (Below.refl _ _) _) | exact ST1.out.next (below_alloc _ _) | exact (ST1.out.next (below_dN (Below.refl _ _) _)).next (below_alloc _ _) | exact (ST1.out.next (below_alloc _ _)).next (below_dN (Below.refl _ _) _))))).mono ?_; rintro e wy0 ⟨y0, rfl, ho, hb0⟩; have hs1 : StM wp wy0 ((y0, g) :: []) := StM.add (by first | exact ST1.out | exact ST1.out.next (below_dN (Below.refl _ _) _) | exact ST1.out.next (below_alloc _ _) | exact (ST1.out.next (below_dN (Below.refl _ _) _)).next (below_alloc _ _) | exact (ST1.out.next (below_alloc _ _)).next (below_dN (Below.refl _ _) _)) hb0 ho; clear ho; (first | (have bx := bx.keep hb0; have bc := bx.cell; have bf := bx.free) | (have bx := Box.keep (Box.new _ (.slice none 0 0) 54) hb0; have bc := bx.cell; have bf := bx.free) | (have bx := Box.keep (Box.keep (Box.new _ (.slice none 0 0) 54) (below_dN (Below.refl _ _) _)) hb0; have bc := bx.cell; have bf := bx.free) | skip)))
      all_goals go_wp2
      all_goals go_meet
      all_goals first
        | exact ⟨_, yp, yc, rfl, rfl, hs3.bel.setCell (by first | exact Nat.le_refl _ | exact hs1.bel.size | exact hs2.bel.size | exact hs3.bel.size) _, bx.set _, HDG.out.setMm bx _, (by first | exact Nat.le_refl _ | exact hs1.bel.size | exact hs2.bel.size | exact hs3.bel.size)⟩
        | exact ⟨_, yp, yc, rfl, rfl, (hs3.next (below_alloc _ _)).bel, Box.new _ _ _, HDG.out.below (below_alloc _ _), hs3.bel.size⟩
  case rest =>
  obtain ⟨yb2, yp2, yc2, rfl, rfl, hbc, hby, hdy, hlo⟩ := hcut
  replace G12 := Lib.hid (G12.out.below hbc)
  replace BZ := Lib.hid (BZ.out.keep hbc)
  replace YV_ := Lib.hid (YV_.out.trans (hbc.mono YV_.out.size))
  have YS := Lib.hid (YS0.out.below YV_.out)
  have YB := Lib.hid (YB0.out.keep YV_.out)
  have ky := YB.out.cell
  have kz := hby.cell
  have kx := BZ.out.cell
  clear hlo Q0
  go_wp2_with (first
    | (go_at_call 49; refine (heldModel_x _ R2 1 (by omega) (fun j => by have := HRr.out j; omega) (by decide) (by decide) _ (G12.out.below hbe)).mono ?_; rintro e wq ⟨rfl, hbq⟩)
    | (go_at_call 45; refine (eqModel_b _ _ R2 _ (hdy.gr (by omega) (fun j hj => by have := HRr.out j; omega)) (YS.out.gr (by omega))).mono ?_; rintro e we2 ⟨rfl, hbe⟩; have kx := hbe.at' kx))
  go_ret
  exact ⟨rfl, HBA.out.trans ((HB2.out.trans ((HBC.out.trans ((YV_.out.trans ((hbe.trans (hbq.mono hbe.size)).mono YV_.out.size)).mono HBC.out.size)).mono HB2.out.size)).mono HBA.out.size)⟩

end Go.Proofs.YtmakhapdlkbbnaaDoor
