/- Walk: the law FnWidthLess (printed by wip/mkWl.py). -/
import Derived.Test.YtiooindlpinjhaaDoorWlQ31
import Derived.Test.YtiooindlpinjhaaDoorWlQ38
import Derived.Test.YtiooindlpinjhaaDoorWlQ39
import Derived.Test.YtiooindlpinjhaaDoorWlQ37
import Derived.Test.YtiooindlpinjhaaDoorWlQ40
import Derived.Test.YtiooindlpinjhaaDoorWlQ44
import Derived.Test.YtiooindlpinjhaaDoorWlQ34
namespace Go.Proofs.YtiooindlpinjhaaDoor
open Go.RowKit

set_option maxRecDepth 100000 in
set_option maxHeartbeats 8000000 in
theorem lawWidthLess_any (v0 : Value) (bs : List Int) (W : World) (ha : ArgB W v0 bs) (hT : Tab W) :
    Calls Tryd.prog 6 #[v0] W fun e w' => e = .returned (.bool true) ∧ Below W.heap.size W w' := by
  obtain ⟨p0, c0, e0, _⟩ := id ha
  subst e0
  have HA := Lib.hid ha
  have HT := Lib.hid hT
  clear ha hT
  go_enter Tryd.func6, Tryd.ntmps6
  by_cases hbig : 4096 < bs.length
  · have hd := decide_eq_true hbig
    go_wp2_with (go_at_call 16; refine (big_any _ bs _ HA.out).mono ?_; rintro e w2 ⟨he, rfl⟩; rw [hd] at he; subst he)
    go_ret
    exact ⟨rfl, Below.refl _ _⟩
  have hd := decide_eq_false hbig
  have hl : bs.length ≤ 4096 := by omega
  clear hbig
  go_upto_region 4 with (first
    | (go_at_call 34; refine (drawContracted_any _ bs hl _ HA.out).mono ?_; rintro e w2 ⟨ga, gc, g, y, z, rfl, hg, hgl, _, hb2⟩; have HG2 := Lib.hid hg; clear hg)
    | (go_at_call 16; refine (big_any _ bs _ HA.out).mono ?_; rintro e w1 ⟨he, rfl⟩; rw [hd] at he; subst he))
  obtain ⟨w3, hw3⟩ : ∃ w3, w3 = w2.alloc (.cells #[.slice ga g.length gc] 28) := ⟨_, rfl⟩
  rw [← hw3]
  have hb23 : Below w2.heap.size w2 w3 := by rw [hw3]; exact below_alloc _ _
  have HX3 : Hid (Box w3 w2.heap.size 28 (.slice ga g.length gc)) := Lib.hid (by rw [hw3]; exact Box.new _ _ _)
  have HG3 := Lib.hid (HG2.out.below hb23)
  have HW3 := Lib.hid (hb2.trans (hb23.mono hb2.size))
  have c3 := HX3.out.cell
  generalize w2.heap.size = bg at *
  clear hw3 hb23 hb2 HG2 HX3
  by_cases hed : EdgP g y z
  case neg =>
    have HD := Lib.hid (dec_false hed)
    clear hed
    go_wp2_with (go_at_call 35; refine (specEdgeInC_any _ g y z _ HG3.out).mono ?_; rintro e w4 ⟨he, hb4⟩; rw [HD.out] at he; subst he; have HW4 := Lib.hid (HW3.out.trans (hb4.mono HW3.out.size)); clear hb4)
    go_ret
    exact ⟨rfl, HW4.out⟩
  have HD := Lib.hid (dec_true hed)
  obtain ⟨a, b, rfl, rfl, han, hbn, hab, hE⟩ := hed.nat
  have hok := hed.1
  by_cases h8 : g.length ≤ 8
  case neg =>
    have h8i : (8 : Int) < (g.length : Int) := by omega
    clear hed h8
    go_wp2_with (go_at_call 35; refine (specEdgeInC_any _ g _ _ _ HG3.out).mono ?_; rintro e w4 ⟨he, hb4⟩; rw [HD.out] at he; subst he; have c4 := hb4.at' c3; have HW4 := Lib.hid (HW3.out.trans (hb4.mono HW3.out.size)); clear hb4)
    go_ret
    exact ⟨rfl, HW4.out⟩
  have h8i : ¬ (8 : Int) < (g.length : Int) := by omega
  have h2n : 2 ≤ g.length := by omega
  have HOK := Lib.hid hok
  have HE := Lib.hid hE
  have HAB := Lib.hid hab
  clear hed
  go_upto_region 6 with (go_at_call 35; refine (specEdgeInC_any _ g _ _ _ HG3.out).mono ?_; rintro e w4 ⟨he, hb4⟩; rw [HD.out] at he; subst he; have c4 := hb4.at' c3; have HG4 := Lib.hid (HG3.out.below hb4); have HW4 := Lib.hid (HW3.out.trans (hb4.mono HW3.out.size)); clear hb4)
  -- the graphs
  obtain ⟨T, hTT⟩ : ∃ T, T = twS g.length (ofG g) 0 := ⟨_, rfl⟩
  obtain ⟨x1, hx1⟩ : ∃ x, x = matG g.length (cutE (ofG g) a b) := ⟨_, rfl⟩
  obtain ⟨lo, hi, hlohi, hlh, hhn, hloE⟩ : ∃ lo hi : Nat, ((((a : Int) = lo ∧ (b : Int) = hi) ∨ ((a : Int) = hi ∧ (b : Int) = lo)) ∧ lo < hi ∧ hi < g.length ∧ ofG g lo hi = true) := by
    by_cases h : a < b
    · exact ⟨a, b, .inl ⟨rfl, rfl⟩, h, hbn, hE⟩
    · exact ⟨b, a, .inr ⟨rfl, rfl⟩, by omega, han, ofG_sym hok _ _ hE⟩
  obtain ⟨x2, hx2⟩ : ∃ x, x = indL (matG g.length (conE (ofG g) lo hi)) (natInts (restN g.length hi)) := ⟨_, rfl⟩
  obtain ⟨x3, hx3⟩ : ∃ x, x = indL g (natInts (restN g.length a)) := ⟨_, rfl⟩
  have k1 : GOk x1 ∧ x1.length = g.length := by rw [hx1]; exact ⟨wl_cut_gok hok, matG_length _ _⟩
  have k2 : GOk x2 ∧ x2.length = g.length - 1 := by rw [hx2]; exact (wl_con_gok hok hhn h2n).2
  have k3 : GOk x3 ∧ x3.length = g.length - 1 := by rw [hx3]; exact wl_ind hok han h2n
  obtain ⟨T1, hT1⟩ : ∃ T, T = twS x1.length (ofG x1) 0 := ⟨_, rfl⟩
  obtain ⟨T2, hT2⟩ : ∃ T, T = twS x2.length (ofG x2) 0 := ⟨_, rfl⟩
  obtain ⟨T3, hT3⟩ : ∃ T, T = twS x3.length (ofG x3) 0 := ⟨_, rfl⟩
  have q1 := wl_edge hok (a := a) (b := b) han h2n
  rw [← hx1, ← hT1, ← hTT] at q1
  have q2 := wl_con hok (a := lo) (b := hi) (by omega) hhn (by omega) hloE h2n
  rw [← hx2, ← hT2, ← hTT] at q2
  have q3 := wl_vertex hok han h2n
  rw [← hx3, ← hT3, ← hTT] at q3
  have hTn : T ≤ g.length := by rw [hTT]; exact twS_le _ _ _ 0 rfl
  have hwT : IntKind.i64.wrap ((T : Int) - 1) = (T : Int) - 1 := by rw [IntKind.wrap_i64]; omega
  have i1 : ¬ (T : Int) < (T1 : Int) := by omega
  have i2 : ¬ (T : Int) < (T2 : Int) := by omega
  have i3 : ¬ (T : Int) < (T3 : Int) := by omega
  have i4 : ¬ (T1 : Int) < (T : Int) - 1 := by omega
  have i5 : ¬ (T3 : Int) < (T : Int) - 1 := by omega
  have TW0 : Hid (∀ wz, Below W.heap.size W wz → Gr wz (.agg #[.slice ga g.length gc]) g → Calls Tryd.prog 36 #[.agg #[.slice ga g.length gc]] wz fun e w' => e = .returned (.int .i64 (T : Int)) ∧ Below wz.heap.size wz w') := Lib.hid fun wz h1 h2 => by
    rw [hTT]; exact implTreeWidth_any _ g HOK.out (by omega) wz h2 (HT.out.keep h1)
  have TWS : Hid (∀ wz, Gr wz (.agg #[.slice ga g.length gc]) g → Calls Tryd.prog 40 #[.agg #[.slice ga g.length gc]] wz fun e w' => e = .returned (.int .i64 (T : Int)) ∧ Below wz.heap.size wz w') := Lib.hid fun wz h2 => by
    rw [hTT]; exact specTreeWidth_any _ g HOK.out (by omega) wz h2
  have TW1 : Hid (∀ wz u, Below W.heap.size W wz → Gr wz u x1 → Calls Tryd.prog 36 #[u] wz fun e w' => e = .returned (.int .i64 (T1 : Int)) ∧ Below wz.heap.size wz w') := Lib.hid fun wz u h1 h2 => by
    rw [hT1]; exact implTreeWidth_any _ x1 k1.1 (by omega) wz h2 (HT.out.keep h1)
  have TW2 : Hid (∀ wz u, Below W.heap.size W wz → Gr wz u x2 → Calls Tryd.prog 36 #[u] wz fun e w' => e = .returned (.int .i64 (T2 : Int)) ∧ Below wz.heap.size wz w') := Lib.hid fun wz u h1 h2 => by
    rw [hT2]; exact implTreeWidth_any _ x2 k2.1 (by omega) wz h2 (HT.out.keep h1)
  have TW3 : Hid (∀ wz u, Below W.heap.size W wz → Gr wz u x3 → Calls Tryd.prog 36 #[u] wz fun e w' => e = .returned (.int .i64 (T3 : Int)) ∧ Below wz.heap.size wz w') := Lib.hid fun wz u h1 h2 => by
    rw [hT3]; exact implTreeWidth_any _ x3 k3.1 (by omega) wz h2 (HT.out.keep h1)
  obtain ⟨m1, hm1⟩ : ∃ m, m = x1.length := ⟨_, rfl⟩
  obtain ⟨m2, hm2⟩ : ∃ m, m = x2.length := ⟨_, rfl⟩
  obtain ⟨m3, hm3⟩ : ∃ m, m = x3.length := ⟨_, rfl⟩
  have L1 : Hid (x1.length ≤ 1000000000) := Lib.hid (by omega)
  have L2 : Hid (x2.length ≤ 1000000000) := Lib.hid (by omega)
  have L3 : Hid (x3.length ≤ 1000000000) := Lib.hid (by omega)
  have CUT : Hid (∀ wz, Gr wz (.agg #[.slice ga g.length gc]) g → Calls Tryd.prog 37 #[.agg #[.slice ga g.length gc], .int .i64 (a : Int), .int .i64 (b : Int)] wz fun e w' => ∃ xp xc, e = .returned (.tuple #[.agg #[.slice xp m1 xc], .bool true]) ∧ SG w' wz.heap.size (.agg #[.slice xp m1 xc]) x1 ∧ Below wz.heap.size wz w') := Lib.hid fun wz h => by
    refine (specCutEdge_yes _ g _ _ a b rfl rfl HOK.out han hbn HE.out wz h).mono ?_
    rintro e w' ⟨u, rfl, hs, hb⟩
    rw [← hx1] at hs
    obtain ⟨xp, xc, rfl⟩ := hs.shape
    rw [← hm1] at hs ⊢
    exact ⟨xp, xc, rfl, hs, hb⟩
  have CON : Hid (∀ wz, Gr wz (.agg #[.slice ga g.length gc]) g → Calls Tryd.prog 38 #[.agg #[.slice ga g.length gc], .int .i64 (a : Int), .int .i64 (b : Int)] wz fun e w' => ∃ xp xc, e = .returned (.tuple #[.agg #[.slice xp m2 xc], .bool true]) ∧ SG w' wz.heap.size (.agg #[.slice xp m2 xc]) x2 ∧ Below wz.heap.size wz w') := Lib.hid fun wz h => by
    refine (specContracted2_yes _ g _ _ lo hi hlohi HOK.out hlh hhn hloE wz h).mono ?_
    rintro e w' ⟨u, rfl, hs, hb⟩
    rw [← hx2] at hs
    obtain ⟨xp, xc, rfl⟩ := hs.shape
    rw [← hm2] at hs ⊢
    exact ⟨xp, xc, rfl, hs, hb⟩
  have VTX : Hid (∀ wz, Gr wz (.agg #[.slice ga g.length gc]) g → Calls Tryd.prog 39 #[.agg #[.slice ga g.length gc], .int .i64 (a : Int)] wz fun e w' => ∃ xp xc, e = .returned (.tuple #[.agg #[.slice xp m3 xc], .bool true]) ∧ SG w' wz.heap.size (.agg #[.slice xp m3 xc]) x3 ∧ Below wz.heap.size wz w') := Lib.hid fun wz h => by
    refine (specCutVertex_yes _ g _ a rfl HOK.out han h2n wz h).mono ?_
    rintro e w' ⟨u, rfl, hs, hb⟩
    rw [← hx3] at hs
    obtain ⟨xp, xc, rfl⟩ := hs.shape
    rw [← hm3] at hs ⊢
    exact ⟨xp, xc, rfl, hs, hb⟩
  have FST := Lib.hid (wl_first hok han)
  have HTT := Lib.hid hTT
  clear hTT hx1 hlohi hlh hhn hloE hx2 hx3 k1 k2 k3 hT1 hT2 hT3 q1 q2 q3 hm1 hm2 hm3 hok hE hab c3 HG3 HW3
  go_upto_region 7 with (go_at_call 36; refine (TW0.out _ HW4.out HG4.out).mono ?_; rintro e w5 ⟨rfl, hb5⟩; have c5 := hb5.at' c4; have HG5 := Lib.hid (HG4.out.below hb5); have HW5 := Lib.hid (HW4.out.trans (hb5.mono HW4.out.size)); clear hb5)
  clear c4 HG4 HW4
  go_upto_region 8 with (go_at_call 37; refine (CUT.out _ HG5.out).mono ?_; rintro e wq ⟨xp1, xc1, rfl, hs1, hbq⟩)
  obtain ⟨w6, hw6⟩ : ∃ w, w = wq.alloc (.cells #[.slice xp1 m1 xc1] 28) := ⟨_, rfl⟩
  rw [← hw6]
  have hba6 : Below wq.heap.size wq w6 := by rw [hw6]; exact below_alloc _ _
  have hbb6 := hbq.trans (hba6.mono hbq.size)
  have e1 : w6.cell? ⟨wq.heap.size, 0, none⟩ = some (.slice xp1 m1 xc1) := by rw [hw6]; exact (Box.new _ _ _).cell
  have HX1 : Hid (Gr w6 (.agg #[.slice xp1 m1 xc1]) x1) := Lib.hid ((hs1.below hba6).gr L1.out)
  have c6 := hbb6.at' c5
  have HGQ6 := Lib.hid (HG5.out.below hbb6)
  have HW6 := Lib.hid (HW5.out.trans (hbb6.mono HW5.out.size))
  generalize wq.heap.size = bx1 at *
  clear hw6 hba6 hbb6 hbq hs1 c5 HW5 HG5 CUT
  go_upto_region 9 with (go_at_call 38; refine (CON.out _ HGQ6.out).mono ?_; rintro e wq ⟨xp2, xc2, rfl, hs2, hbq⟩)
  obtain ⟨w7, hw7⟩ : ∃ w, w = wq.alloc (.cells #[.slice xp2 m2 xc2] 28) := ⟨_, rfl⟩
  rw [← hw7]
  have hba7 : Below wq.heap.size wq w7 := by rw [hw7]; exact below_alloc _ _
  have hbb7 := hbq.trans (hba7.mono hbq.size)
  have e2 : w7.cell? ⟨wq.heap.size, 0, none⟩ = some (.slice xp2 m2 xc2) := by rw [hw7]; exact (Box.new _ _ _).cell
  have HX2 : Hid (Gr w7 (.agg #[.slice xp2 m2 xc2]) x2) := Lib.hid ((hs2.below hba7).gr L2.out)
  have c7 := hbb7.at' c6
  have HGQ7 := Lib.hid (HGQ6.out.below hbb7)
  have HW7 := Lib.hid (HW6.out.trans (hbb7.mono HW6.out.size))
  replace e1 := hbb7.at' e1
  replace HX1 := Lib.hid (HX1.out.below hbb7)
  generalize wq.heap.size = bx2 at *
  clear hw7 hba7 hbb7 hbq hs2 c6 HW6 HGQ6 CON
  go_upto_region 10 with (go_at_call 39; refine (VTX.out _ HGQ7.out).mono ?_; rintro e wq ⟨xp3, xc3, rfl, hs3, hbq⟩)
  obtain ⟨w8, hw8⟩ : ∃ w, w = wq.alloc (.cells #[.slice xp3 m3 xc3] 28) := ⟨_, rfl⟩
  rw [← hw8]
  have hba8 : Below wq.heap.size wq w8 := by rw [hw8]; exact below_alloc _ _
  have hbb8 := hbq.trans (hba8.mono hbq.size)
  have e3 : w8.cell? ⟨wq.heap.size, 0, none⟩ = some (.slice xp3 m3 xc3) := by rw [hw8]; exact (Box.new _ _ _).cell
  have HX3 : Hid (Gr w8 (.agg #[.slice xp3 m3 xc3]) x3) := Lib.hid ((hs3.below hba8).gr L3.out)
  have c8 := hbb8.at' c7
  have HGQ8 := Lib.hid (HGQ7.out.below hbb8)
  have HW8 := Lib.hid (HW7.out.trans (hbb8.mono HW7.out.size))
  replace e1 := hbb8.at' e1
  replace HX1 := Lib.hid (HX1.out.below hbb8)
  replace e2 := hbb8.at' e2
  replace HX2 := Lib.hid (HX2.out.below hbb8)
  generalize wq.heap.size = bx3 at *
  clear hw8 hba8 hbb8 hbq hs3 c7 HW7 HGQ7 VTX
  have HG8 := HGQ8
  go_upto_region 12 with (first
    | (go_at_call 36; have hz := K4; refine (TW3.out _ _ (HW8.out.trans (HBZ.out.mono HW8.out.size)) (HX3.out.below HBZ.out)).mono ?_; rintro e wf ⟨rfl, hbz⟩; have HBF := Lib.hid (HBZ.out.trans (hbz.mono HBZ.out.size)); clear hbz)
    | (go_at_call 36; have hz := K3; refine (TW1.out _ _ (HW8.out.trans (HBY.out.mono HW8.out.size)) (HX1.out.below HBY.out)).mono ?_; rintro e we ⟨rfl, hbz⟩; have HBZ := Lib.hid (HBY.out.trans (hbz.mono HBY.out.size)); have d3 := HBZ.out.at' e3; have K4 := Lib.hid trivial; clear hbz)
    | (go_at_call 36; have hz := K2; refine (TW3.out _ _ (HW8.out.trans (HBX.out.mono HW8.out.size)) (HX3.out.below HBX.out)).mono ?_; rintro e wd ⟨rfl, hbz⟩; have HBY := Lib.hid (HBX.out.trans (hbz.mono HBX.out.size)); have d1b := HBY.out.at' e1; have K3 := Lib.hid trivial; clear hbz)
    | (go_at_call 36; have hz := K1; refine (TW2.out _ _ (HW8.out.trans (HBV.out.mono HW8.out.size)) (HX2.out.below HBV.out)).mono ?_; rintro e wc ⟨rfl, hbz⟩; have HBX := Lib.hid (HBV.out.trans (hbz.mono HBV.out.size)); have d3b := HBX.out.at' e3; have K2 := Lib.hid trivial; clear hbz)
    | (go_at_call 36; refine (TW1.out _ _ (HW8.out.trans (HBU.out.mono HW8.out.size)) (HX1.out.below HBU.out)).mono ?_; rintro e wb ⟨rfl, hbz⟩; have HBV := Lib.hid (HBU.out.trans (hbz.mono HBU.out.size)); have d2 := HBV.out.at' e2; have K1 := Lib.hid trivial; clear hbz)
    | (go_at_call 40; refine (TWS.out _ HG8.out).mono ?_; rintro e wa ⟨rfl, hbz⟩; have HBU := Lib.hid hbz; have d1 := HBU.out.at' e1; clear hbz))
  have cF := HBF.out.at' c8
  have HGF := Lib.hid (HG8.out.below HBF.out)
  have HWF := Lib.hid (HW8.out.trans (HBF.out.mono HW8.out.size))
  obtain ⟨w12, hw12⟩ : ∃ w12, w12 = wf.alloc (.cells #[.int .i64 (a : Int)] 2) := ⟨_, rfl⟩
  have hb12 : Below wf.heap.size wf w12 := by rw [hw12]; exact below_alloc _ _
  have HN12 : Hid (Nums w12 2 .i64 (.slice (some ⟨wf.heap.size, 0, none⟩) 1 1) [(a : Int)]) := Lib.hid (by
    rw [hw12]
    exact Nums.of_owns (n := 1) (xs := [(a : Int)]) (World.ownsRow_lit wf #[.int .i64 (a : Int)] 1 (base := wf.heap.size) (e := 2) (size := 1) (Nat.le_refl _) (by decide) (by simp)) rfl (by decide))
  have c12 := hb12.at' cF
  have HG12 := Lib.hid (HGF.out.below hb12)
  have HW12 := Lib.hid (HWF.out.trans (hb12.mono HWF.out.size))
  clear hb12 cF HGF HWF HBF HBU HBV HBX HBY HBZ d1 d2 d3 d1b d3b e1 e2 e3 HX1 HX2 HX3 TW0 TW1 TW2 TW3 TWS HG8 HGQ8 HW8 c8
  go_upto_region 13 with fail
  rw [← hw12]
  obtain ⟨gb, hgb⟩ : ∃ gb, gb = wf.heap.size := ⟨_, rfl⟩
  rw [← hgb] at HN12 ⊢
  clear hw12 hgb
  obtain ⟨B, hB⟩ : ∃ B, B = behS g.length (ofG g) (2 ^ a) b := ⟨_, rfl⟩
  have BEI : Hid (∀ wz, Below W.heap.size W wz → Gr wz (.agg #[.slice ga g.length gc]) g → Nums wz 2 .i64 (.slice (some ⟨gb, 0, none⟩) 1 1) [(a : Int)] → Calls Tryd.prog 41 #[.agg #[.slice ga g.length gc], .slice (some ⟨gb, 0, none⟩) 1 1, .int .i64 (b : Int)] wz fun e w' => ∃ ov, e = .returned ov ∧ Nums w' 2 .i64 ov (natInts B) ∧ Below wz.heap.size wz w') := Lib.hid fun wz h1 h2 h3 => by
    rw [hB]; exact implBehindOf_one _ _ _ g a b rfl HOK.out han hbn HAB.out wz h2 h3 (HT.out.keep h1)
  have BES : Hid (∀ wz, Gr wz (.agg #[.slice ga g.length gc]) g → Nums wz 2 .i64 (.slice (some ⟨gb, 0, none⟩) 1 1) [(a : Int)] → Calls Tryd.prog 42 #[.agg #[.slice ga g.length gc], .slice (some ⟨gb, 0, none⟩) 1 1, .int .i64 (b : Int)] wz fun e w' => ∃ ov, e = .returned ov ∧ Nums w' 2 .i64 ov (natInts B) ∧ Below wz.heap.size wz w') := Lib.hid fun wz h2 h3 => by
    rw [hB]; exact specBehindOf_one _ _ _ g a b rfl HOK.out han hbn HAB.out wz h2 h3
  clear hB
  go_upto_region 14 with (go_at_call 41; refine (BEI.out _ HW12.out HG12.out HN12.out).mono ?_; rintro e w13 ⟨ov, rfl, hov, hb13⟩; have HOV := Lib.hid hov; have c13 := hb13.at' c12; have HG13 := Lib.hid (HG12.out.below hb13); have HN13 := Lib.hid (HN12.out.below hb13); have HW13 := Lib.hid (HW12.out.trans (hb13.mono HW12.out.size)); clear hov hb13)
  obtain ⟨_, eG, hRg⟩ := id HG13.out
  cases eG
  obtain ⟨rb, ro, rp, rc, hgp, hcr, _⟩ := hRg.get (k := a) han
  subst hgp
  change w13.cell? _ = some (.slice rp (row g a).length rc) at hcr
  obtain ⟨D, hD⟩ : ∃ D, D = (row g a).length := ⟨_, rfl⟩
  rw [← hD] at hcr
  obtain ⟨V, hV⟩ : ∃ V, V = twS g.length (ofG g) (2 ^ a) := ⟨_, rfl⟩
  have hfst : T ≤ D ∨ T ≤ V := by rw [HTT.out, hD, hV]; exact FST.out
  have WFR : Hid (∀ wz, Below W.heap.size W wz → Gr wz (.agg #[.slice (some ⟨rb, ro, none⟩) g.length gc]) g → Nums wz 2 .i64 (.slice (some ⟨gb, 0, none⟩) 1 1) [(a : Int)] → Calls Tryd.prog 43 #[.agg #[.slice (some ⟨rb, ro, none⟩) g.length gc], .slice (some ⟨gb, 0, none⟩) 1 1] wz fun e w' => e = .returned (.int .i64 (V : Int)) ∧ Below wz.heap.size wz w') := Lib.hid fun wz h1 h2 h3 => by
    rw [hV]; exact implWidthFrom_one _ _ g a HOK.out (by omega) han wz h2 h3 (HT.out.keep h1)
  have hai : (a : Int) < (g.length : Int) := by omega
  have ha0 : (0 : Int) ≤ (a : Int) := by omega
  clear hRg hD hV FST HTT c12
  by_cases hdeg : T ≤ D
  · have hdi : (T : Int) ≤ (D : Int) := by omega
    clear hdeg hfst
    go_wp2_with (first
      | (go_at_call 26; refine (likeInts_any _ _ _ _ _ (HOV.out.below HB14.out) HOS.out).mono ?_; rintro e w15 ⟨he, hb15⟩; rw [dec_true rfl] at he; subst he; have c15 := hb15.at' c14; have hcr15 := hb15.at' (HB14.out.at' hcr); have HW15 := Lib.hid (HW13.out.trans ((HB14.out.trans (hb15.mono HB14.out.size)).mono HW13.out.size)); clear hb15)
      | (go_at_call 42; refine (BES.out _ HG13.out HN13.out).mono ?_; rintro e w14 ⟨os, rfl, hos, hb14⟩; have HOS := Lib.hid hos; have HB14 := Lib.hid hb14; have c14 := hb14.at' c13; clear hos hb14))
    go_ret
    exact ⟨rfl, HW15.out⟩
  · have hdi : ¬ (T : Int) ≤ (D : Int) := by omega
    have hvi : (T : Int) ≤ (V : Int) := by omega
    clear hdeg hfst
    go_wp2_with (first
      | (go_at_call 43; refine (WFR.out _ HW15.out (HG13.out.below HB15.out) (HN13.out.below HB15.out)).mono ?_; rintro e w16 ⟨rfl, hb16⟩; have HW16 := Lib.hid (HW15.out.trans (hb16.mono HW15.out.size)); clear hb16)
      | (go_at_call 26; refine (likeInts_any _ _ _ _ _ (HOV.out.below HB14.out) HOS.out).mono ?_; rintro e w15 ⟨he, hb15⟩; rw [dec_true rfl] at he; subst he; have c15 := hb15.at' c14; have hcr15 := hb15.at' (HB14.out.at' hcr); have HB15 := Lib.hid (HB14.out.trans (hb15.mono HB14.out.size)); have HW15 := Lib.hid (HW13.out.trans (HB15.out.mono HW13.out.size)); clear hb15)
      | (go_at_call 42; refine (BES.out _ HG13.out HN13.out).mono ?_; rintro e w14 ⟨os, rfl, hos, hb14⟩; have HOS := Lib.hid hos; have HB14 := Lib.hid hb14; have c14 := hb14.at' c13; clear hos hb14))
    go_ret
    exact ⟨rfl, HW16.out⟩

end Go.Proofs.YtiooindlpinjhaaDoor

/- The argument of a law over bytes, opened. -/
namespace Go.Proofs.YtiooindlpinjhaaDoor
open Go.ChangeShapes Go.WideShapes Go.ChangeAt Go.RowKit Go.Deep

variable {H : Type} {enc : TypeId × Value → H}
set_option maxRecDepth 100000 in
theorem open_bytesB {W : World} {sp : Nat → Bool} {held : Bool} {b0 : Nat} {v : Value} {d : DataW H} {p : List MemPlace} (hv : Value.okWide Tryd.prog W .any b0 35 v)
    (h : DataW.Trod enc Tryd.prog W 0 (fun _ => true) held 35 v d p) : ∃ xs, ArgB W v xs := by
  obtain ⟨a0, len, cap, rfl⟩ := okWide_slice Tryd.underlying35 hv
  obtain ⟨fuel, hf⟩ := h
  rcases open_ints Tryd.underlying35 Tryd.underlying5 cellsByte hf with ⟨hc, _⟩ | ⟨a, len', cap', zs, hc, _, hl, hm, hz, _, hcell, hwz⟩
  · obtain ⟨rfl, rfl, rfl⟩ : a0 = none ∧ len = 0 ∧ cap = 0 := by simpa [Value.cells] using hc
    exact ⟨[], none, 0, rfl, by simp, by simp, .inl rfl⟩
  · obtain ⟨rfl, rfl, rfl⟩ : a0 = some a ∧ len = len' ∧ cap = cap' := by simpa [Value.cells] using hc
    simp only [if_true] at hz
    have hll : (zs.take len).length = len := by rw [List.length_take]; omega
    have hm' := hm
    rw [maxLen_eq] at hm'
    refine ⟨zs.take len, some a, cap, by rw [hll], by rw [hll]; omega, fun x hx => ?_, ?_⟩
    · obtain ⟨j, hj, rfl⟩ := List.getElem_of_mem hx
      rw [hll] at hj
      have := range_u8 hwz j
      have hjz : j < zs.length := by omega
      simpa [hjz] using this
    · by_cases h0 : len = 0
      · subst h0; exact .inl (by simp)
      · have hs := spot_of (show W.cell? a = some _ from hcell 0 (by omega))
        refine .inr ⟨a.block, a.off, ?_, fun j u hu => ?_⟩
        · obtain ⟨b, o, s⟩ := a; simp only at hs; subst hs; rfl
        · have hj : j < len := by
            have := (List.getElem?_eq_some_iff.1 hu).1
            rw [List.length_map, hll] at this; exact this
          have h1 := cell_add (hcell j (by omega)) hs
          rw [h1]
          rw [List.getElem?_map, List.getElem?_take, if_pos hj] at hu
          rw [← hu]
          simp [List.getD, List.getElem?_eq_getElem (show j < zs.length by omega)]

end Go.Proofs.YtiooindlpinjhaaDoor
