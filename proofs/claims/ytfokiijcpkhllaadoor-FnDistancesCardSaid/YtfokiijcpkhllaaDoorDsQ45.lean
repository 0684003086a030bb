/- Walk: the law FnDistances (printed by wip/mkDs.py). -/
import Derived.Test.YtfokiijcpkhllaaDoorDsQ34
import Derived.Test.YtfokiijcpkhllaaDoorDsQ38
import Derived.Test.YtfokiijcpkhllaaDoorDsQ42
import Derived.Test.YtfokiijcpkhllaaDoorDsQ43
import Derived.Test.YtfokiijcpkhllaaDoorDsQ44
import Derived.Test.YtfokiijcpkhllaaDoorDsQ14
import Derived.Test.YtfokiijcpkhllaaDoorDsQ3
import Derived.Test.YtfokiijcpkhllaaDoorCards
import Derived.Test.YtfokiijcpkhllaaDoorTie
import Derived.ProofKit
import Derived.OpenShut
import Derived.Below
import Derived.ChangeSlices
import Derived.ChangeSame
import Derived.WideKeyArgs
import Derived.Deep.DeepHandedRow
import Derived.Deep.Matrix
import Derived.Lib.LaidTab
namespace Go.Proofs.YtfokiijcpkhllaaDoor
open Go.RowKit

theorem dice_ltDs {w0 w : World} {db : Nat} {bs : List Int} (h : Dice w0 w db bs) : db < w.heap.size := by
  obtain ⟨_, _, _, h1, _⟩ := h.ex
  exact h1.lt
theorem owns_shapeDs {w : World} {base : Nat} {E : TypeId} {size n : Nat} {v : Value} {xs : List Value} (h : w.ownsRow base E size v n xs) : ∃ p c, v = .slice p n c := by
  rcases h.2 with ⟨rfl, h0⟩ | ⟨b, c, _, rfl, _⟩
  · exact ⟨none, 0, by rw [h0]⟩
  · exact ⟨_, _, rfl⟩
theorem Gr.dicedDs {w0 w w' : World} {db : Nat} {bs : List Int} (h : Dice w0 w db bs) (hg : w.grownBy w' (some db)) {v : Value} {g : List (List Int)} (hs : Gr w v g) : Gr w' v g := by
  obtain ⟨u, rfl, vals, h1, h2, h3⟩ := hs
  exact ⟨u, rfl, vals, h1, Sl.diced h hg (by decide) h2, fun i hi => Sl.diced h hg (by decide) (h3 i hi)⟩
set_option maxRecDepth 100000 in
set_option maxHeartbeats 8000000 in
theorem lawDistances_any (v0 : Value) (bs : List Int) (W : World) (ha : ArgB W v0 bs) (hT : Tab W) :
    Calls Tryd.prog 3 #[v0] W fun e w' => e = .returned (.bool true) ∧ Below W.heap.size W w' := by
  obtain ⟨pa, ca, e0, _⟩ := id ha
  subst e0
  have HA := Lib.hid ha
  have HT := Lib.hid hT
  clear ha hT
  go_enter Tryd.func3, Tryd.ntmps3
  by_cases hbig : 4096 < bs.length
  · have hd := decide_eq_true hbig
    go_wp2_with (go_at_call 7; refine (big_any _ bs _ HA.out).mono ?_; rintro e w2 ⟨he, rfl⟩; rw [hd] at he; subst he)
    go_ret
    exact ⟨rfl, Below.refl _ _⟩
  have hd := decide_eq_false hbig
  have hl : bs.length ≤ 4096 := by omega
  clear hbig
  go_upto_region 5 with (first
    | (go_at_call 9; refine (w9Graph_any W db bs 6 _ rfl (by decide) (by decide) _ HD2.out (dice_ltDs HD2.out)).mono ?_; rintro e w3 ⟨u, n, E, rfl, hn1, hn6, hse, hsg, hd3, hg3⟩; have HSE := Lib.hid hse; have HSG := Lib.hid hsg; have HD3 := Lib.hid hd3; obtain ⟨ga, gc, rfl⟩ := hsg.shape; clear hse hsg hd3 hg3)
    | (go_at_call 8; refine (roll_any _ bs _ hl _ HA.out).mono ?_; rintro e w2 ⟨db, rfl, hd2, hb2⟩; have HD2 := Lib.hid hd2; clear hd2 hb2)
    | (go_at_call 7; refine (big_any _ bs _ HA.out).mono ?_; rintro e w1 ⟨he, rfl⟩; rw [hd] at he; subst he))
  obtain ⟨g, hga⟩ : ∃ g, g = matG n E := ⟨_, rfl⟩
  have hgl : g.length = n := by rw [hga, matG_length]
  have HOK : Hid (GOk g) := Lib.hid (by rw [hga]; exact gok_matG hn1 (by omega) HSE.out.1 HSE.out.2)
  rw [← hga] at HSG ⊢
  have hg6 : g.length ≤ 6 := by omega
  obtain ⟨w4, hw4⟩ : ∃ W', W' = w3.alloc (.cells #[.slice ga g.length gc] 29) := ⟨_, rfl⟩
  rw [← hw4]
  have hba : Below w3.heap.size w3 w4 := by rw [hw4]; exact below_alloc _ _
  have HXg : Hid (Box w4 w3.heap.size 29 (.slice ga g.length gc)) := Lib.hid (by rw [hw4]; exact Box.new _ _ _)
  have HGg := Lib.hid ((HSG.out.below hba).gr (by omega))
  have HD4 := Lib.hid (HD3.out.keep hba)
  have cg := HXg.out.cell
  obtain ⟨bg, hbg⟩ : ∃ bg, bg = w3.heap.size := ⟨_, rfl⟩
  rw [← hbg] at HXg cg ⊢
  clear hbg hga hw4 hba HSG hn6 hgl hn1 HD2 HD3 HSE hd HXg
  obtain ⟨K, hK⟩ : ∃ K, K = dec (KG g) := ⟨_, rfl⟩
  have HK := Lib.hid hK
  have HOB : Hid (dec (ObB g) = !K) := Lib.hid (by
    rw [hK]
    by_cases h : KG g
    · rw [dec_true h, dec_false fun k => (ob_kg HOK.out hg6).1 k h]; rfl
    · rw [dec_false h, dec_true ((ob_kg HOK.out hg6).2 h)]; rfl)
  clear hK
  go_upto_region 6 with (go_at_call 10; refine (implDistHer_any _ g _ HOK.out hg6 HGg.out (HT.out.keep HD4.out.bel)).mono ?_; rintro e w5 ⟨he, hb5⟩; rw [← HK.out] at he; subst he; have cg5 := hb5.at' cg; have HGg5 := Lib.hid (HGg.out.below hb5); have HD5 := Lib.hid (HD4.out.keep hb5); clear hb5)
  go_upto_region 7 with (go_at_call 11; refine (implObstacleOf_any _ g _ HGg5.out (HT.out.keep HD5.out.bel)).mono ?_; rintro e w6 ⟨ov, ys, he, hob, hy16, ho, hb6⟩; rw [HOB.out] at he; subst he; have HOS := Lib.hid hob; have HNY := Lib.hid (Nums.of_owns ho rfl (by omega)); have cg6 := hb6.at' cg5; have HGg6 := Lib.hid (HGg5.out.below hb6); have HD6 := Lib.hid (HD5.out.keep hb6); obtain ⟨yp, yc, rfl⟩ := owns_shapeDs ho; clear hb6 ho hob)
  clear cg cg5 HGg HGg5 HD4 HD5
  cases K with
  | true =>
    have HKT : Hid (KG g) := Lib.hid (Classical.byContradiction fun h => by have := HK.out; rw [dec_false h] at this; cases this)
    obtain rfl : ys = [] := by
      rcases HOS.out with ⟨h, _⟩ | ⟨_, h⟩
      · exact absurd HKT.out ((ob_kg HOK.out hg6).1 h)
      · exact h
    go_upto_region 9 with (first
      | (go_at_call 12; refine (implDistancesKept_any _ g _ HOK.out (by omega) HGg6.out (HT.out.keep HD6.out.bel)).mono ?_; rintro e w7 ⟨he, hb7⟩; rw [← HK.out] at he; subst he; have cg7 := hb7.at' cg6; have HGg7 := Lib.hid (HGg6.out.below hb7); have HD7 := Lib.hid (HD6.out.keep hb7); have HNY7 := Lib.hid (HNY.out.below hb7); clear hb7)
      | (go_at_call 13; refine (specDistancesKept_any _ g _ HOK.out (by omega) HGg7.out).mono ?_; rintro e w8 ⟨he, hb8⟩; rw [← HK.out] at he; subst he; have cg8 := hb8.at' cg7; have HGg8 := Lib.hid (HGg7.out.below hb8); have HD8 := Lib.hid (HD7.out.keep hb8); have HNY8 := Lib.hid (HNY7.out.below hb8); clear hb8))
    go_wp2_with fail
    go_ret
    exact ⟨rfl, HD8.out.bel⟩
  | false =>
    have HKF : Hid (¬ KG g) := Lib.hid fun h => by have := HK.out; rw [dec_true h] at this; cases this
    obtain ⟨q1, q2, q3, q4, q5⟩ := ob_least HOK.out hg6 HKF.out HOS.out
    have Q1 := Lib.hid q1
    have Q4 := Lib.hid (dec_false q4)
    have Q5 := Lib.hid q5
    obtain ⟨m, hm⟩ : ∃ m, m = ys.length := ⟨_, rfl⟩
    have HM := Lib.hid hm
    rw [← hm] at q2 q3 Q5 HNY ⊢
    clear q1 q4 q5 hm
    have hm5 : ¬ (m : Int) < 5 := by omega
    go_upto_region 9 with (first
      | (go_at_call 12; refine (implDistancesKept_any _ g _ HOK.out (by omega) HGg6.out (HT.out.keep HD6.out.bel)).mono ?_; rintro e w7 ⟨he, hb7⟩; rw [← HK.out] at he; subst he; have cg7 := hb7.at' cg6; have HGg7 := Lib.hid (HGg6.out.below hb7); have HD7 := Lib.hid (HD6.out.keep hb7); have HNY7 := Lib.hid (HNY.out.below hb7); clear hb7)
      | (go_at_call 13; refine (specDistancesKept_any _ g _ HOK.out (by omega) HGg7.out).mono ?_; rintro e w8 ⟨he, hb8⟩; rw [← HK.out] at he; subst he; have cg8 := hb8.at' cg7; have HGg8 := Lib.hid (HGg7.out.below hb8); have HD8 := Lib.hid (HD7.out.keep hb8); have HNY8 := Lib.hid (HNY7.out.below hb8); clear hb8))
    clear cg6 cg7 HGg6 HGg7 HD6 HD7 HNY HNY7
    obtain ⟨x, hx⟩ : ∃ x, x = indL g ys := ⟨_, rfl⟩
    have hxl : x.length = m := by rw [hx, HM.out]; exact matG_length _ _
    have HXOK : Hid (GOk x) := Lib.hid (by rw [hx]; have e := setIn_nats Q1.out; rw [← e.1]; exact indL_gok HOK.out (fun v hv => e.2.2 v hv) (by rw [List.length_map, ← HM.out]; omega) (by rw [List.length_map, ← HM.out]; omega))
    have Q4' : Hid (dec (KG x) = false) := Lib.hid (by rw [hx]; exact Q4.out)
    have Q5' : Hid (∀ b, b < m → KG (indL x (natInts (restN m b)))) := Lib.hid (by rw [hx]; exact Q5.out)
    have HXL := Lib.hid hxl
    go_upto_region 12 with (go_at_call 14; refine (specInduced_yes _ _ g ys HOK.out Q1.out (fun h => by rw [HM.out, h] at q2; simp at q2) _ HGg8.out HNY8.out).mono ?_; rintro e w9 ⟨u9, rfl, hs9, hb9⟩; rw [← hx] at hs9; obtain ⟨xp, xc, rfl⟩ := hs9.shape; rw [hxl] at hs9 ⊢; have HSX := Lib.hid hs9; have HD9 := Lib.hid (HD8.out.keep hb9); clear hs9 hb9)
    obtain ⟨wa, hwa⟩ : ∃ W', W' = w9.alloc (.cells #[.slice xp m xc] 29) := ⟨_, rfl⟩
    rw [← hwa]
    have hba : Below w9.heap.size w9 wa := by rw [hwa]; exact below_alloc _ _
    have HXx : Hid (Box wa w9.heap.size 29 (.slice xp m xc)) := Lib.hid (by rw [hwa]; exact Box.new _ _ _)
    have HGx : Hid (Gr wa (.agg #[.slice xp m xc]) x) := Lib.hid ((HSX.out.below hba).gr (by rw [hxl]; omega))
    have HDa := Lib.hid (HD9.out.keep hba)
    have hdx : db ≠ w9.heap.size := by have := dice_ltDs HD9.out; omega
    have hdx9 : db < w9.heap.size := dice_ltDs HD9.out
    obtain ⟨bx, hbx⟩ : ∃ bx, bx = w9.heap.size := ⟨_, rfl⟩
    rw [← hbx] at HXx hdx hdx9 ⊢
    have cx := HXx.out.cell
    clear hbx hwa hba HSX HD9 cg8 hx hxl
    go_upto_region 14 with (go_at_call 15; refine (specDistHer_any _ x _ HXOK.out (by rw [HXL.out]; omega) HGx.out).mono ?_; rintro e wc ⟨he, hbc⟩; rw [Q4'.out] at he; subst he; have cx2 := hbc.at' cx; have HGx2 := Lib.hid (HGx.out.below hbc); have HDc := Lib.hid (HDa.out.keep hbc); have HXx2 := Lib.hid (HXx.out.keep hbc); clear hbc)
    clear cx HGx HDa HXx
    have CUT : Hid (∀ (wq : World) (kk : Nat), kk < m → Gr wq (.agg #[.slice xp m xc]) x → Calls Tryd.prog 16 #[.agg #[.slice xp m xc], .int .i64 (kk : Int)] wq fun e w' => ∃ yp yc, e = .returned (.tuple #[.agg #[.slice yp (m - 1) yc], .bool true]) ∧ SG w' wq.heap.size (.agg #[.slice yp (m - 1) yc]) (indL x (natInts (restN m kk))) ∧ Below wq.heap.size wq w') := Lib.hid fun wq kk hk hgq => by
      refine (specCutVertex_yes _ x _ kk rfl HXOK.out (by rw [HXL.out]; exact hk) (by rw [HXL.out]; omega) wq hgq).mono ?_
      rintro e w' ⟨u, rfl, hs, hb⟩
      rw [HXL.out] at hs
      obtain ⟨yp, yc, rfl⟩ := hs.shape
      have hl2 : (indL x (natInts (restN m kk))).length = m - 1 := by rw [show (indL x (natInts (restN m kk))).length = _ from matG_length _ _, natInts_length, restN_length hk]
      rw [hl2] at hs ⊢
      exact ⟨yp, yc, rfl, hs, hb⟩
    have GXF : Hid (∀ wq, wc.grownBy wq (some db) → Gr wq (.agg #[.slice xp m xc]) x ∧ wq.cell? ⟨bx, 0, none⟩ = some (.slice xp m xc)) := Lib.hid fun wq hg => ⟨Gr.dicedDs HDc.out hg HGx2.out, hg.cell cx2 (fun e => hdx (by simpa using e.symm))⟩
    have hmi : (0 : Int) < (m : Int) := by omega
    have GRL : Hid (∀ kk, kk < m → (indL x (natInts (restN m kk))).length ≤ 1000000000) := Lib.hid fun kk hk => by rw [show (indL x (natInts (restN m kk))).length = _ from matG_length _ _, natInts_length, restN_length hk]; omega
    have hlx : bx < wc.heap.size := HXx2.out.lt
    go_cut [10] (fun s10 wx => ∃ (ab kk : Nat) (yp : Option Addr) (yc : Nat), kk < m ∧ s10 = .pointer (some ⟨ab, 0, none⟩) ∧ wx.cell? ⟨ab, 0, none⟩ = some (.slice yp (m - 1) yc) ∧ Gr wx (.agg #[.slice yp (m - 1) yc]) (indL x (natInts (restN m kk))) ∧ Below W.heap.size W wx)
    case first =>
      go_region_held3 (fun Z => Z.cell? ⟨bx, 0, none⟩ = some (.slice xp m xc))
        (first | exact cx2 | go_keep | exact SX | exact (below_alloc _ _).at' SX | exact (((Below.refl _ _).setCell (p := ⟨wB.heap.size, 0, none⟩) (Nat.le_refl _) _).at (by show bx < wB.heap.size; omega) SX) | exact (((Below.refl _ _).setCell (p := ⟨wc.heap.size, 0, none⟩) (Nat.le_refl _) _).at (by show bx < wc.heap.size; omega) SX))
        (first
          | (go_at_call 16; have m2 := YA2; refine (CUT.out _ _ hr2 (GXF.out _ HGB2.out).1).mono ?_; rintro e wD ⟨yp, yc, rfl, hsD, hbD⟩; have HSD := Lib.hid hsD; have BXD := YA2.keep hbD; have SX := hbD.at' ((GXF.out _ HGB2.out).2); have BWD := HDB2.out.bel.trans (hbD.mono HDB2.out.bel.size); have BXE := BXD; obtain ⟨yk0, yk1, yk2, yk3⟩ := BXE; clear hsD)
          | (go_at_call 16; refine (CUT.out _ _ hr (GXF.out _ HGB.out).1).mono ?_; rintro e wD ⟨yp, yc, rfl, hsD, hbD⟩; have HSD := Lib.hid hsD; have SX := hbD.at' ((GXF.out _ HGB.out).2); have BWD := HDB.out.bel.trans (hbD.mono HDB.out.bel.size); clear hsD)
          | (go_at_call 16; refine (CUT.out _ _ hr (GXF.out _ (grown_trans HGB.out (grown_of_below (below_alloc _ _) _))).1).mono ?_; rintro e wD ⟨yp, yc, rfl, hsD, hbD⟩; have HSD := Lib.hid hsD; have SX := hbD.at' ((below_alloc _ _).at' (GXF.out _ HGB.out).2); have BXD := (Box.new wB (.slice none 0 0) 29).keep hbD; have BWD := (HDB.out.bel.alloc HDB.out.bel.size _).trans (hbD.mono (HDB.out.bel.alloc HDB.out.bel.size _).size); have BXE := BXD; obtain ⟨yk0, yk1, yk2, yk3⟩ := BXE; clear hsD)
          | (go_at_call 17; refine (below_any W db bs m _ rfl (by omega) (by omega) _ (HDc.out.keep (below_dN (Below.refl _ _) 1))).mono ?_; rintro e wB ⟨r, rfl, hr, hdB, hgB⟩; have HDB := Lib.hid hdB; have HGB := Lib.hid (grown_trans (grown_of_below (below_dN (Below.refl wc.heap.size wc) 1) _) hgB); have SX := (GXF.out _ HGB.out).2; have szB := HGB.out.size; clear hdB hgB)
          | (go_at_call 17; refine (below_any W db bs m _ rfl (by omega) (by omega) _ (HDc.out.keep (below_dN (below_alloc wc _) 1))).mono ?_; rintro e wB ⟨r, rfl, hr2, hdB, hgB⟩; have HDB2 := Lib.hid hdB; have HGB2 := Lib.hid (grown_trans (grown_of_below (below_dN (below_alloc wc _) 1) _) hgB); have YA2 := ((Box.new wc (.slice none 0 0) 29).keep (below_dN (Below.refl _ _) 1)).grown hgB (fun e => by have := dice_ltDs HDc.out; have h9 : wc.heap.size = db := (by simpa using e); omega); have SX := (GXF.out _ HGB2.out).2; clear hdB hgB))
      all_goals go_wp2
      all_goals go_meet
      all_goals first
        | exact ⟨wD.heap.size, r, yp, yc, hr, rfl, (Box.new _ _ _).cell, (HSD.out.below (below_alloc _ _)).gr (GRL.out _ hr), BWD.alloc BWD.size _⟩
        | exact ⟨wc.heap.size, r, yp, yc, hr2, rfl, (BXD.set _).cell, (HSD.out.setBox BXD _).gr (GRL.out _ hr2), BWD.setCell (p := ⟨wc.heap.size, 0, none⟩) HDc.out.bel.size _⟩
        | exact ⟨wB.heap.size, r, yp, yc, hr, rfl, (BXD.set _).cell, (HSD.out.setBox BXD _).gr (GRL.out _ hr), BWD.setCell (p := ⟨wB.heap.size, 0, none⟩) HDB.out.bel.size _⟩
    case rest =>
    obtain ⟨ab, kk, yp2, yc2, hkk, rfl, cy, hgy, hbe⟩ := hcut
    have HGY := Lib.hid hgy
    have HBE := Lib.hid hbe
    have HYD := Lib.hid (dec_true (Q5'.out kk hkk))
    have HYOK : Hid (GOk (indL x (natInts (restN m kk)))) := Lib.hid (indL_gok HXOK.out (fun v hv => by rw [HXL.out]; exact (mem_restN.1 hv).1) (by rw [restN_length hkk]; omega) (by rw [restN_length hkk]; omega))
    have hyl : (indL x (natInts (restN m kk))).length ≤ 6 := by rw [show (indL x (natInts (restN m kk))).length = _ from matG_length _ _, natInts_length, restN_length hkk]; omega
    clear hgy hbe cx2
    go_wp2_with (go_at_call 15; refine (specDistHer_any _ _ _ HYOK.out hyl HGY.out).mono ?_; rintro e wf ⟨he, hbf⟩; rw [HYD.out] at he; subst he; have HBF := Lib.hid (HBE.out.trans (hbf.mono HBE.out.size)); clear hbf)
    go_ret
    exact ⟨rfl, HBF.out⟩

end Go.Proofs.YtfokiijcpkhllaaDoor

/- The argument of a law over one graph, opened; the table; the row's last step. -/
namespace Go.Proofs.YtfokiijcpkhllaaDoor
open Go.ChangeShapes Go.WideShapes Go.ChangeAt Go.RowKit Go.Deep

theorem own : ownKnob Tryd.prog.godebug = none := by kernel_rfl
theorem laidOut : laidOutB Tryd.prog = true := by kernel_rfl
theorem gTab : Tryd.prog.globalNamed "math/bits.deBruijn32tab" = some 0 := by kernel_rfl
theorem gTabType : (Tryd.prog.globals[0]?).map (·.type) = some 163 := by kernel_rfl
theorem cellsTab : Tryd.prog.cellsOf 163 = 32 := by kernel_rfl
theorem cellsByte : Tryd.prog.cellsOf 5 = 1 := by kernel_rfl
theorem cellsRows : Tryd.prog.cellsOf 27 = 1 := by kernel_rfl
theorem cellsRow : Tryd.prog.cellsOf 32 = 1 := by kernel_rfl
theorem cellsInt : Tryd.prog.cellsOf 2 = 1 := by kernel_rfl
theorem maxLen_eq : maxLen = 9223372036854775807 := rfl

set_option maxRecDepth 100000 in
theorem tab_of_laid {W : World} {rest : List (String × DataW Unit)} (h : laidMet Tryd.prog (("math/bits.deBruijn32tab", Rows.laid_math_bits_deBruijn32tab) :: rest) W) : Tab W := by
  have t : Lib.TabIs Tryd.prog W "math/bits.deBruijn32tab" .u8 (Lib.deBruijn32tab.map fun (n : Nat) => (n : Int)) :=
    Lib.tabIs_of_head (rest := rest) gTab gTabType Tryd.underlying163 Tryd.underlying5 cellsByte cellsTab h
  intro j hj
  rw [t.cell gTab j (by simpa using hj)]
  simp [List.getD, hj]

theorem spot_of {w : World} {a : Addr} {u : Value} (h : w.cell? a = some u) : a.spot = none := by
  unfold World.cell? at h
  split at h
  · cases e : a.spot with
    | none => rfl
    | some x => simp [e] at h
  · cases h
theorem cell_add {w : World} {a : Addr} {r : Nat} {u : Value} (h : w.cell? (a.add r) = some u) (hs : a.spot = none) : w.cell? ⟨a.block, a.off + r, none⟩ = some u := by
  obtain ⟨b, o, s⟩ := a
  simp only at hs
  subst hs
  unfold Addr.add at h
  split at h
  · rename_i e; subst e; exact h
  · exact h

variable {H : Type} {enc : TypeId × Value → H}

theorem open_row {w : World} {A : Option Addr} {L C : Nat} {zs : List Int} (hLC : L ≤ C) (hC : C ≤ maxLen) (hz : zs.length = C) (hn : A = none → C = 0)
    (hc : ∀ a', A = some a' → 0 ≤ a'.block ∧ ∀ c, c < C → w.cell? (a'.add c) = some (.int .i64 (zs.getD c 0))) : ArgN w (.slice A L C) (zs.take L) := by
  have hl : (zs.take L).length = L := by rw [List.length_take]; omega
  rw [maxLen_eq] at hC
  refine ⟨A, C, by rw [hl], by omega, ?_⟩
  by_cases h0 : L = 0
  · subst h0; exact .inl (by simp)
  · cases A with
    | none => have := hn rfl; omega
    | some a =>
      obtain ⟨_, hc⟩ := hc a rfl
      have hs := spot_of (show w.cell? a = some _ from hc 0 (by omega))
      refine .inr ⟨a.block, a.off, ?_, fun j u hu => ?_⟩
      · obtain ⟨b, o, s⟩ := a; simp only at hs; subst hs; rfl
      · have hj : j < L := by
          have := (List.getElem?_eq_some_iff.1 hu).1
          rw [List.length_map, hl] at this; exact this
        have h1 := cell_add (hc j (by omega)) hs
        rw [h1]
        rw [List.getElem?_map, List.getElem?_take, if_pos hj] at hu
        rw [← hu]
        simp [List.getD, List.getElem?_eq_getElem (show j < zs.length by omega)]

set_option maxRecDepth 100000 in
theorem open_nums {W : World} {sp : Nat → Bool} {held : Bool} {b0 : Nat} {v : Value} {d : DataW H} {p : List MemPlace} (hv : Value.okWide Tryd.prog W .any b0 32 v)
    (h : DataW.Trod enc Tryd.prog W 0 (fun _ => true) held 32 v d p) : ∃ xs, ArgN W v xs := by
  obtain ⟨a0, len, cap, rfl⟩ := okWide_slice Tryd.underlying32 hv
  obtain ⟨fuel, hf⟩ := h
  rcases open_ints Tryd.underlying32 Tryd.underlying2 cellsInt hf with ⟨hc, _⟩ | ⟨a, len', cap', zs, hc, _, hl, hm, hz, _, hcell, _⟩
  · obtain ⟨rfl, rfl, rfl⟩ : a0 = none ∧ len = 0 ∧ cap = 0 := by simpa [Value.cells] using hc
    exact ⟨[], none, 0, rfl, by simp, .inl rfl⟩
  · obtain ⟨rfl, rfl, rfl⟩ : a0 = some a ∧ len = len' ∧ cap = cap' := by simpa [Value.cells] using hc
    simp only [if_true] at hz
    exact ⟨_, open_row hl hm hz (fun e => by cases e) (fun a' e => by cases e; exact ⟨Nat.zero_le _, fun c hc => hcell c (by omega)⟩)⟩

theorem same_of_below {W W' : World} (hb : Below W.heap.size W W') {x : MemPlace} (hx : x.block < W.heap.size) : W.sameAt W' x := by
  cases x with
  | cell b off => exact hb.cell (p := ⟨b, off, none⟩) hx
  | map b => exact hb.block b hx

section
variable {P : Program}
theorem post_of_below {f : Func} {s : ChangeSpec} {apart fresh handsOn again : Bool} {W W' : World} {args : Array Value} {v : Value} {ds gs : List (DataW H)} {before pa pv : List MemPlace}
    (hW : DataW.Whole enc P f.params.toList s.vars apart W args.toList ds gs before)
    (hres : ∀ (b : Nat) (sp : Nat → Bool) (hd : Bool), DataW.TrodAll enc P W' b sp hd f.resultTypes.toList (v.resultList f.resultTypes.size) (s.fn H (ds ++ gs)).results [])
    (hargs : ∀ sp : Nat → Bool, (∀ p ∈ before, sp p.block = true) → DataW.TrodAll enc P W' 0 sp true f.params.toList args.toList (s.fn H (ds ++ gs)).args pa)
    (hvars : ∀ sp : Nat → Bool, (∀ p ∈ before, sp p.block = true) → DataW.TrodVars enc P W' sp s.vars (s.fn H (ds ++ gs)).vars pv)
    (hps : before = pa ++ pv) (hb : Below W.heap.size W W')
    (hok : ∀ (j : Nat) (t : TypeId) (r : Value), f.resultTypes[j]? = some t → (v.resultList f.resultTypes.size)[j]? = some r → Value.okWide P W' .any 0 t r) :
    s.post enc P f apart fresh handsOn again W args v W' := by
  have hlt : ∀ p ∈ before, p.block < W.heap.size := fun p hp => hW.lt p hp
  have hold : ∀ p ∈ before, (fun b => decide (b < W.heap.size)) p.block = true := fun p hp => by simpa using hlt p hp
  refine ⟨ds, gs, before, [], pa, pv, hW, hres _ _ _, hargs _ hold, hvars _ hold, World.keptBut_mono (fun p hp => ⟨hp, ?_⟩) (hb.frame (· ∈ before)), fun _ => ?_⟩
  · rw [hps, List.mem_append] at hp
    exact Or.inr hp
  · obtain ⟨_, _, _, _, _, hz, hn⟩ := hW
    refine ⟨hok, _, _, ([] ++ pa) ++ pv, ⟨[] ++ pa, pv, trodAll_append (hargs _ (fun _ _ => rfl)) (hres _ _ _), hvars _ (fun _ _ => rfl), rfl, ?_, ?_⟩, ?_⟩
    · intro b off hp
      have hin : MemPlace.cell b off ∈ before := by rw [hps]; simpa using hp
      rw [hb.frozen (hlt _ hin)]
      exact hz b off hin
    · intro ha
      have := hn ha
      rw [hps] at this
      simpa using this
    · intro p hp _
      rw [hps]
      simpa using hp
end

end Go.Proofs.YtfokiijcpkhllaaDoor

/- The argument of a law over bytes, opened. -/
namespace Go.Proofs.YtfokiijcpkhllaaDoor
open Go.ChangeShapes Go.WideShapes Go.ChangeAt Go.RowKit Go.Deep

variable {H : Type} {enc : TypeId × Value → H}
set_option maxRecDepth 100000 in
theorem open_bytesB {W : World} {sp : Nat → Bool} {held : Bool} {b0 : Nat} {v : Value} {d : DataW H} {p : List MemPlace} (hv : Value.okWide Tryd.prog W .any b0 22 v)
    (h : DataW.Trod enc Tryd.prog W 0 (fun _ => true) held 22 v d p) : ∃ xs, ArgB W v xs := by
  obtain ⟨a0, len, cap, rfl⟩ := okWide_slice Tryd.underlying22 hv
  obtain ⟨fuel, hf⟩ := h
  rcases open_ints Tryd.underlying22 Tryd.underlying5 cellsByte hf with ⟨hc, _⟩ | ⟨a, len', cap', zs, hc, _, hl, hm, hz, _, hcell, hwz⟩
  · obtain ⟨rfl, rfl, rfl⟩ : a0 = none ∧ len = 0 ∧ cap = 0 := by simpa [Value.cells] using hc
    exact ⟨[], none, 0, rfl, by simp, by simp, .inl rfl⟩
  · obtain ⟨rfl, rfl, rfl⟩ : a0 = some a ∧ len = len' ∧ cap = cap' := by simpa [Value.cells] using hc
    simp only [if_true] at hz
    have hll : (zs.take len).length = len := by rw [List.length_take]; omega
    have hm' := hm
    rw [maxLen_eq] at hm'
    refine ⟨zs.take len, some a, cap, by rw [hll], by rw [hll]; omega, fun x hx => ?_, ?_⟩
    · obtain ⟨j, hj, rfl⟩ := List.getElem_of_mem hx
      rw [hll] at hj
      have := range_u8 hwz j
      have hjz : j < zs.length := by omega
      simpa [hjz] using this
    · by_cases h0 : len = 0
      · subst h0; exact .inl (by simp)
      · have hs := spot_of (show W.cell? a = some _ from hcell 0 (by omega))
        refine .inr ⟨a.block, a.off, ?_, fun j u hu => ?_⟩
        · obtain ⟨b, o, s⟩ := a; simp only at hs; subst hs; rfl
        · have hj : j < len := by
            have := (List.getElem?_eq_some_iff.1 hu).1
            rw [List.length_map, hll] at this; exact this
          have h1 := cell_add (hcell j (by omega)) hs
          rw [h1]
          rw [List.getElem?_map, List.getElem?_take, if_pos hj] at hu
          rw [← hu]
          simp [List.getD, List.getElem?_eq_getElem (show j < zs.length by omega)]

end Go.Proofs.YtfokiijcpkhllaaDoor
