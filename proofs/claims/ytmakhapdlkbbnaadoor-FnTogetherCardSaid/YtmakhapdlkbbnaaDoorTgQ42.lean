/- Walk: the law FnTogether (printed by wip/mkTg.py). -/
import Derived.Test.YtmakhapdlkbbnaaDoorTgQ28
import Derived.Test.YtmakhapdlkbbnaaDoorTgQ33
import Derived.Test.YtmakhapdlkbbnaaDoorTgQ34
import Derived.Test.YtmakhapdlkbbnaaDoorTgQ40
import Derived.Test.YtmakhapdlkbbnaaDoorTgQ30
import Derived.Test.YtmakhapdlkbbnaaDoorTgQ41
namespace Go.Proofs.YtmakhapdlkbbnaaDoor
open Go.RowKit

theorem SG.diced {w0 w w' : World} {db : Nat} {bs : List Int} (h : Dice w0 w db bs) (hg : w.grownBy w' (some db)) {base : Nat} {v : Value} {g : List (List Int)} (hs : SG w base v g) : SG w' base v g := by
  obtain ⟨u, vals, h1, h2, h3, h4⟩ := hs
  exact ⟨u, vals, h1, h2, ownsRow_diced h hg (by decide) h3, fun j hj => Sl.diced h hg (by decide) (h4 j hj)⟩
theorem pts_sum {ga gb xa xb xx : List (List Int)} (ha : GOk ga) (hb : GOk gb) (hx : GOk (matG (ga.length + gb.length) (besE ga.length (ofG ga) (ofG gb)))) (h1 : PtS ga xa) (h2 : PtS gb xb) (h3 : PtS (matG (ga.length + gb.length) (besE ga.length (ofG ga) (ofG gb))) xx) : xx.length = xa.length + xb.length := by
  rcases h1 with ⟨_, ps, p1, rfl⟩ | ⟨h, _⟩
  · rcases h2 with ⟨_, qs, q1, rfl⟩ | ⟨h, _⟩
    · rcases h3 with ⟨_, rs, r1, rfl⟩ | ⟨h, _⟩
      · rw [matG_length] at r1
        rw [List.length_map, List.length_map, List.length_map]
        exact parts_sum (fun r j hr hj => ofG_matG hr hj) p1 q1 r1
      · exact absurd hx h
    · exact absurd hb h
  · exact absurd ha h
theorem pts_one {ga gb xx : List (List Int)} (ha : GOk ga) (hb : GOk gb) (hx : GOk (matG (ga.length + gb.length) (joiE ga.length (ofG ga) (ofG gb)))) (h3 : PtS (matG (ga.length + gb.length) (joiE ga.length (ofG ga) (ofG gb))) xx) : xx.length = 1 := by
  rcases h3 with ⟨_, rs, r1, rfl⟩ | ⟨h, _⟩
  · rw [matG_length] at r1
    rw [List.length_map]
    exact parts_joined ha.pos hb.pos (fun r j hr hj => ofG_matG hr hj) r1
  · exact absurd hx h
theorem cnt_sum {ga gb : List (List Int)} (ha : GOk ga) (hb : GOk gb) (hx : GOk (matG (ga.length + gb.length) (besE ga.length (ofG ga) (ofG gb)))) : cntE (matG (ga.length + gb.length) (besE ga.length (ofG ga) (ofG gb))) (matG (ga.length + gb.length) (besE ga.length (ofG ga) (ofG gb))).length = cntE ga ga.length + cntE gb gb.length := by
  have h1 := two_cntE ha
  have h2 := two_cntE hb
  have h3 := two_cntE hx
  rw [matG_length] at h3 ⊢
  rw [totN_beside (E := ofG ga) (F := ofG gb) fun r j hr hj => ofG_matG hr hj] at h3
  omega

set_option maxRecDepth 100000 in
set_option maxHeartbeats 8000000 in
theorem lawTogether_any (v0 : Value) (bs : List Int) (W : World) (ha : ArgB W v0 bs) (hT : Tab W) :
    Calls Tryd.prog 3 #[v0] W fun e w' => e = .returned (.bool true) ∧ Below W.heap.size W w' := by
  obtain ⟨p, c, e0, _⟩ := id ha
  subst e0
  have HA := Lib.hid ha
  have HT := Lib.hid hT
  clear ha hT
  go_enter Tryd.func3, Tryd.ntmps3
  by_cases hbig : 4096 < bs.length
  · have hd := decide_eq_true hbig
    go_wp2_with (go_at_call 11; refine (big_any _ bs _ HA.out).mono ?_; rintro e w2 ⟨he, rfl⟩; rw [hd] at he; subst he)
    go_ret
    exact ⟨rfl, Below.refl _ _⟩
  have hd := decide_eq_false hbig
  have hl : bs.length ≤ 4096 := by omega
  clear hbig
  go_upto_region 5 with (first
    | (go_at_call 13; refine (w5Graph_any W db bs 5 _ rfl (by decide) (by decide) _ HD2.out HDL.out).mono ?_; rintro e w3 ⟨u, n, E, rfl, hn1, hn6, hse, hsg, hd3, hg3⟩; have HSE := Lib.hid hse; have HSG := Lib.hid hsg; have HD3 := Lib.hid hd3; obtain ⟨gp, gc, rfl⟩ := hsg.shape; clear hse hsg hd3 hg3)
    | (go_at_call 12; refine (roll_any _ bs _ hl _ HA.out).mono ?_; rintro e w2 ⟨db, rfl, hd2, hb2⟩; have HD2 := Lib.hid hd2; have HDL : Hid (db < w2.heap.size) := Lib.hid (by obtain ⟨_, _, _, h1, _⟩ := hd2.ex; exact h1.lt); clear hd2 hb2)
    | (go_at_call 11; refine (big_any _ bs _ HA.out).mono ?_; rintro e w1 ⟨he, rfl⟩; rw [hd] at he; subst he))
  obtain ⟨ga, hga⟩ : ∃ ga, ga = matG n E := ⟨_, rfl⟩
  have hgl : ga.length = n := by rw [hga, matG_length]
  have HOKA : Hid (GOk ga) := Lib.hid (by rw [hga]; exact gok_matG hn1 (by omega) HSE.out.1 HSE.out.2)
  rw [← hga] at HSG ⊢
  have ha5 : ga.length ≤ 5 := by omega
  have hap := HOKA.out.pos
  obtain ⟨w4, hw4⟩ : ∃ w4, w4 = w3.alloc (.cells #[.slice gp ga.length gc] 29) := ⟨_, rfl⟩
  rw [← hw4]
  have hb34 : Below w3.heap.size w3 w4 := by rw [hw4]; exact below_alloc _ _
  have HXA : Hid (Box w4 w3.heap.size 29 (.slice gp ga.length gc)) := Lib.hid (by rw [hw4]; exact Box.new _ _ _)
  have HSA := Lib.hid (HSG.out.below hb34)
  have HD4 := Lib.hid (HD3.out.keep hb34)
  have HDL4 : Hid (db < w4.heap.size) := Lib.hid (by obtain ⟨_, _, _, h1, _⟩ := HD4.out.ex; exact h1.lt)
  generalize w3.heap.size = ba at *
  clear hga hw4 hb34 HSG hn6 hgl hn1 HD2 HDL HD3 HSE hd
  go_upto_region 6 with (go_at_call 13; refine (w5Graph_any W db bs 5 _ rfl (by decide) (by decide) _ HD4.out HDL4.out).mono ?_; rintro e w5 ⟨u, n2, F, rfl, hn1, hn6, hse, hsg, hd5, hg5⟩; have HSE := Lib.hid hse; have HSG := Lib.hid hsg; have HD5 := Lib.hid hd5; have HG5 := Lib.hid hg5; obtain ⟨hp, hc, rfl⟩ := hsg.shape; clear hse hsg hd5 hg5)
  obtain ⟨gb, hgb⟩ : ∃ gb, gb = matG n2 F := ⟨_, rfl⟩
  have hgl : gb.length = n2 := by rw [hgb, matG_length]
  have HOKB : Hid (GOk gb) := Lib.hid (by rw [hgb]; exact gok_matG hn1 (by omega) HSE.out.1 HSE.out.2)
  rw [← hgb] at HSG ⊢
  have hb5 : gb.length ≤ 5 := by omega
  have hbp := HOKB.out.pos
  obtain ⟨w6, hw6⟩ : ∃ w6, w6 = w5.alloc (.cells #[.slice hp gb.length hc] 29) := ⟨_, rfl⟩
  rw [← hw6]
  have hb56 : Below w5.heap.size w5 w6 := by rw [hw6]; exact below_alloc _ _
  have HXB : Hid (Box w6 w5.heap.size 29 (.slice hp gb.length hc)) := Lib.hid (by rw [hw6]; exact Box.new _ _ _)
  have HXA6 := Lib.hid ((HXA.out.diced HD4.out HG5.out (by decide)).keep hb56)
  have HGA := Lib.hid (((HSA.out.diced HD4.out HG5.out).below hb56).gr (by omega))
  have HGB := Lib.hid ((HSG.out.below hb56).gr (by omega))
  have HW6 := Lib.hid (HD5.out.bel.trans (hb56.mono HD5.out.bel.size))
  have HT6 := Lib.hid (HT.out.keep HW6.out)
  generalize w5.heap.size = bb at *
  clear hgb hw6 hb56 HSG hn6 hgl hn1 HD4 HDL4 HD5 HG5 HSE HSA HXA
  have ca6 := HXA6.out.cell
  have cb6 := HXB.out.cell
  have HXOK : Hid (GOk (matG (ga.length + gb.length) (besE ga.length (ofG ga) (ofG gb)))) := Lib.hid (gok_matG (by omega) (by omega) (bes_sym (ofG_sym HOKA.out) (ofG_sym HOKB.out)) (bes_irr (ofG_irr HOKA.out) (ofG_irr HOKB.out)))
  have HJOK : Hid (GOk (matG (ga.length + gb.length) (joiE ga.length (ofG ga) (ofG gb)))) := Lib.hid (gok_matG (by omega) (by omega) (joi_sym (ofG_sym HOKA.out) (ofG_sym HOKB.out)) (joi_irr (ofG_irr HOKA.out) (ofG_irr HOKB.out)))
  have HCAOK : Hid (GOk (matG ga.length (compE (ofG ga)))) := Lib.hid (gok_matG (by omega) (by omega) (comp_sym (ofG_sym HOKA.out)) (comp_irr _))
  have HCBOK : Hid (GOk (matG gb.length (compE (ofG gb)))) := Lib.hid (gok_matG (by omega) (by omega) (comp_sym (ofG_sym HOKB.out)) (comp_irr _))
  have HLX : Hid ((matG (ga.length + gb.length) (besE ga.length (ofG ga) (ofG gb))).length = ga.length + gb.length) := Lib.hid (matG_length _ _)
  have HLJ : Hid ((matG (ga.length + gb.length) (joiE ga.length (ofG ga) (ofG gb))).length = ga.length + gb.length) := Lib.hid (matG_length _ _)
  have HLCA : Hid ((matG ga.length (compE (ofG ga))).length = ga.length) := Lib.hid (matG_length _ _)
  have HLCB : Hid ((matG gb.length (compE (ofG gb))).length = gb.length) := Lib.hid (matG_length _ _)
  obtain ⟨gx, hgx⟩ : ∃ gx, gx = matG (ga.length + gb.length) (besE ga.length (ofG ga) (ofG gb)) := ⟨_, rfl⟩
  obtain ⟨gj, hgj⟩ : ∃ gj, gj = matG (ga.length + gb.length) (joiE ga.length (ofG ga) (ofG gb)) := ⟨_, rfl⟩
  obtain ⟨gca, hgca⟩ : ∃ gca, gca = matG ga.length (compE (ofG ga)) := ⟨_, rfl⟩
  obtain ⟨gcb, hgcb⟩ : ∃ gcb, gcb = matG gb.length (compE (ofG gb)) := ⟨_, rfl⟩
  have HCBX := Lib.hid (cnt_sum HOKA.out HOKB.out HXOK.out)
  have HPX := Lib.hid (fun xa xb xx => @pts_sum ga gb xa xb xx HOKA.out HOKB.out HXOK.out)
  have HPJ := Lib.hid (fun xx => @pts_one ga gb xx HOKA.out HOKB.out HJOK.out)
  have HIX : Hid (indL gx (natInts (List.range ga.length)) = ga) := Lib.hid (by
    rw [hgx]
    have := ind_beside (n := ga.length) (m := gb.length) (E := ofG ga) (F := ofG gb)
    rw [matG_ofG HOKA.out] at this
    exact this)
  have HWJ : Hid (matG (gca.length + gcb.length) (besE gca.length (ofG gca) (ofG gcb)) = matG (ga.length + gb.length) (besE ga.length (ofG (matG ga.length (compE (ofG ga)))) (ofG (matG gb.length (compE (ofG gb)))))) := Lib.hid (by rw [hgca, hgcb, HLCA.out, HLCB.out])
  have HWJ2 : Hid (matG (ga.length + gb.length) (compE (ofG (matG (ga.length + gb.length) (besE ga.length (ofG (matG ga.length (compE (ofG ga)))) (ofG (matG gb.length (compE (ofG gb)))))))) = gj) := Lib.hid (by rw [hgj]; exact join_comp (ofG_irr HOKA.out) (ofG_irr HOKB.out))
  have HX0 := Lib.hid hgx
  have HJ0 := Lib.hid hgj
  have HCA0 := Lib.hid hgca
  have HCB0 := Lib.hid hgcb
  rw [← hgx] at HXOK HLX HCBX HPX
  rw [← hgj] at HJOK HLJ HPJ
  rw [← hgca] at HCAOK HLCA
  rw [← hgcb] at HCBOK HLCB
  clear hgx hgj hgca hgcb
  go_upto_region 7 with (go_at_call 14; refine (implBeside_yes _ _ ga gb HOKA.out HOKB.out (by omega) _ HGA.out HGB.out HT6.out).mono ?_; rintro e w7 ⟨u, rfl, hs, hb⟩; obtain ⟨p_x, c_x, rfl⟩ := hs.shape)
  rw [← HX0.out] at hs ⊢
  obtain ⟨w8, hw⟩ : ∃ W', W' = w7.alloc (.cells #[.slice p_x (gx).length c_x] 29) := ⟨_, rfl⟩
  rw [← hw]
  have hba : Below w7.heap.size w7 w8 := by rw [hw]; exact below_alloc _ _
  have HB8 : Hid (Below w6.heap.size w6 w8) := Lib.hid (by rw [hw]; exact hb.alloc hb.size _)
  have HXx : Hid (Box w8 w7.heap.size 29 (.slice p_x (gx).length c_x)) := Lib.hid (by rw [hw]; exact Box.new _ _ _)
  have HGx : Hid (Gr w8 (.agg #[.slice p_x (gx).length c_x]) gx) := Lib.hid (by rw [hw]; exact (hs.gr (by rw [HLX.out]; omega) (fun j _ => Nat.le_trans (gok_rowsN HXOK.out j) (by omega))).below (below_alloc _ _))
  generalize w7.heap.size = b_x at *
  clear hs hb hba hw cb6 ca6
  have ca_ := (HXA6.out.keep HB8.out).cell
  have cb_ := (HXB.out.keep HB8.out).cell
  go_upto_region 8 with (go_at_call 15; refine (implJoined_yes _ _ ga gb HOKA.out HOKB.out (by omega) _ (HGA.out.below HB8.out) (HGB.out.below HB8.out) (HT6.out.keep HB8.out)).mono ?_; rintro e w9 ⟨u, rfl, hs, hb⟩; obtain ⟨p_j, c_j, rfl⟩ := hs.shape)
  rw [← HJ0.out] at hs ⊢
  obtain ⟨w10, hw⟩ : ∃ W', W' = w9.alloc (.cells #[.slice p_j (gj).length c_j] 29) := ⟨_, rfl⟩
  rw [← hw]
  have hba : Below w9.heap.size w9 w10 := by rw [hw]; exact below_alloc _ _
  have HB10 : Hid (Below w6.heap.size w6 w10) := Lib.hid (by rw [hw]; exact (HB8.out.trans (hb.mono HB8.out.size)).alloc (Nat.le_trans HB8.out.size hb.size) _)
  have HXx := Lib.hid ((HXx.out.keep hb).keep hba)
  have HGx := Lib.hid ((HGx.out.below hb).below hba)
  have HXj : Hid (Box w10 w9.heap.size 29 (.slice p_j (gj).length c_j)) := Lib.hid (by rw [hw]; exact Box.new _ _ _)
  have HGj : Hid (Gr w10 (.agg #[.slice p_j (gj).length c_j]) gj) := Lib.hid (by rw [hw]; exact (hs.gr (by rw [HLJ.out]; omega) (fun j _ => Nat.le_trans (gok_rowsN HJOK.out j) (by omega))).below (below_alloc _ _))
  generalize w9.heap.size = b_j at *
  clear hs hb hba hw cb_ ca_
  have ca_ := (HXA6.out.keep HB10.out).cell
  go_upto_region 9 with (go_at_call 16; refine (specComplement_yes _ ga HOKA.out _ (HGA.out.below HB10.out)).mono ?_; rintro e w11 ⟨u, rfl, hs, hb⟩; obtain ⟨p_ca, c_ca, rfl⟩ := hs.shape)
  rw [← HCA0.out] at hs ⊢
  obtain ⟨w12, hw⟩ : ∃ W', W' = w11.alloc (.cells #[.slice p_ca (gca).length c_ca] 29) := ⟨_, rfl⟩
  rw [← hw]
  have hba : Below w11.heap.size w11 w12 := by rw [hw]; exact below_alloc _ _
  have HB12 : Hid (Below w6.heap.size w6 w12) := Lib.hid (by rw [hw]; exact (HB10.out.trans (hb.mono HB10.out.size)).alloc (Nat.le_trans HB10.out.size hb.size) _)
  have HXx := Lib.hid ((HXx.out.keep hb).keep hba)
  have HGx := Lib.hid ((HGx.out.below hb).below hba)
  have HXj := Lib.hid ((HXj.out.keep hb).keep hba)
  have HGj := Lib.hid ((HGj.out.below hb).below hba)
  have HXca : Hid (Box w12 w11.heap.size 29 (.slice p_ca (gca).length c_ca)) := Lib.hid (by rw [hw]; exact Box.new _ _ _)
  have HGca : Hid (Gr w12 (.agg #[.slice p_ca (gca).length c_ca]) gca) := Lib.hid (by rw [hw]; exact (hs.gr (by rw [HLCA.out]; omega)).below (below_alloc _ _))
  generalize w11.heap.size = b_ca at *
  clear hs hb hba hw ca_
  have cb_ := (HXB.out.keep HB12.out).cell
  go_upto_region 10 with (go_at_call 16; refine (specComplement_yes _ gb HOKB.out _ (HGB.out.below HB12.out)).mono ?_; rintro e w13 ⟨u, rfl, hs, hb⟩; obtain ⟨p_cb, c_cb, rfl⟩ := hs.shape)
  rw [← HCB0.out] at hs ⊢
  obtain ⟨w14, hw⟩ : ∃ W', W' = w13.alloc (.cells #[.slice p_cb (gcb).length c_cb] 29) := ⟨_, rfl⟩
  rw [← hw]
  have hba : Below w13.heap.size w13 w14 := by rw [hw]; exact below_alloc _ _
  have HB14 : Hid (Below w6.heap.size w6 w14) := Lib.hid (by rw [hw]; exact (HB12.out.trans (hb.mono HB12.out.size)).alloc (Nat.le_trans HB12.out.size hb.size) _)
  have HXx := Lib.hid ((HXx.out.keep hb).keep hba)
  have HGx := Lib.hid ((HGx.out.below hb).below hba)
  have HXj := Lib.hid ((HXj.out.keep hb).keep hba)
  have HGj := Lib.hid ((HGj.out.below hb).below hba)
  have HXca := Lib.hid ((HXca.out.keep hb).keep hba)
  have HGca := Lib.hid ((HGca.out.below hb).below hba)
  have HXcb : Hid (Box w14 w13.heap.size 29 (.slice p_cb (gcb).length c_cb)) := Lib.hid (by rw [hw]; exact Box.new _ _ _)
  have HGcb : Hid (Gr w14 (.agg #[.slice p_cb (gcb).length c_cb]) gcb) := Lib.hid (by rw [hw]; exact (hs.gr (by rw [HLCB.out]; omega)).below (below_alloc _ _))
  generalize w13.heap.size = b_cb at *
  clear hs hb hba hw cb_
  have zca_ := HXca.out.cell
  have zcb_ := HXcb.out.cell
  have HSOK : Hid (GOk (matG (gca.length + gcb.length) (besE gca.length (ofG gca) (ofG gcb)))) := Lib.hid (gok_matG (by rw [HLCA.out]; omega) (by rw [HLCA.out, HLCB.out]; omega) (bes_sym (ofG_sym HCAOK.out) (ofG_sym HCBOK.out)) (bes_irr (ofG_irr HCAOK.out) (ofG_irr HCBOK.out)))
  have HLS : Hid ((matG (gca.length + gcb.length) (besE gca.length (ofG gca) (ofG gcb))).length = ga.length + gb.length) := Lib.hid (by rw [matG_length, HLCA.out, HLCB.out])
  obtain ⟨gs, hgs⟩ : ∃ gs, gs = matG (gca.length + gcb.length) (besE gca.length (ofG gca) (ofG gcb)) := ⟨_, rfl⟩
  have HS0 := Lib.hid hgs
  rw [← hgs] at HSOK HLS
  clear hgs
  have HWW : Hid (matG gs.length (compE (ofG gs)) = gj) := Lib.hid (by rw [HLS.out, HS0.out, HWJ.out]; exact HWJ2.out)
  go_upto_region 11 with (go_at_call 17; refine (specBeside_yes _ _ gca gcb HCAOK.out HCBOK.out (by rw [HLCA.out, HLCB.out]; omega) _ HGca.out HGcb.out).mono ?_; rintro e w15 ⟨u, rfl, hs, hb⟩; obtain ⟨p_s, c_s, rfl⟩ := hs.shape)
  rw [← HS0.out] at hs ⊢
  obtain ⟨w16, hw⟩ : ∃ W', W' = w15.alloc (.cells #[.slice p_s (gs).length c_s] 29) := ⟨_, rfl⟩
  rw [← hw]
  have hba : Below w15.heap.size w15 w16 := by rw [hw]; exact below_alloc _ _
  have HB16 : Hid (Below w6.heap.size w6 w16) := Lib.hid (by rw [hw]; exact (HB14.out.trans (hb.mono HB14.out.size)).alloc (Nat.le_trans HB14.out.size hb.size) _)
  have HXx := Lib.hid ((HXx.out.keep hb).keep hba)
  have HGx := Lib.hid ((HGx.out.below hb).below hba)
  have HXj := Lib.hid ((HXj.out.keep hb).keep hba)
  have HGj := Lib.hid ((HGj.out.below hb).below hba)
  have HXca := Lib.hid ((HXca.out.keep hb).keep hba)
  have HGca := Lib.hid ((HGca.out.below hb).below hba)
  have HXcb := Lib.hid ((HXcb.out.keep hb).keep hba)
  have HGcb := Lib.hid ((HGcb.out.below hb).below hba)
  have HXs : Hid (Box w16 w15.heap.size 29 (.slice p_s (gs).length c_s)) := Lib.hid (by rw [hw]; exact Box.new _ _ _)
  have HGs : Hid (Gr w16 (.agg #[.slice p_s (gs).length c_s]) gs) := Lib.hid (by rw [hw]; exact (hs.gr (by rw [HLS.out]; omega)).below (below_alloc _ _))
  generalize w15.heap.size = b_s at *
  clear hs hb hba hw zca_ zcb_
  have zs_ := HXs.out.cell
  go_upto_region 12 with (go_at_call 16; refine (specComplement_yes _ gs HSOK.out _ HGs.out).mono ?_; rintro e w17 ⟨u, rfl, hs, hb⟩; obtain ⟨p_w, c_w, rfl⟩ := hs.shape)
  rw [HWW.out] at hs ⊢
  obtain ⟨w18, hw⟩ : ∃ W', W' = w17.alloc (.cells #[.slice p_w (gj).length c_w] 29) := ⟨_, rfl⟩
  rw [← hw]
  have hba : Below w17.heap.size w17 w18 := by rw [hw]; exact below_alloc _ _
  have HB18 : Hid (Below w6.heap.size w6 w18) := Lib.hid (by rw [hw]; exact (HB16.out.trans (hb.mono HB16.out.size)).alloc (Nat.le_trans HB16.out.size hb.size) _)
  have HXx := Lib.hid ((HXx.out.keep hb).keep hba)
  have HGx := Lib.hid ((HGx.out.below hb).below hba)
  have HXj := Lib.hid ((HXj.out.keep hb).keep hba)
  have HGj := Lib.hid ((HGj.out.below hb).below hba)
  have HXca := Lib.hid ((HXca.out.keep hb).keep hba)
  have HGca := Lib.hid ((HGca.out.below hb).below hba)
  have HXcb := Lib.hid ((HXcb.out.keep hb).keep hba)
  have HGcb := Lib.hid ((HGcb.out.below hb).below hba)
  have HXs := Lib.hid ((HXs.out.keep hb).keep hba)
  have HGs := Lib.hid ((HGs.out.below hb).below hba)
  have HXw : Hid (Box w18 w17.heap.size 29 (.slice p_w (gj).length c_w)) := Lib.hid (by rw [hw]; exact Box.new _ _ _)
  have HGw : Hid (Gr w18 (.agg #[.slice p_w (gj).length c_w]) gj) := Lib.hid (by rw [hw]; exact (hs.gr (by rw [HLJ.out]; omega)).below (below_alloc _ _))
  generalize w17.heap.size = b_w at *
  clear hs hb hba hw zs_
  have zx_ := HXx.out.cell
  have zj_ := HXj.out.cell
  have zw_ := HXw.out.cell
  have ca_ := (HXA6.out.keep HB18.out).cell
  have cb_ := (HXB.out.keep HB18.out).cell
  have HCX : Hid (cntE gx gx.length = cntE ga ga.length + cntE gb gb.length) := HCBX
  obtain ⟨nx, hnx⟩ : ∃ nx, nx = cntE gx gx.length := ⟨_, rfl⟩
  obtain ⟨na, hna⟩ : ∃ na, na = cntE ga ga.length := ⟨_, rfl⟩
  obtain ⟨nb, hnb⟩ : ∃ nb, nb = cntE gb gb.length := ⟨_, rfl⟩
  have HNX := Lib.hid hnx
  have HNA := Lib.hid hna
  have HNB := Lib.hid hnb
  have hla : na ≤ 1000 := by rw [hna]; exact Nat.le_trans (cntE_le (gok_rowsN HOKA.out) _) (by omega)
  have hlb : nb ≤ 1000 := by rw [hnb]; exact Nat.le_trans (cntE_le (gok_rowsN HOKB.out) _) (by omega)
  have hsum : nx = na + nb := by rw [hnx, hna, hnb]; exact HCX.out
  have hwr : IntKind.i64.wrap ((na : Int) + (nb : Int)) = (na : Int) + (nb : Int) := by rw [IntKind.wrap_i64]; omega
  have hneq : ((nx : Int) != (na : Int) + (nb : Int)) = false := by simp; omega
  have HTR : Hid (dec (GOk gj ∧ GOk gj ∧ gj = gj) = true) := Lib.hid (dec_true ⟨HJOK.out, HJOK.out, rfl⟩)
  clear hnx hna hnb hsum HCBX
  go_upto_region 12 with fail
  go_cut [84] (fun s wx => s = .bool false ∧ Below w18.heap.size w18 wx)
  case first =>
    go_region_held3 (fun w' => w'.cell? ⟨b_x, 0, none⟩ = some (.slice p_x gx.length c_x) ∧ w'.cell? ⟨b_j, 0, none⟩ = some (.slice p_j gj.length c_j) ∧ w'.cell? ⟨b_w, 0, none⟩ = some (.slice p_w gj.length c_w) ∧ w'.cell? ⟨ba, 0, none⟩ = some (.slice gp ga.length gc) ∧ w'.cell? ⟨bb, 0, none⟩ = some (.slice hp gb.length hc))
      (first | go_keep | exact ⟨zx_, zj_, zw_, ca_, cb_⟩ | exact ⟨BWD.at' zx_, BWD.at' zj_, BWD.at' zw_, BWD.at' ca_, BWD.at' cb_⟩ | exact ⟨BWC.at' zx_, BWC.at' zj_, BWC.at' zw_, BWC.at' ca_, BWC.at' cb_⟩ | exact ⟨BWB.at' zx_, BWB.at' zj_, BWB.at' zw_, BWB.at' ca_, BWB.at' cb_⟩ | exact ⟨BWA.at' zx_, BWA.at' zj_, BWA.at' zw_, BWA.at' ca_, BWA.at' cb_⟩)
      (first
        | (go_at_call 20; refine (specManyN_any _ gb HOKB.out _ ((HGB.out.below HB18.out).below BWC)).mono ?_; rintro e wd ⟨rfl, hbq⟩; rw [← HNB.out]; have BWD : Below w18.heap.size w18 wd := BWC.trans (hbq.mono BWC.size); clear hbq)
        | (go_at_call 20; refine (specManyN_any _ ga HOKA.out _ ((HGA.out.below HB18.out).below BWB)).mono ?_; rintro e wc ⟨rfl, hbq⟩; rw [← HNA.out]; have BWC : Below w18.heap.size w18 wc := BWB.trans (hbq.mono BWB.size); clear hbq)
        | (go_at_call 19; refine (implManyN_any _ gx HXOK.out _ (HGx.out.below BWA)).mono ?_; rintro e wb ⟨rfl, hbq⟩; rw [← HNX.out]; have BWB : Below w18.heap.size w18 wb := BWA.trans (hbq.mono BWA.size); clear hbq)
        | (go_at_call 18; refine (implSameGraph_any _ _ gj gj _ (HGj.out.below (below_dN (Below.refl _ _) 1)) (HGw.out.below (below_dN (Below.refl _ _) 1))).mono ?_; rintro e wa ⟨he, hbq⟩; rw [HTR.out] at he; subst he; have BWA : Below w18.heap.size w18 wa := (below_dN (Below.refl _ _) 1).trans hbq; clear hbq))
    all_goals go_wp2
    all_goals go_meet
    all_goals exact ⟨rfl, BWD⟩
  case rest =>
    obtain ⟨rfl, hbz⟩ := hcut
    have HBZ := Lib.hid hbz
    have ca9 := hbz.at' ca_
    clear hbz hneq hwr zx_ zj_ zw_ cb_ ca_
    have HXA9 := Lib.hid ((HXA6.out.keep HB18.out).keep HBZ.out)
    have HXB9 := Lib.hid ((HXB.out.keep HB18.out).keep HBZ.out)
    have HXX9 := Lib.hid (HXx.out.keep HBZ.out)
    have HXJ9 := Lib.hid (HXj.out.keep HBZ.out)
    have HGA9 := Lib.hid ((HGA.out.below HB18.out).below HBZ.out)
    have HGB9 := Lib.hid ((HGB.out.below HB18.out).below HBZ.out)
    have HGX9 := Lib.hid (HGx.out.below HBZ.out)
    have HGJ9 := Lib.hid (HGj.out.below HBZ.out)
    have HT9 := Lib.hid ((HT6.out.keep HB18.out).keep HBZ.out)
    have HW9 := Lib.hid ((HW6.out.trans (HB18.out.mono HW6.out.size)).trans (HBZ.out.mono (Nat.le_trans HW6.out.size HB18.out.size)))
    have START : Hid ((wc.alloc (.cells #[] 2)).ownsRow wc.heap.size 2 1 (.slice (some ⟨wc.heap.size, 0, none⟩) 0 0) 0 ((natInts (List.range 0)).map (Value.int .i64))) := Lib.hid (ownsRow_empty _ _ _)
    clear HXA6 HXB HXx HXj HGA HGB HGx HGj HT6 HW6 HBZ HXca HXcb HXs HXw HGca HGcb HGs HGw HB8 HB10 HB12 HB14 HB16 HB18
    go_wp2_with fail
    clear ca9
    go_loopw [18, 19] (fun o i wr => ∃ k : Nat, k ≤ ga.length ∧ i = .int .i64 k ∧ Hid (wr.ownsRow wc.heap.size 2 1 o k ((natInts (List.range k)).map (Value.int .i64))) ∧ Hid (Below wc.heap.size wc wr)) (fun _ i _ => ga.length - (intOf i).toNat)
    case atStart => exact ⟨0, Nat.zero_le _, rfl, START, Lib.hid (below_alloc _ _)⟩
    case round =>
      clear START
      obtain ⟨k, hk, rfl, HO, HB⟩ := hrel
      have ca9 := (HXA9.out.keep HB.out).cell
      by_cases hlt : k < ga.length
      · have hown := HO.out
        have hsz := HB.out.size
        go_wp2_with (at_builtin; refine wpList_app1 ty_i64 rfl rfl rfl hown rfl rfl (by omega) hsz ?_; intro v' wz hown' hgz _)
        go_roundw
        case rel => exact ⟨k + 1, by omega, by go_num, Lib.hid (by rw [List.range_succ]; simpa [natInts] using hown'), Lib.hid (below_grown HB.out hown hgz (Nat.le_refl _) hsz)⟩
        case measure => simp [intOf]; omega
      · obtain rfl : k = ga.length := by omega
        have cx9 := (HXX9.out.keep HB.out).cell
        have HNS := Lib.hid (own_num (L := List.range ga.length) (by rw [List.length_range]; exact HO.out) (by rw [List.length_range]; omega))
        have HSI : Hid (SetIn gx.length (natInts (List.range ga.length))) := Lib.hid (by
          refine ⟨fun x hx => ?_, ?_⟩
          · obtain ⟨i, hi, rfl⟩ := mem_natInts.1 hx
            have := List.mem_range.1 hi
            have := HLX.out
            omega
          · unfold natInts
            rw [List.pairwise_map]
            exact List.pairwise_lt_range.imp fun h => by omega)
        have HNE : Hid (List.range ga.length ≠ []) := Lib.hid (fun e => by have := congrArg List.length e; rw [List.length_range, List.length_nil] at this; omega)
        obtain ⟨wo, hwo⟩ : ∃ wo, wo = wr := ⟨_, rfl⟩
        go_upto_region 20 with (go_at_call 21; refine (implInduced_yes _ _ gx (List.range ga.length) HXOK.out HSI.out HNE.out _ (HGX9.out.below HB.out) HNS.out (HT9.out.keep HB.out)).mono ?_; rintro e wi ⟨u, rfl, hs, hb⟩; rw [HIX.out] at hs; obtain ⟨p_p, c_p, rfl⟩ := hs.shape)
        obtain ⟨wp, hwp⟩ : ∃ W', W' = wi.alloc (.cells #[.slice p_p ga.length c_p] 29) := ⟨_, rfl⟩
        rw [← hwp]
        have HBP : Hid (Below wc.heap.size wc wp) := Lib.hid (by rw [hwp]; exact (HB.out.trans (hb.mono HB.out.size)).alloc (Nat.le_trans HB.out.size hb.size) _)
        have zp := (show Box wp wi.heap.size 29 (.slice p_p ga.length c_p) from by rw [hwp]; exact Box.new _ _ _).cell
        have HGP : Hid (Gr wp (.agg #[.slice p_p ga.length c_p]) ga) := Lib.hid (by rw [hwp]; exact (hs.gr (show ga.length ≤ 1000000000 by omega) (fun j _ => Nat.le_trans (gok_rowsN HOKA.out j) (show 16 ≤ 1000000000 by decide))).below (below_alloc _ _))
        have za := (HXA9.out.keep HBP.out).cell
        have zb := (HXB9.out.keep HBP.out).cell
        have zx := (HXX9.out.keep HBP.out).cell
        have zj := (HXJ9.out.keep HBP.out).cell
        have HGA10 := Lib.hid (HGA9.out.below HBP.out)
        have HGB10 := Lib.hid (HGB9.out.below HBP.out)
        have HGX10 := Lib.hid (HGX9.out.below HBP.out)
        have HGJ10 := Lib.hid (HGJ9.out.below HBP.out)
        have HT10 := Lib.hid (HT9.out.keep HBP.out)
        have HTA : Hid (dec (GOk ga ∧ GOk ga ∧ ga = ga) = true) := Lib.hid (dec_true ⟨HOKA.out, HOKA.out, rfl⟩)
        generalize wi.heap.size = bp at zp
        clear hs hb hwp cx9 ca9 hwo
        go_upto_region 20 with fail
        go_cut [2] (fun s wx => s = .bool true ∧ Below wp.heap.size wp wx)
        case first =>
          go_region_held3 (fun w' => w'.cell? ⟨bp, 0, none⟩ = some (.slice p_p ga.length c_p) ∧ w'.cell? ⟨ba, 0, none⟩ = some (.slice gp ga.length gc) ∧ w'.cell? ⟨b_x, 0, none⟩ = some (.slice p_x gx.length c_x) ∧ w'.cell? ⟨bb, 0, none⟩ = some (.slice hp gb.length hc) ∧ w'.cell? ⟨b_j, 0, none⟩ = some (.slice p_j gj.length c_j))
            (first | go_keep | exact ⟨zp, za, zx, zb, zj⟩ | exact ⟨BWE.at' zp, BWE.at' za, BWE.at' zx, BWE.at' zb, BWE.at' zj⟩ | exact ⟨BWD.at' zp, BWD.at' za, BWD.at' zx, BWD.at' zb, BWD.at' zj⟩ | exact ⟨BWC.at' zp, BWC.at' za, BWC.at' zx, BWC.at' zb, BWC.at' zj⟩ | exact ⟨BWB.at' zp, BWB.at' za, BWB.at' zx, BWB.at' zb, BWB.at' zj⟩ | exact ⟨BWA.at' zp, BWA.at' za, BWA.at' zx, BWA.at' zb, BWA.at' zj⟩)
            (first
              | (go_at_call 22; refine (implPartsOf_any _ gj _ (HGJ10.out.below BWD) (HT10.out.keep BWD)).mono ?_; rintro e we ⟨u, xj, rfl, hpj, hdj, _, _, hbq⟩; obtain ⟨pj9, cj9, huj⟩ := hdj.shape; rw [HPJ.out xj hpj] at huj; (obtain rfl : u = .slice pj9 1 cj9 := (by simpa using huj)); have BWE : Below wp.heap.size wp we := BWD.trans (hbq.mono BWD.size); clear hbq huj hdj hpj)
              | (go_at_call 23; refine (specPartsOf_any _ gb _ (HGB10.out.below BWC)).mono ?_; rintro e wd ⟨u, xb, rfl, hpb, hsb, hlb16, _, hbq⟩; obtain ⟨pb9, cb9, hub⟩ := sg_shape hsb; subst hub; have BWD : Below wp.heap.size wp wd := BWC.trans (hbq.mono BWC.size); have hsum := HPX.out xa xb xx HPA.out hpb HPXX.out; (have hwr : IntKind.i64.wrap ((xa.length : Int) + (xb.length : Int)) = (xa.length : Int) + (xb.length : Int) := (by rw [IntKind.wrap_i64]; omega)); (have hneq : ((xx.length : Int) == (xa.length : Int) + (xb.length : Int)) = true := (by simp; omega)); clear hsum hbq hsb hpb)
              | (go_at_call 23; refine (specPartsOf_any _ ga _ (HGA10.out.below BWB)).mono ?_; rintro e wc9 ⟨u, xa, rfl, hpa, hsa, hla16, _, hbq⟩; obtain ⟨pa9, ca9, hua⟩ := sg_shape hsa; subst hua; have HPA := Lib.hid hpa; have BWC : Below wp.heap.size wp wc9 := BWB.trans (hbq.mono BWB.size); clear hbq hsa hpa)
              | (go_at_call 22; refine (implPartsOf_any _ gx _ (HGX10.out.below BWA) (HT10.out.keep BWA)).mono ?_; rintro e wb ⟨u, xx, rfl, hpx, hdx, hlx32, _, hbq⟩; obtain ⟨px9, cx9, hux⟩ := hdx.shape; (obtain rfl : u = .slice px9 xx.length cx9 := (by simpa using hux)); have HPXX := Lib.hid hpx; have BWB : Below wp.heap.size wp wb := BWA.trans (hbq.mono BWA.size); clear hbq hux hdx hpx)
              | (go_at_call 18; refine (implSameGraph_any _ _ ga ga _ (HGP.out.below (below_dN (Below.refl _ _) 1)) (HGA10.out.below (below_dN (Below.refl _ _) 1))).mono ?_; rintro e wa ⟨he, hbq⟩; rw [HTA.out] at he; subst he; have BWA : Below wp.heap.size wp wa := (below_dN (Below.refl _ _) 1).trans hbq; clear hbq))
          all_goals go_wp2
          all_goals go_meet
          all_goals exact ⟨rfl, BWE⟩
        case rest =>
          obtain ⟨rfl, hbz⟩ := hcut
          go_wp2
          go_ret
          exact ⟨rfl, (HW9.out.trans (HBP.out.mono HW9.out.size)).trans (hbz.mono (Nat.le_trans HW9.out.size HBP.out.size))⟩

end Go.Proofs.YtmakhapdlkbbnaaDoor
