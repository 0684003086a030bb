/- Walk: the law FnFolded (printed by wip/mkFd.py). -/
import Derived.Test.YtfokiijcpkhllaaDoorFdQ12
import Derived.Test.YtfokiijcpkhllaaDoorFdQ28
import Derived.Test.YtfokiijcpkhllaaDoorFdQ32
import Derived.Test.YtfokiijcpkhllaaDoorFdQ43
import Derived.Test.YtfokiijcpkhllaaDoorFdQ44
import Derived.Test.YtfokiijcpkhllaaDoorFdQ40
namespace Go.Proofs.YtfokiijcpkhllaaDoor
open Go.RowKit

theorem dice_ltFd {w0 w : World} {db : Nat} {bs : List Int} (h : Dice w0 w db bs) : db < w.heap.size := by
  obtain ⟨_, _, _, h1, _⟩ := h.ex
  exact h1.lt
theorem two_fold {g : List (List Int)} {fs : List Fd} {l ys : List Int} (hF : FoldedS g fs l) (h : TwoS g ys) : (SerS g → ys = fs.map Fd.V) ∧ (¬ SerS g → ys = []) := by
  rcases h with ⟨h1, fs2, l2, h2, rfl⟩ | ⟨h1, rfl⟩
  · exact ⟨fun _ => by rw [(foldedS_det hF h2).1], fun h => absurd h1 h⟩
  · exact ⟨fun h => absurd h h1, fun _ => rfl⟩
theorem col_fold {g : List (List Int)} {fs : List Fd} {l ys : List Int} (hF : FoldedS g fs l) (h : ColS g ys) : (SerS g → ys = colL g.length fs) ∧ (¬ SerS g → ys = []) := by
  rcases h with ⟨h1, fs2, l2, h2, rfl⟩ | ⟨h1, rfl⟩
  · exact ⟨fun _ => by rw [(foldedS_det hF h2).1], fun h => absurd h1 h⟩
  · exact ⟨fun h => absurd h h1, fun _ => rfl⟩
theorem colL_at {n : Nat} {fs : List Fd} {v : Nat} (hv : v < n) : (colL n fs).getD v 0 = 0 ∨ (colL n fs).getD v 0 = 1 ∨ (colL n fs).getD v 0 = 2 := by
  have hl : v < (colL n fs).length := by rw [colL_length]; exact hv
  rw [List.getD_eq_getElem?_getD, List.getElem?_eq_getElem hl]
  exact colL_lt n fs _ (List.getElem_mem hl)
set_option maxRecDepth 100000 in
set_option maxHeartbeats 8000000 in
theorem lawFolded_any (v0 : Value) (bs : List Int) (W : World) (ha : ArgB W v0 bs) (hT : Tab W) :
    Calls Tryd.prog 4 #[v0] W fun e w' => e = .returned (.bool true) ∧ Below W.heap.size W w' := by
  obtain ⟨pa, ca, e0, _⟩ := id ha
  subst e0
  have HA := Lib.hid ha
  have HT := Lib.hid hT
  clear ha hT
  go_enter Tryd.func4, Tryd.ntmps4
  by_cases hbig : 4096 < bs.length
  · have hd := decide_eq_true hbig
    go_wp2_with (go_at_call 7; refine (big_any _ bs _ HA.out).mono ?_; rintro e w2 ⟨he, rfl⟩; rw [hd] at he; subst he)
    go_ret
    exact ⟨rfl, Below.refl _ _⟩
  have hd := decide_eq_false hbig
  have hl : bs.length ≤ 4096 := by omega
  clear hbig
  go_upto_region 5 with (first
    | (go_at_call 9; refine (w9Graph_any W db bs 7 _ rfl (by decide) (by decide) _ HD2.out (dice_ltFd HD2.out)).mono ?_; rintro e w3 ⟨u, n, E, rfl, hn1, hn7, hse, hsg, hd3, hg3⟩; have HSE := Lib.hid hse; have HSG := Lib.hid hsg; have HD3 := Lib.hid hd3; obtain ⟨ga, gc, rfl⟩ := hsg.shape; clear hse hsg hd3 hg3)
    | (go_at_call 8; refine (roll_any _ bs _ hl _ HA.out).mono ?_; rintro e w2 ⟨db, rfl, hd2, hb2⟩; have HD2 := Lib.hid hd2; clear hd2 hb2)
    | (go_at_call 7; refine (big_any _ bs _ HA.out).mono ?_; rintro e w1 ⟨he, rfl⟩; rw [hd] at he; subst he))
  obtain ⟨g, hga⟩ : ∃ g, g = matG n E := ⟨_, rfl⟩
  have hgl : g.length = n := by rw [hga, matG_length]
  have HOK : Hid (GOk g) := Lib.hid (by rw [hga]; exact gok_matG hn1 (by omega) HSE.out.1 HSE.out.2)
  rw [← hga] at HSG ⊢
  have hg7 : g.length ≤ 7 := by omega
  obtain ⟨w4, hw4⟩ : ∃ W', W' = w3.alloc (.cells #[.slice ga g.length gc] 29) := ⟨_, rfl⟩
  rw [← hw4]
  have hba : Below w3.heap.size w3 w4 := by rw [hw4]; exact below_alloc _ _
  have HXg : Hid (Box w4 w3.heap.size 29 (.slice ga g.length gc)) := Lib.hid (by rw [hw4]; exact Box.new _ _ _)
  have HGg := Lib.hid ((HSG.out.below hba).gr (by omega))
  have HB4 : Hid (Below W.heap.size W w4) := Lib.hid (HD3.out.bel.trans (hba.mono HD3.out.bel.size))
  have cg := HXg.out.cell
  obtain ⟨bg, hbg⟩ : ∃ bg, bg = w3.heap.size := ⟨_, rfl⟩
  rw [← hbg] at HXg cg ⊢
  clear hbg hga hw4 hba HSG hn7 hgl hn1 HD2 HD3 HSE hd HXg
  go_upto_region 6 with (go_at_call 18; refine (implFoldedOf_any _ g _ HGg.out (HT.out.keep HB4.out)).mono ?_; rintro e w5 ⟨ov, lv, fs, l, rfl, hfs, ho5, hl5, hf16, hl16, hb5⟩; have HFS := Lib.hid hfs; have cg5 := hb5.at' cg; have HGg5 := Lib.hid (HGg.out.below hb5); have HB5 : Hid (Below W.heap.size W w5) := Lib.hid (HB4.out.trans (hb5.mono HB4.out.size)); have HFD5 := Lib.hid (Fds.of_owns ho5 (by omega)); obtain ⟨fp, fc, rfl, _⟩ := HFD5.out.shape; obtain ⟨lp, lc, rfl⟩ := owns_shapeFd hl5; clear hfs ho5 hl5 hb5)
  obtain ⟨tw, htw⟩ : ∃ tw, tw = twS g.length (ofG g) 0 := ⟨_, rfl⟩
  have HSW : Hid (SerS g ↔ tw ≤ 2) := Lib.hid (by rw [htw]; exact ser_tw HOK.out)
  have htl : tw ≤ 7 := by rw [htw]; exact Nat.le_trans (twS_le _ _ _ 0 rfl) hg7
  have TW : Hid (∀ (v : Value) (wz : World), Gr wz v g → Calls Tryd.prog 20 #[v] wz fun e w' => e = .returned (.int .i64 (tw : Int)) ∧ Below wz.heap.size wz w') := Lib.hid (fun v wz h => by rw [htw]; exact specTreeWidth_any v g HOK.out (by omega) wz h)
  clear htw cg HGg HB4
  obtain ⟨g', hfo⟩ : ∃ g', Folds g (allL g.length) fs l g' := by
    rcases HFS.out with ⟨_, g', h⟩ | ⟨h, _⟩
    · exact ⟨g', h⟩
    · exact absurd HOK.out h
  have HFO := Lib.hid hfo
  have HSL : Hid (SerS g ↔ l.length = 0) := Lib.hid (serS_iff HOK.out hfo)
  clear hfo
  by_cases hse : SerS g
  · have HSE := Lib.hid hse
    have HDS := Lib.hid (dec_true hse)
    have htw2 : (tw : Int) ≤ 2 := by have := HSW.out.1 hse; omega
    have hl0 : l.length = 0 := HSL.out.1 hse
    have hlnil := List.eq_nil_of_length_eq_zero hl0
    subst hlnil
    clear hse
    go_upto_region 7 with (go_at_call 19; refine (implSeriesIn_any _ g _ HGg5.out (HT.out.keep HB5.out)).mono ?_; rintro e w6 ⟨he, hb6⟩; rw [HDS.out] at he; subst he; have cg6 := hb6.at' cg5; have HGg6 := Lib.hid (HGg5.out.below hb6); have HB6 := Lib.hid (HB5.out.trans (hb6.mono HB5.out.size)); have HFD6 := Lib.hid (HFD5.out.below hb6); clear hb6)
    go_upto_region 9 with (first
      | (go_at_call 20; refine (TW.out _ _ HGg6.out).mono ?_; rintro e w7 ⟨rfl, hb7⟩; have cg7 := hb7.at' cg6; have HGg7 := Lib.hid (HGg6.out.below hb7); have HB7 := Lib.hid (HB6.out.trans (hb7.mono HB6.out.size)); have HFD7 := Lib.hid (HFD6.out.below hb7); clear hb7)
      | (go_at_call 21; refine (specFoldsOk_yes _ _ g fs _ g' HOK.out HFO.out hf16 _ HGg7.out HFD7.out).mono ?_; rintro e w8 ⟨rfl, hb8⟩; have cg8 := hb8.at' cg7; have HGg8 := Lib.hid (HGg7.out.below hb8); have HB8 := Lib.hid (HB7.out.trans (hb8.mono HB7.out.size)); have HFD8 := Lib.hid (HFD7.out.below hb8); clear hb8)
      | (go_at_call 22; refine (implFoldsOk_yes _ _ g fs _ g' HOK.out HFO.out hf16 _ HGg8.out HFD8.out (HT.out.keep HB8.out)).mono ?_; rintro e w9 ⟨rfl, hb9⟩; have cg9 := hb9.at' cg8; have HGg9 := Lib.hid (HGg8.out.below hb9); have HB9 := Lib.hid (HB8.out.trans (hb9.mono HB8.out.size)); clear hb9))
    clear htw2 cg5 cg6 cg7 cg8
    go_upto_region 10 with (go_at_call 23; refine (implCoreOf_any _ g _ HGg9.out (HT.out.keep HB9.out)).mono ?_; rintro e wa ⟨u, gg, ok, rfl, hcs, hda, hg16, hr16, hba⟩; obtain ⟨eo, el⟩ := core_len HOK.out HFS.out hcs; rw [HDS.out] at eo; have eo : ok = false := eo; subst eo; have EL := Lib.hid el; have cga := hba.at' cg9; obtain ⟨qp, qc, rfl⟩ := hda.shape; clear eo el hcs)
    obtain ⟨wb, hwb⟩ : ∃ W', W' = wa.alloc (.cells #[.slice qp gg.length qc] 29) := ⟨_, rfl⟩
    rw [← hwb]
    have hbb : Below w9.heap.size w9 wb := by rw [hwb]; exact hba.alloc hba.size _
    have HXc : Hid (Box wb wa.heap.size 29 (.slice qp gg.length qc)) := Lib.hid (by rw [hwb]; exact Box.new _ _ _)
    have ccb := HXc.out.cell
    have cgb := hbb.at' cg9
    have HGgb := Lib.hid (HGg9.out.below hbb)
    have HBb := Lib.hid (HB9.out.trans (hbb.mono HB9.out.size))
    have HTb := Lib.hid (HT.out.keep HBb.out)
    obtain ⟨bc, hbc⟩ : ∃ bc, bc = wa.heap.size := ⟨_, rfl⟩
    rw [← hbc] at HXc ccb ⊢
    clear hbc hwb hda hba cga cg9 hbb
    go_upto_region 12 with fail
    go_upto_region 13 with (go_at_call 24; refine (implTwoOrder_any _ g _ HGgb.out HTb.out).mono ?_; rintro e wc ⟨uo, os, he, hts, hos16, hoc, hbc⟩; rw [HDS.out] at he; subst he; have hte := (two_fold HFS.out hts).1 HSE.out; have HTE := Lib.hid hte; have HNO := Lib.hid (Nums.of_owns hoc rfl (by omega)); have hkc := hoc; have cgc := hbc.at' cgb; have HGgc := Lib.hid (HGgb.out.below hbc); have HBc := Lib.hid (HBb.out.trans (hbc.mono HBb.out.size)); have HTc := Lib.hid (HTb.out.keep hbc); obtain ⟨oop, ooc, rfl⟩ := owns_shapeFd hoc; clear hts hte hoc hkc hbc)
    go_upto_region 14 with (go_at_call 25; refine (implThreeColours_any _ g _ HGgc.out HTc.out).mono ?_; rintro e wd ⟨uc, cs, he, hcs, hcs16, hcc, hbd⟩; rw [HDS.out] at he; subst he; have HCE := Lib.hid ((col_fold HFS.out hcs).1 HSE.out); have HNC := Lib.hid (Nums.of_owns hcc rfl (by omega)); have HNO2 := Lib.hid (HNO.out.below hbd); have cgd := hbd.at' cgc; have HGgd := Lib.hid (HGgc.out.below hbd); have HBd := Lib.hid (HBc.out.trans (hbd.mono HBc.out.size)); obtain ⟨cp, cc, rfl⟩ := owns_shapeFd hcc; clear hcs hcc hbd)
    obtain ⟨PO, PW, PC⟩ := fold_order HOK.out HFO.out
    rw [← HTE.out] at PO PW
    rw [← HCE.out] at PC
    have HPO := Lib.hid PO
    have HPW : Hid (∀ j, (row (laterRows g.length (ofG g) (os.map Int.toNat) os.length) j).length ≤ 2) := Lib.hid (PW _ (by rw [PO.1]; exact Nat.le_refl _))
    have HPC := Lib.hid PC
    have HDO := Lib.hid (dec_true (⟨HOK.out, PO⟩ : GOk g ∧ OrdOk g.length os))
    have HCL : Hid (cs.length = g.length) := Lib.hid (by rw [HCE.out]; exact colL_length _ _)
    have HCA : Hid (∀ v, v < g.length → cs.getD v 0 = 0 ∨ cs.getD v 0 = 1 ∨ cs.getD v 0 = 2) := Lib.hid fun v hv => by rw [HCE.out]; exact colL_at hv
    obtain ⟨N, hN⟩ : ∃ N, N = g.length := ⟨_, rfl⟩
    have HN := Lib.hid hN
    have hcl := HCL.out
    rw [← hN] at hcl
    rw [← hN] at cgd HGgd ⊢
    have HGgd : Hid (Gr wd (.agg #[.slice ga N gc]) g) := HGgd
    have HNC : Hid (Nums wd 2 .i64 (.slice cp N cc) cs) := Lib.hid (by have := HNC.out; rwa [hcl] at this)
    rw [hcl]
    have hN7 : N ≤ 7 := by omega
    clear hN hcl PO PW PC cgc cgb ccb HFD5 HGg5 HB5
    have hne1 : ((N : Int) != (N : Int)) = false := by simp
    go_upto_region 18 with (first
      | (go_at_call 26; refine (specOrderOk_any _ _ g os _ HGgd.out HNO2.out).mono ?_; rintro e we ⟨he, hbe⟩; rw [HDO.out] at he; subst he; have cge := hbe.at' cgd; have HGge := Lib.hid (HGgd.out.below hbe); have HBe := Lib.hid (HBd.out.trans (hbe.mono HBd.out.size)); have HNOe := Lib.hid (HNO2.out.below hbe); have HNCe := Lib.hid (HNC.out.below hbe); clear hbe)
      | (go_at_call 27; refine (specOrderWidth_two _ _ g os HOK.out HPO.out HPW.out _ HGge.out HNOe.out).mono ?_; rintro e wf ⟨kw, rfl, hkw, hbf⟩; have hkw2 : ¬ (2 : Int) < (kw : Int) := (by omega); have cgf := hbf.at' cge; have HGgf := Lib.hid (HGge.out.below hbf); have HBf := Lib.hid (HBe.out.trans (hbf.mono HBe.out.size)); have HNCf := Lib.hid (HNCe.out.below hbf); clear hbf))
    have hrw : Rws wf 32 2 (.slice ga N gc) g := by obtain ⟨_, e, h⟩ := HGgf.out; cases e; exact h
    have HRW := Lib.hid hrw
    clear hrw hne1 hkw2 hkw cgd cge
    go_wp2_with fail
    go_loopw [14] (fun iv wr => ∃ v : Nat, v ≤ N ∧ iv = .int .i64 (v : Int) ∧ Hid (Below wf.heap.size wf wr)) (fun iv _ => N - (intOf iv).toNat)
    case atStart => exact ⟨0, Nat.zero_le _, rfl, Lib.hid (Below.refl _ _)⟩
    case round =>
      obtain ⟨v, hv, rfl, HBR⟩ := hrel
      by_cases hlt : v < N
      · have hvi : (v : Int) < (N : Int) := by omega
        have hv0 : (0 : Int) ≤ (v : Int) := by omega
        obtain ⟨cb, co, rfl, hcc⟩ := (HNCf.out.below HBR.out).get (k := v) (by rw [HCL.out, ← HN.out]; exact hlt)
        obtain ⟨x, hx⟩ : ∃ x, x = cs.getD v 0 := ⟨_, rfl⟩
        have hx2 := HCA.out v (by rw [← HN.out]; exact hlt)
        rw [← hx] at hx2
        have hcv : wr.cell? ⟨cb, co + v, none⟩ = some (.int .i64 x) := by rw [hx, List.getD_eq_getElem?_getD, List.getElem?_eq_getElem (by rw [HCL.out, ← HN.out]; exact hlt)]; exact hcc
        have HXE := Lib.hid hx
        have hx0 : ¬ x < 0 := by omega
        have hx3 : ¬ (2 : Int) < x := by omega
        have hcgr := HBR.out.at' cgf
        obtain ⟨rb, ro, rp, rc, rfl, hcr, hrn⟩ := (HRW.out.below HBR.out).get (k := v) (by rw [← HN.out]; exact hlt)
        obtain ⟨M, hM⟩ : ∃ M, M = (g.getD v []).length := ⟨_, rfl⟩
        have HM := Lib.hid hM
        rw [← hM] at hcr hrn
        have HRN := Lib.hid hrn
        have hM16 : M ≤ 16 := by have := gOk_row_le HOK.out v (by rw [← HN.out]; exact hlt); rw [hM]; exact this
        clear hM hrn hx hcc hx2
        go_upto_region 23 with fail
        clear hx0 hx3
        obtain ⟨wr0, hwr0⟩ : ∃ wr0, wr0 = wr := ⟨_, rfl⟩
        rw [← hwr0] at HBR hcv hcgr hcr HRN ⊢
        clear hwr0
        go_wp2_with fail
        go_loopw [15] (fun iv ws => ∃ i : Nat, i ≤ M ∧ iv = .int .i64 (i : Int) ∧ Hid (Below wr0.heap.size wr0 ws)) (fun iv _ => M - (intOf iv).toNat)
        case atStart => exact ⟨0, Nat.zero_le _, rfl, Lib.hid (Below.refl _ _)⟩
        case round =>
          obtain ⟨i, hi, rfl, HBS⟩ := hrel
          have hcgs := HBS.out.at' hcgr
          have hcrs := HBS.out.at' hcr
          by_cases hit : i < M
          · have hii : (i : Int) < (M : Int) := by omega
            have hi0 : (0 : Int) ≤ (i : Int) := by omega
            have hcvs := HBS.out.at' hcv
            obtain ⟨eb, eo, rfl, hce⟩ := (HRN.out.below HBS.out).get (k := i) (by rw [← HM.out]; exact hit)
            obtain ⟨u, hu⟩ : ∃ u, u = (g.getD v [])[i]'(by rw [← HM.out]; exact hit) := ⟨_, rfl⟩
            rw [← hu] at hce
            have hum : u ∈ row g v := by rw [hu]; exact List.getElem_mem _
            have hur := (HOK.out.sets v (by rw [← HN.out]; exact hlt)).1.1 u hum
            obtain ⟨t, rfl⟩ := Int.eq_ofNat_of_zero_le hur.1
            have htn : t < N := by rw [HN.out]; omega
            have hti : (t : Int) < (N : Int) := by omega
            have ht0 : (0 : Int) ≤ (t : Int) := by omega
            obtain ⟨_, _, e2, hct⟩ := ((HNCf.out.below HBR.out).below HBS.out).get (k := t) (by rw [HCL.out, ← HN.out]; exact htn)
            cases e2
            obtain ⟨y, hy⟩ : ∃ y, y = cs.getD t 0 := ⟨_, rfl⟩
            have hcy : wr.cell? ⟨cb, co + t, none⟩ = some (.int .i64 y) := by rw [hy, List.getD_eq_getElem?_getD, List.getElem?_eq_getElem (by rw [HCL.out, ← HN.out]; exact htn)]; exact hct
            have hxy : (x == y) = false := beq_eq_false_iff_ne.2 (by rw [HXE.out, hy]; exact HPC.out v t hum)
            have HXY := Lib.hid hxy
            clear hu hy hct hum hur
            go_upto_region 26 with fail
            go_cut [169] (fun s wx => s = .bool false ∧ Below wr.heap.size wr wx)
            case first =>
              go_region_held3 (fun Z => Z.cell? ⟨bg, 0, none⟩ = some (.slice (some ⟨rb, ro, none⟩) N gc) ∧ Z.cell? ⟨rb, ro + v, none⟩ = some (.slice (some ⟨eb, eo, none⟩) M rc) ∧ Z.cell? ⟨eb, eo + i, none⟩ = some (.int .i64 (t : Int)) ∧ Z.cell? ⟨cb, co + t, none⟩ = some (.int .i64 y) ∧ Z.cell? ⟨cb, co + v, none⟩ = some (.int .i64 x))
                (first | exact ⟨hcgs, hcrs, hce, hcy, hcvs⟩ | go_keep) (fail)
              all_goals go_wp2
              all_goals go_meet
              all_goals exact ⟨by first | rfl | (rw [HXY.out]) | (congr 1; simpa using HXY.out), below_dN (Below.refl _ _) 1⟩
            case rest =>
            obtain ⟨rfl, hbz⟩ := hcut
            have HBZ := Lib.hid (HBS.out.trans (hbz.mono HBS.out.size))
            clear hbz
            go_wp2_with fail
            go_roundw
            case rel => exact ⟨i + 1, by omega, by go_num, HBZ⟩
            case measure => simp [intOf]; omega
          · obtain rfl : i = M := by omega
            go_wp2_with fail
            go_roundw
            case rel => exact ⟨v + 1, by omega, by go_num, Lib.hid (HBR.out.trans (HBS.out.mono HBR.out.size))⟩
            case measure => simp [intOf]; omega
      · obtain rfl : v = N := by omega
        go_wp2_with fail
        go_ret
        exact ⟨rfl, HBf.out.trans (HBR.out.mono HBf.out.size)⟩
  · have HSE := Lib.hid hse
    have HDS := Lib.hid (dec_false hse)
    have htw2 : ¬ (tw : Int) ≤ 2 := fun h => hse (HSW.out.2 (by omega))
    obtain ⟨L, hL⟩ : ∃ L, L = l.length := ⟨_, rfl⟩
    have HLL := Lib.hid hL
    have hl0 : ((L : Int) == 0) = false := beq_eq_false_iff_ne.2 fun h => hse (HSL.out.2 (by omega))
    rw [← hL]
    clear hL
    clear hse
    go_upto_region 7 with (go_at_call 19; refine (implSeriesIn_any _ g _ HGg5.out (HT.out.keep HB5.out)).mono ?_; rintro e w6 ⟨he, hb6⟩; rw [HDS.out] at he; subst he; have cg6 := hb6.at' cg5; have HGg6 := Lib.hid (HGg5.out.below hb6); have HB6 := Lib.hid (HB5.out.trans (hb6.mono HB5.out.size)); have HFD6 := Lib.hid (HFD5.out.below hb6); clear hb6)
    go_upto_region 9 with (first
      | (go_at_call 20; refine (TW.out _ _ HGg6.out).mono ?_; rintro e w7 ⟨rfl, hb7⟩; have cg7 := hb7.at' cg6; have HGg7 := Lib.hid (HGg6.out.below hb7); have HB7 := Lib.hid (HB6.out.trans (hb7.mono HB6.out.size)); have HFD7 := Lib.hid (HFD6.out.below hb7); clear hb7)
      | (go_at_call 21; refine (specFoldsOk_yes _ _ g fs _ g' HOK.out HFO.out hf16 _ HGg7.out HFD7.out).mono ?_; rintro e w8 ⟨rfl, hb8⟩; have cg8 := hb8.at' cg7; have HGg8 := Lib.hid (HGg7.out.below hb8); have HB8 := Lib.hid (HB7.out.trans (hb8.mono HB7.out.size)); have HFD8 := Lib.hid (HFD7.out.below hb8); clear hb8)
      | (go_at_call 22; refine (implFoldsOk_yes _ _ g fs _ g' HOK.out HFO.out hf16 _ HGg8.out HFD8.out (HT.out.keep HB8.out)).mono ?_; rintro e w9 ⟨rfl, hb9⟩; have cg9 := hb9.at' cg8; have HGg9 := Lib.hid (HGg8.out.below hb9); have HB9 := Lib.hid (HB8.out.trans (hb9.mono HB8.out.size)); clear hb9))
    clear htw2 cg5 cg6 cg7 cg8
    go_upto_region 10 with (go_at_call 23; refine (implCoreOf_any _ g _ HGg9.out (HT.out.keep HB9.out)).mono ?_; rintro e wa ⟨u, gg, ok, rfl, hcs, hda, hg16, hr16, hba⟩; obtain ⟨eo, el⟩ := core_len HOK.out HFS.out hcs; rw [HDS.out] at eo; have eo : ok = true := eo; subst eo; have EL := Lib.hid el; have cga := hba.at' cg9; obtain ⟨qp, qc, rfl⟩ := hda.shape; clear eo el hcs)
    obtain ⟨wb, hwb⟩ : ∃ W', W' = wa.alloc (.cells #[.slice qp gg.length qc] 29) := ⟨_, rfl⟩
    rw [← hwb]
    have hbb : Below w9.heap.size w9 wb := by rw [hwb]; exact hba.alloc hba.size _
    have HXc : Hid (Box wb wa.heap.size 29 (.slice qp gg.length qc)) := Lib.hid (by rw [hwb]; exact Box.new _ _ _)
    have ccb := HXc.out.cell
    have cgb := hbb.at' cg9
    have HGgb := Lib.hid (HGg9.out.below hbb)
    have HBb := Lib.hid (HB9.out.trans (hbb.mono HB9.out.size))
    have HTb := Lib.hid (HT.out.keep HBb.out)
    obtain ⟨bc, hbc⟩ : ∃ bc, bc = wa.heap.size := ⟨_, rfl⟩
    rw [← hbc] at HXc ccb ⊢
    clear hbc hwb hda hba cga cg9 hbb
    have hgl : gg.length = L := by rw [HLL.out]; exact EL.out (by first | rfl | trivial)
    rw [hgl] at ccb ⊢
    clear hgl hg16
    have hne1 : ((L : Int) != (L : Int)) = false := by simp
    go_upto_region 12 with fail
    clear hne1
    go_upto_region 13 with (go_at_call 24; refine (implTwoOrder_any _ g _ HGgb.out HTb.out).mono ?_; rintro e wc ⟨uo, os, he, hts, hos16, hoc, hbc⟩; rw [HDS.out] at he; subst he; have hte := (two_fold HFS.out hts).2 HSE.out; have HTE := Lib.hid hte; have HNO := Lib.hid (Nums.of_owns hoc rfl (by omega)); have hkc := hoc; have cgc := hbc.at' cgb; have HGgc := Lib.hid (HGgb.out.below hbc); have HBc := Lib.hid (HBb.out.trans (hbc.mono HBb.out.size)); have HTc := Lib.hid (HTb.out.keep hbc); obtain ⟨oop, ooc, rfl⟩ := owns_shapeFd hoc; clear hts hte hoc hkc hbc)
    go_upto_region 14 with (go_at_call 25; refine (implThreeColours_any _ g _ HGgc.out HTc.out).mono ?_; rintro e wd ⟨uc, cs, he, hcs, hcs16, hcc, hbd⟩; rw [HDS.out] at he; subst he; have HCE := Lib.hid ((col_fold HFS.out hcs).2 HSE.out); have HNC := Lib.hid (Nums.of_owns hcc rfl (by omega)); have HNO2 := Lib.hid (HNO.out.below hbd); have cgd := hbd.at' cgc; have HGgd := Lib.hid (HGgc.out.below hbd); have HBd := Lib.hid (HBc.out.trans (hbd.mono HBc.out.size)); obtain ⟨cp, cc, rfl⟩ := owns_shapeFd hcc; clear hcs hcc hbd)
    have eo := HTE.out
    have ec := HCE.out
    subst eo
    subst ec
    go_wp2_with fail
    go_ret
    exact ⟨rfl, HBd.out⟩

end Go.Proofs.YtfokiijcpkhllaaDoor

/- The argument of a law over bytes, opened. -/
namespace Go.Proofs.YtfokiijcpkhllaaDoor
open Go.ChangeShapes Go.WideShapes Go.ChangeAt Go.RowKit Go.Deep

variable {H : Type} {enc : TypeId × Value → H}
set_option maxRecDepth 100000 in
theorem open_bytesB {W : World} {sp : Nat → Bool} {held : Bool} {b0 : Nat} {v : Value} {d : DataW H} {p : List MemPlace} (hv : Value.okWide Tryd.prog W .any b0 22 v)
    (h : DataW.Trod enc Tryd.prog W 0 (fun _ => true) held 22 v d p) : ∃ xs, ArgB W v xs := by
  obtain ⟨a0, len, cap, rfl⟩ := okWide_slice Tryd.underlying22 hv
  obtain ⟨fuel, hf⟩ := h
  rcases open_ints Tryd.underlying22 Tryd.underlying5 cellsByte hf with ⟨hc, _⟩ | ⟨a, len', cap', zs, hc, _, hl, hm, hz, _, hcell, hwz⟩
  · obtain ⟨rfl, rfl, rfl⟩ : a0 = none ∧ len = 0 ∧ cap = 0 := by simpa [Value.cells] using hc
    exact ⟨[], none, 0, rfl, by simp, by simp, .inl rfl⟩
  · obtain ⟨rfl, rfl, rfl⟩ : a0 = some a ∧ len = len' ∧ cap = cap' := by simpa [Value.cells] using hc
    simp only [if_true] at hz
    have hll : (zs.take len).length = len := by rw [List.length_take]; omega
    have hm' := hm
    rw [maxLen_eq] at hm'
    refine ⟨zs.take len, some a, cap, by rw [hll], by rw [hll]; omega, fun x hx => ?_, ?_⟩
    · obtain ⟨j, hj, rfl⟩ := List.getElem_of_mem hx
      rw [hll] at hj
      have := range_u8 hwz j
      have hjz : j < zs.length := by omega
      simpa [hjz] using this
    · by_cases h0 : len = 0
      · subst h0; exact .inl (by simp)
      · have hs := spot_of (show W.cell? a = some _ from hcell 0 (by omega))
        refine .inr ⟨a.block, a.off, ?_, fun j u hu => ?_⟩
        · obtain ⟨b, o, s⟩ := a; simp only at hs; subst hs; rfl
        · have hj : j < len := by
            have := (List.getElem?_eq_some_iff.1 hu).1
            rw [List.length_map, hll] at this; exact this
          have h1 := cell_add (hcell j (by omega)) hs
          rw [h1]
          rw [List.getElem?_map, List.getElem?_take, if_pos hj] at hu
          rw [← hu]
          simp [List.getD, List.getElem?_eq_getElem (show j < zs.length by omega)]

end Go.Proofs.YtfokiijcpkhllaaDoor
