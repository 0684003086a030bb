/- Walk: the law FnMinors (printed by wip/mkMn.py). -/
import Derived.Test.YtmakhapdlkbbnaaDoorMnQ44
import Derived.Test.YtmakhapdlkbbnaaDoorMnQ31
import Derived.Test.YtmakhapdlkbbnaaDoorMnQ38
import Derived.Test.YtmakhapdlkbbnaaDoorMnQ29
import Derived.Test.YtmakhapdlkbbnaaDoorMnQ26
import Derived.Test.YtmakhapdlkbbnaaDoorMnQ40
namespace Go.Proofs.YtmakhapdlkbbnaaDoor
open Go.RowKit

theorem dice_ltMn {w0 w : World} {db : Nat} {bs : List Int} (h : Dice w0 w db bs) : db < w.heap.size := by
  obtain ⟨_, _, _, h1, _⟩ := h.ex
  exact h1.lt

set_option maxRecDepth 100000 in
set_option maxHeartbeats 8000000 in
theorem lawMinors_any (v0 : Value) (bs : List Int) (W : World) (ha : ArgB W v0 bs) (hT : Tab W) :
    Calls Tryd.prog 8 #[v0] W fun e w' => e = .returned (.bool true) ∧ Below W.heap.size W w' := by
  obtain ⟨pa, ca, e0, _⟩ := id ha
  subst e0
  have HA := Lib.hid ha
  have HT := Lib.hid hT
  clear ha hT
  go_enter Tryd.func8, Tryd.ntmps8
  by_cases hbig : 4096 < bs.length
  · have hd := decide_eq_true hbig
    go_wp2_with (go_at_call 11; refine (big_any _ bs _ HA.out).mono ?_; rintro e w2 ⟨he, rfl⟩; rw [hd] at he; subst he)
    go_ret
    exact ⟨rfl, Below.refl _ _⟩
  have hd := decide_eq_false hbig
  have hl : bs.length ≤ 4096 := by omega
  clear hbig
  go_upto_region 5 with (first
    | (go_at_call 24; refine (w9Graph_any W db bs 6 _ rfl (by decide) (by decide) _ HD2.out (dice_ltMn HD2.out)).mono ?_; rintro e w3 ⟨u, n, E, rfl, hn1, hn6, hse, hsg, hd3, hg3⟩; have HSE := Lib.hid hse; have HSG := Lib.hid hsg; have HD3 := Lib.hid hd3; obtain ⟨ga, gc, rfl⟩ := hsg.shape; clear hse hsg hd3 hg3)
    | (go_at_call 12; refine (roll_any _ bs _ hl _ HA.out).mono ?_; rintro e w2 ⟨db, rfl, hd2, hb2⟩; have HD2 := Lib.hid hd2; clear hd2 hb2)
    | (go_at_call 11; refine (big_any _ bs _ HA.out).mono ?_; rintro e w1 ⟨he, rfl⟩; rw [hd] at he; subst he))
  obtain ⟨g, hga⟩ : ∃ g, g = matG n E := ⟨_, rfl⟩
  have hgl : g.length = n := by rw [hga, matG_length]
  have HOK : Hid (GOk g) := Lib.hid (by rw [hga]; exact gok_matG hn1 (by omega) HSE.out.1 HSE.out.2)
  rw [← hga] at HSG ⊢
  have hg6 : g.length ≤ 6 := by omega
  have hgp := HOK.out.pos
  obtain ⟨w4, hw4⟩ : ∃ W', W' = w3.alloc (.cells #[.slice ga g.length gc] 29) := ⟨_, rfl⟩
  rw [← hw4]
  have hba : Below w3.heap.size w3 w4 := by rw [hw4]; exact below_alloc _ _
  have HXg : Hid (Box w4 w3.heap.size 29 (.slice ga g.length gc)) := Lib.hid (by rw [hw4]; exact Box.new _ _ _)
  have HGg := Lib.hid ((HSG.out.below hba).gr (by omega))
  have HD4 := Lib.hid (HD3.out.keep hba)
  have s34 : w3.heap.size < w4.heap.size := HXg.out.lt
  have s3 := HD3.out.bel.size
  have cg := HXg.out.cell
  clear hga hw4 hba HSG hn6 hgl hn1 HD2 HD3 HSE hd
  obtain ⟨bg, hbg⟩ : ∃ bg, bg = w3.heap.size := ⟨_, rfl⟩
  rw [← hbg] at HXg s34 cg s3 ⊢
  clear hbg
  go_upto_region 6 with fail
  obtain ⟨w5, hw5⟩ : ∃ W', W' = w4.alloc (.cells #[.slice ga g.length gc] 29) := ⟨_, rfl⟩
  rw [← hw5]
  have hba : Below w4.heap.size w4 w5 := by rw [hw5]; exact below_alloc _ _
  have HI5 : Hid (MnI W w5 db bg w4.heap.size bs ga gc g ga gc g) := Lib.hid
    ⟨HD4.out.keep hba, HXg.out.keep hba, by rw [hw5]; exact Box.new _ _ _, HGg.out.below hba, HGg.out.below hba, by omega, by omega, HOK.out, hg6, ⟨_, minor_self HOK.out⟩⟩
  obtain ⟨bh, hbh⟩ : ∃ bh, bh = w4.heap.size := ⟨_, rfl⟩
  rw [← hbh] at HI5 ⊢
  clear hw5 hba hbh cg HXg HGg HD4 s34 s3
  go_wp2_with (go_at_call 26; refine (below_any W db bs 3 _ rfl (by omega) (by omega) _ HI5.out.dice).mono ?_; rintro e w6 ⟨r, rfl, hr, hd6, hg6'⟩; have HI6 := Lib.hid (HI5.out.throw hd6 hg6'); clear hd6 hg6'; have hwr : IntKind.i64.wrap (1 + (r : Int)) = 1 + (r : Int) := (by rw [IntKind.wrap_i64]; omega))
  have HS6 : Hid (∃ (K : Nat) (hp : Option Addr) (hc : Nat) (h : List (List Int)), K ≤ 3 ∧ Value.int .i64 (1 + (r : Int)) = .int .i64 (K : Int) ∧ MnI W w6 db bg bh bs ga gc g hp hc h) := Lib.hid ⟨1 + r, ga, gc, g, by omega, by congr 1, HI6.out⟩
  clear HI5 HI6 hr hwr
  go_loopw [6] (fun kv wr => ∃ (K : Nat) (hp : Option Addr) (hc : Nat) (h : List (List Int)), K ≤ 3 ∧ kv = .int .i64 (K : Int) ∧ MnI W wr db bg bh bs ga gc g hp hc h) (fun kv _ => (intOf kv).toNat)
  case atStart => exact HS6.out
  case round =>
    clear HS6
    obtain ⟨K, hp, hc, h, hK, rfl, hI⟩ := hrel
    have HI := Lib.hid hI
    have ch := hI.xh.cell
    obtain ⟨hl6, hh⟩ : ∃ q, q = h.length := ⟨_, rfl⟩
    clear hh hl6 hI
    by_cases hgo : 0 < K ∧ 1 < h.length
    · have e1 : (0 : Int) < (K : Int) := by omega
      have e2 : (1 : Int) < (h.length : Int) := by omega
      have h2 := hgo.2
      have hk1 := hgo.1
      have HH := HI.out.ok
      have h6 := HI.out.six
      have hh16 := HH.le
      have HHOK := Lib.hid HH
      have hp1 : 0 < h.length := by omega
      clear hgo HH
      go_upto_region 10 with (go_at_call 56; refine (specEdgesOf_any _ h HHOK.out _ HI.out.gh).mono ?_; rintro e w9 ⟨u9, rfl, hp9, hb9⟩; obtain ⟨ea, ec, rfl⟩ := hp9.shape; have HP9 := Lib.hid hp9; have HI9 := Lib.hid (HI.out.next hb9); have ch := HI9.out.xh.cell; clear hp9 hb9)
      obtain ⟨ep, hep⟩ : ∃ ep, ep = edN h.length (ofG h) h.length := ⟨_, rfl⟩
      have hep256 : ep.length ≤ 256 := by
        rw [hep]
        have := edN_length h.length (ofG h) h.length
        have : h.length * h.length ≤ 16 * 16 := Nat.mul_le_mul hh16 hh16
        omega
      rw [← hep] at HP9 ⊢
      have HEP := Lib.hid hep
      clear hep HI
      go_upto_region 11 with (go_at_call 26; refine (below_any W db bs h.length _ rfl hp1 (by omega) _ HI9.out.dice).mono ?_; rintro e w10 ⟨vb, rfl, hvb, hd10, hg10⟩; have HI10 := Lib.hid (HI9.out.throw hd10 hg10); have HP10 := Lib.hid (PrsO.diced HI9.out.dice hg10 HP9.out); have ch := HI10.out.xh.cell; clear hd10 hg10)
      obtain ⟨hcx, hcm⟩ := minor_cut HHOK.out hvb h2
      have hxl : (indL h (natInts (restN h.length vb))).length ≤ 6 := by
        unfold indL
        rw [matG_length, natInts_length]
        have := List.length_filter_le (fun x => x != vb) (List.range h.length)
        rw [List.length_range] at this
        exact Nat.le_trans this h6
      have HCX := Lib.hid hcx
      have HCM := Lib.hid hcm
      have HXL := Lib.hid hxl
      clear hcx hcm hxl HI9 HP9
      go_upto_region 12 with (go_at_call 57; refine (specCutVertex_yes _ h _ vb rfl HHOK.out hvb h2 _ HI10.out.gh).mono ?_; rintro e w11 ⟨u, rfl, hs, hb⟩; have HS11 := Lib.hid hs; have HB11 := Lib.hid hb; obtain ⟨xa, xc, rfl⟩ := hs.shape; clear hs hb)
      obtain ⟨x, hx⟩ : ∃ x, x = indL h (natInts (restN h.length vb)) := ⟨_, rfl⟩
      rw [← hx] at HCX HCM HXL HS11 ⊢
      obtain ⟨w12, hw12⟩ : ∃ W', W' = w11.alloc (.cells #[.slice xa x.length xc] 29) := ⟨_, rfl⟩
      rw [← hw12]
      have hba : Below w11.heap.size w11 w12 := by rw [hw12]; exact below_alloc _ _
      have HXx : Hid (Box w12 w11.heap.size 29 (.slice xa x.length xc)) := Lib.hid (by rw [hw12]; exact Box.new _ _ _)
      have HGx := Lib.hid ((HS11.out.below hba).gr (by have := HXL.out; omega))
      have HI12 := Lib.hid ((HI10.out.next HB11.out).next hba)
      have HP12 := Lib.hid ((HP10.out.below HB11.out).below hba)
      have s11 : w11.heap.size < w12.heap.size := HXx.out.lt
      have hbxh : w11.heap.size ≠ bh := by have := HB11.out.size; have := HI10.out.xh.lt; omega
      have hbxg : bg ≠ w11.heap.size := by have := HB11.out.size; have := HI10.out.xg.lt; omega
      have hbxl : W.heap.size ≤ w11.heap.size := by have := HB11.out.size; have := HI10.out.dice.bel.size; omega
      have HMX : Hid (MinOf h x) := Lib.hid ⟨_, HCM.out⟩
      obtain ⟨bx, hbx⟩ : ∃ bx, bx = w11.heap.size := ⟨_, rfl⟩
      rw [← hbx] at HXx hbxh hbxl hbxg ⊢
      clear hx hw12 hba hbx s11 HI10 HP10 HS11 HB11 HCM ch
      have hwk : IntKind.i64.wrap ((K : Int) - 1) = ((K - 1 : Nat) : Int) := by rw [IntKind.wrap_i64]; omega
      by_cases he0 : ep.length = 0
      · obtain rfl : ep = [] := List.eq_nil_of_length_eq_zero he0
        have cx := HXx.out.cell
        have cb := HI12.out.xh.cell
        have cf := HI12.out.xh.free
        have HFIN := Lib.hid (HI12.out.store HGx.out HCX.out HXL.out HMX.out)
        clear he0
        go_wp2_with fail
        go_roundw
        case rel => exact ⟨K - 1, _, _, x, by omega, by first | rfl | (congr 1; omega), HFIN.out⟩
        case measure => simp [intOf]; omega
      have e3 : (0 : Int) < (ep.length : Int) := by omega
      have hep0 : 0 < ep.length := by omega
      go_cut [56] (fun s56 wx => ∃ z : Bool, s56 = .bool z ∧ MnI W wx db bg bh bs ga gc g hp hc h ∧ Box wx bx 29 (.slice xa x.length xc) ∧ Gr wx (.agg #[.slice xa x.length xc]) x ∧ ∃ b, PrsO wx b (.slice ea ep.length ec) ep)
      case first =>
        go_wp2_with (go_at_call 26; refine (below_any W db bs 3 _ rfl (by omega) (by omega) _ HI12.out.dice).mono ?_; rintro e wq ⟨r3, rfl, hr3, hdq, hgq⟩; have HIQ := Lib.hid (HI12.out.throw hdq hgq); have HPQ := Lib.hid (PrsO.diced HI12.out.dice hgq HP12.out); have HXQ := Lib.hid (HXx.out.diced HI12.out.dice hgq (by decide)); have HGQ := Lib.hid (HGx.out.dicedMn HI12.out.dice hgq); clear hdq hgq)
        go_meet
        exact ⟨_, rfl, HIQ.out, HXQ.out, HGQ.out, _, HPQ.out⟩
      case rest =>
      obtain ⟨z, rfl, hiq, hxq, hgq, bq, hpq⟩ := hcut
      have HIQ := Lib.hid hiq
      have HXQ := Lib.hid hxq
      have HGQ := Lib.hid hgq
      have HPQ := Lib.hid hpq
      clear hiq hxq hgq hpq HI12 HXx HGx HP12
      cases z
      · clear HPQ
        have cx := HXQ.out.cell
        have cb := HIQ.out.xh.cell
        have cf := HIQ.out.xh.free
        have HFIN := Lib.hid (HIQ.out.store HGQ.out HCX.out HXL.out HMX.out)
        go_wp2_with fail
        go_roundw
        case rel => exact ⟨K - 1, _, _, x, by omega, by first | rfl | (congr 1; omega), HFIN.out⟩
        case measure => simp [intOf]; omega
      go_upto_region 14 with (go_at_call 26; refine (below_any W db bs ep.length _ rfl hep0 (by omega) _ HIQ.out.dice).mono ?_; rintro e wr2 ⟨j, rfl, hj, hdq, hgq⟩; have HI2 := Lib.hid (HIQ.out.throw hdq hgq); have HX2 := Lib.hid (HXQ.out.diced HIQ.out.dice hgq (by decide)); have hp2 := PrsO.diced HIQ.out.dice hgq HPQ.out; obtain ⟨eb, eo, rp, rc, hepp, hce, hne⟩ := hp2.get hj; subst hepp; have HNE := Lib.hid hne; have HMEM := Lib.hid (List.getElem_mem hj); clear hdq hgq hp2 hne)
      obtain ⟨⟨a, b⟩, hab⟩ : ∃ e : Nat × Nat, e = ep[j] := ⟨_, rfl⟩
      have hne := HNE.out
      have hmem := HMEM.out
      rw [← hab] at hne hmem
      simp only at hne
      obtain ⟨rb, ro, rfl, hc0⟩ := hne.get (k := 0) (by simp)
      obtain ⟨_, _, e1, hc1⟩ := hne.get (k := 1) (by simp)
      cases e1
      simp only [List.getElem_cons_zero, List.getElem_cons_succ, Nat.add_zero] at hc0 hc1
      rw [HEP.out] at hmem
      obtain ⟨m1, m2, m3, m4⟩ := mem_edN (Nat.le_refl _) hmem
      simp only at m1 m2 m3 m4
      obtain ⟨hqx, hqm⟩ := minor_con HHOK.out m3 m2 m4
      have hyl : (indL (matG h.length (conE (ofG h) a b)) (natInts (restN h.length b))).length ≤ 6 := by
        unfold indL
        rw [matG_length, natInts_length]
        have := List.length_filter_le (fun x => x != b) (List.range h.length)
        rw [List.length_range] at this
        exact Nat.le_trans this h6
      have HQX := Lib.hid hqx
      have HQM : Hid (MinOf h (indL (matG h.length (conE (ofG h) a b)) (natInts (restN h.length b)))) := Lib.hid ⟨_, hqm⟩
      have HYL := Lib.hid hyl
      have HM4 := Lib.hid m4
      obtain ⟨y, hy⟩ : ∃ y, y = indL (matG h.length (conE (ofG h) a b)) (natInts (restN h.length b)) := ⟨_, rfl⟩
      have CON : Hid (∀ wz vz, Gr wz vz h → Calls Tryd.prog 58 #[vz, .int .i64 (a : Int), .int .i64 (b : Int)] wz fun e w' => ∃ u, e = .returned (.tuple #[u, .bool true]) ∧ SG w' wz.heap.size u y ∧ Below wz.heap.size wz w') := Lib.hid (fun wz vz hz => by
        rw [hy]
        exact specContracted_yes vz h _ _ a b rfl rfl HHOK.out m3 m2 HM4.out wz hz)
      rw [← hy] at HQX HQM HYL
      have ch := HI2.out.xh.cell
      clear hne hmem hab hqx hqm hyl hy m4 hce HNE HMEM
      go_region_law (first | (go_simp; go_at_call 58; refine (CON.out _ _ (HI2.out.gh.below (below_dN (Below.refl _ _) 1))).mono ?_; rintro e w16 ⟨u, rfl, hs, hb⟩; obtain ⟨ya, yc, rfl⟩ := hs.shape; have hb' := (below_dN (Below.refl wr2.heap.size wr2) 1).trans hb; have HI16 := Lib.hid (HI2.out.next hb'); have hx16 := HX2.out.keep hb'; have HX16 := Lib.hid hx16; have cx16 := hx16.cell; have cf16 := hx16.free; have HG16 := Lib.hid (hs.gr (by have := HYL.out; omega)); clear hs hb hb' hx16))
      all_goals go_upto_region 15 with fail
      all_goals
        obtain ⟨wy, hwy⟩ : ∃ wy, wy = w16.setCell ⟨bx, 0, none⟩ (.slice ya y.length yc) := ⟨_, rfl⟩
        rw [← hwy]
        have HIY : Hid (MnI W wy db bg bh bs ga gc g hp hc h) := Lib.hid (by rw [hwy]; exact HI16.out.setX HX16.out hbxg (Ne.symm hbxh) hbxl _)
        have HXY : Hid (Box wy bx 29 (.slice ya y.length yc)) := Lib.hid (by rw [hwy]; exact HX16.out.set _)
        have HGY : Hid (Gr wy (.agg #[.slice ya y.length yc]) y) := Lib.hid (by rw [hwy]; exact gr_setBoxMn HG16.out HX16.out _)
        clear hwy cx16 cf16 hc0 hc1 ch
        have cx := HXY.out.cell
        have cb := HIY.out.xh.cell
        have cf := HIY.out.xh.free
        have HFIN := Lib.hid (HIY.out.store HGY.out HQX.out HYL.out HQM.out)
        go_wp2_with fail
        go_roundw
        case rel => exact ⟨K - 1, _, _, y, by omega, by first | rfl | (congr 1; omega), HFIN.out⟩
        case measure => simp [intOf]; omega
    · by_cases hK0 : K = 0
      · have e1 : ¬ (0 : Int) < (K : Int) := by omega
        clear hgo hK0
        by_cases h5 : h.length ≤ 5
        case neg =>
          have e5 : (5 : Int) < (h.length : Int) := by omega
          clear h5
          go_wp2_with fail
          go_ret
          exact ⟨rfl, HI.out.dice.bel⟩
        have e5 : ¬ (5 : Int) < (h.length : Int) := by omega
        have HH := Lib.hid HI.out.ok
        have HTR := Lib.hid (HT.out.keep HI.out.dice.bel)
        have cg := HI.out.xg.cell
        obtain ⟨wd, hwd⟩ := minor_found HI.out.min
        have HWD := Lib.hid hwd
        clear hwd
        go_upto_region 20 with (go_at_call 44; refine (implMinorIn_any _ _ g h _ HI.out.gg HI.out.gh HTR.out).mono ?_; rintro e w20 ⟨u, R, ok, rfl, hS, hdg, hR16, hRr, hb⟩; have HS20 := Lib.hid hS; have HRR := Lib.hid hRr; obtain ⟨ma, mc, rfl⟩ := hdg.shape; have HDG := Lib.hid hdg; have HB20 := Lib.hid hb; clear hS hdg hb hRr)
        obtain ⟨hok, HMD⟩ : ok = true ∧ Hid (MdOk g h R) := by
          rcases HS20.out with ⟨_, w, h1, h2, h3⟩ | ⟨h1, _⟩
          · refine ⟨h3, Lib.hid ?_⟩
            rw [h2]
            have hf := findN_some _ _ _ h1
            exact fit_mdOk HOK.out HH.out (by obtain ⟨_, u, e, hu, _⟩ := hf; rw [e, List.nil_append]; exact hu) hf.1
          · exact absurd ⟨⟨HOK.out, HH.out, by omega, h5⟩, wd, HWD.out⟩ h1
        subst hok
        obtain ⟨w21, hw21⟩ : ∃ W', W' = w20.alloc (.cells #[.slice ma R.length mc] 54) := ⟨_, rfl⟩
        rw [← hw21]
        have hba : Below w20.heap.size w20 w21 := by rw [hw21]; exact below_alloc _ _
        have HXM : Hid (Box w21 w20.heap.size 54 (.slice ma R.length mc)) := Lib.hid (by rw [hw21]; exact Box.new _ _ _)
        have HGM : Hid (Gr w21 (.agg #[.slice ma R.length mc]) R) := Lib.hid ((HDG.out.below hba).gr (by omega) (fun j _ => Nat.le_trans (HRR.out j) (by decide)))
        have HI21 := Lib.hid ((HI.out.next HB20.out).next hba)
        have HDM := Lib.hid (dec_true HMD.out)
        obtain ⟨bm, hbm⟩ : ∃ bm, bm = w20.heap.size := ⟨_, rfl⟩
        rw [← hbm] at HXM ⊢
        have cg := HI21.out.xg.cell
        have ch := HI21.out.xh.cell
        have cm := HXM.out.cell
        clear hw21 hba hbm HS20 HDG HB20 HRR HTR HI
        go_upto_region 22 with (go_at_call 53; refine (specModelOk_any _ _ _ g h R (by omega) _ HI21.out.gg HI21.out.gh HGM.out).mono ?_; rintro e w22 ⟨he, hb⟩; rw [HDM.out] at he; subst he; have HI22 := Lib.hid (HI21.out.next hb); have HXM22 := Lib.hid (HXM.out.keep hb); have HGM22 := Lib.hid (HGM.out.below hb); clear hb)
        have cg := HI22.out.xg.cell
        have ch := HI22.out.xh.cell
        have cm := HXM22.out.cell
        have HT22 := Lib.hid (HT.out.keep HI22.out.dice.bel)
        clear HI21 HXM HGM
        go_upto_region 23 with (go_at_call 59; refine (implBranchEdges_yes _ _ _ g h R HMD.out _ HI22.out.gg HI22.out.gh HGM22.out HT22.out).mono ?_; rintro e w23 ⟨u, L, rfl, hLl, hLm, ⟨bL, hpo⟩, hb⟩; obtain ⟨la, lc, rfl⟩ := hpo.shape; have HPO := Lib.hid hpo; have HLM := Lib.hid hLm; have HI23 := Lib.hid (HI22.out.next hb); have HLL := Lib.hid hLl; clear hb hpo hLm hLl)
        have HLT := Lib.hid (lenTo_edN HH.out)
        obtain ⟨q, hq⟩ : ∃ q, q = L.length := ⟨_, rfl⟩
        have HLQ : Hid (lenTo h h.length = 2 * q) := Lib.hid (by rw [HLT.out, hq, HLL.out])
        have hq256 : q ≤ 256 := by
          rw [hq, HLL.out]
          have := edN_length h.length (ofG h) h.length
          have : h.length * h.length ≤ 16 * 16 := Nat.mul_le_mul HH.out.le HH.out.le
          omega
        have HQ := Lib.hid hq
        rw [← hq] at HPO ⊢
        have ch := HI23.out.xh.cell
        clear hq HLL HLT cg cm HI22 HXM22 HGM22 HT22
        go_upto_region 25 with (go_at_call 60; refine (w9Edges_any _ h HH.out q HLQ.out _ HI23.out.gh).mono ?_; rintro e w24 ⟨rfl, hb⟩; have HI24 := Lib.hid (HI23.out.next hb); have HPO24 := Lib.hid (HPO.out.below hb); clear hb)
        clear ch HI23 HPO
        go_wp2_with fail
        go_loopw [15] (fun jv wr2 => ∃ j : Nat, j ≤ q ∧ jv = .int .i64 j ∧ Below w24.heap.size w24 wr2) (fun jv _ => q - (intOf jv).toNat)
        case atStart => exact ⟨0, Nat.zero_le _, rfl, Below.refl _ _⟩
        case round =>
          obtain ⟨j, hj, rfl, hb⟩ := hrel
          have HB := Lib.hid hb
          by_cases hlt : j < q
          · have cg := (HI24.out.xg.keep hb).cell
            have hjL : j < L.length := by have := HQ.out; omega
            obtain ⟨eb, eo, rp, rc, rfl, hce, hne⟩ := (HPO24.out.below hb).get hjL
            have hmem := HLM.out _ (List.getElem_mem hjL)
            obtain ⟨⟨a, b⟩, hab⟩ : ∃ e : Nat × Nat, e = L[j] := ⟨_, rfl⟩
            rw [← hab] at hne hmem
            simp only at hne
            obtain ⟨rb, ro, rfl, hc0⟩ := hne.get (k := 0) (by simp)
            obtain ⟨_, _, e1, hc1⟩ := hne.get (k := 1) (by simp)
            cases e1
            simp only [List.getElem_cons_zero, List.getElem_cons_succ, Nat.add_zero] at hc0 hc1
            obtain ⟨m1, m2, m3, m4⟩ := mem_edN (Nat.le_refl _) hmem
            simp only at m1 m2 m3 m4
            have HM4 := Lib.hid m4
            have HGr := Lib.hid (HI24.out.gg.below hb)
            clear hne hmem hab m4 hb hjL
            go_upto_region 28 with fail
            go_cut [133] (fun s wx => s = .bool false ∧ Below wr.heap.size wr wx)
            case first =>
              go_region_held3 (fun w' => w'.cell? ⟨bg, 0, none⟩ = some (.slice ga g.length gc) ∧ w'.cell? ⟨eb, eo + j, none⟩ = some (.slice (some ⟨rb, ro, none⟩) 2 rc) ∧ w'.cell? ⟨rb, ro, none⟩ = some (.int .i64 (a : Int)) ∧ w'.cell? ⟨rb, ro + 1, none⟩ = some (.int .i64 (b : Int)))
                (first | exact ⟨cg, hce, hc0, hc1⟩ | go_keep | exact ⟨BWA.at' cg, BWA.at' hce, BWA.at' hc0, BWA.at' hc1⟩)
                (first | (go_at_call 39; refine (specEdgeIn_yes _ g _ _ a b rfl rfl HOK.out m1 m2 HM4.out _ (HGr.out.below (below_dN (Below.refl _ _) 1))).mono ?_; rintro e wa ⟨rfl, hbq⟩; have BWA : Below wr.heap.size wr wa := (below_dN (Below.refl _ _) 1).trans hbq; clear hbq))
              all_goals go_wp2
              all_goals go_meet
              all_goals exact ⟨rfl, BWA⟩
            case rest =>
            obtain ⟨rfl, hbz⟩ := hcut
            go_wp2_with fail
            go_roundw
            case rel => exact ⟨j + 1, by omega, by go_num, HB.out.trans (hbz.mono HB.out.size)⟩
            case measure => simp [intOf]; omega
          · obtain rfl : j = q := by omega
            go_wp2_with fail
            go_ret
            exact ⟨rfl, HI24.out.dice.bel.trans (HB.out.mono HI24.out.dice.bel.size)⟩
      · have e1 : (0 : Int) < (K : Int) := by omega
        have e2 : ¬ (1 : Int) < (h.length : Int) := by omega
        have h5 : h.length ≤ 5 := by omega
        clear hgo hK0
        have e5 : ¬ (5 : Int) < (h.length : Int) := by omega
        have HH := Lib.hid HI.out.ok
        have HTR := Lib.hid (HT.out.keep HI.out.dice.bel)
        have cg := HI.out.xg.cell
        obtain ⟨wd, hwd⟩ := minor_found HI.out.min
        have HWD := Lib.hid hwd
        clear hwd
        go_upto_region 20 with (go_at_call 44; refine (implMinorIn_any _ _ g h _ HI.out.gg HI.out.gh HTR.out).mono ?_; rintro e w20 ⟨u, R, ok, rfl, hS, hdg, hR16, hRr, hb⟩; have HS20 := Lib.hid hS; have HRR := Lib.hid hRr; obtain ⟨ma, mc, rfl⟩ := hdg.shape; have HDG := Lib.hid hdg; have HB20 := Lib.hid hb; clear hS hdg hb hRr)
        obtain ⟨hok, HMD⟩ : ok = true ∧ Hid (MdOk g h R) := by
          rcases HS20.out with ⟨_, w, h1, h2, h3⟩ | ⟨h1, _⟩
          · refine ⟨h3, Lib.hid ?_⟩
            rw [h2]
            have hf := findN_some _ _ _ h1
            exact fit_mdOk HOK.out HH.out (by obtain ⟨_, u, e, hu, _⟩ := hf; rw [e, List.nil_append]; exact hu) hf.1
          · exact absurd ⟨⟨HOK.out, HH.out, by omega, h5⟩, wd, HWD.out⟩ h1
        subst hok
        obtain ⟨w21, hw21⟩ : ∃ W', W' = w20.alloc (.cells #[.slice ma R.length mc] 54) := ⟨_, rfl⟩
        rw [← hw21]
        have hba : Below w20.heap.size w20 w21 := by rw [hw21]; exact below_alloc _ _
        have HXM : Hid (Box w21 w20.heap.size 54 (.slice ma R.length mc)) := Lib.hid (by rw [hw21]; exact Box.new _ _ _)
        have HGM : Hid (Gr w21 (.agg #[.slice ma R.length mc]) R) := Lib.hid ((HDG.out.below hba).gr (by omega) (fun j _ => Nat.le_trans (HRR.out j) (by decide)))
        have HI21 := Lib.hid ((HI.out.next HB20.out).next hba)
        have HDM := Lib.hid (dec_true HMD.out)
        obtain ⟨bm, hbm⟩ : ∃ bm, bm = w20.heap.size := ⟨_, rfl⟩
        rw [← hbm] at HXM ⊢
        have cg := HI21.out.xg.cell
        have ch := HI21.out.xh.cell
        have cm := HXM.out.cell
        clear hw21 hba hbm HS20 HDG HB20 HRR HTR HI
        go_upto_region 22 with (go_at_call 53; refine (specModelOk_any _ _ _ g h R (by omega) _ HI21.out.gg HI21.out.gh HGM.out).mono ?_; rintro e w22 ⟨he, hb⟩; rw [HDM.out] at he; subst he; have HI22 := Lib.hid (HI21.out.next hb); have HXM22 := Lib.hid (HXM.out.keep hb); have HGM22 := Lib.hid (HGM.out.below hb); clear hb)
        have cg := HI22.out.xg.cell
        have ch := HI22.out.xh.cell
        have cm := HXM22.out.cell
        have HT22 := Lib.hid (HT.out.keep HI22.out.dice.bel)
        clear HI21 HXM HGM
        go_upto_region 23 with (go_at_call 59; refine (implBranchEdges_yes _ _ _ g h R HMD.out _ HI22.out.gg HI22.out.gh HGM22.out HT22.out).mono ?_; rintro e w23 ⟨u, L, rfl, hLl, hLm, ⟨bL, hpo⟩, hb⟩; obtain ⟨la, lc, rfl⟩ := hpo.shape; have HPO := Lib.hid hpo; have HLM := Lib.hid hLm; have HI23 := Lib.hid (HI22.out.next hb); have HLL := Lib.hid hLl; clear hb hpo hLm hLl)
        have HLT := Lib.hid (lenTo_edN HH.out)
        obtain ⟨q, hq⟩ : ∃ q, q = L.length := ⟨_, rfl⟩
        have HLQ : Hid (lenTo h h.length = 2 * q) := Lib.hid (by rw [HLT.out, hq, HLL.out])
        have hq256 : q ≤ 256 := by
          rw [hq, HLL.out]
          have := edN_length h.length (ofG h) h.length
          have : h.length * h.length ≤ 16 * 16 := Nat.mul_le_mul HH.out.le HH.out.le
          omega
        have HQ := Lib.hid hq
        rw [← hq] at HPO ⊢
        have ch := HI23.out.xh.cell
        clear hq HLL HLT cg cm HI22 HXM22 HGM22 HT22
        go_upto_region 25 with (go_at_call 60; refine (w9Edges_any _ h HH.out q HLQ.out _ HI23.out.gh).mono ?_; rintro e w24 ⟨rfl, hb⟩; have HI24 := Lib.hid (HI23.out.next hb); have HPO24 := Lib.hid (HPO.out.below hb); clear hb)
        clear ch HI23 HPO
        go_wp2_with fail
        go_loopw [15] (fun jv wr2 => ∃ j : Nat, j ≤ q ∧ jv = .int .i64 j ∧ Below w24.heap.size w24 wr2) (fun jv _ => q - (intOf jv).toNat)
        case atStart => exact ⟨0, Nat.zero_le _, rfl, Below.refl _ _⟩
        case round =>
          obtain ⟨j, hj, rfl, hb⟩ := hrel
          have HB := Lib.hid hb
          by_cases hlt : j < q
          · have cg := (HI24.out.xg.keep hb).cell
            have hjL : j < L.length := by have := HQ.out; omega
            obtain ⟨eb, eo, rp, rc, rfl, hce, hne⟩ := (HPO24.out.below hb).get hjL
            have hmem := HLM.out _ (List.getElem_mem hjL)
            obtain ⟨⟨a, b⟩, hab⟩ : ∃ e : Nat × Nat, e = L[j] := ⟨_, rfl⟩
            rw [← hab] at hne hmem
            simp only at hne
            obtain ⟨rb, ro, rfl, hc0⟩ := hne.get (k := 0) (by simp)
            obtain ⟨_, _, e1, hc1⟩ := hne.get (k := 1) (by simp)
            cases e1
            simp only [List.getElem_cons_zero, List.getElem_cons_succ, Nat.add_zero] at hc0 hc1
            obtain ⟨m1, m2, m3, m4⟩ := mem_edN (Nat.le_refl _) hmem
            simp only at m1 m2 m3 m4
            have HM4 := Lib.hid m4
            have HGr := Lib.hid (HI24.out.gg.below hb)
            clear hne hmem hab m4 hb hjL
            go_upto_region 28 with fail
            go_cut [133] (fun s wx => s = .bool false ∧ Below wr.heap.size wr wx)
            case first =>
              go_region_held3 (fun w' => w'.cell? ⟨bg, 0, none⟩ = some (.slice ga g.length gc) ∧ w'.cell? ⟨eb, eo + j, none⟩ = some (.slice (some ⟨rb, ro, none⟩) 2 rc) ∧ w'.cell? ⟨rb, ro, none⟩ = some (.int .i64 (a : Int)) ∧ w'.cell? ⟨rb, ro + 1, none⟩ = some (.int .i64 (b : Int)))
                (first | exact ⟨cg, hce, hc0, hc1⟩ | go_keep | exact ⟨BWA.at' cg, BWA.at' hce, BWA.at' hc0, BWA.at' hc1⟩)
                (first | (go_at_call 39; refine (specEdgeIn_yes _ g _ _ a b rfl rfl HOK.out m1 m2 HM4.out _ (HGr.out.below (below_dN (Below.refl _ _) 1))).mono ?_; rintro e wa ⟨rfl, hbq⟩; have BWA : Below wr.heap.size wr wa := (below_dN (Below.refl _ _) 1).trans hbq; clear hbq))
              all_goals go_wp2
              all_goals go_meet
              all_goals exact ⟨rfl, BWA⟩
            case rest =>
            obtain ⟨rfl, hbz⟩ := hcut
            go_wp2_with fail
            go_roundw
            case rel => exact ⟨j + 1, by omega, by go_num, HB.out.trans (hbz.mono HB.out.size)⟩
            case measure => simp [intOf]; omega
          · obtain rfl : j = q := by omega
            go_wp2_with fail
            go_ret
            exact ⟨rfl, HI24.out.dice.bel.trans (HB.out.mono HI24.out.dice.bel.size)⟩

end Go.Proofs.YtmakhapdlkbbnaaDoor

/- The argument of a law over bytes, opened. -/
namespace Go.Proofs.YtmakhapdlkbbnaaDoor
open Go.ChangeShapes Go.WideShapes Go.ChangeAt Go.RowKit Go.Deep

variable {H : Type} {enc : TypeId × Value → H}
set_option maxRecDepth 100000 in
theorem open_bytesB {W : World} {sp : Nat → Bool} {held : Bool} {b0 : Nat} {v : Value} {d : DataW H} {p : List MemPlace} (hv : Value.okWide Tryd.prog W .any b0 22 v)
    (h : DataW.Trod enc Tryd.prog W 0 (fun _ => true) held 22 v d p) : ∃ xs, ArgB W v xs := by
  obtain ⟨a0, len, cap, rfl⟩ := okWide_slice Tryd.underlying22 hv
  obtain ⟨fuel, hf⟩ := h
  rcases open_ints Tryd.underlying22 Tryd.underlying5 cellsByte hf with ⟨hc, _⟩ | ⟨a, len', cap', zs, hc, _, hl, hm, hz, _, hcell, hwz⟩
  · obtain ⟨rfl, rfl, rfl⟩ : a0 = none ∧ len = 0 ∧ cap = 0 := by simpa [Value.cells] using hc
    exact ⟨[], none, 0, rfl, by simp, by simp, .inl rfl⟩
  · obtain ⟨rfl, rfl, rfl⟩ : a0 = some a ∧ len = len' ∧ cap = cap' := by simpa [Value.cells] using hc
    simp only [if_true] at hz
    have hll : (zs.take len).length = len := by rw [List.length_take]; omega
    have hm' := hm
    rw [maxLen_eq] at hm'
    refine ⟨zs.take len, some a, cap, by rw [hll], by rw [hll]; omega, fun x hx => ?_, ?_⟩
    · obtain ⟨j, hj, rfl⟩ := List.getElem_of_mem hx
      rw [hll] at hj
      have := range_u8 hwz j
      have hjz : j < zs.length := by omega
      simpa [hjz] using this
    · by_cases h0 : len = 0
      · subst h0; exact .inl (by simp)
      · have hs := spot_of (show W.cell? a = some _ from hcell 0 (by omega))
        refine .inr ⟨a.block, a.off, ?_, fun j u hu => ?_⟩
        · obtain ⟨b, o, s⟩ := a; simp only at hs; subst hs; rfl
        · have hj : j < len := by
            have := (List.getElem?_eq_some_iff.1 hu).1
            rw [List.length_map, hll] at this; exact this
          have h1 := cell_add (hcell j (by omega)) hs
          rw [h1]
          rw [List.getElem?_map, List.getElem?_take, if_pos hj] at hu
          rw [← hu]
          simp [List.getD, List.getElem?_eq_getElem (show j < zs.length by omega)]

end Go.Proofs.YtmakhapdlkbbnaaDoor
