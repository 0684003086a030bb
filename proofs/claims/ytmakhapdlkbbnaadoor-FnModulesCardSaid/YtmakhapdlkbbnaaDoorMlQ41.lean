/- Walk: the law FnModules (printed by wip/mkMl.py). -/
import Derived.Test.YtmakhapdlkbbnaaDoorMlQ14
import Derived.Test.YtmakhapdlkbbnaaDoorMlQ27
import Derived.Test.YtmakhapdlkbbnaaDoorMlQ31
import Derived.Test.YtmakhapdlkbbnaaDoorMlQ35
import Derived.Test.YtmakhapdlkbbnaaDoorMlQ39
import Derived.Test.YtmakhapdlkbbnaaDoorMlQ40
namespace Go.Proofs.YtmakhapdlkbbnaaDoor
open Go.RowKit

theorem SG.dicedM {w0 w w' : World} {db : Nat} {bs : List Int} (h : Dice w0 w db bs) (hg : w.grownBy w' (some db)) {base : Nat} {v : Value} {g : List (List Int)} (hs : SG w base v g) : SG w' base v g := by
  obtain ⟨u, vals, h1, h2, h3, h4⟩ := hs
  exact ⟨u, vals, h1, h2, ownsRow_diced h hg (by decide) h3, fun j hj => Sl.diced h hg (by decide) (h4 j hj)⟩
theorem cls_lt {g : List (List Int)} {s c : Nat} (h : ClsN g s c) (hs : s ≠ 0) : c < 2 ^ g.length ∧ c ≠ 0 := by
  refine ⟨h.1.lt, fun e => ?_⟩
  obtain ⟨i, hi⟩ := Nat.exists_testBit_of_ne_zero hs
  have := h.1.sup i hi
  rw [e] at this
  simp at this
theorem bits_inj {s t : Nat} (hs : s < 65536) (ht : t < 65536) (h : natInts (bitsOf s) = natInts (bitsOf t)) : s = t := by
  rw [← mask_bitsOf hs, ← mask_bitsOf ht, h]
theorem bits_sub_len {s t : Nat} (hs : s < 65536) (ht : t < 65536) (h : SubB s t) : (bitsOf s).length ≤ (bitsOf t).length :=
  sub_len _ _ ((bitsOf_rising s).imp fun h => by omega) fun x hx => (mem_bitsOf' (by omega)).2 (h x ((mem_bitsOf' (by omega)).1 hx))

set_option maxRecDepth 100000 in
set_option maxHeartbeats 8000000 in
theorem lawModules_any (v0 : Value) (bs : List Int) (W : World) (ha : ArgB W v0 bs) (hT : Tab W) :
    Calls Tryd.prog 4 #[v0] W fun e w' => e = .returned (.bool true) ∧ Below W.heap.size W w' := by
  obtain ⟨p, c, e0, _⟩ := id ha
  subst e0
  have HA := Lib.hid ha
  have HT := Lib.hid hT
  clear ha hT
  go_enter Tryd.func4, Tryd.ntmps4
  by_cases hbig : 4096 < bs.length
  · have hd := decide_eq_true hbig
    go_wp2_with (go_at_call 11; refine (big_any _ bs _ HA.out).mono ?_; rintro e w2 ⟨he, rfl⟩; rw [hd] at he; subst he)
    go_ret
    exact ⟨rfl, Below.refl _ _⟩
  have hd := decide_eq_false hbig
  have hl : bs.length ≤ 4096 := by omega
  clear hbig
  go_upto_region 5 with (first
    | (go_at_call 24; refine (w9Graph_any W db bs 6 _ rfl (by decide) (by decide) _ HD2.out HDL.out).mono ?_; rintro e w3 ⟨u, n, E, rfl, hn1, hn6, hse, hsg, hd3, hg3⟩; have HSE := Lib.hid hse; have HSG := Lib.hid hsg; have HD3 := Lib.hid hd3; obtain ⟨gp, gc, rfl⟩ := hsg.shape; clear hse hsg hd3 hg3)
    | (go_at_call 12; refine (roll_any _ bs _ hl _ HA.out).mono ?_; rintro e w2 ⟨db, rfl, hd2, hb2⟩; have HD2 := Lib.hid hd2; have HDL : Hid (db < w2.heap.size) := Lib.hid (by obtain ⟨_, _, _, h1, _⟩ := hd2.ex; exact h1.lt); clear hd2 hb2)
    | (go_at_call 11; refine (big_any _ bs _ HA.out).mono ?_; rintro e w1 ⟨he, rfl⟩; rw [hd] at he; subst he))
  obtain ⟨g, hga⟩ : ∃ g, g = matG n E := ⟨_, rfl⟩
  have hgl : g.length = n := by rw [hga, matG_length]
  have HOK : Hid (GOk g) := Lib.hid (by rw [hga]; exact gok_matG hn1 (by omega) HSE.out.1 HSE.out.2)
  rw [← hga] at HSG ⊢
  have hg6 : g.length ≤ 6 := by omega
  have hgp := HOK.out.pos
  obtain ⟨w4, hw4⟩ : ∃ w4, w4 = w3.alloc (.cells #[.slice gp g.length gc] 29) := ⟨_, rfl⟩
  rw [← hw4]
  have hb34 : Below w3.heap.size w3 w4 := by rw [hw4]; exact below_alloc _ _
  have HX4 : Hid (Box w4 w3.heap.size 29 (.slice gp g.length gc)) := Lib.hid (by rw [hw4]; exact Box.new _ _ _)
  have HS4 := Lib.hid (HSG.out.below hb34)
  have HD4 := Lib.hid (HD3.out.keep hb34)
  have c4 := HX4.out.cell
  generalize w3.heap.size = bx at *
  clear hga hw4 hb34 HSG hn6 hgl hn1 HD2 HDL HD3 HSE hd
  go_upto_region 6 with fail
  clear c4
  go_upto_region 7 with (first
    | (go_at_call 25; refine (w9With_any _ [(x : Int)] y (by simp) _ HNX.out).mono ?_; rintro e w7 ⟨sv, rfl, ho7, hb7⟩; obtain ⟨sp, sc, rfl⟩ := owns_shapeA ho7)
    | (go_at_call 26; refine (below_any W db bs g.length _ rfl hgp (by omega) _ HD5b.out).mono ?_; rintro e w6 ⟨y, rfl, hy, hd6, hg6⟩; have HD6 := Lib.hid hd6; have HG6 := Lib.hid hg6; clear hd6 hg6; (have HNX : Hid (Nums w6 2 .i64 (.slice (some ⟨w5.heap.size, 0, none⟩) 1 1) [(x : Int)]) := Lib.hid (Sl.diced HD5b.out HG6.out (by decide) (Nums.of_owns (n := 1) (xs := [(x : Int)]) (World.ownsRow_lit w5 #[.int .i64 (x : Int)] 1 (base := w5.heap.size) (e := 2) (size := 1) (Nat.le_refl _) (by decide) (by simp)) rfl (by decide)))))
    | (go_at_call 26; refine (below_any W db bs g.length _ rfl hgp (by omega) _ HD4.out).mono ?_; rintro e w5 ⟨x, rfl, hx, hd5, hg5⟩; have HD5 := Lib.hid hd5; have HG5 := Lib.hid hg5; clear hd5 hg5; have HD5b := Lib.hid (HD5.out.keep (below_alloc w5 (.cells #[.int .i64 (x : Int)] 2)))))
  have hx16 : ¬ 16 ≤ x := by omega
  have hy16 : ¬ 16 ≤ y := by omega
  have hset : intoL [(x : Int)] (y : Int) = natInts (bitsOf (2 ^ x ||| 2 ^ y)) := by
    rcases with_two (x := x) (y := y) with h | h | h
    · exact h
    · exact absurd h hx16
    · exact absurd h hy16
  have hslt : 2 ^ x ||| 2 ^ y < 2 ^ g.length := Nat.or_lt_two_pow (Nat.pow_lt_pow_right (by decide) hx) (Nat.pow_lt_pow_right (by decide) hy)
  have hs0 : 2 ^ x ||| 2 ^ y ≠ 0 := fun e => by
    have h1 := Nat.or_eq_zero_iff.1 e
    have h2 := Nat.two_pow_pos x
    omega
  rw [hset] at ho7 ⊢
  obtain ⟨s, hs⟩ : ∃ s, s = 2 ^ x ||| 2 ^ y := ⟨_, rfl⟩
  rw [← hs] at ho7 hslt hs0 ⊢
  have hs16 := (cand_bits (by omega) hslt).2
  have HSLT := Lib.hid hslt
  have HS0 := Lib.hid hs0
  have hm32 := bitsOf_length s
  simp only [natInts_length] at ho7 ⊢
  obtain ⟨m, hm⟩ : ∃ m, m = (bitsOf s).length := ⟨_, rfl⟩
  have HM := Lib.hid hm
  have hb67 := Lib.hid hb7
  have HSet : Hid (Nums w7 2 .i64 (.slice sp m sc) (natInts (bitsOf s))) := Lib.hid (by
    rw [hm]
    have := Nums.of_owns (xs := natInts (bitsOf s)) (K := .i64) ho7 (by rw [natInts_length]) (by omega)
    exact this)
  rw [← hm] at hm32 ⊢
  have HX7 := Lib.hid (((((HX4.out.diced HD4.out HG5.out (by decide)).keep (below_alloc w5 (.cells #[.int .i64 (x : Int)] 2))).diced HD5b.out HG6.out (by decide))).keep hb7)
  have HG7 := Lib.hid ((((((HS4.out.dicedM HD4.out HG5.out).below (below_alloc w5 (.cells #[.int .i64 (x : Int)] 2))).dicedM HD5b.out HG6.out)).below hb7).gr (by omega))
  have HW7 := Lib.hid (HD6.out.bel.trans (hb7.mono HD6.out.bel.size))
  have HT7 := Lib.hid (HT.out.keep HW7.out)
  have c7 := HX7.out.cell
  clear ho7 hb7 hb67 hset hs hx16 hy16 hx hy hm hslt hs0 HNX HD4 HD5 HD5b HD6 HG5 HG6 HS4 HX4
  go_upto_region 8 with (go_at_call 27; refine (implClosureOf_yes _ _ g s HOK.out HSLT.out HS0.out _ HG7.out HSet.out HT7.out).mono ?_; rintro e w8 ⟨cv, cl, rfl, hcl, ho8, hb8⟩; obtain ⟨cp, cc, rfl⟩ := owns_shapeA ho8)
  have HCL := Lib.hid hcl
  obtain ⟨hcl1, hcl2⟩ := cls_lt hcl HS0.out
  have hcl16 := (cand_bits (by omega) hcl1).2
  have HCLT := Lib.hid hcl1
  have HCL0 := Lib.hid hcl2
  have hq32 := bitsOf_length cl
  obtain ⟨q, hq⟩ : ∃ q, q = (bitsOf cl).length := ⟨_, rfl⟩
  have HQ := Lib.hid hq
  have HAll : Hid (Nums w8 2 .i64 (.slice cp q cc) (natInts (bitsOf cl))) := Lib.hid (by
    rw [hq]
    exact Nums.of_owns (xs := natInts (bitsOf cl)) (K := .i64) ho8 (by rw [natInts_length]) (by omega))
  rw [← hq] at hq32 ⊢
  have HX8 := Lib.hid (HX7.out.keep hb8)
  have HG8 := Lib.hid (HG7.out.below hb8)
  have HSet8 := Lib.hid (HSet.out.below hb8)
  have HW8 := Lib.hid (HW7.out.trans (hb8.mono HW7.out.size))
  have HT8 := Lib.hid (HT.out.keep HW8.out)
  have HMC := Lib.hid hcl.2
  have HDC := Lib.hid (dec_true hcl.2)
  have c8 := HX8.out.cell
  clear ho8 hb8 hcl hcl1 hcl2 hq c7 HX7 HG7 HW7 HT7 HSet
  go_upto_region 10 with (first
    | (go_at_call 30; refine (implSplitterOf_yes _ _ g cl HOK.out HCLT.out HCL0.out _ ((HG8.out.below hb9).below hb10) ((HAll.out.below hb9).below hb10) ((HT8.out.keep hb9).keep hb10)).mono ?_; rintro e w11 ⟨z, rfl, hz, hb11⟩; (obtain rfl : z = -1 := (by rcases hz with ⟨h, _⟩ | ⟨_, _, _, _, _, h⟩; exact h; exact absurd HMC.out h)); clear hz)
    | (go_at_call 29; refine (implModuleIn_yes _ _ g cl HOK.out HCLT.out HCL0.out _ (HG8.out.below hb9) (HAll.out.below hb9) (HT8.out.keep hb9)).mono ?_; rintro e w10 ⟨he, hb10⟩; rw [HDC.out] at he; subst he; have c10 := hb10.at' c9)
    | (go_at_call 28; refine (specModuleIn_yes _ _ g cl HOK.out HCLT.out HCL0.out _ HG8.out HAll.out).mono ?_; rintro e w9 ⟨he, hb9⟩; rw [HDC.out] at he; subst he; have c9 := hb9.at' c8))
  have HB11 := Lib.hid ((hb9.trans (hb10.mono hb9.size)).trans (hb11.mono (Nat.le_trans hb9.size hb10.size)))
  have HX11 := Lib.hid (HX8.out.keep HB11.out)
  have HG11 := Lib.hid (HG8.out.below HB11.out)
  have HSet11 := Lib.hid (HSet8.out.below HB11.out)
  have HAll11 := Lib.hid (HAll.out.below HB11.out)
  have HW11 := Lib.hid (HW8.out.trans (HB11.out.mono HW8.out.size))
  have HT11 := Lib.hid (HT.out.keep HW11.out)
  have c11 := HX11.out.cell
  clear hb9 hb10 hb11 c8 c9 c10 HX8 HG8 HSet8 HAll HW8 HT8 HB11
  go_upto_region 11 with (go_at_call 30; refine (implSplitterOf_yes _ _ g s HOK.out HSLT.out HS0.out _ HG11.out HSet11.out HT11.out).mono ?_; rintro e w12 ⟨z, rfl, hz, hb12⟩)
  have HX12 := Lib.hid (HX11.out.keep hb12)
  have HG12 := Lib.hid (HG11.out.below hb12)
  have HSet12 := Lib.hid (HSet11.out.below hb12)
  have HAll12 := Lib.hid (HAll11.out.below hb12)
  have HW12 := Lib.hid (HW11.out.trans (hb12.mono HW11.out.size))
  have HZ := Lib.hid hz
  clear hz hb12 c11 HX11 HG11 HSet11 HAll11 HW11 HT11
  go_upto_region 11 with fail
  go_cut [67] (fun v wx => v = .bool false ∧ Below w12.heap.size w12 wx)
  case first =>
    rcases HZ.out with ⟨rfl, hm⟩ | ⟨i, rfl, hi, hib, hsp, hm⟩
    · have HD := Lib.hid (dec_true (show natInts (bitsOf cl) = natInts (bitsOf s) by rw [(cls_self HCL.out).2 hm]))
      clear hm
      go_wp2_with (go_at_call 31; refine (likeInts_any _ _ _ _ _ HAll12.out HSet12.out).mono ?_; rintro e w13 ⟨he, hb13⟩; rw [HD.out] at he; subst he)
      go_meet
      exact ⟨rfl, hb13⟩
    · have HD := Lib.hid (dec_false (show ¬ natInts (bitsOf cl) = natInts (bitsOf s) from fun e => hm ((cls_self HCL.out).1 (bits_inj hcl16 hs16 e))))
      have hin : cl.testBit i = true := (ClI.start HSLT.out).spl hi hsp cl HMC.out HCL.out.1.sup
      have HD2 := Lib.hid (dec_true (show ((i : Nat) : Int) ∈ natInts (bitsOf cl) from mem_natInts.2 ⟨i, (mem_bitsOf' (by omega)).2 hin, rfl⟩))
      have hne1 : ((i : Int) == -1) = false := beq_eq_false_iff_ne.2 (by omega)
      have hne2 : ((i : Int) != -1) = true := bne_iff_ne.2 (by omega)
      clear hm hsp hib hin
      go_wp2_with (first
        | (go_at_call 32; refine (w9Has_any _ _ _ _ (HAll12.out.below hb13)).mono ?_; rintro e w14 ⟨he, hw14⟩; rw [HD2.out] at he; subst he; subst hw14)
        | (go_at_call 31; refine (likeInts_any _ _ _ _ _ HAll12.out HSet12.out).mono ?_; rintro e w13 ⟨he, hb13⟩; rw [HD.out] at he; subst he))
      go_meet
      exact ⟨rfl, hb13⟩
  case rest =>
  obtain ⟨rfl, hb13⟩ := hcut
  have HX13 := Lib.hid (HX12.out.keep hb13)
  have HG13 := Lib.hid (HG12.out.below hb13)
  have HSet13 := Lib.hid (HSet12.out.below hb13)
  have HW13 := Lib.hid (HW12.out.trans (hb13.mono HW12.out.size))
  have HT13 := Lib.hid (HT.out.keep HW13.out)
  have c13 := HX13.out.cell
  clear HZ hb13 HX12 HG12 HSet12 HAll12 HW12
  go_upto_region 14 with (go_at_call 33; refine (implModulesOf_any _ g _ HG13.out HT13.out).mono ?_; rintro e w14 ⟨u, gg, rfl, hmd, hdg, hgl, hgr, hb14⟩; obtain ⟨lp, lc, hu⟩ := hdg.shape; (obtain rfl : u = .slice lp gg.length lc := (by simpa using hu)))
  obtain ⟨L, HL, HGG⟩ : ∃ L, Hid (MdOn (ModN g) (2 ^ g.length) L) ∧ Hid (gg = L.map natInts) := by
    rcases hmd with ⟨_, L, h1, h2⟩ | ⟨h1, _⟩
    · exact ⟨L, Lib.hid h1, Lib.hid h2⟩
    · exact absurd ⟨HOK.out, by omega⟩ h1
  have HLL : Hid (gg.length = L.length) := Lib.hid (by rw [HGG.out, List.length_map])
  have HGR := Lib.hid (hdg.gr (by omega) (fun j _ => Nat.le_trans (hgr j) (by decide)))
  have HX14 := Lib.hid (HX13.out.keep hb14)
  have HG14 := Lib.hid (HG13.out.below hb14)
  have HSet14 := Lib.hid (HSet13.out.below hb14)
  have HW14 := Lib.hid (HW13.out.trans (hb14.mono HW13.out.size))
  have HT14 := Lib.hid (HT.out.keep HW14.out)
  have HROW : Hid (∀ j, j < gg.length → ∃ t, row gg j = natInts (bitsOf t) ∧ t ≠ 0 ∧ t < 2 ^ g.length ∧ ModN g t) := Lib.hid (fun j hj => by
    have hjL : j < L.length := by have := HLL.out; omega
    obtain ⟨t, t1, t2, t3, t4⟩ := (HL.out.mem L[j]).1 (List.getElem_mem hjL)
    refine ⟨t, ?_, by omega, t2, t3⟩
    rw [HGG.out, ← t4]
    simp [row, hjL])
  clear hmd hdg hgr hb14 c13 HX13 HG13 HSet13 HW13 HT13
  go_wp2
  go_loopw [10, 11, 12] (fun i _ _ wr => ∃ j : Nat, j ≤ gg.length ∧ i = .int .i64 j ∧ Hid (Below w14.heap.size w14 wr)) (fun i _ _ _ => gg.length - (intOf i).toNat)
  case atStart => exact ⟨0, Nat.zero_le _, rfl, Lib.hid (Below.refl _ _)⟩
  case round =>
    obtain ⟨j, hj, rfl, HB⟩ := hrel
    have HWr := Lib.hid (HW14.out.trans (HB.out.mono HW14.out.size))
    by_cases hlt : j < gg.length
    · obtain ⟨t, hrow, ht0, htlt, htm⟩ := HROW.out j hlt
      have HT0 := Lib.hid ht0
      have HTLT := Lib.hid htlt
      have HTM := Lib.hid htm
      have HDT := Lib.hid (dec_true htm)
      have ht16 := (cand_bits (by omega) htlt).2
      obtain ⟨_, eG, hRr⟩ := id (HGR.out.below HB.out)
      cases eG
      obtain ⟨rb, ro, rp, rc, hlp, hcr, hnr⟩ := hRr.get hlt
      subst hlp
      change wr.cell? _ = some (.slice rp (row gg j).length rc) at hcr
      change Nums wr _ _ (.slice rp (row gg j).length rc) (row gg j) at hnr
      rw [hrow, natInts_length] at hcr hnr
      have HNR := Lib.hid hnr
      obtain ⟨r, hr⟩ : ∃ r, r = (bitsOf t).length := ⟨_, rfl⟩
      have HRL := Lib.hid hr
      rw [← hr] at hcr HNR
      have HXr := Lib.hid (HX14.out.keep HB.out)
      have HGr := Lib.hid (HG14.out.below HB.out)
      have HSetr := Lib.hid (HSet14.out.below HB.out)
      have HCR := Lib.hid hcr
      have cxr := HXr.out.cell
      have hjc : (j : Int) < (gg.length : Int) := by omega
      clear hrow ht0 htlt htm hRr hnr hr
      go_upto_region 17 with fail
      go_cut [82] (fun v wx => v = .bool false ∧ Below wr.heap.size wr wx)
      case first =>
        go_region_held3 (fun w' => w'.cell? ⟨bx, 0, none⟩ = some (.slice gp g.length gc) ∧ w'.cell? ⟨rb, ro + j, none⟩ = some (.slice rp r rc))
          (first | go_keep | exact ⟨cxr, hcr⟩ | exact ⟨BWA.at' cxr, BWA.at' hcr⟩)
          (first
            | (go_at_call 28; refine (specModuleIn_yes _ _ g t HOK.out HTLT.out HT0.out _ (HGr.out.below (below_dN (Below.refl _ _) 1)) (HNR.out.below (below_dN (Below.refl _ _) 1))).mono ?_; rintro e wa ⟨he, hbq⟩; rw [HDT.out] at he; subst he; have BWA : Below wr.heap.size wr wa := (below_dN (Below.refl _ _) 1).trans hbq; clear hbq))
        all_goals go_wp2
        all_goals go_meet
        all_goals exact ⟨rfl, BWA⟩
      case rest =>
      obtain ⟨rfl, hbz⟩ := hcut
      have HBZ := Lib.hid (HB.out.trans (hbz.mono HB.out.size))
      obtain ⟨wo, hwo⟩ : ∃ wo, wo = wr := ⟨_, rfl⟩
      have HCRz := Lib.hid (hbz.at' hcr)
      have HNRz := Lib.hid (HNR.out.below hbz)
      have HSetz := Lib.hid (HSetr.out.below hbz)
      clear hbz hcr cxr hwo HCR HNR HSetr HXr HGr HB HWr
      go_wp2
      go_loopw [11, 12] (fun d k wx => ∃ (kk : Nat) (b : Bool), kk ≤ m ∧ k = .int .i64 kk ∧ d = .bool b ∧ Hid (b = true ↔ ∀ x ∈ (bitsOf s).take kk, x ∈ bitsOf t) ∧ Hid (Below wc.heap.size wc wx)) (fun _ k _ => m - (intOf k).toNat)
      case atStart => exact ⟨0, true, Nat.zero_le _, rfl, rfl, Lib.hid (by simp), Lib.hid (Below.refl _ _)⟩
      case round =>
        obtain ⟨kk, b, hkk, rfl, rfl, HBI, HBx⟩ := hrel
        by_cases hkm : kk < m
        · cases b
          · have HNX : Hid (false = true ↔ ∀ x ∈ (bitsOf s).take (kk + 1), x ∈ bitsOf t) := Lib.hid ⟨fun h => (by cases h), fun h => HBI.out.2 fun x hx => h x (List.take_subset_take_left _ (Nat.le_succ kk) hx)⟩
            go_upto_region 23 with fail
            refine wp_region_held_drew (S := (fun w' => True)) (by kernel_rfl) ?_ (fun hHeld => ?_)
            · trivial
            refine wpAnyH_take (i := 0) (v := .bool false) rfl (by kernel_rfl) (by kernel_rfl) (by kernel_rfl) (fun _ _ _ h => h) (Or.inl ⟨by rfl, ?_⟩) (by assumption) ?_
            · intro wz hSw; (try dsimp only at hSw); go_simp; try rfl
            try simp only [Act.put, List.getElem_toArray, List.getElem_cons_succ, List.getElem_cons_zero, List.setIfInBounds_toArray, List.set_cons_zero, List.set_cons_succ]
            refine wpAnyH_take (i := 1) (v := .bool false) rfl (by kernel_rfl) (by kernel_rfl) (by kernel_rfl) (fun _ _ _ h => h) (Or.inl ⟨by rfl, ?_⟩) (by assumption) ?_
            · intro wz hSw; (try dsimp only at hSw); go_simp; try rfl
            try simp only [Act.put, List.getElem_toArray, List.getElem_cons_succ, List.getElem_cons_zero, List.setIfInBounds_toArray, List.set_cons_zero, List.set_cons_succ]
            refine wpAnyH_take (i := 2) (v := undef) rfl (by kernel_rfl) (by kernel_rfl) (by kernel_rfl) (fun _ _ _ h => h) (Or.inr ⟨by kernel_rfl, rfl⟩) (by assumption) ?_
            try simp only [Act.put, List.getElem_toArray, List.getElem_cons_succ, List.getElem_cons_zero, List.setIfInBounds_toArray, List.set_cons_zero, List.set_cons_succ]
            refine wpAnyH_take (i := 3) (v := undef) rfl (by kernel_rfl) (by kernel_rfl) (by kernel_rfl) (fun _ _ _ h => h) (Or.inr ⟨by kernel_rfl, rfl⟩) (by assumption) ?_
            try simp only [Act.put, List.getElem_toArray, List.getElem_cons_succ, List.getElem_cons_zero, List.setIfInBounds_toArray, List.set_cons_zero, List.set_cons_succ]
            refine wpAnyH_take (i := 4) (v := undef) rfl (by kernel_rfl) (by kernel_rfl) (by kernel_rfl) (fun _ _ _ h => h) (Or.inr ⟨by kernel_rfl, rfl⟩) (by assumption) ?_
            try simp only [Act.put, List.getElem_toArray, List.getElem_cons_succ, List.getElem_cons_zero, List.setIfInBounds_toArray, List.set_cons_zero, List.set_cons_succ]
            refine wpAnyH_take (i := 5) (v := undef) rfl (by kernel_rfl) (by kernel_rfl) (by kernel_rfl) (fun _ _ _ h => h) (Or.inr ⟨by kernel_rfl, rfl⟩) (by assumption) ?_
            try simp only [Act.put, List.getElem_toArray, List.getElem_cons_succ, List.getElem_cons_zero, List.setIfInBounds_toArray, List.set_cons_zero, List.set_cons_succ]
            refine wpAnyH_take (i := 6) (v := undef) rfl (by kernel_rfl) (by kernel_rfl) (by kernel_rfl) (fun _ _ _ h => h) (Or.inr ⟨by kernel_rfl, rfl⟩) (by assumption) ?_
            try simp only [Act.put, List.getElem_toArray, List.getElem_cons_succ, List.getElem_cons_zero, List.setIfInBounds_toArray, List.set_cons_zero, List.set_cons_succ]
            refine wpAnyH_take (i := 7) (v := undef) rfl (by kernel_rfl) (by kernel_rfl) (by kernel_rfl) (fun _ _ _ h => h) (Or.inr ⟨by kernel_rfl, rfl⟩) (by assumption) ?_
            try simp only [Act.put, List.getElem_toArray, List.getElem_cons_succ, List.getElem_cons_zero, List.setIfInBounds_toArray, List.set_cons_zero, List.set_cons_succ]
            refine wpAnyH_take (i := 8) (v := undef) rfl (by kernel_rfl) (by kernel_rfl) (by kernel_rfl) (fun _ _ _ h => h) (Or.inr ⟨by kernel_rfl, rfl⟩) (by assumption) ?_
            try simp only [Act.put, List.getElem_toArray, List.getElem_cons_succ, List.getElem_cons_zero, List.setIfInBounds_toArray, List.set_cons_zero, List.set_cons_succ]
            refine wpAnyH_take (i := 9) (v := undef) rfl (by kernel_rfl) (by kernel_rfl) (by kernel_rfl) (fun _ _ _ h => h) (Or.inr ⟨by kernel_rfl, rfl⟩) (by assumption) ?_
            try simp only [Act.put, List.getElem_toArray, List.getElem_cons_succ, List.getElem_cons_zero, List.setIfInBounds_toArray, List.set_cons_zero, List.set_cons_succ]
            refine wpAnyH_take (i := 10) (v := undef) rfl (by kernel_rfl) (by kernel_rfl) (by kernel_rfl) (fun _ _ _ h => h) (Or.inr ⟨by kernel_rfl, rfl⟩) (by assumption) ?_
            try simp only [Act.put, List.getElem_toArray, List.getElem_cons_succ, List.getElem_cons_zero, List.setIfInBounds_toArray, List.set_cons_zero, List.set_cons_succ]
            refine wpAnyH_take (i := 11) (v := .bool false) rfl (by kernel_rfl) (by kernel_rfl) (by kernel_rfl) (fun _ _ _ h => h) (Or.inl ⟨by rfl, ?_⟩) (by assumption) ?_
            · intro wz hSw; (try dsimp only at hSw); go_simp; try rfl
            try simp only [Act.put, List.getElem_toArray, List.getElem_cons_succ, List.getElem_cons_zero, List.setIfInBounds_toArray, List.set_cons_zero, List.set_cons_succ]
            refine wpAnyH_take (i := 12) (v := .bool false) rfl (by kernel_rfl) (by kernel_rfl) (by kernel_rfl) (fun _ _ _ h => h) (Or.inl ⟨by rfl, ?_⟩) (by assumption) ?_
            · intro wz hSw; (try dsimp only at hSw); go_simp; try rfl
            try simp only [Act.put, List.getElem_toArray, List.getElem_cons_succ, List.getElem_cons_zero, List.setIfInBounds_toArray, List.set_cons_zero, List.set_cons_succ]
            refine wpAnyH_done (by kernel_rfl) ?_ _
            go_wp2
            go_roundw
            case rel => exact ⟨kk + 1, false, by omega, by go_num, rfl, HNX, Lib.hid (HBx.out.trans ((below_dN (Below.refl wr.heap.size wr) 1).mono HBx.out.size))⟩
            case measure => simp [intOf]; omega
          · have hks : kk < (bitsOf s).length := by have := HM.out; omega
            obtain ⟨sb, so, hsp, hcs⟩ := (HSetz.out.below HBx.out).get (k := kk) (by rw [natInts_length]; exact hks)
            subst hsp
            have hcn : (natInts (bitsOf s))[kk]'(by rw [natInts_length]; exact hks) = (((bitsOf s)[kk]'hks : Nat) : Int) := by simp [natInts]
            rw [hcn] at hcs
            have htk := Lib.hid (take_snoc (bitsOf s) kk hks)
            generalize (bitsOf s)[kk]'hks = xv at hcs htk
            have hcr := HBx.out.at' HCRz.out
            have HNRx := Lib.hid (HNRz.out.below HBx.out)
            have HNX : Hid (dec (((xv : Nat) : Int) ∈ natInts (bitsOf t)) = true ↔ ∀ x ∈ (bitsOf s).take (kk + 1), x ∈ bitsOf t) := Lib.hid (by
              rw [dec_iff, htk.out, mem_natInts]
              constructor
              · rintro ⟨i, hi, e⟩ x hx
                rcases List.mem_append.1 hx with hx | hx
                · exact HBI.out.1 rfl x hx
                · obtain rfl : x = xv := by simpa using hx
                  obtain rfl : i = x := by omega
                  exact hi
              · intro h
                exact ⟨xv, h xv (by simp), rfl⟩)
            have e0 : (0 : Int) ≤ (kk : Int) := by omega
            have e1 : (kk : Int) < (m : Int) := by omega
            clear hcn
            go_upto_region 23 with fail
            go_region_held3 (fun w' => w'.cell? ⟨rb, ro + j, none⟩ = some (.slice rp r rc) ∧ w'.cell? ⟨sb, so + kk, none⟩ = some (.int .i64 xv))
              (first | go_keep | exact ⟨hcr, hcs⟩ | exact ⟨BWA.at' hcr, BWA.at' hcs⟩)
              (first
                | (go_at_call 32; refine (w9Has_any _ _ _ _ (HNRx.out.below (below_dN (Below.refl _ _) 1))).mono ?_; rintro e wa ⟨he, hwa⟩; subst he; have BWA : Below wr.heap.size wr wa := hwa ▸ below_dN (Below.refl _ _) 1; clear hwa))
            all_goals go_wp2
            all_goals go_roundw
            all_goals first
              | exact ⟨kk + 1, _, by omega, by go_num, rfl, HNX, Lib.hid (HBx.out.trans (BWA.mono HBx.out.size))⟩
              | (simp [intOf]; omega)
        · obtain rfl : kk = m := by omega
          have htl : (bitsOf s).take kk = bitsOf s := by rw [HM.out, List.take_length]
          have hcr := HBx.out.at' HCRz.out
          have HBF := Lib.hid (HBZ.out.trans (HBx.out.mono HBZ.out.size))
          cases b
          · go_wp2
            go_roundw
            case rel => exact ⟨j + 1, by omega, by go_num, HBF⟩
            case measure => simp [intOf]; omega
          · have hsub : SubB s t := fun v hv => (mem_bitsOf' (by omega)).1 (HBI.out.1 rfl v (by rw [htl]; exact (mem_bitsOf' (by omega)).2 hv))
            have hge : ¬ (r : Int) < (q : Int) := by
              have h1 := bits_sub_len hcl16 ht16 (HCL.out.1.low t HTM.out hsub)
              have h2 := HRL.out
              have h3 := HQ.out
              omega
            clear hsub htl
            go_wp2
            go_roundw
            case rel => exact ⟨j + 1, by omega, by go_num, HBF⟩
            case measure => simp [intOf]; omega
    · obtain rfl : j = gg.length := by omega
      have cxr := (HX14.out.keep HB.out).cell
      have HGr := Lib.hid (HG14.out.below HB.out)
      have HTr := Lib.hid (HT14.out.keep HB.out)
      have hmn : (g.length : Int) ≤ (gg.length : Int) := by
        have := md_many (by omega) HL.out
        have := HLL.out
        omega
      have HPRM : Hid (2 ≤ g.length → (L.length = g.length + 1 ↔ ChNo (PrmP g) g.length 0 2 0)) := Lib.hid (fun h2 => by rw [md_prime h2 (by omega) HL.out, chNo_prm])
      have hwr : IntKind.i64.wrap ((g.length : Int) + 1) = (g.length : Int) + 1 := by rw [IntKind.wrap_i64]; omega
      by_cases h4 : 4 ≤ g.length
      · have h4i : (4 : Int) ≤ (g.length : Int) := by omega
        by_cases he : gg.length = g.length + 1
        · have hei : ((gg.length : Int) == (g.length : Int) + 1) = true := beq_iff_eq.2 (by omega)
          have HD := Lib.hid (dec_true (show 4 ≤ g.length ∧ ChNo (PrmP g) g.length 0 2 0 from ⟨h4, (HPRM.out (by omega)).1 (by have := HLL.out; omega)⟩))
          clear he h4
          go_wp2_with (go_at_call 34; refine (implPrimeIn_yes _ g HOK.out _ HGr.out HTr.out).mono ?_; rintro e w15 ⟨he, hb15⟩; rw [HD.out] at he; subst he)
          go_ret
          exact ⟨rfl, HWr.out.trans (hb15.mono HWr.out.size)⟩
        · have hei : ((gg.length : Int) == (g.length : Int) + 1) = false := beq_eq_false_iff_ne.2 (by omega)
          have HD := Lib.hid (dec_false (show ¬ (4 ≤ g.length ∧ ChNo (PrmP g) g.length 0 2 0) from fun h => he (by have := HLL.out; have := (HPRM.out (by omega)).2 h.2; omega)))
          clear he h4
          go_wp2_with (go_at_call 34; refine (implPrimeIn_yes _ g HOK.out _ HGr.out HTr.out).mono ?_; rintro e w15 ⟨he, hb15⟩; rw [HD.out] at he; subst he)
          go_ret
          exact ⟨rfl, HWr.out.trans (hb15.mono HWr.out.size)⟩
      · have h4i : ¬ (4 : Int) ≤ (g.length : Int) := by omega
        have HD := Lib.hid (dec_false (show ¬ (4 ≤ g.length ∧ ChNo (PrmP g) g.length 0 2 0) from fun h => h4 h.1))
        clear h4
        go_wp2_with (go_at_call 34; refine (implPrimeIn_yes _ g HOK.out _ HGr.out HTr.out).mono ?_; rintro e w15 ⟨he, hb15⟩; rw [HD.out] at he; subst he)
        go_ret
        exact ⟨rfl, HWr.out.trans (hb15.mono HWr.out.size)⟩

end Go.Proofs.YtmakhapdlkbbnaaDoor
