/- Walk: the law FnRenamedBack. -/
import Derived.Test.YtkppbmfliejnmaaDoorRbQ43
namespace Go.Proofs.YtkppbmfliejnmaaDoor
open Go.RowKit

set_option maxRecDepth 100000 in
set_option maxHeartbeats 8000000 in
theorem lawRenamedBack_any (v0 : Value) (bs : List Int) (W : World) (ha : ArgB W v0 bs) (hT : Tab W) :
    Calls Tryd.prog 5 #[v0] W fun e w' => e = .returned (.bool true) ∧ Below W.heap.size W w' := by
  obtain ⟨p, c, e0, _⟩ := id ha
  subst e0
  have HA := Lib.hid ha
  have HT := Lib.hid hT
  clear ha hT
  go_enter Tryd.func5, Tryd.ntmps5
  by_cases hbig : 4096 < bs.length
  · have hd := decide_eq_true hbig
    go_wp2_with (go_at_call 11; refine (big_any _ bs _ HA.out).mono ?_; rintro e w2 ⟨he, rfl⟩; rw [hd] at he; subst he)
    go_ret
    exact ⟨rfl, Below.refl _ _⟩
  have hd := decide_eq_false hbig
  have hl : bs.length ≤ 4096 := by omega
  clear hbig
  go_upto_region 5 with (first
    | (go_at_call 35; refine (w5Graph_any W db bs 8 _ rfl (by decide) (by decide) _ HD2.out HDL.out).mono ?_; rintro e w3 ⟨u, n, E, rfl, hn1, hn8, hse, hsg, hd3, hg3⟩; have HSE := Lib.hid hse; have HSG := Lib.hid hsg; have HD3 := Lib.hid hd3; have HG3 := Lib.hid hg3; obtain ⟨gp, gc, rfl⟩ := hsg.shape; clear hse hsg hd3 hg3)
    | (go_at_call 12; refine (roll_any _ bs _ hl _ HA.out).mono ?_; rintro e w2 ⟨db, rfl, hd2, hb2⟩; have HD2 := Lib.hid hd2; have HDL : Hid (db < w2.heap.size) := Lib.hid (by obtain ⟨_, _, _, h1, _⟩ := hd2.ex; exact h1.lt); clear hd2 hb2)
    | (go_at_call 11; refine (big_any _ bs _ HA.out).mono ?_; rintro e w1 ⟨he, rfl⟩; rw [hd] at he; subst he))
  obtain ⟨g, hga⟩ : ∃ g, g = matG n E := ⟨_, rfl⟩
  have hgl : g.length = n := by rw [hga, matG_length]
  have HOK : Hid (GOk g) := Lib.hid (by rw [hga]; exact gok_matG hn1 (by omega) HSE.out.1 HSE.out.2)
  rw [← hga] at HSG ⊢
  have hg8 : g.length ≤ 8 := by omega
  have hgp := HOK.out.pos
  obtain ⟨w4, hw4⟩ : ∃ w4, w4 = w3.alloc (.cells #[.slice gp g.length gc] 29) := ⟨_, rfl⟩
  rw [← hw4]
  have hb34 : Below w3.heap.size w3 w4 := by rw [hw4]; exact below_alloc _ _
  have HX4 : Hid (Box w4 w3.heap.size 29 (.slice gp g.length gc)) := Lib.hid (by rw [hw4]; exact Box.new _ _ _)
  have HG4 : Hid (Gr w4 (.agg #[.slice gp g.length gc]) g) := Lib.hid ((HSG.out.below hb34).gr (by omega))
  have HD4 := Lib.hid (HD3.out.keep hb34)
  have HDL4 : Hid (db < w4.heap.size) := Lib.hid (by have h1 := HDL.out; have h2 := HG3.out.size; have h3 := hb34.size; omega)
  have c4 := HX4.out.cell
  obtain ⟨bg, hbg⟩ : ∃ bg, bg = w3.heap.size := ⟨_, rfl⟩
  rw [← hbg] at HX4 c4 ⊢
  clear hga hw4 hb34 HSG hn8 hgl hn1 HD2 HDL HD3 HSE hd HG3 hbg
  go_upto_region 7 with (go_at_call 36; refine (w5Order_any W db bs g.length _ rfl (by omega) _ HD4.out HDL4.out).mono ?_; rintro e w5 ⟨ov, o, rfl, hol, hond, hoin, hdw⟩; have HDW := Lib.hid hdw; have HON := Lib.hid hond; have HOI := Lib.hid hoin; have HOL := Lib.hid hol; have HX5 := Lib.hid (HX4.out.diced HD4.out hdw.gr (by decide)); have HG5 := Lib.hid (Gr.dicedR HD4.out hdw.gr HG4.out); have HDL5 : Hid (db < w5.heap.size) := Lib.hid (Nat.lt_of_lt_of_le HDL4.out hdw.gr.size); clear hdw hond hoin hol)
  have HNO : Hid (Nums w5 2 .i64 ov (natInts o)) := Lib.hid (Nums.of_owns HDW.out.own rfl (by rw [natInts_length, HOL.out]; omega))
  obtain ⟨op, oc, hov, _⟩ := id HNO.out.shape
  rw [natInts_length, HOL.out] at hov
  subst hov
  clear HX4 HG4 HD4 HDL4 c4
  go_wp2_with (at_make; refine wpList_mk ty_i64 rfl rfl rfl g.length rfl rfl rfl rfl (by omega) ?_; intro w6 hown6 hg6)
  have hb56 := grown_below hg6
  have START : Hid (w6.ownsRow w5.heap.size 2 1 (.slice (some ⟨w5.heap.size, 0, none⟩) g.length g.length) g.length ((natInts (List.replicate g.length 0)).map (Value.int .i64))) := Lib.hid (by
    have h := hown6
    rw [show (natInts (List.replicate g.length 0)).map (Value.int .i64) = List.replicate g.length (.int .i64 0) by simp [natInts]]
    exact h)
  have START2 := Lib.hid hb56
  clear hown6 hg6 hb56
  go_wp2_with fail
  go_loopw [8] (fun iv wr => ∃ (i : Nat) (B : List Nat), i ≤ g.length ∧ iv = .int .i64 (i : Int) ∧ B.length = g.length ∧ Hid (∀ j, j < i → B.getD (o.getD j 0) 0 = j) ∧ wr.ownsRow w5.heap.size 2 1 (.slice (some ⟨w5.heap.size, 0, none⟩) g.length g.length) g.length ((natInts B).map (Value.int .i64)) ∧ Below w5.heap.size w5 wr) (fun iv _ => g.length - (intOf iv).toNat)
  case atStart => exact ⟨0, _, Nat.zero_le _, rfl, by simp, Lib.hid (fun j hj => absurd hj (Nat.not_lt_zero _)), START.out, START2.out⟩
  case round =>
    clear START START2
    obtain ⟨i, B, hi, rfl, hBl, HINV, hown, hb⟩ := hrel
    have HOW := Lib.hid hown
    have HB := Lib.hid hb
    have HBL := Lib.hid hBl
    by_cases hlt : i < g.length
    · have hio : i < o.length := by rw [HOL.out]; exact hlt
      obtain ⟨x, hx⟩ : ∃ x, x = o[i] := ⟨_, rfl⟩
      have hxn : x < g.length := by rw [hx]; exact HOI.out _ (List.getElem_mem hio)
      obtain ⟨qb, qo, hqp, hq⟩ := (HNO.out.below hb).get (k := i) (by rw [natInts_length]; exact hio)
      subst hqp
      have e1 : (natInts o)[i]'(by rw [natInts_length]; exact hio) = (x : Int) := by rw [hx]; simp [natInts]
      rw [e1] at hq
      obtain ⟨q, hqc⟩ : ∃ q, wr.cell? ⟨w5.heap.size, x, none⟩ = some q := ⟨_, (hown.cellAt x (show x < g.length * 1 by omega)).trans (List.getElem?_eq_getElem (by rw [List.length_map, natInts_length, hBl]; exact hxn))⟩
      have hfz := hown.frozenAt x
      have hlo := Nat.le_refl w5.heap.size
      have HST : Hid ((wr.setCell ⟨w5.heap.size, x, none⟩ (.int .i64 (i : Int))).ownsRow w5.heap.size 2 1 (.slice (some ⟨w5.heap.size, 0, none⟩) g.length g.length) g.length ((natInts (B.set x i)).map (Value.int .i64))) := Lib.hid (by
        have h1 := (hown.stored x (.int .i64 (i : Int))).1
        rw [← natInts_set, List.map_set]
        exact h1)
      have HSB : Hid (Below w5.heap.size w5 (wr.setCell ⟨w5.heap.size, x, none⟩ (.int .i64 (i : Int)))) := Lib.hid (hb.setCell (p := ⟨w5.heap.size, x, none⟩) hlo _)
      have HNV : Hid (∀ j, j < i + 1 → (B.set x i).getD (o.getD j 0) 0 = j) := Lib.hid (fun j hj => by
        by_cases e : j = i
        · subst e
          rw [show o.getD j 0 = x by rw [List.getD_eq_getElem?_getD, List.getElem?_eq_getElem hio, hx]; rfl, List.getD_eq_getElem?_getD, List.getElem?_set]
          rw [if_pos rfl, if_pos (by omega)]; rfl
        · have hjo : j < o.length := by omega
          have h3 := HINV.out j (by omega)
          have e2 : o.getD j 0 = o[j] := by rw [List.getD_eq_getElem?_getD, List.getElem?_eq_getElem hjo]; rfl
          have hne : x ≠ o[j] := by
            rw [hx]
            intro h
            rcases Nat.lt_or_gt_of_ne e with h1 | h1
            · exact (List.pairwise_iff_getElem.1 HON.out) j i hjo hio h1 h.symm
            · exact (List.pairwise_iff_getElem.1 HON.out) i j hio hjo h1 h
          rw [e2] at h3 ⊢
          rw [List.getD_eq_getElem?_getD, List.getElem?_set, if_neg hne, ← List.getD_eq_getElem?_getD]
          exact h3)
      clear hx e1 hown hb hBl
      go_wp2_with fail
      go_roundw
      case rel => exact ⟨i + 1, B.set x i, by omega, by go_num, by rw [List.length_set]; exact HBL.out, HNV, HST.out, HSB.out⟩
      case measure => simp [intOf]; omega
    · obtain rfl : i = g.length := by omega
      have HBK := Lib.hid (BackOf.of HOL.out HON.out HOI.out HBL.out HINV.out)
      have HNB : Hid (Nums wr 2 .i64 (.slice (some ⟨w5.heap.size, 0, none⟩) g.length g.length) (natInts B)) := Lib.hid (Nums.of_owns hown (by rw [natInts_length, hBl]) (by omega))
      have HNO8 := Lib.hid (HNO.out.below hb)
      have HX8 := Lib.hid (HX5.out.keep hb)
      have HG8 := Lib.hid (HG5.out.below hb)
      have HD8 := Lib.hid (HDW.out.dice.keep hb)
      have HDL8 : Hid (db < wr.heap.size) := Lib.hid (Nat.lt_of_lt_of_le HDL5.out hb.size)
      have HT8 := Lib.hid (HT.out.keep HD8.out.bel)
      have c8 := HX8.out.cell
      obtain ⟨x, hx⟩ : ∃ x, x = indL g (natInts o) := ⟨_, rfl⟩
      have hxl : x.length = g.length := by rw [hx]; unfold indL; rw [matG_length, natInts_length, HOL.out]
      have HXOK : Hid (GOk x) := Lib.hid (by rw [hx]; exact indL_gok HOK.out HOI.out (by rw [HOL.out]; omega) (by rw [HOL.out]; omega))
      have HXB : Hid (indL x (natInts B) = g) := Lib.hid (by rw [hx]; exact ind_back HOK.out HOL.out HBL.out HBK.out.bin HBK.out.inv)
      have HXE := Lib.hid hx
      have REN : Hid (∀ wz (lv : Value), Gr wz (.agg #[.slice gp g.length gc]) g → Nums wz 2 .i64 lv (natInts o) → Tab wz → Calls Tryd.prog 37 #[.agg #[.slice gp g.length gc], lv] wz fun e w' => ∃ p c, e = .returned (.tuple #[.agg #[.slice p g.length c], .bool true]) ∧ Gr w' (.agg #[.slice p g.length c]) x ∧ Below wz.heap.size wz w') := Lib.hid (fun wz lv hz hn ht => by
        refine (implRenamed_any _ lv g (natInts o) wz hz hn ht).mono ?_
        rintro e w' ⟨u, gg, ok, rfl, hs, hdg, hl16, hr16, hbz⟩
        rcases hs with ⟨rfl, _, _, rfl⟩ | ⟨_, _, h3⟩
        · obtain ⟨p, c, rfl⟩ := hdg.shape
          rw [← hx] at hdg ⊢
          rw [hxl] at hdg ⊢
          exact ⟨p, c, rfl, hdg.gr (by omega) (fun j _ => Nat.le_trans (by rw [hx]; exact hr16 j) (by decide)), hbz⟩
        · exact absurd ⟨HOK.out, HBK.out.ord⟩ h3)
      have REN2 : Hid (∀ wz (xp : Option Addr) (xc : Nat) (lv : Value), Gr wz (.agg #[.slice xp g.length xc]) x → Nums wz 2 .i64 lv (natInts B) → Tab wz → Calls Tryd.prog 37 #[.agg #[.slice xp g.length xc], lv] wz fun e w' => ∃ p c, e = .returned (.tuple #[.agg #[.slice p g.length c], .bool true]) ∧ Gr w' (.agg #[.slice p g.length c]) g ∧ Below wz.heap.size wz w') := Lib.hid (fun wz xp xc lv hz hn ht => by
        refine (implRenamed_any _ lv x (natInts B) wz hz hn ht).mono ?_
        rintro e w' ⟨u, gg, ok, rfl, hs, hdg, hl16, hr16, hbz⟩
        rcases hs with ⟨rfl, _, _, e2⟩ | ⟨_, _, h3⟩
        · rw [HXB.out] at e2
          subst e2
          obtain ⟨p, c, rfl⟩ := hdg.shape
          exact ⟨p, c, rfl, hdg.gr (by omega) (fun j _ => Nat.le_trans (hr16 j) (by decide)), hbz⟩
        · exact absurd ⟨HXOK.out, by rw [hxl]; exact HBK.out.bord⟩ h3)
      have SAME : Hid (∀ wz (u v : Value), Gr wz u g → Gr wz v g → Calls Tryd.prog 40 #[u, v] wz fun e w' => e = .returned (.bool true) ∧ Below wz.heap.size wz w') := Lib.hid (fun wz u v hu hv => by
        refine (implSameGraph_any u v g g wz hu hv).mono ?_
        rintro e w' ⟨rfl, hb⟩
        exact ⟨ret_bool (dec_true ⟨HOK.out, HOK.out, rfl⟩), hb⟩)
      have ALK : Hid (∀ wz (u v : Value), Gr wz u g → Gr wz v x → Tab wz → Calls Tryd.prog 42 #[u, v] wz fun e w' => ∃ r, e = .returned (.tuple #[r, .bool true]) ∧ Below wz.heap.size wz w') := Lib.hid (fun wz u v hu hv ht => by
        refine (implAlikeIn_any u v g x wz hu hv ht).mono ?_
        rintro e w' ⟨r, l, ok, rfl, hs, _, hb⟩
        rcases hs with ⟨rfl, _⟩ | ⟨_, _, h3⟩
        · exact ⟨r, rfl, hb⟩
        · exfalso
          refine h3 ⟨HOK.out, HXOK.out, hg8, hxl.symm, ?_⟩
          cases e : fitF g.length (ofG g) (ofG x) x.length [] with
          | some l => exact ⟨l, rfl⟩
          | none =>
            refine absurd ?_ (fitF_none x.length [] e o (by rw [HOL.out, hxl]) HOI.out)
            rw [hx]
            exact fit_order HON.out)
      clear hown hb hBl hx hi hlt HINV HOW HB HX5 HG5 HDW HDL5 HA HNO HXB HXE
      go_upto_region 13 with (go_at_call 37; refine (REN.out _ _ HG8.out HNO8.out HT8.out).mono ?_; rintro e w9 ⟨xp, xc, rfl, hx9, hb9⟩)
      obtain ⟨wa, hwa⟩ : ∃ wa, wa = w9.alloc (.cells #[.slice xp g.length xc] 29) := ⟨_, rfl⟩
      rw [← hwa]
      have hba : Below w9.heap.size w9 wa := by rw [hwa]; exact below_alloc _ _
      have HXA : Hid (Box wa w9.heap.size 29 (.slice xp g.length xc)) := Lib.hid (by rw [hwa]; exact Box.new _ _ _)
      have HGXA := Lib.hid (hx9.below hba)
      have HBA := Lib.hid (hb9.trans (hba.mono hb9.size))
      have HXGA := Lib.hid (HX8.out.keep HBA.out)
      have HGA := Lib.hid (HG8.out.below HBA.out)
      have HDA := Lib.hid (HD8.out.keep HBA.out)
      have HTA := Lib.hid (HT8.out.keep HBA.out)
      have HNBA := Lib.hid (HNB.out.below HBA.out)
      have HDLA : Hid (db < wa.heap.size) := Lib.hid (Nat.lt_of_lt_of_le HDL8.out HBA.out.size)
      have ca := HXA.out.cell
      obtain ⟨bx, hbx⟩ : ∃ bx, bx = w9.heap.size := ⟨_, rfl⟩
      rw [← hbx] at HXA ca ⊢
      clear hwa hba hx9 hb9 hbx c8 HX8 HG8 HD8 HT8 HNB HDL8 HNO8 REN HBA
      go_upto_region 14 with (go_at_call 37; refine (REN2.out _ _ _ _ HGXA.out HNBA.out HTA.out).mono ?_; rintro e wb ⟨yp, yc, rfl, hyb, hbb⟩)
      obtain ⟨wc, hwc⟩ : ∃ wc, wc = wb.alloc (.cells #[.slice yp g.length yc] 29) := ⟨_, rfl⟩
      rw [← hwc]
      have hbc : Below wb.heap.size wb wc := by rw [hwc]; exact below_alloc _ _
      have HXYC : Hid (Box wc wb.heap.size 29 (.slice yp g.length yc)) := Lib.hid (by rw [hwc]; exact Box.new _ _ _)
      have HGYC := Lib.hid (hyb.below hbc)
      have HBC := Lib.hid (hbb.trans (hbc.mono hbb.size))
      have HXGC := Lib.hid (HXGA.out.keep HBC.out)
      have HXXC := Lib.hid (HXA.out.keep HBC.out)
      have HGC := Lib.hid (HGA.out.below HBC.out)
      have HGXC := Lib.hid (HGXA.out.below HBC.out)
      have HDC := Lib.hid (HDA.out.keep HBC.out)
      have HDLC : Hid (db < wc.heap.size) := Lib.hid (Nat.lt_of_lt_of_le HDLA.out HBC.out.size)
      obtain ⟨by', hby⟩ : ∃ by', by' = wb.heap.size := ⟨_, rfl⟩
      rw [← hby] at HXYC ⊢
      clear hwc hbc hyb hbb hby ca HXGA HXA HGA HGXA HDA HTA HNBA HDLA REN2 HBC
      go_upto_region 15 with (go_at_call 38; refine (w5Set_any W db bs g.length _ rfl (by omega) _ HDC.out HDLC.out).mono ?_; rintro e we ⟨sv, S, rfl, hsl, hsr, hsi, hdw⟩; have HSR := Lib.hid hsr; have HSI := Lib.hid hsi; have HNS : Hid (Nums we 2 .i64 sv (natInts S)) := Lib.hid (Nums.of_owns hdw.own rfl (by rw [natInts_length]; omega)); have HDE := Lib.hid hdw.dice; have HGE := Lib.hid hdw.gr; clear hdw hsr hsi)
      have HXG := Lib.hid (HXGC.out.diced HDC.out HGE.out (by decide))
      have HXX := Lib.hid (HXXC.out.diced HDC.out HGE.out (by decide))
      have HXY := Lib.hid (HXYC.out.diced HDC.out HGE.out (by decide))
      have HGG := Lib.hid (Gr.dicedR HDC.out HGE.out HGC.out)
      have HGX := Lib.hid (Gr.dicedR HDC.out HGE.out HGXC.out)
      have HGY := Lib.hid (Gr.dicedR HDC.out HGE.out HGYC.out)
      have HWE := Lib.hid HDE.out.bel
      have HTE := Lib.hid (HT.out.keep HWE.out)
      obtain ⟨sp, sc, hsv, _⟩ := id HNS.out.shape
      rw [natInts_length] at hsv
      subst hsv
      have cg := HXG.out.cell
      clear HXGC HXXC HXYC HGC HGXC HGYC HDC HDLC HDE HGE HT
      obtain ⟨bS, hbS⟩ : ∃ bS, bS = decide (S.length > 0) := ⟨_, rfl⟩
      have HBS : Hid ((!bS == decide (0 < S.length)) = false) := Lib.hid (by rw [hbS]; cases (decide (S.length > 0)) <;> rfl)
      have IND : Hid (∀ wz, Gr wz (.agg #[.slice gp g.length gc]) g → Nums wz 2 .i64 (.slice sp S.length sc) (natInts S) → Tab wz → Calls Tryd.prog 39 #[.agg #[.slice gp g.length gc], .slice sp S.length sc] wz fun e w' => ∃ (p : Option Addr) (k c : Nat) (pg : List (List Int)), e = .returned (.tuple #[.agg #[.slice p k c], .bool bS]) ∧ (0 < S.length → pg = indL g (natInts S)) ∧ Gr w' (.agg #[.slice p k c]) pg ∧ Below wz.heap.size wz w') := Lib.hid (fun wz hz hn ht => by
        by_cases h0 : S.length = 0
        · obtain rfl : S = [] := List.eq_nil_of_length_eq_zero h0
          refine (implInduced_nil _ g sp sc HOK.out wz hz hn).mono ?_
          rintro e w' ⟨rfl, hb⟩
          exact ⟨none, 0, 0, [], by rw [hbS]; rfl, fun h => absurd h (by simp), ⟨_, rfl, [], rfl, Sl.nothing _ _ _ _ (fun _ => rfl), fun j hj => by simp at hj⟩, hb⟩
        · have hset : SetIn g.length (natInts S) := ⟨fun x hx => by
            obtain ⟨i, hi, rfl⟩ := mem_natInts.1 hx
            have := HSI.out i hi
            omega, List.Pairwise.map _ (fun a b h => by omega) HSR.out⟩
          refine (implInduced_yes _ _ g S HOK.out hset (fun e => h0 (by rw [e]; rfl)) wz hz hn ht).mono ?_
          rintro e w' ⟨u, rfl, hdg, hb⟩
          obtain ⟨p, c, rfl⟩ := hdg.shape
          have hl : (indL g (natInts S)).length = S.length := by unfold indL; rw [matG_length, natInts_length]
          exact ⟨p, _, c, _, by rw [hbS, show decide (S.length > 0) = true by simp; omega], fun _ => rfl, hdg.gr (by omega) (fun j _ => Nat.le_trans (matG_row_le j) (by rw [natInts_length]; omega)), hb⟩)
      clear hbS
      go_upto_region 16 with (go_at_call 39; refine (IND.out _ HGG.out HNS.out HTE.out).mono ?_; rintro e wf ⟨pp, pk, pc, pg, rfl, hpg, hgp2, hbf⟩)
      obtain ⟨wg, hwg⟩ : ∃ wg, wg = wf.alloc (.cells #[.slice pp pk pc] 29) := ⟨_, rfl⟩
      rw [← hwg]
      have hbfg : Below wf.heap.size wf wg := by rw [hwg]; exact below_alloc _ _
      have HXPG : Hid (Box wg wf.heap.size 29 (.slice pp pk pc)) := Lib.hid (by rw [hwg]; exact Box.new _ _ _)
      have HGP := Lib.hid (hgp2.below hbfg)
      have HBG := Lib.hid (hbf.trans (hbfg.mono hbf.size))
      have HXG2 := Lib.hid (HXG.out.keep HBG.out)
      have HXX2 := Lib.hid (HXX.out.keep HBG.out)
      have HXY2 := Lib.hid (HXY.out.keep HBG.out)
      have HGG2 := Lib.hid (HGG.out.below HBG.out)
      have HGX2 := Lib.hid (HGX.out.below HBG.out)
      have HGY2 := Lib.hid (HGY.out.below HBG.out)
      have HNS2 := Lib.hid (HNS.out.below HBG.out)
      have HTG := Lib.hid (HTE.out.keep HBG.out)
      have HWG := Lib.hid (HWE.out.trans (HBG.out.mono HWE.out.size))
      have HPG := Lib.hid hpg
      have cg2 := HXG2.out.cell
      have cx2 := HXX2.out.cell
      have cy2 := HXY2.out.cell
      have cp2 := HXPG.out.cell
      obtain ⟨bp, hbp⟩ : ∃ bp, bp = wf.heap.size := ⟨_, rfl⟩
      rw [← hbp] at HXPG cp2 ⊢
      have hbne := HBS.out
      clear hwg hbfg hgp2 hbf hpg hbp cg HXG HXX HXY HGG HGX HGY HNS HTE HWE IND HBG
      go_upto_region 18 with (go_at_call 40; refine (SAME.out _ _ _ HGY2.out HGG2.out).mono ?_; rintro e wh ⟨rfl, hbh⟩; have HBH := Lib.hid hbh; clear hbh)
      have HXG3 := Lib.hid (HXG2.out.keep HBH.out)
      have HXX3 := Lib.hid (HXX2.out.keep HBH.out)
      have HXP3 := Lib.hid (HXPG.out.keep HBH.out)
      have HGG3 := Lib.hid (HGG2.out.below HBH.out)
      have HGX3 := Lib.hid (HGX2.out.below HBH.out)
      have HGP3 := Lib.hid (HGP.out.below HBH.out)
      have HNS3 := Lib.hid (HNS2.out.below HBH.out)
      have HT3 := Lib.hid (HTG.out.keep HBH.out)
      have HW3 := Lib.hid (HWG.out.trans (HBH.out.mono HWG.out.size))
      clear cg2 cx2 cy2 cp2 HXG2 HXX2 HXY2 HXPG HGG2 HGX2 HGY2 HGP HNS2 HTG HWG HBH HBS hbne SAME
      go_wp2_with fail
      go_loopw [16, 17] (fun iv _ wr => ∃ i : Nat, i ≤ S.length ∧ iv = .int .i64 (i : Int) ∧ Below wh.heap.size wh wr) (fun iv _ _ => S.length - (intOf iv).toNat)
      case atStart => exact ⟨0, Nat.zero_le _, rfl, Below.refl _ _⟩
      case round =>
        obtain ⟨i, hi, rfl, hbi⟩ := hrel
        have HBI := Lib.hid hbi
        clear hbi
        by_cases hil : i < S.length
        · obtain ⟨wo, hwo⟩ : ∃ wo, wo = wr := ⟨_, rfl⟩
          go_wp2_with fail
          go_loopw [17] (fun kv wx => ∃ k : Nat, k ≤ S.length ∧ kv = .int .i64 (k : Int) ∧ Below wo.heap.size wo wx) (fun kv _ => S.length - (intOf kv).toNat)
          case atStart => exact ⟨0, Nat.zero_le _, rfl, by rw [hwo]; exact Below.refl _ _⟩
          case round =>
            rw [← hwo] at HBI
            clear hwo
            obtain ⟨k, hk, rfl, hbk⟩ := hrel
            have HBK2 := Lib.hid (HBI.out.trans (hbk.mono HBI.out.size))
            have HBJ := Lib.hid hbk
            clear hbk
            by_cases hkl : k < S.length
            · obtain ⟨qb, qo, hqp, hqi⟩ := (HNS3.out.below HBK2.out).get (k := i) (by rw [natInts_length]; exact hil)
              subst hqp
              obtain ⟨_, _, e2, hqk⟩ := (HNS3.out.below HBK2.out).get (k := k) (by rw [natInts_length]; exact hkl)
              cases e2
              obtain ⟨si, hsi⟩ : ∃ si, si = S[i] := ⟨_, rfl⟩
              obtain ⟨sk, hsk⟩ : ∃ sk, sk = S[k] := ⟨_, rfl⟩
              have e1 : (natInts S)[i]'(by rw [natInts_length]; exact hil) = (si : Int) := by rw [hsi]; simp [natInts]
              have e2 : (natInts S)[k]'(by rw [natInts_length]; exact hkl) = (sk : Int) := by rw [hsk]; simp [natInts]
              rw [e1] at hqi
              rw [e2] at hqk
              have heq := edg_ind HOK.out HSI.out (by omega) hil hkl
              rw [← HPG.out (by omega), ← hsi, ← hsk] at heq
              obtain ⟨dq, hdq⟩ : ∃ dq, dq = dec (EdgP g (si : Int) (sk : Int)) := ⟨_, rfl⟩
              have HD1 : Hid (dec (EdgP pg (i : Int) (k : Int)) = dq) := Lib.hid (by rw [hdq]; exact dec_congr heq)
              have HD2 : Hid (dec (EdgP g (si : Int) (sk : Int)) = dq) := Lib.hid hdq.symm
              have dg := (HXG3.out.keep HBK2.out).cell
              have dp := (HXP3.out.keep HBK2.out).cell
              have HGr := Lib.hid (HGG3.out.below HBK2.out)
              have HGq := Lib.hid (HGP3.out.below HBK2.out)
              have e3 : (k : Int) < (S.length : Int) := by omega
              have e4 : (i : Int) < (S.length : Int) := by omega
              have hdn : (dq != dq) = false := bne_self_eq_false ..
              clear e1 e2 hsi hsk heq hdq
              go_upto_region 24 with fail
              go_cut [112] (fun s wx => s = .bool false ∧ Below wr.heap.size wr wx)
              case first =>
                go_region_held3 (fun w' => w'.cell? ⟨bp, 0, none⟩ = some (.slice pp pk pc) ∧ w'.cell? ⟨bg, 0, none⟩ = some (.slice gp g.length gc) ∧ w'.cell? ⟨qb, qo + i, none⟩ = some (.int .i64 (si : Int)) ∧ w'.cell? ⟨qb, qo + k, none⟩ = some (.int .i64 (sk : Int)))
                  (first | exact ⟨dp, dg, hqi, hqk⟩ | go_keep | exact ⟨BWB.at' dp, BWB.at' dg, BWB.at' hqi, BWB.at' hqk⟩ | exact ⟨BWA.at' dp, BWA.at' dg, BWA.at' hqi, BWA.at' hqk⟩)
                  (first
                    | (go_at_call 31; refine (specEdgeInC_any _ g _ _ _ (HGr.out.below BWA)).mono ?_; rintro e wy ⟨he, hbq⟩; rw [HD2.out] at he; subst he; have BWB : Below wr.heap.size wr wy := BWA.trans (hbq.mono BWA.size); clear hbq)
                    | (go_at_call 41; refine (implEdgeInC_any _ pg _ _ _ (HGq.out.below (below_dN (Below.refl _ _) 1))).mono ?_; rintro e wz ⟨he, hbq⟩; rw [HD1.out] at he; subst he; have BWA : Below wr.heap.size wr wz := (below_dN (Below.refl _ _) 1).trans hbq; clear hbq))
                all_goals go_wp2
                all_goals go_meet
                all_goals exact ⟨by first | rfl | (rw [hdn]) | simp, BWB⟩
              case rest =>
              obtain ⟨rfl, hbz⟩ := hcut
              go_wp2_with fail
              go_roundw
              case rel => exact ⟨k + 1, by omega, by go_num, HBJ.out.trans (hbz.mono HBJ.out.size)⟩
              case measure => simp [intOf]; omega
            · obtain rfl : k = S.length := by omega
              go_wp2_with fail
              go_roundw
              case rel => exact ⟨i + 1, by omega, by go_num, HBK2.out⟩
              case measure => simp [intOf]; omega
        · obtain rfl : i = S.length := by omega
          have dg := (HXG3.out.keep HBI.out).cell
          have dx := (HXX3.out.keep HBI.out).cell
          clear hi hil
          go_wp2_with (go_at_call 42; refine (ALK.out _ _ _ (HGG3.out.below HBI.out) (HGX3.out.below HBI.out) (HT3.out.keep HBI.out)).mono ?_; rintro e wi ⟨r, rfl, hbz⟩)
          go_ret
          exact ⟨rfl, HW3.out.trans ((HBI.out.trans (hbz.mono HBI.out.size)).mono HW3.out.size)⟩

end Go.Proofs.YtkppbmfliejnmaaDoor
