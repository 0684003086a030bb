/- Walk: the law FnParts. -/
import Derived.Test.YtjdlmjmhlbpooaaDoorPtQ34
import Derived.Test.YtjdlmjmhlbpooaaDoorPtQ35
import Derived.Test.YtjdlmjmhlbpooaaDoorPtQ42
import Derived.Test.YtjdlmjmhlbpooaaDoorPtQ40
import Derived.Test.YtjdlmjmhlbpooaaDoorPtQ37
namespace Go.Proofs.YtjdlmjmhlbpooaaDoor
open Go.RowKit

theorem toNat_natInts (l : List Nat) : (natInts l).map Int.toNat = l := by
  unfold natInts
  rw [List.map_map]
  conv => rhs; rw [← List.map_id l]
  exact List.map_congr_left fun x _ => by simp
theorem setIn_part {n : Nat} {p : List Nat} (hr : p.Pairwise (· < ·)) (hn : ∀ x ∈ p, x < n) : SetIn n (natInts p) := by
  refine ⟨fun x hx => ?_, ?_⟩
  · obtain ⟨i, hi, rfl⟩ := mem_natInts.1 hx
    have := hn i hi
    omega
  · unfold natInts
    rw [List.pairwise_map]
    exact hr.imp fun h => by omega
def totL (ps : List (List Nat)) (j : Nat) : Nat := ((ps.take j).map List.length).sum
theorem totL_succ {ps : List (List Nat)} {j : Nat} (h : j < ps.length) : totL ps (j + 1) = totL ps j + ps[j].length := by
  unfold totL
  rw [List.take_succ_eq_append_getElem h, List.map_append, List.sum_append]
  simp
theorem totL_le {ps : List (List Nat)} {j : Nat} : totL ps j ≤ (ps.map List.length).sum := by
  unfold totL
  conv => rhs; rw [← List.take_append_drop j ps]
  rw [List.map_append, List.sum_append]
  omega

set_option maxRecDepth 100000 in
set_option maxHeartbeats 8000000 in
theorem lawParts_any (v0 : Value) (bs : List Int) (W : World) (ha : ArgB W v0 bs) (hT : Tab W) :
    Calls Tryd.prog 5 #[v0] W fun e w' => e = .returned (.bool true) ∧ Below W.heap.size W w' := by
  obtain ⟨p, c, e0, _⟩ := id ha
  subst e0
  have HA := Lib.hid ha
  have HT := Lib.hid hT
  clear ha hT
  go_enter Tryd.func5, Tryd.ntmps5
  by_cases hbig : 4096 < bs.length
  · have hd := decide_eq_true hbig
    go_wp2_with (go_at_call 18; refine (big_any _ bs _ HA.out).mono ?_; rintro e w2 ⟨he, rfl⟩; rw [hd] at he; subst he)
    go_ret
    exact ⟨rfl, Below.refl _ _⟩
  have hd := decide_eq_false hbig
  have hl : bs.length ≤ 4096 := by omega
  clear hbig
  go_upto_region 4 with (first
    | (go_at_call 24; refine (drawParts_any _ bs hl _ HA.out).mono ?_; rintro e w2 ⟨u, g, rfl, hg, hgl, hgr, hb2⟩; obtain ⟨gu, rfl, hgr2⟩ := hg; obtain ⟨gp, gc, rfl, _⟩ := hgr2.shape)
    | (go_at_call 18; refine (big_any _ bs _ HA.out).mono ?_; rintro e w1 ⟨he, rfl⟩; rw [hd] at he; subst he))
  obtain ⟨w3, hw3⟩ : ∃ w3, w3 = w2.alloc (.cells #[.slice gp g.length gc] 29) := ⟨_, rfl⟩
  rw [← hw3]
  have hb23 : Below w2.heap.size w2 w3 := by rw [hw3]; exact below_alloc _ _
  have HX3 : Hid (Box w3 w2.heap.size 29 (.slice gp g.length gc)) := Lib.hid (by rw [hw3]; exact Box.new _ _ _)
  have HG3 : Hid (Gr w3 (.agg #[.slice gp g.length gc]) g) := Lib.hid ⟨_, rfl, hgr2.below hb23⟩
  have HW3 := Lib.hid (hb2.trans (hb23.mono hb2.size))
  have HT3 := Lib.hid (HT.out.keep HW3.out)
  have c3 := HX3.out.cell
  generalize w2.heap.size = bx at *
  clear hw3 hb23 hb2 hgr2 hd
  go_upto_region 5 with (go_at_call 25; refine (implPartsOf_any _ g _ HG3.out HT3.out).mono ?_; rintro e w4 ⟨u, gg, rfl, hpt, hdg, hgg, hgr9, hb4⟩; obtain ⟨lp, lc, hu⟩ := hdg.shape; (obtain rfl : u = .slice lp gg.length lc := (by simpa using hu)); have c4 := hb4.at' c3)
  have HPT := Lib.hid hpt
  have HGG := Lib.hid (hdg.gr (by omega) (fun j _ => Nat.le_trans (hgr9 j) (by decide)))
  have HX4 := Lib.hid (HX3.out.keep hb4)
  have HG4 := Lib.hid (HG3.out.below hb4)
  have HW4 := Lib.hid (HW3.out.trans (hb4.mono HW3.out.size))
  clear hpt hdg hgr9 hb4 c3 HX3 HG3 HW3 HT3
  go_upto_region 7 with (first
    | (go_at_call 26; refine (w5Lists_any _ _ gg hh _ HR5.out HH5.out).mono ?_; rintro e w6 ⟨he, hb6⟩; rw [HEQ.out] at he; subst he)
    | (go_at_call 21; refine (specPartsOf_any _ g _ HG4.out).mono ?_; rintro e w5 ⟨u, hh, rfl, hpt, hsg, hhl, _, hb5⟩; obtain ⟨hp, hc, hu⟩ := sg_shape hsg; subst hu; have HEQ := Lib.hid (dec_true (ptS_det HPT.out hpt)); (have HR5 : Hid (Rws w5 26 2 (.slice lp gg.length lc) gg) := Lib.hid (by obtain ⟨_, e, h⟩ := HGG.out.below hb5; cases e; exact h)); (have HH5 : Hid (Rws w5 26 2 (.slice hp hh.length hc) hh) := Lib.hid (by obtain ⟨_, e, h⟩ := hsg.gr (by omega); cases e; exact h)); have HB5 := Lib.hid hb5; clear hpt hsg hb5))
  have HB6 := Lib.hid (HB5.out.trans (hb6.mono HB5.out.size))
  have HX6 := Lib.hid (HX4.out.keep HB6.out)
  have HG6 := Lib.hid (HG4.out.below HB6.out)
  have HGG6 := Lib.hid (HGG.out.below HB6.out)
  have HW6 := Lib.hid (HW4.out.trans (HB6.out.mono HW4.out.size))
  clear hb6 HB5 HR5 HH5 HEQ HB6 c4 HX4 HG4 HGG HW4
  by_cases hok : GOk g
  case neg =>
    have hgg0 : gg = [] := by
      rcases HPT.out with ⟨h, _⟩ | ⟨_, h⟩
      · exact absurd h hok
      · exact h
    subst hgg0
    have HD := Lib.hid (dec_false hok)
    clear hok HPT
    go_wp2
    go_loopw [5, 6, 7] (fun m i _ wr => m = .int .i64 0 ∧ i = .int .i64 0 ∧ wr = w6) (fun _ _ _ _ => 0)
    case atStart => exact ⟨rfl, rfl, rfl⟩
    case round =>
      obtain ⟨rfl, rfl, rfl⟩ := hrel
      have c6 := HX6.out.cell
      go_wp2_with (go_at_call 29; refine (specGraphOk_any _ g _ HG6.out).mono ?_; rintro e w7 ⟨he, hb7⟩; rw [HD.out] at he; subst he)
      go_ret
      exact ⟨rfl, HW6.out.trans (hb7.mono HW6.out.size)⟩
  obtain ⟨ps, HPS, HGE⟩ : ∃ ps, Hid (Parts (ofG g) (List.range g.length) ps) ∧ Hid (gg = ps.map natInts) := by
    rcases HPT.out with ⟨_, ps, h1, h2⟩ | ⟨h, _⟩
    · exact ⟨ps, Lib.hid h1, Lib.hid h2⟩
    · exact absurd hok h
  have h16 := hok.le
  have HOK := Lib.hid hok
  have HD := Lib.hid (dec_true hok)
  have HLP : Hid (gg.length = ps.length) := Lib.hid (by rw [HGE.out, List.length_map])
  have HTOT : Hid ((ps.map List.length).sum = g.length) := Lib.hid (by rw [parts_total HPS.out, List.length_range])
  have HROW : Hid (∀ j (hj : j < ps.length), row gg j = natInts ps[j]) := Lib.hid (fun j hj => by rw [HGE.out]; simp [row, hj])
  have HIN : Hid (∀ p ∈ ps, p.Pairwise (· < ·) ∧ (∀ x ∈ p, x < g.length) ∧ ConnL (ofG g) p) := Lib.hid (fun p hp => ⟨parts_ris HPS.out List.pairwise_lt_range p hp, fun x hx => List.mem_range.1 (parts_in HPS.out p hp x hx), parts_conn HPS.out p hp⟩)
  have HCON : Hid (∀ p ∈ ps, ConnS g (natInts p)) := Lib.hid (fun p hp => ⟨⟨HOK.out, setIn_part (HIN.out p hp).1 (HIN.out p hp).2.1⟩, by rw [toNat_natInts]; exact (HIN.out p hp).2.2⟩)
  have HNOT : Hid (∀ k i (hk : k < i) (hi : i < ps.length), ¬ ConnS g (natInts (bothN (ps[k]'(by omega)) ps[i] 16))) := Lib.hid (fun k i hk hi h => by
    have h1 := h.2
    rw [toNat_natInts] at h1
    refine not_conn_two (ofG_sym HOK.out) (HIN.out _ (List.getElem_mem (show k < ps.length by omega))).2.2.1 (HIN.out _ (List.getElem_mem hi)).2.2.1 (fun x => ?_) (List.pairwise_iff_getElem.1 (parts_apart HPS.out) k i (by omega) hi hk) h1
    rw [mem_bothN]
    constructor
    · exact fun h => h.2
    · intro h
      refine ⟨?_, h⟩
      rcases h with h | h
      · have := (HIN.out _ (List.getElem_mem (show k < ps.length by omega))).2.1 x h; omega
      · have := (HIN.out _ (List.getElem_mem hi)).2.1 x h; omega)
  have HLEN : Hid (∀ j (hj : j < ps.length), ps[j].length ≤ 16) := Lib.hid (fun j hj => by
    have h1 := totL_succ hj
    have h2 := totL_le (ps := ps) (j := j + 1)
    have h3 := HTOT.out
    omega)
  clear hok HPT
  go_wp2
  go_loopw [5, 6, 7] (fun m i _ wr => ∃ j : Nat, j ≤ gg.length ∧ m = .int .i64 (totL ps j : Nat) ∧ i = .int .i64 j ∧ Hid (Below w6.heap.size w6 wr)) (fun _ i _ _ => gg.length - (intOf i).toNat)
  case atStart => exact ⟨0, Nat.zero_le _, rfl, rfl, Lib.hid (Below.refl _ _)⟩
  case round =>
    obtain ⟨j, hj, rfl, rfl, HB⟩ := hrel
    have htl := totL_le (ps := ps) (j := j)
    rw [HTOT.out] at htl
    by_cases hlt : j < gg.length
    · have hjp : j < ps.length := by have := HLP.out; omega
      obtain ⟨_, eG, hRr⟩ := id (HGG6.out.below HB.out)
      cases eG
      obtain ⟨rb, ro, rp, rc, hlp, hcr, hnr⟩ := hRr.get hlt
      subst hlp
      change wr.cell? _ = some (.slice rp (row gg j).length rc) at hcr
      change Nums wr _ _ (.slice rp (row gg j).length rc) (row gg j) at hnr
      rw [HROW.out j hjp, natInts_length] at hcr hnr
      have hpl := HLEN.out j hjp
      have HTS := Lib.hid (totL_succ hjp)
      have HDC := Lib.hid (dec_true (HCON.out _ (List.getElem_mem hjp)))
      have HNO : Hid (∀ k (hk : k < j), ¬ ConnS g (natInts (bothN (ps[k]'(by omega)) (ps[j]'hjp) 16))) := Lib.hid (fun k hk => HNOT.out k j hk hjp)
      have hpr := Lib.hid (HIN.out _ (List.getElem_mem hjp))
      obtain ⟨q, hq⟩ : ∃ q, q = ps[j]'hjp := ⟨_, rfl⟩
      rw [← hq] at hcr hnr hpl HTS HDC hpr
      have HNO2 : Hid (∀ k (hk : k < j), ¬ ConnS g (natInts (bothN (ps[k]'(by omega)) q 16))) := Lib.hid (fun k hk => by rw [hq]; exact HNO.out k hk)
      have HNR := Lib.hid hnr
      obtain ⟨m, hm⟩ : ∃ m, m = q.length := ⟨_, rfl⟩
      rw [← hm] at hcr HNR hpl HTS
      have HML := Lib.hid hm
      have hwr : IntKind.i64.wrap ((totL ps j : Int) + (m : Int)) = (totL ps j : Int) + (m : Int) := by rw [IntKind.wrap_i64]; omega
      have HXr := Lib.hid (HX6.out.keep HB.out)
      have HGr := Lib.hid (HG6.out.below HB.out)
      have HTr := Lib.hid (HT.out.keep (HW6.out.trans (HB.out.mono HW6.out.size)))
      have cxr := HXr.out.cell
      have hjc : (j : Int) < (gg.length : Int) := by omega
      have e0 : (0 : Int) ≤ (j : Int) := by omega
      clear hRr hnr hq HNO hm
      generalize totL ps j = tj at *
      go_upto_region 12 with fail
      go_cut [38] (fun v wx => v = .bool false ∧ Below wr.heap.size wr wx)
      case first =>
        go_region_held3 (fun w' => w'.cell? ⟨bx, 0, none⟩ = some (.slice gp g.length gc) ∧ w'.cell? ⟨rb, ro + j, none⟩ = some (.slice rp m rc))
          (first | go_keep | exact ⟨cxr, hcr⟩ | exact ⟨BWA.at' cxr, BWA.at' hcr⟩)
          (first
            | (go_at_call 27; refine (implConnectedIn_any _ _ g (natInts q) (by omega) _ (HGr.out.below (below_dN (Below.refl _ _) 1)) (HNR.out.below (below_dN (Below.refl _ _) 1)) (HTr.out.keep (below_dN (Below.refl _ _) 1))).mono ?_; rintro e wa ⟨he, hbq⟩; rw [HDC.out] at he; subst he; have BWA : Below wr.heap.size wr wa := (below_dN (Below.refl _ _) 1).trans hbq; clear hbq))
        all_goals go_wp2
        all_goals go_meet
        all_goals exact ⟨rfl, BWA⟩
      case rest =>
      obtain ⟨rfl, hbz⟩ := hcut
      have HBZ := Lib.hid (HB.out.trans (hbz.mono HB.out.size))
      have HCRz := Lib.hid (hbz.at' hcr)
      have HNRz := Lib.hid (HNR.out.below hbz)
      have HXz := Lib.hid (HXr.out.keep hbz)
      have HGz := Lib.hid (HGr.out.below hbz)
      have HTz := Lib.hid (HTr.out.keep hbz)
      clear hbz hcr cxr HNR HXr HGr HTr
      go_wp2
      go_loopw [7] (fun k wx => ∃ kk : Nat, kk ≤ j ∧ k = .int .i64 kk ∧ Hid (Below wc.heap.size wc wx)) (fun k _ => j - (intOf k).toNat)
      case atStart => exact ⟨0, Nat.zero_le _, rfl, Lib.hid (Below.refl _ _)⟩
      case round =>
        obtain ⟨kk, hkk, rfl, HBx⟩ := hrel
        by_cases hkj : kk < j
        · have hkp : kk < ps.length := by omega
          have hkg : kk < gg.length := by omega
          obtain ⟨_, eG, hRr⟩ := id ((HGG6.out.below HBZ.out).below HBx.out)
          cases eG
          obtain ⟨_, _, sp, sc, hlp, hcs, hns⟩ := hRr.get hkg
          cases hlp
          change wr.cell? _ = some (.slice sp (row gg kk).length sc) at hcs
          change Nums wr _ _ (.slice sp (row gg kk).length sc) (row gg kk) at hns
          rw [HROW.out kk hkp, natInts_length] at hcs hns
          have hsl := HLEN.out kk hkp
          have HDN := Lib.hid (dec_false (HNO2.out kk hkj))
          generalize ps[kk]'hkp = r at hcs hns hsl HDN
          have HNS := Lib.hid hns
          obtain ⟨mr, hmr⟩ : ∃ m, m = r.length := ⟨_, rfl⟩
          rw [← hmr] at hcs HNS
          have HMR := Lib.hid hmr
          have hcr := HBx.out.at' HCRz.out
          have cxr := (HXz.out.keep HBx.out).cell
          have HNRx := Lib.hid (HNRz.out.below HBx.out)
          have HGx := Lib.hid (HGz.out.below HBx.out)
          have HTx := Lib.hid (HTz.out.keep HBx.out)
          have f0 : (0 : Int) ≤ (kk : Int) := by omega
          have f1 : (kk : Int) < (gg.length : Int) := by omega
          clear hRr hns hmr
          go_upto_region 17 with fail
          go_cut [54] (fun v wx => v = .bool false ∧ Below wr.heap.size wr wx)
          case first =>
            go_region_held3 (fun w' => w'.cell? ⟨bx, 0, none⟩ = some (.slice gp g.length gc) ∧ w'.cell? ⟨rb, ro + j, none⟩ = some (.slice rp m rc) ∧ w'.cell? ⟨rb, ro + kk, none⟩ = some (.slice sp mr sc))
              (first | go_keep | exact ⟨cxr, hcr, hcs⟩ | exact ⟨BWB.at' cxr, BWB.at' hcr, BWB.at' hcs⟩ | exact ⟨BWA.at' cxr, BWA.at' hcr, BWA.at' hcs⟩)
              (first
                | (go_at_call 27; refine (implConnectedIn_any _ _ g (natInts (bothN r q 16)) (by omega) _ (HGx.out.below BWA) HNB.out (HTx.out.keep BWA)).mono ?_; rintro e wb ⟨he, hbq⟩; rw [HDN.out] at he; subst he; have BWB : Below wr.heap.size wr wb := BWA.trans (hbq.mono BWA.size); clear hbq)
                | (go_at_call 28; refine (w5Both_any _ _ r q (by omega) (by have := HML.out; omega) _ (HNS.out.below (below_dN (Below.refl _ _) 1)) (HNRx.out.below (below_dN (Below.refl _ _) 1))).mono ?_; rintro e wa ⟨bv, rfl, hob, hbq⟩; have HNB := Lib.hid (own_num hob (by have := bothN_len r q 16; omega)); have BWA : Below wr.heap.size wr wa := (below_dN (Below.refl _ _) 1).trans hbq; clear hbq hob))
            all_goals go_wp2
            all_goals go_meet
            all_goals exact ⟨rfl, BWB⟩
          case rest =>
            obtain ⟨rfl, hbq⟩ := hcut
            go_wp2
            go_roundw
            case rel => exact ⟨kk + 1, by omega, by go_num, Lib.hid (HBx.out.trans (hbq.mono HBx.out.size))⟩
            case measure => simp [intOf]; omega
        · obtain rfl : kk = j := by omega
          go_wp2
          go_roundw
          case rel => exact ⟨kk + 1, by omega, by rw [HTS.out]; exact val_int (by omega), by go_num, Lib.hid (HBZ.out.trans (HBx.out.mono HBZ.out.size))⟩
          case measure => simp [intOf]; omega
    · obtain rfl : j = gg.length := by omega
      have c6 := (HX6.out.keep HB.out).cell
      have HGr := Lib.hid (HG6.out.below HB.out)
      have hall : totL ps gg.length = g.length := by
        unfold totL
        rw [HLP.out, List.take_length]
        exact HTOT.out
      rw [hall]
      have HWr := Lib.hid (HW6.out.trans (HB.out.mono HW6.out.size))
      clear hall htl
      go_wp2_with (go_at_call 29; refine (specGraphOk_any _ g _ HGr.out).mono ?_; rintro e w7 ⟨he, hb7⟩; rw [HD.out] at he; subst he; have c7 := hb7.at' c6)
      go_ret
      exact ⟨rfl, HWr.out.trans (hb7.mono HWr.out.size)⟩

end Go.Proofs.YtjdlmjmhlbpooaaDoor
