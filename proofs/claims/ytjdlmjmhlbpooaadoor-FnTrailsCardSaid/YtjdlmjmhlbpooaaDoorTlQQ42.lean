/- Walk: the law FnTrails. -/
import Derived.Test.YtjdlmjmhlbpooaaDoorTlQQ31
import Derived.Test.YtjdlmjmhlbpooaaDoorTlQQ33
import Derived.Test.YtjdlmjmhlbpooaaDoorTlQQ34
import Derived.Test.YtjdlmjmhlbpooaaDoorTlQQ40
import Derived.Test.YtjdlmjmhlbpooaaDoorTlQQ41
namespace Go.Proofs.YtjdlmjmhlbpooaaDoor
open Go.RowKit

theorem row_deg {g : List (List Int)} (hg : GOk g) {v : Nat} (hv : v < g.length) : (row g v).length = degN g.length (ofG g) v := by
  have h := row_matG (E := ofG g) hv
  rw [matG_ofG hg] at h
  rw [h, natInts_length]
  unfold degN
  rw [List.countP_eq_length_filter]
theorem parts_take {ps : List (List Nat)} {k : Nat} (h : k < ps.length) : (ps.take (k + 1)).countP (fun p => decide (1 < p.length)) = (ps.take k).countP (fun p => decide (1 < p.length)) + (if 1 < ps[k].length then 1 else 0) := by
  rw [List.take_succ_eq_append_getElem h, List.countP_append, List.countP_singleton]
  by_cases e : 1 < ps[k].length <;> simp [e]

set_option maxRecDepth 100000 in
set_option maxHeartbeats 8000000 in
theorem lawTrails_any (v0 : Value) (bs : List Int) (W : World) (ha : ArgB W v0 bs) (hT : Tab W) :
    Calls Tryd.prog 4 #[v0] W fun e w' => e = .returned (.bool true) ∧ Below W.heap.size W w' := by
  obtain ⟨p, c, e0, _⟩ := id ha
  subst e0
  have HA := Lib.hid ha
  have HT := Lib.hid hT
  clear ha hT
  go_enter Tryd.func4, Tryd.ntmps4
  by_cases hbig : 4096 < bs.length
  · have hd := decide_eq_true hbig
    go_wp2_with (go_at_call 18; refine (big_any _ bs _ HA.out).mono ?_; rintro e w2 ⟨he, rfl⟩; rw [hd] at he; subst he)
    go_ret
    exact ⟨rfl, Below.refl _ _⟩
  have hd := decide_eq_false hbig
  have hl : bs.length ≤ 4096 := by omega
  clear hbig
  go_upto_region 5 with (first
    | (go_at_call 20; refine (w6Graph_any W db bs 6 _ rfl (by decide) (by decide) _ HD2.out HDL.out).mono ?_; rintro e w3 ⟨u, n, E, rfl, hn1, hn6, hse, hsg, hd3, hg3⟩; have HSE := Lib.hid hse; have HSG := Lib.hid hsg; have HD3 := Lib.hid hd3; obtain ⟨gp, gc, rfl⟩ := hsg.shape; clear hse hsg hd3 hg3)
    | (go_at_call 19; refine (roll_any _ bs _ hl _ HA.out).mono ?_; rintro e w2 ⟨db, rfl, hd2, hb2⟩; have HD2 := Lib.hid hd2; have HDL : Hid (db < w2.heap.size) := Lib.hid (by obtain ⟨_, _, _, h1, _⟩ := hd2.ex; exact h1.lt); clear hd2 hb2)
    | (go_at_call 18; refine (big_any _ bs _ HA.out).mono ?_; rintro e w1 ⟨he, rfl⟩; rw [hd] at he; subst he))
  obtain ⟨g, hg⟩ : ∃ g, g = matG n E := ⟨_, rfl⟩
  have hgl : g.length = n := by rw [hg, matG_length]
  have hok : GOk g := by rw [hg]; exact gok_matG hn1 (by omega) HSE.out.1 HSE.out.2
  rw [← hg] at HSG ⊢
  have HOK := Lib.hid hok
  have h16 := hok.le
  have hpos := hok.pos
  have HG6L : Hid (g.length ≤ 6) := Lib.hid (by omega)
  obtain ⟨w4, hw4⟩ : ∃ w4, w4 = w3.alloc (.cells #[.slice gp g.length gc] 29) := ⟨_, rfl⟩
  rw [← hw4]
  have hb34 : Below w3.heap.size w3 w4 := by rw [hw4]; exact below_alloc _ _
  have HX4 : Hid (Box w4 w3.heap.size 29 (.slice gp g.length gc)) := Lib.hid (by rw [hw4]; exact Box.new _ _ _)
  have HS4 := Lib.hid (HSG.out.below hb34)
  have HB4 : Hid (Below W.heap.size W w4) := Lib.hid (HD3.out.bel.trans (hb34.mono HD3.out.bel.size))
  have HG4 := Lib.hid (HS4.out.gr (by omega))
  have hbx4 := HX4.out.cell
  clear hg hw4 hb34 hok HSG hn6 hgl hn1
  go_upto_region 8 with (go_at_call 12; refine (implTrailOf_any _ g _ HG4.out (HT.out.keep HB4.out)).mono ?_; rintro e w5 ⟨ov, ys, ok, rfl, hS, h300, ho5, hb5⟩; obtain ⟨op, oc, rfl⟩ := owns_shapeT1 ho5; have HS := Lib.hid hS; have HO5 := Lib.hid ho5; have HB5 := Lib.hid hb5; clear hS ho5 hb5)
  have HX5 := Lib.hid (HX4.out.keep HB5.out)
  have HG5 := Lib.hid (HG4.out.below HB5.out)
  have HW5 := Lib.hid (HB4.out.trans (HB5.out.mono HB4.out.size))
  clear hbx4 HX4 HG4 HS4
  go_wp2
  go_loopw [7, 9] (fun o i wr => ∃ k : Nat, o = .int .i64 (oddsN g.length (ofG g) k : Nat) ∧ i = .int .i64 (k : Int) ∧ k ≤ g.length ∧ wr = w5) (fun _ i _ => g.length - (intOf i).toNat)
  case atStart => exact ⟨0, by rw [oddsN_zero]; rfl, rfl, Nat.zero_le _, rfl⟩
  case round =>
    obtain ⟨k, rfl, rfl, hk, rfl⟩ := hrel
    have hbx5 := HX5.out.cell
    by_cases hlt : k < g.length
    · obtain ⟨_, e1, hr⟩ := id HG5.out
      cases e1
      obtain ⟨b, o, rp, rc, hgp, hcell, hnums⟩ := hr.get hlt
      subst hgp
      change wr.cell? _ = some (.slice rp (row g k).length rc) at hcell
      have hrd := row_deg HOK.out hlt
      have hso := Lib.hid (oddsN_succ g.length (ofG g) k)
      have hol := oddsN_le g.length (ofG g) k
      have hdl := degN_le g.length (ofG g) k
      rw [hrd] at hcell
      generalize degN g.length (ofG g) k = d at hcell hso hdl
      generalize hoo : oddsN g.length (ofG g) k = cc at hso hol ⊢
      have hrem : ((d : Int) % 2) = ((d % 2 : Nat) : Int) := by omega
      have htm : Int.tmod (d : Int) 2 = ((d % 2 : Nat) : Int) := by rw [Int.tmod_eq_emod_of_nonneg (by omega)]; omega
      have h2 : d % 2 < 2 := Nat.mod_lt _ (by decide)
      generalize d % 2 = e at hrem htm hso h2
      clear hr hnums hrd hoo
      go_wp2
      go_roundw
      case rel => exact ⟨k + 1, by rw [hso.out]; exact val_int (by omega), by go_num, by omega, trivial⟩
      case measure => simp [intOf]; omega
    · obtain rfl : k = g.length := by omega
      obtain ⟨q, hq⟩ : ∃ q, q = oddsN g.length (ofG g) g.length := ⟨_, rfl⟩
      have HQ := Lib.hid hq
      have hq16 : q ≤ 16 := by rw [hq]; exact Nat.le_trans (oddsN_le _ _ _) h16
      rw [← hq]
      clear hq
      go_upto_region 13 with (go_at_call 21; refine (specPartsOf_any _ g _ HG5.out).mono ?_; rintro e w6 ⟨pv, gg, rfl, hpt, hsp, hp16, hpr, hb6⟩; have HPT := Lib.hid hpt; have HSP := Lib.hid (hsp.gr (by omega)); have HB6 := Lib.hid hb6; obtain ⟨pp, pc, hpe⟩ := sg_shape hsp; subst hpe; clear hpt hsp hb6)
      obtain ⟨ps, HPS, HGG⟩ : ∃ ps, Hid (Parts (ofG g) (List.range g.length) ps) ∧ Hid (gg = ps.map natInts) := by
        rcases HPT.out with ⟨_, ps, h1, h2⟩ | ⟨h1, _⟩
        · exact ⟨ps, Lib.hid h1, Lib.hid h2⟩
        · exact absurd HOK.out h1
      have HLP : Hid (gg.length = ps.length) := Lib.hid (by rw [HGG.out, List.length_map])
      have HX6 := Lib.hid (HX5.out.keep HB6.out)
      have HG6 := Lib.hid (HG5.out.below HB6.out)
      have HO6 := Lib.hid (ownsRow_below HO5.out HB6.out)
      have HW6 := Lib.hid (HW5.out.trans (HB6.out.mono HW5.out.size))
      go_wp2
      go_loopw [8, 11] (fun o i wx => ∃ j : Nat, o = .int .i64 ((ps.take j).countP (fun p => decide (1 < p.length)) : Nat) ∧ i = .int .i64 (j : Int) ∧ j ≤ gg.length ∧ wx = w6) (fun _ i _ => gg.length - (intOf i).toNat)
      case atStart => exact ⟨0, by simp, rfl, Nat.zero_le _, rfl⟩
      case round =>
        obtain ⟨j, rfl, rfl, hj, rfl⟩ := hrel
        by_cases hjl : j < gg.length
        · obtain ⟨_, e2, hr2⟩ := id HSP.out
          cases e2
          obtain ⟨b, o, rp, rc, hgp, hcell, _⟩ := hr2.get hjl
          subst hgp
          change World.cell? _ _ = some (Value.slice rp (row gg j).length rc) at hcell
          have hjp : j < ps.length := by have := HLP.out; omega
          have hrl : (row gg j).length = ps[j].length := by
            have e3 : row (ps.map natInts) j = natInts ps[j] := by simp [row, hjp]
            rw [HGG.out, e3, natInts_length]
          have hct := Lib.hid (parts_take hjp)
          have hc16 : (ps.take j).countP (fun p => decide (1 < p.length)) ≤ 1000 := by
            have h1 := List.countP_le_length (p := fun p : List Nat => decide (1 < p.length)) (l := ps.take j)
            rw [List.length_take] at h1
            omega
          rw [hrl] at hcell
          generalize ps[j].length = y at hcell hct
          generalize (ps.take j).countP (fun p => decide (1 < p.length)) = cc at hct hc16 ⊢
          clear hr2 hrl
          by_cases hy : 1 < y
          · have HY := Lib.hid hy
            have hyi : (1 : Int) < (y : Int) := by omega
            go_wp2
            go_roundw
            case rel => exact ⟨j + 1, by rw [hct.out, if_pos HY.out]; exact val_int (by omega), by go_num, by omega, trivial⟩
            case measure => simp [intOf]; omega
          · have HY := Lib.hid hy
            have hyi : ¬ (1 : Int) < (y : Int) := by omega
            go_wp2
            go_roundw
            case rel => exact ⟨j + 1, by rw [hct.out, if_neg HY.out]; rfl, by go_num, by omega, trivial⟩
            case measure => simp [intOf]; omega
        · obtain rfl : j = gg.length := by omega
          have htake : ps.take gg.length = ps := by rw [HLP.out, List.take_length]
          rw [htake]
          obtain ⟨y, hy⟩ : ∃ y, y = ps.countP (fun p => decide (1 < p.length)) := ⟨_, rfl⟩
          have hy16 : y ≤ 1000 := by
            have h1 := List.countP_le_length (p := fun p : List Nat => decide (1 < p.length)) (l := ps)
            have h2 := HLP.out
            omega
          have HY := Lib.hid hy
          rw [← hy]
          have HIFF : Hid ((∃ v, v < g.length ∧ Tr g.length (ofG g) v) ↔ q ≤ 2 ∧ y ≤ 1) := Lib.hid (by
            rw [HQ.out, HY.out]
            exact tr_iff (ofG_sym HOK.out) (ofG_irr HOK.out) hpos HPS.out)
          clear hy htake hjl
          cases ok
          · -- no trail
            have hno : ¬ (q ≤ 2 ∧ y ≤ 1) ∧ ys = [] := by
              rcases HS.out with ⟨h1, _⟩ | ⟨_, h1, h2, _⟩ | ⟨_, _, _, _, _, _, _, _, h1⟩
              · exact absurd HOK.out h1
              · exact ⟨fun h => by obtain ⟨v, hv, hT⟩ := HIFF.out.2 h; exact h1 v hv hT, h2⟩
              · cases h1
            obtain ⟨hno, rfl⟩ := hno
            have HNO := Lib.hid hno
            clear hno
            by_cases hq2 : q ≤ 2
            · have hy1 : ¬ y ≤ 1 := fun h => HNO.out ⟨hq2, h⟩
              have hq2i : (q : Int) ≤ 2 := by omega
              have hy1i : ¬ (y : Int) ≤ 1 := by omega
              go_wp2
              go_ret
              exact ⟨rfl, HW6.out⟩
            · have hq2i : ¬ (q : Int) ≤ 2 := by omega
              go_wp2
              go_ret
              exact ⟨rfl, HW6.out⟩
          · obtain ⟨v, pre, hv, hTr, htl, hyl⟩ : ∃ v pre, v < g.length ∧ Tr g.length (ofG g) v ∧ Trl g.length (ofG g) v pre ∧ ys = natInts (v :: pre) := by
              rcases HS.out with ⟨_, _, h⟩ | ⟨_, _, _, h⟩ | ⟨_, v, pre, h1, _, h2, h3, h4, _⟩
              · cases h
              · cases h
              · exact ⟨v, pre, h1, h2, h3, h4⟩
            have HTO := Lib.hid (trl_trlOk htl hv hTr)
            have hq2 := (HIFF.out.1 ⟨v, hv, hTr⟩).1
            have hy1 := (HIFF.out.1 ⟨v, hv, hTr⟩).2
            have hpl : pre.length ≤ 120 := by
              have h1 := trl_many (n := g.length) pre (ofG g) v (ofG_irr HOK.out) (ofG_sym HOK.out) hv (fun y hy => HTO.out.1 y (by simp [hy])) HTO.out.2.1
              have h2 := totN_le h16 (ofG g)
              have h3 : totN g.length (ofG g) ≤ (List.range g.length).length * 6 := sum_le_mul fun x _ => Nat.le_trans (degN_le g.length (ofG g) x) HG6L.out
              rw [List.length_range] at h3
              omega
            have HENDS : Hid (q = 0 → v = (v :: pre).getLastD 0) := Lib.hid (fun h0 => by
              have h1 := trl_ends (n := g.length) pre (ofG g) v (ofG_irr HOK.out) (ofG_sym HOK.out) hv (fun y hy => HTO.out.1 y (by simp [hy])) HTO.out.2.1 HTO.out.2.2 v hv
              have h2 : degN g.length (ofG g) v % 2 = 0 := by
                have h3 : oddsN g.length (ofG g) g.length = 0 := by rw [← HQ.out, h0]
                unfold oddsN at h3
                have h4 := List.countP_eq_zero.1 h3 v (List.mem_range.2 hv)
                simp only [beq_iff_eq] at h4
                omega
              rw [h2] at h1
              by_cases e : v = (v :: pre).getLastD 0
              · exact e
              · rw [if_pos rfl, if_neg e] at h1
                omega)
            have hys : ys.length = pre.length + 1 := by rw [hyl]; simp [natInts]
            have HYL := Lib.hid hyl
            have HNL : Hid (Nums wr 2 .i64 (.slice op ys.length oc) (natInts (v :: pre))) := Lib.hid (by
              have := Nums.of_owns (xs := ys) HO6.out rfl (by omega)
              rw [← hyl]
              exact this)
            have HYS := Lib.hid hys
            have hq2i : (q : Int) ≤ 2 := by omega
            have hy1i : (y : Int) ≤ 1 := by omega
            have hbx6 := HX6.out.cell
            clear hys hyl hTr htl 
            go_upto_region 25 with (first
              | (go_at_call 23; refine (implTrailOk_yes _ _ g v pre HOK.out HTO.out hpl _ (HG6.out.below hb7) (HNL.out.below hb7)).mono ?_; rintro e w8 ⟨rfl, hb8⟩; have HB8 := Lib.hid (hb7.trans (hb8.mono hb7.size)); clear hb8)
              | (go_at_call 22; refine (specTrailOk_yes _ _ g v pre HOK.out HTO.out hpl _ HG6.out HNL.out).mono ?_; rintro e w7 ⟨rfl, hb7⟩; have hbx7 := hb7.at' hbx6))
            obtain ⟨Lr, hLr⟩ : ∃ Lr, Lr = (v :: pre).reverse := ⟨_, rfl⟩
            have HLr : Hid (Lr.length = ys.length) := Lib.hid (by rw [hLr, List.length_reverse, HYS.out]; rfl)
            have HRV := Lib.hid hLr
            have hy1n : 1 ≤ ys.length := by have := HYS.out; omega
            clear hLr
            have hwr : IntKind.i64.wrap ((ys.length : Int) - 1) = (ys.length : Int) - 1 := by rw [IntKind.wrap_i64]; omega
            have START : Hid ((w8.alloc (.cells #[] 2)).ownsRow w8.heap.size 2 1 (.slice (some ⟨w8.heap.size, 0, none⟩) 0 0) 0 ((natInts (Lr.take 0)).map (Value.int .i64))) := Lib.hid (by rw [List.take_zero]; exact ownsRow_empty _ _ _)
            go_wp2
            clear hwr
            go_loopw [12, 13] (fun o i wx => ∃ (d : Nat) (z : Int), i = .int .i64 z ∧ Hid ((d : Int) + z + 1 = (ys.length : Int)) ∧ -1 ≤ z ∧ z < (ys.length : Int) ∧ Hid (wx.ownsRow w8.heap.size 2 1 o d ((natInts (Lr.take d)).map (Value.int .i64))) ∧ Hid (Below w8.heap.size w8 wx)) (fun _ i _ => (intOf i + 1).toNat)
            case atStart => exact ⟨0, (ys.length : Int) - 1, rfl, Lib.hid (by omega), by omega, by omega, START, Lib.hid (below_alloc _ _)⟩
            case round =>
              clear START
              obtain ⟨d, z, rfl, HDZ, hz1, hz2, HOB, HBB⟩ := hrel
              have HBT := Lib.hid (HB8.out.trans (HBB.out.mono HB8.out.size))
              by_cases hz : 0 ≤ z
              · obtain ⟨s, rfl⟩ : ∃ s : Nat, z = (s : Int) := ⟨z.toNat, by omega⟩
                have hsl : s < ys.length := by omega
                have hdl : d < Lr.length := by have := HDZ.out; have := HLr.out; omega
                obtain ⟨lb, lo, hop, hcx⟩ := (HNL.out.below HBT.out).get (k := s) (by rw [natInts_length]; have := HYS.out; simp only [List.length_cons]; omega)
                subst hop
                have hsn : s < (v :: pre).length := by have := HYS.out; simp only [List.length_cons]; omega
                have hcn : (natInts (v :: pre))[s]'(by rw [natInts_length]; exact hsn) = ((((v :: pre)[s]'hsn : Nat)) : Int) := by simp only [natInts, List.getElem_map]
                rw [hcn] at hcx
                have hrv : Lr[d]'hdl = (v :: pre)[s]'hsn := by
                  have h1 := HRV.out
                  subst h1
                  rw [List.getElem_reverse]
                  congr 1
                  have h2 := HDZ.out
                  have h3 := HYS.out
                  simp only [List.length_cons]
                  omega
                have htk := Lib.hid (take_snoc Lr d hdl)
                rw [hrv] at htk
                generalize (v :: pre)[s]'hsn = xx at hcx htk
                have hd9 : d < 1000000000 := by have := HLr.out; omega
                have hown := HOB.out
                clear hcn hrv
                go_wp2_with (at_builtin; refine wpList_app1 ty_i64 rfl rfl rfl hown rfl rfl hd9 HBB.out.size ?_; intro v' w9 hown' hg _)
                go_roundw
                case rel => exact ⟨d + 1, (s : Int) - 1, by first | rfl | exact val_int (by omega), Lib.hid (by have := HDZ.out; omega), by omega, by omega, Lib.hid (by rw [htk.out]; simpa [natInts] using hown'), Lib.hid (below_grown HBB.out hown hg (Nat.le_refl _) HBB.out.size)⟩
                case measure => first | (simp [intOf]; done) | (simp [intOf]; omega)
              · obtain rfl : z = -1 := by omega
                have hdn : d = Lr.length := by have := HDZ.out; have := HLr.out; omega
                have hOB := HOB.out
                rw [hdn, List.take_length] at hOB
                have HBK := Lib.hid (trlOk_back (ofG_sym HOK.out) HTO.out)
                have HRB : Hid (Lr = (v :: pre).getLastD 0 :: backL v pre) := Lib.hid (by rw [HRV.out]; exact rev_back v pre)
                have HBL : Hid ((backL v pre).length ≤ 120) := Lib.hid (by
                  have h1 := HLr.out
                  rw [HRB.out] at h1
                  simp only [List.length_cons] at h1
                  have := HYS.out
                  omega)
                have HNB : Hid (Nums wr 2 .i64 u12 (natInts ((v :: pre).getLastD 0 :: backL v pre))) := Lib.hid (by
                  rw [← HRB.out]
                  exact Nums.of_owns hOB (by rw [natInts_length]) (by have := HLr.out; omega))
                have hbx9 := (HX6.out.keep HBT.out).cell
                have HG9 := Lib.hid (HG6.out.below HBT.out)
                have HT9 := Lib.hid (HW6.out.trans (HBT.out.mono HW6.out.size))
                obtain ⟨lb, lo, hop, hcf⟩ := (HNL.out.below HBT.out).get (k := 0) (by simp [natInts])
                subst hop
                obtain ⟨_, _, hop, hcl⟩ := (HNL.out.below HBT.out).get (k := ys.length - 1) (by rw [natInts_length]; have := HYS.out; simp only [List.length_cons]; omega)
                cases hop
                have hf0 : (natInts (v :: pre))[0]'(by simp [natInts]) = (v : Int) := by simp [natInts]
                rw [hf0] at hcf
                simp only [Nat.add_zero] at hcf
                by_cases hq0 : q = 0
                · have hlast : (natInts (v :: pre))[ys.length - 1]'(by rw [natInts_length]; have := HYS.out; simp only [List.length_cons]; omega) = (v : Int) := by
                    have h1 := HENDS.out hq0
                    have h2 : (v :: pre).getLastD 0 = (v :: pre)[ys.length - 1]'(by have := HYS.out; simp only [List.length_cons]; omega) := by
                      have e : ys.length - 1 = (v :: pre).length - 1 := by have := HYS.out; simp only [List.length_cons]; omega
                      simp only [e]
                      rw [List.getLastD_eq_getLast?, List.getLast?_eq_getElem?]
                      simp
                    simp only [natInts, List.getElem_map]
                    rw [← h2, ← h1]
                  rw [hlast] at hcl
                  have hqz : ¬ (0 : Int) < (q : Int) := by omega
                  clear hq0 hlast
                  by_cases h1 : ys.length = 1
                  · have h1i : ((ys.length : Int) == 1) = true := by simp; omega
                    clear hcf hcl h1
                    go_upto_region 29 with fail
                    go_cut [2] (fun s wx => s = .bool true ∧ Below wr.heap.size wr wx)
                    case first =>
                      refine wp_region_held_drew (S := (fun w' => w'.cell? ⟨w3.heap.size, 0, none⟩ = some (.slice gp g.length gc))) (by kernel_rfl) ?_ (fun hHeld => ?_)
                      · exact hbx9
                      refine wpAnyH_take (i := 0) (v := .agg #[.slice gp g.length gc]) rfl (by kernel_rfl) (by kernel_rfl) (by kernel_rfl) (fun _ _ _ h => h) (Or.inl ⟨by rfl, ?_⟩) (by assumption) ?_
                      · intro wz hSw; (try dsimp only at hSw); go_simp; try rfl
                      try simp only [Act.put, List.getElem_toArray, List.getElem_cons_succ, List.getElem_cons_zero, List.setIfInBounds_toArray, List.set_cons_zero, List.set_cons_succ]
                      refine wpAnyH_take (i := 1) (v := u12) rfl (by kernel_rfl) (by kernel_rfl) (by kernel_rfl) (fun _ _ _ h => h) (Or.inl ⟨by rfl, ?_⟩) (by assumption) ?_
                      · intro wz hSw; (try dsimp only at hSw); go_simp; try rfl
                      try simp only [Act.put, List.getElem_toArray, List.getElem_cons_succ, List.getElem_cons_zero, List.setIfInBounds_toArray, List.set_cons_zero, List.set_cons_succ]
                      refine wpAnyH_ready (rs := [2]) (by kernel_rfl) (by simp) ?_
                      refine AllReadyH.cons rfl (fun K hK => ?_) AllReadyH.nil
                      go_simp
                      go_at_call 23
                      refine (implTrailOk_yes _ _ g _ _ HOK.out HBK.out HBL.out _ (HG9.out.below (below_dN (Below.refl _ _) 1)) (HNB.out.below (below_dN (Below.refl _ _) 1))).mono ?_
                      rintro e w10 ⟨rfl, hb10⟩
                      have BWA : Below wr.heap.size wr w10 := (below_dN (Below.refl _ _) 1).trans hb10
                      refine hK.out _ _ ?_ (fun hHeld => ?_)
                      · exact BWA.at' hbx9
                      clear hK K
                      try simp only [Act.put, List.getElem_toArray, List.getElem_cons_succ, List.getElem_cons_zero, List.setIfInBounds_toArray, List.set_cons_zero, List.set_cons_succ]
                      refine wpAnyH_take (i := 3) (v := .bool true) rfl (by kernel_rfl) (by kernel_rfl) (by kernel_rfl) (fun _ _ _ h => h) (Or.inl ⟨by rfl, ?_⟩) (by assumption) ?_
                      · intro wz hSw; (try dsimp only at hSw); go_simp; try rfl
                      try simp only [Act.put, List.getElem_toArray, List.getElem_cons_succ, List.getElem_cons_zero, List.setIfInBounds_toArray, List.set_cons_zero, List.set_cons_succ]
                      refine wpAnyH_take (i := 4) (v := .int .i64 q) rfl (by kernel_rfl) (by kernel_rfl) (by kernel_rfl) (fun _ _ _ h => h) (Or.inl ⟨by rfl, ?_⟩) (by assumption) ?_
                      · intro wz hSw; (try dsimp only at hSw); go_simp; try rfl
                      try simp only [Act.put, List.getElem_toArray, List.getElem_cons_succ, List.getElem_cons_zero, List.setIfInBounds_toArray, List.set_cons_zero, List.set_cons_succ]
                      refine wpAnyH_take (i := 5) (v := .bool false) rfl (by kernel_rfl) (by kernel_rfl) (by kernel_rfl) (fun _ _ _ h => h) (Or.inl ⟨by rfl, ?_⟩) (by assumption) ?_
                      · intro wz hSw; (try dsimp only at hSw); go_simp; try rfl
                        all_goals omega
                      try simp only [Act.put, List.getElem_toArray, List.getElem_cons_succ, List.getElem_cons_zero, List.setIfInBounds_toArray, List.set_cons_zero, List.set_cons_succ]
                      refine wpAnyH_take (i := 6) (v := .bool false) rfl (by kernel_rfl) (by kernel_rfl) (by kernel_rfl) (fun _ _ _ h => h) (Or.inl ⟨by rfl, ?_⟩) (by assumption) ?_
                      · intro wz hSw; (try dsimp only at hSw); go_simp; try rfl
                      try simp only [Act.put, List.getElem_toArray, List.getElem_cons_succ, List.getElem_cons_zero, List.setIfInBounds_toArray, List.set_cons_zero, List.set_cons_succ]
                      refine wpAnyH_take (i := 7) (v := .slice (some ⟨lb, lo, none⟩) ys.length oc) rfl (by kernel_rfl) (by kernel_rfl) (by kernel_rfl) (fun _ _ _ h => h) (Or.inl ⟨by rfl, ?_⟩) (by assumption) ?_
                      · intro wz hSw; (try dsimp only at hSw); go_simp; try rfl
                      try simp only [Act.put, List.getElem_toArray, List.getElem_cons_succ, List.getElem_cons_zero, List.setIfInBounds_toArray, List.set_cons_zero, List.set_cons_succ]
                      refine wpAnyH_take (i := 8) (v := .int .i64 ys.length) rfl (by kernel_rfl) (by kernel_rfl) (by kernel_rfl) (fun _ _ _ h => h) (Or.inl ⟨by rfl, ?_⟩) (by assumption) ?_
                      · intro wz hSw; (try dsimp only at hSw); go_simp; try rfl
                      try simp only [Act.put, List.getElem_toArray, List.getElem_cons_succ, List.getElem_cons_zero, List.setIfInBounds_toArray, List.set_cons_zero, List.set_cons_succ]
                      refine wpAnyH_take (i := 9) (v := .bool true) rfl (by kernel_rfl) (by kernel_rfl) (by kernel_rfl) (fun _ _ _ h => h) (Or.inl ⟨by rfl, ?_⟩) (by assumption) ?_
                      · intro wz hSw; (try dsimp only at hSw); go_simp; try rfl
                      try simp only [Act.put, List.getElem_toArray, List.getElem_cons_succ, List.getElem_cons_zero, List.setIfInBounds_toArray, List.set_cons_zero, List.set_cons_succ]
                      refine wpAnyH_take (i := 10) (v := .bool true) rfl (by kernel_rfl) (by kernel_rfl) (by kernel_rfl) (fun _ _ _ h => h) (Or.inl ⟨by rfl, ?_⟩) (by assumption) ?_
                      · intro wz hSw; (try dsimp only at hSw); go_simp; try rfl
                      try simp only [Act.put, List.getElem_toArray, List.getElem_cons_succ, List.getElem_cons_zero, List.setIfInBounds_toArray, List.set_cons_zero, List.set_cons_succ]
                      refine wpAnyH_take (i := 11) (v := .bool true) rfl (by kernel_rfl) (by kernel_rfl) (by kernel_rfl) (fun _ _ _ h => h) (Or.inl ⟨by rfl, ?_⟩) (by assumption) ?_
                      · intro wz hSw; (try dsimp only at hSw); go_simp; try rfl
                      try simp only [Act.put, List.getElem_toArray, List.getElem_cons_succ, List.getElem_cons_zero, List.setIfInBounds_toArray, List.set_cons_zero, List.set_cons_succ]
                      refine wpAnyH_take (i := 12) (v := undef) rfl (by kernel_rfl) (by kernel_rfl) (by kernel_rfl) (fun _ _ _ h => h) (Or.inr ⟨by kernel_rfl, rfl⟩) (by assumption) ?_
                      try simp only [Act.put, List.getElem_toArray, List.getElem_cons_succ, List.getElem_cons_zero, List.setIfInBounds_toArray, List.set_cons_zero, List.set_cons_succ]
                      refine wpAnyH_take (i := 13) (v := undef) rfl (by kernel_rfl) (by kernel_rfl) (by kernel_rfl) (fun _ _ _ h => h) (Or.inr ⟨by kernel_rfl, rfl⟩) (by assumption) ?_
                      try simp only [Act.put, List.getElem_toArray, List.getElem_cons_succ, List.getElem_cons_zero, List.setIfInBounds_toArray, List.set_cons_zero, List.set_cons_succ]
                      refine wpAnyH_take (i := 14) (v := undef) rfl (by kernel_rfl) (by kernel_rfl) (by kernel_rfl) (fun _ _ _ h => h) (Or.inr ⟨by kernel_rfl, rfl⟩) (by assumption) ?_
                      try simp only [Act.put, List.getElem_toArray, List.getElem_cons_succ, List.getElem_cons_zero, List.setIfInBounds_toArray, List.set_cons_zero, List.set_cons_succ]
                      refine wpAnyH_take (i := 15) (v := undef) rfl (by kernel_rfl) (by kernel_rfl) (by kernel_rfl) (fun _ _ _ h => h) (Or.inr ⟨by kernel_rfl, rfl⟩) (by assumption) ?_
                      try simp only [Act.put, List.getElem_toArray, List.getElem_cons_succ, List.getElem_cons_zero, List.setIfInBounds_toArray, List.set_cons_zero, List.set_cons_succ]
                      refine wpAnyH_take (i := 16) (v := undef) rfl (by kernel_rfl) (by kernel_rfl) (by kernel_rfl) (fun _ _ _ h => h) (Or.inr ⟨by kernel_rfl, rfl⟩) (by assumption) ?_
                      try simp only [Act.put, List.getElem_toArray, List.getElem_cons_succ, List.getElem_cons_zero, List.setIfInBounds_toArray, List.set_cons_zero, List.set_cons_succ]
                      refine wpAnyH_take (i := 17) (v := undef) rfl (by kernel_rfl) (by kernel_rfl) (by kernel_rfl) (fun _ _ _ h => h) (Or.inr ⟨by kernel_rfl, rfl⟩) (by assumption) ?_
                      try simp only [Act.put, List.getElem_toArray, List.getElem_cons_succ, List.getElem_cons_zero, List.setIfInBounds_toArray, List.set_cons_zero, List.set_cons_succ]
                      refine wpAnyH_take (i := 18) (v := undef) rfl (by kernel_rfl) (by kernel_rfl) (by kernel_rfl) (fun _ _ _ h => h) (Or.inr ⟨by kernel_rfl, rfl⟩) (by assumption) ?_
                      try simp only [Act.put, List.getElem_toArray, List.getElem_cons_succ, List.getElem_cons_zero, List.setIfInBounds_toArray, List.set_cons_zero, List.set_cons_succ]
                      refine wpAnyH_take (i := 19) (v := undef) rfl (by kernel_rfl) (by kernel_rfl) (by kernel_rfl) (fun _ _ _ h => h) (Or.inr ⟨by kernel_rfl, rfl⟩) (by assumption) ?_
                      try simp only [Act.put, List.getElem_toArray, List.getElem_cons_succ, List.getElem_cons_zero, List.setIfInBounds_toArray, List.set_cons_zero, List.set_cons_succ]
                      refine wpAnyH_take (i := 20) (v := undef) rfl (by kernel_rfl) (by kernel_rfl) (by kernel_rfl) (fun _ _ _ h => h) (Or.inr ⟨by kernel_rfl, rfl⟩) (by assumption) ?_
                      try simp only [Act.put, List.getElem_toArray, List.getElem_cons_succ, List.getElem_cons_zero, List.setIfInBounds_toArray, List.set_cons_zero, List.set_cons_succ]
                      refine wpAnyH_take (i := 21) (v := undef) rfl (by kernel_rfl) (by kernel_rfl) (by kernel_rfl) (fun _ _ _ h => h) (Or.inr ⟨by kernel_rfl, rfl⟩) (by assumption) ?_
                      try simp only [Act.put, List.getElem_toArray, List.getElem_cons_succ, List.getElem_cons_zero, List.setIfInBounds_toArray, List.set_cons_zero, List.set_cons_succ]
                      refine wpAnyH_take (i := 22) (v := .bool true) rfl (by kernel_rfl) (by kernel_rfl) (by kernel_rfl) (fun _ _ _ h => h) (Or.inl ⟨by rfl, ?_⟩) (by assumption) ?_
                      · intro wz hSw; (try dsimp only at hSw); go_simp; try rfl
                      try simp only [Act.put, List.getElem_toArray, List.getElem_cons_succ, List.getElem_cons_zero, List.setIfInBounds_toArray, List.set_cons_zero, List.set_cons_succ]
                      refine wpAnyH_take (i := 23) (v := .bool true) rfl (by kernel_rfl) (by kernel_rfl) (by kernel_rfl) (fun _ _ _ h => h) (Or.inl ⟨by rfl, ?_⟩) (by assumption) ?_
                      · intro wz hSw; (try dsimp only at hSw); go_simp; try rfl
                      try simp only [Act.put, List.getElem_toArray, List.getElem_cons_succ, List.getElem_cons_zero, List.setIfInBounds_toArray, List.set_cons_zero, List.set_cons_succ]
                      refine wpAnyH_take (i := 24) (v := .bool true) rfl (by kernel_rfl) (by kernel_rfl) (by kernel_rfl) (fun _ _ _ h => h) (Or.inl ⟨by rfl, ?_⟩) (by assumption) ?_
                      · intro wz hSw; (try dsimp only at hSw); go_simp; try rfl
                      try simp only [Act.put, List.getElem_toArray, List.getElem_cons_succ, List.getElem_cons_zero, List.setIfInBounds_toArray, List.set_cons_zero, List.set_cons_succ]
                      refine wpAnyH_done (by kernel_rfl) ?_ _
                      go_wp2
                      go_meet
                      exact ⟨rfl, BWA⟩
                    case rest =>
                      obtain ⟨rfl, hbz⟩ := hcut
                      go_wp2
                      go_ret
                      exact ⟨rfl, HT9.out.trans (hbz.mono HT9.out.size)⟩
                  · have h1i : ((ys.length : Int) == 1) = false := by simp; omega
                    have hwr : IntKind.i64.wrap ((ys.length : Int) - 1) = (ys.length : Int) - 1 := by rw [IntKind.wrap_i64]; omega
                    clear h1
                    go_upto_region 29 with fail
                    go_cut [2] (fun s wx => s = .bool true ∧ Below wr.heap.size wr wx)
                    case first =>
                      refine wp_region_held_drew (S := (fun w' => w'.cell? ⟨w3.heap.size, 0, none⟩ = some (.slice gp g.length gc) ∧ w'.cell? ⟨lb, lo, none⟩ = some (.int .i64 v) ∧ w'.cell? ⟨lb, lo + (ys.length - 1), none⟩ = some (.int .i64 v))) (by kernel_rfl) ?_ (fun hHeld => ?_)
                      · exact ⟨hbx9, hcf, hcl⟩
                      refine wpAnyH_take (i := 0) (v := .agg #[.slice gp g.length gc]) rfl (by kernel_rfl) (by kernel_rfl) (by kernel_rfl) (fun _ _ _ h => h) (Or.inl ⟨by rfl, ?_⟩) (by assumption) ?_
                      · intro wz hSw; (try dsimp only at hSw); go_simp; try rfl
                      try simp only [Act.put, List.getElem_toArray, List.getElem_cons_succ, List.getElem_cons_zero, List.setIfInBounds_toArray, List.set_cons_zero, List.set_cons_succ]
                      refine wpAnyH_take (i := 1) (v := u12) rfl (by kernel_rfl) (by kernel_rfl) (by kernel_rfl) (fun _ _ _ h => h) (Or.inl ⟨by rfl, ?_⟩) (by assumption) ?_
                      · intro wz hSw; (try dsimp only at hSw); go_simp; try rfl
                      try simp only [Act.put, List.getElem_toArray, List.getElem_cons_succ, List.getElem_cons_zero, List.setIfInBounds_toArray, List.set_cons_zero, List.set_cons_succ]
                      refine wpAnyH_ready (rs := [2]) (by kernel_rfl) (by simp) ?_
                      refine AllReadyH.cons rfl (fun K hK => ?_) AllReadyH.nil
                      go_simp
                      go_at_call 23
                      refine (implTrailOk_yes _ _ g _ _ HOK.out HBK.out HBL.out _ (HG9.out.below (below_dN (Below.refl _ _) 1)) (HNB.out.below (below_dN (Below.refl _ _) 1))).mono ?_
                      rintro e w10 ⟨rfl, hb10⟩
                      have BWA : Below wr.heap.size wr w10 := (below_dN (Below.refl _ _) 1).trans hb10
                      refine hK.out _ _ ?_ (fun hHeld => ?_)
                      · exact ⟨BWA.at' hbx9, BWA.at' hcf, BWA.at' hcl⟩
                      clear hK K
                      try simp only [Act.put, List.getElem_toArray, List.getElem_cons_succ, List.getElem_cons_zero, List.setIfInBounds_toArray, List.set_cons_zero, List.set_cons_succ]
                      refine wpAnyH_take (i := 3) (v := .bool true) rfl (by kernel_rfl) (by kernel_rfl) (by kernel_rfl) (fun _ _ _ h => h) (Or.inl ⟨by rfl, ?_⟩) (by assumption) ?_
                      · intro wz hSw; (try dsimp only at hSw); go_simp; try rfl
                      try simp only [Act.put, List.getElem_toArray, List.getElem_cons_succ, List.getElem_cons_zero, List.setIfInBounds_toArray, List.set_cons_zero, List.set_cons_succ]
                      refine wpAnyH_take (i := 4) (v := .int .i64 q) rfl (by kernel_rfl) (by kernel_rfl) (by kernel_rfl) (fun _ _ _ h => h) (Or.inl ⟨by rfl, ?_⟩) (by assumption) ?_
                      · intro wz hSw; (try dsimp only at hSw); go_simp; try rfl
                      try simp only [Act.put, List.getElem_toArray, List.getElem_cons_succ, List.getElem_cons_zero, List.setIfInBounds_toArray, List.set_cons_zero, List.set_cons_succ]
                      refine wpAnyH_take (i := 5) (v := .bool false) rfl (by kernel_rfl) (by kernel_rfl) (by kernel_rfl) (fun _ _ _ h => h) (Or.inl ⟨by rfl, ?_⟩) (by assumption) ?_
                      · intro wz hSw; (try dsimp only at hSw); go_simp; try rfl
                        all_goals omega
                      try simp only [Act.put, List.getElem_toArray, List.getElem_cons_succ, List.getElem_cons_zero, List.setIfInBounds_toArray, List.set_cons_zero, List.set_cons_succ]
                      refine wpAnyH_take (i := 6) (v := .bool false) rfl (by kernel_rfl) (by kernel_rfl) (by kernel_rfl) (fun _ _ _ h => h) (Or.inl ⟨by rfl, ?_⟩) (by assumption) ?_
                      · intro wz hSw; (try dsimp only at hSw); go_simp; try rfl
                      try simp only [Act.put, List.getElem_toArray, List.getElem_cons_succ, List.getElem_cons_zero, List.setIfInBounds_toArray, List.set_cons_zero, List.set_cons_succ]
                      refine wpAnyH_take (i := 7) (v := .slice (some ⟨lb, lo, none⟩) ys.length oc) rfl (by kernel_rfl) (by kernel_rfl) (by kernel_rfl) (fun _ _ _ h => h) (Or.inl ⟨by rfl, ?_⟩) (by assumption) ?_
                      · intro wz hSw; (try dsimp only at hSw); go_simp; try rfl
                      try simp only [Act.put, List.getElem_toArray, List.getElem_cons_succ, List.getElem_cons_zero, List.setIfInBounds_toArray, List.set_cons_zero, List.set_cons_succ]
                      refine wpAnyH_take (i := 8) (v := .int .i64 ys.length) rfl (by kernel_rfl) (by kernel_rfl) (by kernel_rfl) (fun _ _ _ h => h) (Or.inl ⟨by rfl, ?_⟩) (by assumption) ?_
                      · intro wz hSw; (try dsimp only at hSw); go_simp; try rfl
                      try simp only [Act.put, List.getElem_toArray, List.getElem_cons_succ, List.getElem_cons_zero, List.setIfInBounds_toArray, List.set_cons_zero, List.set_cons_succ]
                      refine wpAnyH_take (i := 9) (v := .bool false) rfl (by kernel_rfl) (by kernel_rfl) (by kernel_rfl) (fun _ _ _ h => h) (Or.inl ⟨by rfl, ?_⟩) (by assumption) ?_
                      · intro wz hSw; (try dsimp only at hSw); go_simp; try rfl
                      try simp only [Act.put, List.getElem_toArray, List.getElem_cons_succ, List.getElem_cons_zero, List.setIfInBounds_toArray, List.set_cons_zero, List.set_cons_succ]
                      refine wpAnyH_take (i := 10) (v := .bool false) rfl (by kernel_rfl) (by kernel_rfl) (by kernel_rfl) (fun _ _ _ h => h) (Or.inl ⟨by rfl, ?_⟩) (by assumption) ?_
                      · intro wz hSw; (try dsimp only at hSw); go_simp; try rfl
                      try simp only [Act.put, List.getElem_toArray, List.getElem_cons_succ, List.getElem_cons_zero, List.setIfInBounds_toArray, List.set_cons_zero, List.set_cons_succ]
                      refine wpAnyH_take (i := 11) (v := .bool false) rfl (by kernel_rfl) (by kernel_rfl) (by kernel_rfl) (fun _ _ _ h => h) (Or.inl ⟨by rfl, ?_⟩) (by assumption) ?_
                      · intro wz hSw; (try dsimp only at hSw); go_simp; try rfl
                      try simp only [Act.put, List.getElem_toArray, List.getElem_cons_succ, List.getElem_cons_zero, List.setIfInBounds_toArray, List.set_cons_zero, List.set_cons_succ]
                      refine wpAnyH_take (i := 12) (v := .slice (some ⟨lb, lo, none⟩) ys.length oc) rfl (by kernel_rfl) (by kernel_rfl) (by kernel_rfl) (fun _ _ _ h => h) (Or.inl ⟨by rfl, ?_⟩) (by assumption) ?_
                      · intro wz hSw; (try dsimp only at hSw); go_simp; try rfl
                      try simp only [Act.put, List.getElem_toArray, List.getElem_cons_succ, List.getElem_cons_zero, List.setIfInBounds_toArray, List.set_cons_zero, List.set_cons_succ]
                      refine wpAnyH_take (i := 13) (v := .pointer (some ⟨lb, lo, none⟩)) rfl (by kernel_rfl) (by kernel_rfl) (by kernel_rfl) (fun _ _ _ h => h) (Or.inl ⟨by rfl, ?_⟩) (by assumption) ?_
                      · intro wz hSw; (try dsimp only at hSw); go_simp; try rfl
                        all_goals (intro h; have h9 := hy1n; rw [h] at h9; simp at h9)
                      try simp only [Act.put, List.getElem_toArray, List.getElem_cons_succ, List.getElem_cons_zero, List.setIfInBounds_toArray, List.set_cons_zero, List.set_cons_succ]
                      refine wpAnyH_take (i := 14) (v := .int .i64 v) rfl (by kernel_rfl) (by kernel_rfl) (by kernel_rfl) (fun _ _ _ h => h) (Or.inl ⟨by rfl, ?_⟩) (by assumption) ?_
                      · intro wz hSw; (try dsimp only at hSw); go_simp; try rfl
                      try simp only [Act.put, List.getElem_toArray, List.getElem_cons_succ, List.getElem_cons_zero, List.setIfInBounds_toArray, List.set_cons_zero, List.set_cons_succ]
                      refine wpAnyH_take (i := 15) (v := .slice (some ⟨lb, lo, none⟩) ys.length oc) rfl (by kernel_rfl) (by kernel_rfl) (by kernel_rfl) (fun _ _ _ h => h) (Or.inl ⟨by rfl, ?_⟩) (by assumption) ?_
                      · intro wz hSw; (try dsimp only at hSw); go_simp; try rfl
                      try simp only [Act.put, List.getElem_toArray, List.getElem_cons_succ, List.getElem_cons_zero, List.setIfInBounds_toArray, List.set_cons_zero, List.set_cons_succ]
                      refine wpAnyH_take (i := 16) (v := .slice (some ⟨lb, lo, none⟩) ys.length oc) rfl (by kernel_rfl) (by kernel_rfl) (by kernel_rfl) (fun _ _ _ h => h) (Or.inl ⟨by rfl, ?_⟩) (by assumption) ?_
                      · intro wz hSw; (try dsimp only at hSw); go_simp; try rfl
                      try simp only [Act.put, List.getElem_toArray, List.getElem_cons_succ, List.getElem_cons_zero, List.setIfInBounds_toArray, List.set_cons_zero, List.set_cons_succ]
                      refine wpAnyH_take (i := 17) (v := .int .i64 ys.length) rfl (by kernel_rfl) (by kernel_rfl) (by kernel_rfl) (fun _ _ _ h => h) (Or.inl ⟨by rfl, ?_⟩) (by assumption) ?_
                      · intro wz hSw; (try dsimp only at hSw); go_simp; try rfl
                      try simp only [Act.put, List.getElem_toArray, List.getElem_cons_succ, List.getElem_cons_zero, List.setIfInBounds_toArray, List.set_cons_zero, List.set_cons_succ]
                      refine wpAnyH_take (i := 18) (v := .int .i64 ((ys.length : Int) - 1)) rfl (by kernel_rfl) (by kernel_rfl) (by kernel_rfl) (fun _ _ _ h => h) (Or.inl ⟨by rfl, ?_⟩) (by assumption) ?_
                      · intro wz hSw; (try dsimp only at hSw); go_simp; try rfl
                      try simp only [Act.put, List.getElem_toArray, List.getElem_cons_succ, List.getElem_cons_zero, List.setIfInBounds_toArray, List.set_cons_zero, List.set_cons_succ]
                      refine wpAnyH_take (i := 19) (v := .pointer (some ⟨lb, lo + (ys.length - 1), none⟩)) rfl (by kernel_rfl) (by kernel_rfl) (by kernel_rfl) (fun _ _ _ h => h) (Or.inl ⟨by rfl, ?_⟩) (by assumption) ?_
                      · intro wz hSw; (try dsimp only at hSw); go_simp; try rfl
                        all_goals (intro h; have h9 := h (by omega); omega)
                      try simp only [Act.put, List.getElem_toArray, List.getElem_cons_succ, List.getElem_cons_zero, List.setIfInBounds_toArray, List.set_cons_zero, List.set_cons_succ]
                      refine wpAnyH_take (i := 20) (v := .int .i64 v) rfl (by kernel_rfl) (by kernel_rfl) (by kernel_rfl) (fun _ _ _ h => h) (Or.inl ⟨by rfl, ?_⟩) (by assumption) ?_
                      · intro wz hSw; (try dsimp only at hSw); go_simp; try rfl
                      try simp only [Act.put, List.getElem_toArray, List.getElem_cons_succ, List.getElem_cons_zero, List.setIfInBounds_toArray, List.set_cons_zero, List.set_cons_succ]
                      refine wpAnyH_take (i := 21) (v := .bool true) rfl (by kernel_rfl) (by kernel_rfl) (by kernel_rfl) (fun _ _ _ h => h) (Or.inl ⟨by rfl, ?_⟩) (by assumption) ?_
                      · intro wz hSw; (try dsimp only at hSw); go_simp; try rfl
                      try simp only [Act.put, List.getElem_toArray, List.getElem_cons_succ, List.getElem_cons_zero, List.setIfInBounds_toArray, List.set_cons_zero, List.set_cons_succ]
                      refine wpAnyH_take (i := 22) (v := .bool true) rfl (by kernel_rfl) (by kernel_rfl) (by kernel_rfl) (fun _ _ _ h => h) (Or.inl ⟨by rfl, ?_⟩) (by assumption) ?_
                      · intro wz hSw; (try dsimp only at hSw); go_simp; try rfl
                      try simp only [Act.put, List.getElem_toArray, List.getElem_cons_succ, List.getElem_cons_zero, List.setIfInBounds_toArray, List.set_cons_zero, List.set_cons_succ]
                      refine wpAnyH_take (i := 23) (v := .bool true) rfl (by kernel_rfl) (by kernel_rfl) (by kernel_rfl) (fun _ _ _ h => h) (Or.inl ⟨by rfl, ?_⟩) (by assumption) ?_
                      · intro wz hSw; (try dsimp only at hSw); go_simp; try rfl
                      try simp only [Act.put, List.getElem_toArray, List.getElem_cons_succ, List.getElem_cons_zero, List.setIfInBounds_toArray, List.set_cons_zero, List.set_cons_succ]
                      refine wpAnyH_take (i := 24) (v := .bool true) rfl (by kernel_rfl) (by kernel_rfl) (by kernel_rfl) (fun _ _ _ h => h) (Or.inl ⟨by rfl, ?_⟩) (by assumption) ?_
                      · intro wz hSw; (try dsimp only at hSw); go_simp; try rfl
                      try simp only [Act.put, List.getElem_toArray, List.getElem_cons_succ, List.getElem_cons_zero, List.setIfInBounds_toArray, List.set_cons_zero, List.set_cons_succ]
                      refine wpAnyH_done (by kernel_rfl) ?_ _
                      go_wp2
                      go_meet
                      exact ⟨rfl, BWA⟩
                    case rest =>
                      obtain ⟨rfl, hbz⟩ := hcut
                      go_wp2
                      go_ret
                      exact ⟨rfl, HT9.out.trans (hbz.mono HT9.out.size)⟩
                · have hqp : (0 : Int) < (q : Int) := by omega
                  clear hcf hcl hq0
                  go_upto_region 29 with fail
                  go_cut [2] (fun s wx => s = .bool true ∧ Below wr.heap.size wr wx)
                  case first =>
                    refine wp_region_held_drew (S := (fun w' => w'.cell? ⟨w3.heap.size, 0, none⟩ = some (.slice gp g.length gc))) (by kernel_rfl) ?_ (fun hHeld => ?_)
                    · exact hbx9
                    refine wpAnyH_take (i := 0) (v := .agg #[.slice gp g.length gc]) rfl (by kernel_rfl) (by kernel_rfl) (by kernel_rfl) (fun _ _ _ h => h) (Or.inl ⟨by rfl, ?_⟩) (by assumption) ?_
                    · intro wz hSw; (try dsimp only at hSw); go_simp; try rfl
                    try simp only [Act.put, List.getElem_toArray, List.getElem_cons_succ, List.getElem_cons_zero, List.setIfInBounds_toArray, List.set_cons_zero, List.set_cons_succ]
                    refine wpAnyH_take (i := 1) (v := u12) rfl (by kernel_rfl) (by kernel_rfl) (by kernel_rfl) (fun _ _ _ h => h) (Or.inl ⟨by rfl, ?_⟩) (by assumption) ?_
                    · intro wz hSw; (try dsimp only at hSw); go_simp; try rfl
                    try simp only [Act.put, List.getElem_toArray, List.getElem_cons_succ, List.getElem_cons_zero, List.setIfInBounds_toArray, List.set_cons_zero, List.set_cons_succ]
                    refine wpAnyH_ready (rs := [2]) (by kernel_rfl) (by simp) ?_
                    refine AllReadyH.cons rfl (fun K hK => ?_) AllReadyH.nil
                    go_simp
                    go_at_call 23
                    refine (implTrailOk_yes _ _ g _ _ HOK.out HBK.out HBL.out _ (HG9.out.below (below_dN (Below.refl _ _) 1)) (HNB.out.below (below_dN (Below.refl _ _) 1))).mono ?_
                    rintro e w10 ⟨rfl, hb10⟩
                    have BWA : Below wr.heap.size wr w10 := (below_dN (Below.refl _ _) 1).trans hb10
                    refine hK.out _ _ ?_ (fun hHeld => ?_)
                    · exact BWA.at' hbx9
                    clear hK K
                    try simp only [Act.put, List.getElem_toArray, List.getElem_cons_succ, List.getElem_cons_zero, List.setIfInBounds_toArray, List.set_cons_zero, List.set_cons_succ]
                    refine wpAnyH_take (i := 3) (v := .bool true) rfl (by kernel_rfl) (by kernel_rfl) (by kernel_rfl) (fun _ _ _ h => h) (Or.inl ⟨by rfl, ?_⟩) (by assumption) ?_
                    · intro wz hSw; (try dsimp only at hSw); go_simp; try rfl
                    try simp only [Act.put, List.getElem_toArray, List.getElem_cons_succ, List.getElem_cons_zero, List.setIfInBounds_toArray, List.set_cons_zero, List.set_cons_succ]
                    refine wpAnyH_take (i := 4) (v := .int .i64 q) rfl (by kernel_rfl) (by kernel_rfl) (by kernel_rfl) (fun _ _ _ h => h) (Or.inl ⟨by rfl, ?_⟩) (by assumption) ?_
                    · intro wz hSw; (try dsimp only at hSw); go_simp; try rfl
                    try simp only [Act.put, List.getElem_toArray, List.getElem_cons_succ, List.getElem_cons_zero, List.setIfInBounds_toArray, List.set_cons_zero, List.set_cons_succ]
                    refine wpAnyH_take (i := 5) (v := .bool true) rfl (by kernel_rfl) (by kernel_rfl) (by kernel_rfl) (fun _ _ _ h => h) (Or.inl ⟨by rfl, ?_⟩) (by assumption) ?_
                    · intro wz hSw; (try dsimp only at hSw); go_simp; try rfl
                      all_goals omega
                    try simp only [Act.put, List.getElem_toArray, List.getElem_cons_succ, List.getElem_cons_zero, List.setIfInBounds_toArray, List.set_cons_zero, List.set_cons_succ]
                    refine wpAnyH_take (i := 6) (v := .bool true) rfl (by kernel_rfl) (by kernel_rfl) (by kernel_rfl) (fun _ _ _ h => h) (Or.inl ⟨by rfl, ?_⟩) (by assumption) ?_
                    · intro wz hSw; (try dsimp only at hSw); go_simp; try rfl
                    try simp only [Act.put, List.getElem_toArray, List.getElem_cons_succ, List.getElem_cons_zero, List.setIfInBounds_toArray, List.set_cons_zero, List.set_cons_succ]
                    refine wpAnyH_take (i := 7) (v := undef) rfl (by kernel_rfl) (by kernel_rfl) (by kernel_rfl) (fun _ _ _ h => h) (Or.inr ⟨by kernel_rfl, rfl⟩) (by assumption) ?_
                    try simp only [Act.put, List.getElem_toArray, List.getElem_cons_succ, List.getElem_cons_zero, List.setIfInBounds_toArray, List.set_cons_zero, List.set_cons_succ]
                    refine wpAnyH_take (i := 8) (v := undef) rfl (by kernel_rfl) (by kernel_rfl) (by kernel_rfl) (fun _ _ _ h => h) (Or.inr ⟨by kernel_rfl, rfl⟩) (by assumption) ?_
                    try simp only [Act.put, List.getElem_toArray, List.getElem_cons_succ, List.getElem_cons_zero, List.setIfInBounds_toArray, List.set_cons_zero, List.set_cons_succ]
                    refine wpAnyH_take (i := 9) (v := undef) rfl (by kernel_rfl) (by kernel_rfl) (by kernel_rfl) (fun _ _ _ h => h) (Or.inr ⟨by kernel_rfl, rfl⟩) (by assumption) ?_
                    try simp only [Act.put, List.getElem_toArray, List.getElem_cons_succ, List.getElem_cons_zero, List.setIfInBounds_toArray, List.set_cons_zero, List.set_cons_succ]
                    refine wpAnyH_take (i := 10) (v := .bool true) rfl (by kernel_rfl) (by kernel_rfl) (by kernel_rfl) (fun _ _ _ h => h) (Or.inl ⟨by rfl, ?_⟩) (by assumption) ?_
                    · intro wz hSw; (try dsimp only at hSw); go_simp; try rfl
                    try simp only [Act.put, List.getElem_toArray, List.getElem_cons_succ, List.getElem_cons_zero, List.setIfInBounds_toArray, List.set_cons_zero, List.set_cons_succ]
                    refine wpAnyH_take (i := 11) (v := .bool true) rfl (by kernel_rfl) (by kernel_rfl) (by kernel_rfl) (fun _ _ _ h => h) (Or.inl ⟨by rfl, ?_⟩) (by assumption) ?_
                    · intro wz hSw; (try dsimp only at hSw); go_simp; try rfl
                    try simp only [Act.put, List.getElem_toArray, List.getElem_cons_succ, List.getElem_cons_zero, List.setIfInBounds_toArray, List.set_cons_zero, List.set_cons_succ]
                    refine wpAnyH_take (i := 12) (v := undef) rfl (by kernel_rfl) (by kernel_rfl) (by kernel_rfl) (fun _ _ _ h => h) (Or.inr ⟨by kernel_rfl, rfl⟩) (by assumption) ?_
                    try simp only [Act.put, List.getElem_toArray, List.getElem_cons_succ, List.getElem_cons_zero, List.setIfInBounds_toArray, List.set_cons_zero, List.set_cons_succ]
                    refine wpAnyH_take (i := 13) (v := undef) rfl (by kernel_rfl) (by kernel_rfl) (by kernel_rfl) (fun _ _ _ h => h) (Or.inr ⟨by kernel_rfl, rfl⟩) (by assumption) ?_
                    try simp only [Act.put, List.getElem_toArray, List.getElem_cons_succ, List.getElem_cons_zero, List.setIfInBounds_toArray, List.set_cons_zero, List.set_cons_succ]
                    refine wpAnyH_take (i := 14) (v := undef) rfl (by kernel_rfl) (by kernel_rfl) (by kernel_rfl) (fun _ _ _ h => h) (Or.inr ⟨by kernel_rfl, rfl⟩) (by assumption) ?_
                    try simp only [Act.put, List.getElem_toArray, List.getElem_cons_succ, List.getElem_cons_zero, List.setIfInBounds_toArray, List.set_cons_zero, List.set_cons_succ]
                    refine wpAnyH_take (i := 15) (v := undef) rfl (by kernel_rfl) (by kernel_rfl) (by kernel_rfl) (fun _ _ _ h => h) (Or.inr ⟨by kernel_rfl, rfl⟩) (by assumption) ?_
                    try simp only [Act.put, List.getElem_toArray, List.getElem_cons_succ, List.getElem_cons_zero, List.setIfInBounds_toArray, List.set_cons_zero, List.set_cons_succ]
                    refine wpAnyH_take (i := 16) (v := undef) rfl (by kernel_rfl) (by kernel_rfl) (by kernel_rfl) (fun _ _ _ h => h) (Or.inr ⟨by kernel_rfl, rfl⟩) (by assumption) ?_
                    try simp only [Act.put, List.getElem_toArray, List.getElem_cons_succ, List.getElem_cons_zero, List.setIfInBounds_toArray, List.set_cons_zero, List.set_cons_succ]
                    refine wpAnyH_take (i := 17) (v := undef) rfl (by kernel_rfl) (by kernel_rfl) (by kernel_rfl) (fun _ _ _ h => h) (Or.inr ⟨by kernel_rfl, rfl⟩) (by assumption) ?_
                    try simp only [Act.put, List.getElem_toArray, List.getElem_cons_succ, List.getElem_cons_zero, List.setIfInBounds_toArray, List.set_cons_zero, List.set_cons_succ]
                    refine wpAnyH_take (i := 18) (v := undef) rfl (by kernel_rfl) (by kernel_rfl) (by kernel_rfl) (fun _ _ _ h => h) (Or.inr ⟨by kernel_rfl, rfl⟩) (by assumption) ?_
                    try simp only [Act.put, List.getElem_toArray, List.getElem_cons_succ, List.getElem_cons_zero, List.setIfInBounds_toArray, List.set_cons_zero, List.set_cons_succ]
                    refine wpAnyH_take (i := 19) (v := undef) rfl (by kernel_rfl) (by kernel_rfl) (by kernel_rfl) (fun _ _ _ h => h) (Or.inr ⟨by kernel_rfl, rfl⟩) (by assumption) ?_
                    try simp only [Act.put, List.getElem_toArray, List.getElem_cons_succ, List.getElem_cons_zero, List.setIfInBounds_toArray, List.set_cons_zero, List.set_cons_succ]
                    refine wpAnyH_take (i := 20) (v := undef) rfl (by kernel_rfl) (by kernel_rfl) (by kernel_rfl) (fun _ _ _ h => h) (Or.inr ⟨by kernel_rfl, rfl⟩) (by assumption) ?_
                    try simp only [Act.put, List.getElem_toArray, List.getElem_cons_succ, List.getElem_cons_zero, List.setIfInBounds_toArray, List.set_cons_zero, List.set_cons_succ]
                    refine wpAnyH_take (i := 21) (v := undef) rfl (by kernel_rfl) (by kernel_rfl) (by kernel_rfl) (fun _ _ _ h => h) (Or.inr ⟨by kernel_rfl, rfl⟩) (by assumption) ?_
                    try simp only [Act.put, List.getElem_toArray, List.getElem_cons_succ, List.getElem_cons_zero, List.setIfInBounds_toArray, List.set_cons_zero, List.set_cons_succ]
                    refine wpAnyH_take (i := 22) (v := .bool true) rfl (by kernel_rfl) (by kernel_rfl) (by kernel_rfl) (fun _ _ _ h => h) (Or.inl ⟨by rfl, ?_⟩) (by assumption) ?_
                    · intro wz hSw; (try dsimp only at hSw); go_simp; try rfl
                    try simp only [Act.put, List.getElem_toArray, List.getElem_cons_succ, List.getElem_cons_zero, List.setIfInBounds_toArray, List.set_cons_zero, List.set_cons_succ]
                    refine wpAnyH_take (i := 23) (v := .bool true) rfl (by kernel_rfl) (by kernel_rfl) (by kernel_rfl) (fun _ _ _ h => h) (Or.inl ⟨by rfl, ?_⟩) (by assumption) ?_
                    · intro wz hSw; (try dsimp only at hSw); go_simp; try rfl
                    try simp only [Act.put, List.getElem_toArray, List.getElem_cons_succ, List.getElem_cons_zero, List.setIfInBounds_toArray, List.set_cons_zero, List.set_cons_succ]
                    refine wpAnyH_take (i := 24) (v := .bool true) rfl (by kernel_rfl) (by kernel_rfl) (by kernel_rfl) (fun _ _ _ h => h) (Or.inl ⟨by rfl, ?_⟩) (by assumption) ?_
                    · intro wz hSw; (try dsimp only at hSw); go_simp; try rfl
                    try simp only [Act.put, List.getElem_toArray, List.getElem_cons_succ, List.getElem_cons_zero, List.setIfInBounds_toArray, List.set_cons_zero, List.set_cons_succ]
                    refine wpAnyH_done (by kernel_rfl) ?_ _
                    go_wp2
                    go_meet
                    exact ⟨rfl, BWA⟩
                  case rest =>
                    obtain ⟨rfl, hbz⟩ := hcut
                    go_wp2
                    go_ret
                    exact ⟨rfl, HT9.out.trans (hbz.mono HT9.out.size)⟩

end Go.Proofs.YtjdlmjmhlbpooaaDoor
