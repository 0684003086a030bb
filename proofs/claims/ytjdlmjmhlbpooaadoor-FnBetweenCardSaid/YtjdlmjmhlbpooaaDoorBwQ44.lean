/- Walk: the law FnBetween (printed by wip/mkBw.py). -/
import Derived.Test.YtjdlmjmhlbpooaaDoorBwQ28
import Derived.Test.YtjdlmjmhlbpooaaDoorBwQ36
import Derived.Test.YtjdlmjmhlbpooaaDoorBwQ40
import Derived.Test.YtjdlmjmhlbpooaaDoorBwQ42
import Derived.Test.YtjdlmjmhlbpooaaDoorBwQ43
namespace Go.Proofs.YtjdlmjmhlbpooaaDoor
open Go.RowKit

theorem Gr.dicedW {w0 w w' : World} {db : Nat} {bs : List Int} (h : Dice w0 w db bs) (hg : w.grownBy w' (some db)) {v : Value} {g : List (List Int)} (hs : Gr w v g) : Gr w' v g := by
  obtain ⟨u, rfl, vals, h1, h2, h3⟩ := hs
  exact ⟨u, rfl, vals, h1, Sl.diced h hg (by decide) h2, fun j hj => Sl.diced h hg (by decide) (h3 j hj)⟩

set_option maxRecDepth 100000 in
set_option maxHeartbeats 8000000 in
theorem lawBetween_any (v0 : Value) (bs : List Int) (W : World) (ha : ArgB W v0 bs) (hT : Tab W) :
    Calls Tryd.prog 7 #[v0] W fun e w' => e = .returned (.bool true) ∧ Below W.heap.size W w' := by
  obtain ⟨p, c, e0, _⟩ := id ha
  subst e0
  have HA := Lib.hid ha
  have HT := Lib.hid hT
  clear ha hT
  go_enter Tryd.func7, Tryd.ntmps7
  by_cases hbig : 4096 < bs.length
  · have hd := decide_eq_true hbig
    go_wp2_with (go_at_call 18; refine (big_any _ bs _ HA.out).mono ?_; rintro e w2 ⟨he, rfl⟩; rw [hd] at he; subst he)
    go_ret
    exact ⟨rfl, Below.refl _ _⟩
  have hd := decide_eq_false hbig
  have hl : bs.length ≤ 4096 := by omega
  clear hbig
  go_upto_region 5 with (first
    | (go_at_call 39; refine (w9Graph_any W db bs 7 _ rfl (by decide) (by decide) _ HD2.out HDL.out).mono ?_; rintro e w3 ⟨u, n, E, rfl, hn1, hn7, hse, hsg, hd3, hg3⟩; have HSE := Lib.hid hse; have HSG := Lib.hid hsg; have HD3 := Lib.hid hd3; obtain ⟨gp, gc, rfl⟩ := hsg.shape; clear hse hsg hd3 hg3)
    | (go_at_call 19; refine (roll_any _ bs _ hl _ HA.out).mono ?_; rintro e w2 ⟨db, rfl, hd2, hb2⟩; have HD2 := Lib.hid hd2; have HDL : Hid (db < w2.heap.size) := Lib.hid (by obtain ⟨_, _, _, h1, _⟩ := hd2.ex; exact h1.lt); clear hd2 hb2)
    | (go_at_call 18; refine (big_any _ bs _ HA.out).mono ?_; rintro e w1 ⟨he, rfl⟩; rw [hd] at he; subst he))
  obtain ⟨g, hga⟩ : ∃ g, g = matG n E := ⟨_, rfl⟩
  have hgl : g.length = n := by rw [hga, matG_length]
  have HOK : Hid (GOk g) := Lib.hid (by rw [hga]; exact gok_matG hn1 (by omega) HSE.out.1 HSE.out.2)
  rw [← hga] at HSG ⊢
  have hg7 : g.length ≤ 7 := by omega
  have hgp := HOK.out.pos
  obtain ⟨w4, hw4⟩ : ∃ w4, w4 = w3.alloc (.cells #[.slice gp g.length gc] 29) := ⟨_, rfl⟩
  rw [← hw4]
  have hb34 : Below w3.heap.size w3 w4 := by rw [hw4]; exact below_alloc _ _
  have HX4 : Hid (Box w4 w3.heap.size 29 (.slice gp g.length gc)) := Lib.hid (by rw [hw4]; exact Box.new _ _ _)
  have HG4 : Hid (Gr w4 (.agg #[.slice gp g.length gc]) g) := Lib.hid ((HSG.out.below hb34).gr (by omega))
  have HD4 := Lib.hid (HD3.out.keep hb34)
  have c4 := HX4.out.cell
  generalize w3.heap.size = bx at *
  clear hga hw4 hb34 HSG hn7 hgl hn1 HD2 HDL HD3 HSE hd
  go_upto_region 6 with fail
  clear c4
  go_upto_region 8 with (first
    | (have X5 := HD5; go_at_call 40; refine (below_any W db bs g.length _ rfl hgp (by omega) _ X5.out).mono ?_; rintro e w6 ⟨t, rfl, ht, hd6, hg6⟩; have HX6 := Lib.hid (HX5.out.diced X5.out hg6 (by decide)); have HG6 := Lib.hid (Gr.dicedW X5.out hg6 HG5.out); have HD6 := Lib.hid hd6; clear hd6 hg6)
    | (go_at_call 40; refine (below_any W db bs g.length _ rfl hgp (by omega) _ HD4.out).mono ?_; rintro e w5 ⟨s, rfl, hs, hd5, hg5⟩; have HX5 := Lib.hid (HX4.out.diced HD4.out hg5 (by decide)); have HG5 := Lib.hid (Gr.dicedW HD4.out hg5 HG4.out); have HD5 := Lib.hid hd5; clear hd5 hg5))
  have HW6 := Lib.hid HD6.out.bel
  have HT6 := Lib.hid (HT.out.keep HW6.out)
  have c6 := HX6.out.cell
  clear HX4 HG4 HD4 HX5 HG5 HD5 HD6 HA HT
  go_upto_region 11 with (first
    | (go_at_call 41; refine (implBetweenOf_any _ g _ _ s t rfl rfl HOK.out hs ht _ HG6.out HT6.out).mono ?_; rintro e w7 ⟨lv, L, rfl, hnl, hll, hlin, hb7⟩; have HNL := Lib.hid hnl; have HLB := Lib.hid hlin; have HB7 := Lib.hid hb7; have c7 := hb7.at' c6; obtain ⟨lp, lc, rfl, _⟩ := id hnl.shape; clear hnl hlin hb7)
    | (go_at_call 42; refine (specPathOf_any _ g _ _ s t rfl rfl HOK.out hs ht _ (HG6.out.below HB7.out)).mono ?_; rintro e w8 ⟨yv, way, rfl, hny, hyin, hyr, _, hb8⟩; have HNY := Lib.hid hny; have HYI := Lib.hid hyin; have HYR := Lib.hid hyr; have HB8 := Lib.hid (HB7.out.trans (hb8.mono HB7.out.size)); have HNL8 := Lib.hid (HNL.out.below hb8); have c8 := hb8.at' c7; obtain ⟨yp, yc, rfl, _⟩ := id hny.shape; clear hny hyin hyr hb8)
    | (go_at_call 43; refine (implCutVertices_any _ g HOK.out _ (HG6.out.below HB8.out) (HT6.out.keep HB8.out)).mono ?_; rintro e w9 ⟨cv, C, rfl, hnc, _, _, hcin, hb9⟩; have HNC := Lib.hid hnc; have HCI := Lib.hid hcin; have HB9 := Lib.hid (HB8.out.trans (hb9.mono HB8.out.size)); have HNL9 := Lib.hid (HNL8.out.below hb9); have HNY9 := Lib.hid (HNY.out.below hb9); have c9 := hb9.at' c8; obtain ⟨cp, cc, rfl, _⟩ := id hnc.shape; clear hnc hcin hb9))
  have HX9 := Lib.hid (HX6.out.keep HB9.out)
  have HG9 := Lib.hid (HG6.out.below HB9.out)
  have HT9 := Lib.hid (HT6.out.keep HB9.out)
  have HW9 := Lib.hid (HW6.out.trans (HB9.out.mono HW6.out.size))
  have HWAY : Hid (∀ x ∈ L, x ∈ way) := Lib.hid (fun x hx => by
    obtain ⟨_, hb⟩ := HLB.out x hx
    exact between_way (L := List.range g.length) (fun y hy => List.mem_range.2 (HYI.out y hy)) (HYR.out hb.2.2.1) hb)
  have HCUT : Hid (∀ x ∈ L, x ∈ C) := Lib.hid (fun x hx => by
    obtain ⟨hxn, hb⟩ := HLB.out x hx
    exact (HCI.out x).2 (between_cut (ofG_sym HOK.out) (List.mem_range.2 hs) (List.mem_range.2 ht) (List.mem_range.2 hxn) hb))
  have hnl1 := natInts_length L
  have hny1 := natInts_length way
  have hnc1 := natInts_length C
  rw [hnl1] at HNL9 ⊢
  rw [hny1] at HNY9 ⊢
  rw [hnc1] at HNC ⊢
  clear HNL HNL8 HNY HB7 HB8 HX6 HG6 HT6 HW6 HB9 c6 c7 c8 HYI HYR HCI hnl1 hny1 hnc1
  go_wp2_with fail
  go_loopw [11] (fun iv wr => ∃ k : Nat, k ≤ L.length ∧ iv = .int .i64 (k : Int) ∧ wr = w9) (fun iv _ => L.length - (intOf iv).toNat)
  case atStart => exact ⟨0, Nat.zero_le _, rfl, rfl⟩
  case round =>
    obtain ⟨k, hk, rfl, hw⟩ := hrel
    have hw' := hw.symm
    clear hw
    subst hw'
    by_cases hlt : k < L.length
    · obtain ⟨x, hx⟩ : ∃ x, x = L[k] := ⟨_, rfl⟩
      have hxL : x ∈ L := by rw [hx]; exact List.getElem_mem hlt
      obtain ⟨eb, eo, hep, hce⟩ := HNL9.out.get (k := k) (by rw [natInts_length]; exact hlt)
      subst hep
      have e1 : (natInts L)[k]'(by rw [natInts_length]; exact hlt) = (x : Int) := by rw [hx]; simp [natInts]
      rw [e1] at hce
      have HDW := Lib.hid (dec_true (show (x : Int) ∈ natInts way from mem_natInts.2 ⟨x, HWAY.out x hxL, rfl⟩))
      have HDC := Lib.hid (dec_true (show (x : Int) ∈ natInts C from mem_natInts.2 ⟨x, HCUT.out x hxL, rfl⟩))
      have hbx := (HLB.out x hxL).2
      have hxs : ((x : Int) == (s : Int)) = false := beq_eq_false_iff_ne.2 (by have := hbx.1; omega)
      have hxt : ((x : Int) == (t : Int)) = false := beq_eq_false_iff_ne.2 (by have := hbx.2.1; omega)
      clear hx hxL e1 hbx
      go_wp2_with (first
        | (have X1 := MK1; go_at_call 44; refine (w9Has_any _ (natInts C) (x : Int) _ HNC.out).mono ?_; rintro e wa ⟨he, rfl⟩; rw [HDC.out] at he; subst he)
        | (go_at_call 44; refine (w9Has_any _ (natInts way) (x : Int) _ HNY9.out).mono ?_; rintro e wa ⟨he, rfl⟩; rw [HDW.out] at he; subst he; have MK1 := trivial))
      go_roundw
      case rel => exact ⟨k + 1, by omega, by go_num, by first | rfl | trivial⟩
      case measure => simp [intOf]; omega
    · obtain rfl : k = L.length := by omega
      clear hlt hk
      go_upto_region 18 with (first
        | (go_at_call 45; refine (implEdgeParts_any _ g _ HG9.out HT9.out).mono ?_; rintro e w10 ⟨pv, gg, rfl, hep, hdg, hgg32, hggr, hb10⟩; have HEP := Lib.hid hep; have HGG := Lib.hid (hdg.gr (by omega) (fun j _ => Nat.le_trans (hggr j) (by decide))); have HB10 := Lib.hid hb10; have c10 := hb10.at' c9; clear hep hdg hb10)
        | (go_at_call 46; refine (implBridgesOf_any _ g HOK.out _ (HG9.out.below HB10.out) (HT9.out.keep HB10.out)).mono ?_; rintro e w11 ⟨qv, rfl, hpq, hb11⟩; have HPQ := Lib.hid hpq; have HB11 := Lib.hid (HB10.out.trans (hb11.mono HB10.out.size)); have HGG11 := Lib.hid (HGG.out.below hb11); have c11 := hb11.at' c10; clear hpq hb11))
      have HG11 := Lib.hid (HG9.out.below HB11.out)
      have HX11 := Lib.hid (HX9.out.keep HB11.out)
      have HT11 := Lib.hid (HT9.out.keep HB11.out)
      have HW11 := Lib.hid (HW9.out.trans (HB11.out.mono HW9.out.size))
      obtain ⟨l, hldef⟩ : ∃ l, l = brdL g.length (ofG g) (edN g.length (ofG g) g.length) := ⟨_, rfl⟩
      rw [← hldef] at HPQ
      obtain ⟨qs, HQS, hgq⟩ : ∃ qs, Hid (Parts (cutAll (ofG g) l) (List.range g.length) qs) ∧ gg = qs.map natInts := by
        rcases HEP.out with ⟨_, qs, h1, h2⟩ | ⟨h1, _⟩
        · exact ⟨qs, Lib.hid (by rw [hldef]; exact h1), h2⟩
        · exact absurd HOK.out h1
      have HLB2 : Hid (∀ e ∈ l, e.1 < e.2 ∧ e.2 < g.length ∧ ofG g e.1 e.2 = true ∧ Brd g.length (ofG g) e) := Lib.hid (fun e he => by
        rw [hldef] at he
        have h1 := (mem_edN_iff (a := e.1) (b := e.2)).1 (mem_brdL he)
        exact ⟨h1.1, h1.2.1, h1.2.2, dec_iff.1 (List.mem_filter.1 he).2⟩)
      have HLN : Hid l.Nodup := Lib.hid (by rw [hldef]; exact List.Pairwise.filter _ (edN_nodup _ _ (Nat.le_refl _)))
      have HAP : Hid (∀ e ∈ l, ∀ P ∈ qs, e.1 ∈ P → e.2 ∉ P) := Lib.hid (fun e he P hP h1 h2 => bridge_apart (ofG_sym HOK.out) he (HLB2.out e he).2.2.2 HQS.out hP h1 h2)
      obtain ⟨gu, eGU, hrg⟩ := id HGG11.out
      cases eGU
      obtain ⟨pp, pc, hpv, _⟩ := id hrg.shape
      subst hpv
      obtain ⟨qp, qc, hqv⟩ := HPQ.out.shape
      subst hqv
      obtain ⟨K, hK⟩ : ∃ K, K = gg.length := ⟨_, rfl⟩
      have hKq : K = qs.length := by rw [hK, hgq, List.length_map]
      obtain ⟨ps, hps⟩ := parts_exB (ofG g) _ (List.range g.length) (Nat.le_refl _)
      have HSUM : Hid (K = ps.length + l.length) := Lib.hid (by
        rw [hKq]
        exact bridges_parts (ofG_sym HOK.out) HLN.out HLB2.out hps l.length (Nat.le_refl _) qs (by rw [List.take_length]; exact HQS.out))
      have PG : Hid (∀ wz (v : Value), Gr wz v g → Calls Tryd.prog 21 #[v] wz fun e w' => ∃ p c, e = .returned (.slice p ps.length c) ∧ Below wz.heap.size wz w') := Lib.hid (fun wz v hz => by
        refine (specPartsOf_any _ g wz hz).mono ?_
        rintro e w' ⟨u, gg2, rfl, hp, hd, _, _, hb⟩
        obtain ⟨q, d, e1⟩ := hd.shape
        simp only [Value.agg.injEq, Array.mk.injEq, List.cons.injEq, and_true] at e1
        rcases hp with ⟨_, rs, h1, rfl⟩ | ⟨h1, _⟩
        · rw [List.length_map, parts_det h1 hps] at e1
          exact ⟨q, d, by rw [e1], hb⟩
        · exact absurd HOK.out h1)
      obtain ⟨m, hm⟩ : ∃ m, m = ps.length := ⟨_, rfl⟩
      rw [← hm] at HSUM PG
      have hK32 : K ≤ 32 := by omega
      have hl32 : l.length ≤ 32 := by have := HSUM.out; omega
      have HRG := Lib.hid hrg
      have HGQ := Lib.hid hgq
      have HKQ := Lib.hid hKq
      rw [← hK] at hrg HRG ⊢
      clear hrg hgq hKq hK hldef HEP HGG HGG11 hps hm hgg32 hggr HB10 HB11 HG9 HX9 HT9 HW9 c9 c10 HLB HWAY HCUT HNL9 HNY9 HNC
      go_wp2_with fail
      clear c11
      go_loopw [14, 15] (fun iv _ wr => ∃ i : Nat, i ≤ l.length ∧ iv = .int .i64 (i : Int) ∧ Below w11.heap.size w11 wr) (fun iv _ _ => l.length - (intOf iv).toNat)
      case atStart => exact ⟨0, Nat.zero_le _, rfl, Below.refl _ _⟩
      case round =>
        obtain ⟨i, hi, rfl, hbi⟩ := hrel
        have HBI := Lib.hid hbi
        clear hbi
        by_cases hil : i < l.length
        · obtain ⟨wo, hwo⟩ : ∃ wo, wo = wr := ⟨_, rfl⟩
          go_wp2_with fail
          go_loopw [15] (fun kv wx => ∃ k : Nat, k ≤ K ∧ kv = .int .i64 (k : Int) ∧ Below wo.heap.size wo wx) (fun kv _ => K - (intOf kv).toNat)
          case atStart => exact ⟨0, Nat.zero_le _, rfl, by rw [hwo]; exact Below.refl _ _⟩
          case round =>
            rw [← hwo] at HBI
            clear hwo
            obtain ⟨k, hk, rfl, hbk⟩ := hrel
            have HBK := Lib.hid (HBI.out.trans (hbk.mono HBI.out.size))
            have HBJ := Lib.hid hbk
            clear hbk
            by_cases hkl : k < K
            · have hkq : k < qs.length := by rw [← HKQ.out]; exact hkl
              obtain ⟨pb, po, rp, rc, hpp, cp, hpn⟩ := (HRG.out.below HBK.out).get (k := k) (by rw [HGQ.out, List.length_map]; exact hkq)
              subst hpp
              obtain ⟨P, hP⟩ : ∃ P, P = qs[k] := ⟨_, rfl⟩
              have hPq : P ∈ qs := by rw [hP]; exact List.getElem_mem hkq
              have eP : gg.getD k [] = natInts P := by rw [HGQ.out, hP]; simp [hkq]
              rw [eP, natInts_length] at cp hpn
              have HPN := Lib.hid hpn
              obtain ⟨pn, hpnl⟩ : ∃ pn, pn = P.length := ⟨_, rfl⟩
              rw [← hpnl] at cp HPN
              obtain ⟨qb, qo, rb, ec, hqp, cq, hne⟩ := (HPQ.out.below HBK.out).get hil
              subst hqp
              obtain ⟨⟨a, b⟩, hab⟩ : ∃ e : Nat × Nat, e = l[i] := ⟨_, rfl⟩
              have hmem : (a, b) ∈ l := by rw [hab]; exact List.getElem_mem hil
              rw [← hab] at hne
              simp only at hne
              obtain ⟨eb, eo, hrb, ca⟩ := hne.get (k := 0) (by simp)
              subst hrb
              obtain ⟨_, _, e1, cb⟩ := hne.get (k := 1) (by simp)
              cases e1
              simp only [List.getElem_cons_zero, List.getElem_cons_succ, Nat.add_zero] at ca cb
              have HAPP := Lib.hid (HAP.out (a, b) hmem P hPq)
              have HBD := Lib.hid (below_dN (Below.refl wr.heap.size wr) 1)
              have e3 : (k : Int) < (K : Int) := by omega
              have e4 : (i : Int) < (l.length : Int) := by omega
              clear hne hpn hab hmem hP hPq eP hpnl hkq
              go_upto_region 24 with fail
              go_cut [118] (fun s wx => s = .bool false ∧ Below wr.heap.size wr wx)
              case first =>
                by_cases haP : a ∈ P
                · have HDA := Lib.hid (dec_true (show (a : Int) ∈ natInts P from mem_natInts.2 ⟨a, haP, rfl⟩))
                  have HDB := Lib.hid (dec_false (show ¬ (b : Int) ∈ natInts P from fun h => by
                    obtain ⟨j, hj, e⟩ := mem_natInts.1 h
                    obtain rfl : j = b := by omega
                    exact HAPP.out haP hj))
                  clear haP
                  go_region_held3 (fun w' => w'.cell? ⟨pb, po + k, none⟩ = some (.slice rp pn rc) ∧ w'.cell? ⟨qb, qo + i, none⟩ = some (.slice (some ⟨eb, eo, none⟩) 2 ec) ∧ w'.cell? ⟨eb, eo, none⟩ = some (.int .i64 (a : Int)) ∧ w'.cell? ⟨eb, eo + 1, none⟩ = some (.int .i64 (b : Int)))
                    (first | exact ⟨cp, cq, ca, cb⟩ | exact ⟨HBD.out.at' cp, HBD.out.at' cq, HBD.out.at' ca, HBD.out.at' cb⟩ | go_keep)
                    (first
                      | (have X1 := MK1; go_at_call 44; refine (w9Has_any _ (natInts P) (b : Int) _ (by first | exact HPN.out.below (below_dN (Below.refl _ _) 1) | exact HPN.out)).mono ?_; rintro e wa ⟨he, hw⟩; rw [HDB.out] at he; subst he; subst hw)
                      | (go_at_call 44; refine (w9Has_any _ (natInts P) (a : Int) _ (by first | exact HPN.out.below (below_dN (Below.refl _ _) 1) | exact HPN.out)).mono ?_; rintro e wa ⟨he, hw⟩; rw [HDA.out] at he; subst he; subst hw; have MK1 := trivial))
                  all_goals go_wp2
                  all_goals go_meet
                  all_goals exact ⟨rfl, below_dN (Below.refl _ _) 1⟩
                · have HDA := Lib.hid (dec_false (show ¬ (a : Int) ∈ natInts P from fun h => by
                    obtain ⟨j, hj, e⟩ := mem_natInts.1 h
                    obtain rfl : j = a := by omega
                    exact haP hj))
                  clear haP
                  refine wp_region_held_drew (S := (fun w' => w'.cell? ⟨pb, po + k, none⟩ = some (.slice rp pn rc) ∧ w'.cell? ⟨qb, qo + i, none⟩ = some (.slice (some ⟨eb, eo, none⟩) 2 ec) ∧ w'.cell? ⟨eb, eo, none⟩ = some (.int .i64 (a : Int)) ∧ w'.cell? ⟨eb, eo + 1, none⟩ = some (.int .i64 (b : Int)))) (by kernel_rfl) ?_ (fun hHeld => ?_)
                  · exact ⟨cp, cq, ca, cb⟩
                  refine wpAnyH_take (i := 0) (v := .slice (some ⟨pb, po, none⟩) K pc) rfl (by kernel_rfl) (by kernel_rfl) (by kernel_rfl) (fun _ _ _ h => h) (Or.inl ⟨by rfl, ?_⟩) (by assumption) ?_
                  · intro wz hSw; (try dsimp only at hSw); go_simp; try rfl
                  try simp only [Act.put, List.getElem_toArray, List.getElem_cons_succ, List.getElem_cons_zero, List.setIfInBounds_toArray, List.set_cons_zero, List.set_cons_succ]
                  refine wpAnyH_take (i := 1) (v := .int .i64 (k : Int)) rfl (by kernel_rfl) (by kernel_rfl) (by kernel_rfl) (fun _ _ _ h => h) (Or.inl ⟨by rfl, ?_⟩) (by assumption) ?_
                  · intro wz hSw; (try dsimp only at hSw); go_simp; try rfl
                  try simp only [Act.put, List.getElem_toArray, List.getElem_cons_succ, List.getElem_cons_zero, List.setIfInBounds_toArray, List.set_cons_zero, List.set_cons_succ]
                  refine wpAnyH_take (i := 2) (v := .pointer (some ⟨pb, po + k, none⟩)) rfl (by kernel_rfl) (by kernel_rfl) (by kernel_rfl) (fun _ _ _ h => h) (Or.inl ⟨by rfl, ?_⟩) (by assumption) ?_
                  · intro wz hSw; (try dsimp only at hSw); go_simp; try rfl
                  try simp only [Act.put, List.getElem_toArray, List.getElem_cons_succ, List.getElem_cons_zero, List.setIfInBounds_toArray, List.set_cons_zero, List.set_cons_succ]
                  refine wpAnyH_take (i := 3) (v := .slice rp pn rc) rfl (by kernel_rfl) (by kernel_rfl) (by kernel_rfl) (fun _ _ _ h => h) (Or.inl ⟨by rfl, ?_⟩) (by assumption) ?_
                  · intro wz hSw; (try dsimp only at hSw); go_simp; try rfl
                  try simp only [Act.put, List.getElem_toArray, List.getElem_cons_succ, List.getElem_cons_zero, List.setIfInBounds_toArray, List.set_cons_zero, List.set_cons_succ]
                  refine wpAnyH_take (i := 4) (v := .slice (some ⟨qb, qo, none⟩) l.length qc) rfl (by kernel_rfl) (by kernel_rfl) (by kernel_rfl) (fun _ _ _ h => h) (Or.inl ⟨by rfl, ?_⟩) (by assumption) ?_
                  · intro wz hSw; (try dsimp only at hSw); go_simp; try rfl
                  try simp only [Act.put, List.getElem_toArray, List.getElem_cons_succ, List.getElem_cons_zero, List.setIfInBounds_toArray, List.set_cons_zero, List.set_cons_succ]
                  refine wpAnyH_take (i := 5) (v := .int .i64 (i : Int)) rfl (by kernel_rfl) (by kernel_rfl) (by kernel_rfl) (fun _ _ _ h => h) (Or.inl ⟨by rfl, ?_⟩) (by assumption) ?_
                  · intro wz hSw; (try dsimp only at hSw); go_simp; try rfl
                  try simp only [Act.put, List.getElem_toArray, List.getElem_cons_succ, List.getElem_cons_zero, List.setIfInBounds_toArray, List.set_cons_zero, List.set_cons_succ]
                  refine wpAnyH_take (i := 6) (v := .pointer (some ⟨qb, qo + i, none⟩)) rfl (by kernel_rfl) (by kernel_rfl) (by kernel_rfl) (fun _ _ _ h => h) (Or.inl ⟨by rfl, ?_⟩) (by assumption) ?_
                  · intro wz hSw; (try dsimp only at hSw); go_simp; try rfl
                  try simp only [Act.put, List.getElem_toArray, List.getElem_cons_succ, List.getElem_cons_zero, List.setIfInBounds_toArray, List.set_cons_zero, List.set_cons_succ]
                  refine wpAnyH_take (i := 7) (v := .slice (some ⟨eb, eo, none⟩) 2 ec) rfl (by kernel_rfl) (by kernel_rfl) (by kernel_rfl) (fun _ _ _ h => h) (Or.inl ⟨by rfl, ?_⟩) (by assumption) ?_
                  · intro wz hSw; (try dsimp only at hSw); go_simp; try rfl
                  try simp only [Act.put, List.getElem_toArray, List.getElem_cons_succ, List.getElem_cons_zero, List.setIfInBounds_toArray, List.set_cons_zero, List.set_cons_succ]
                  refine wpAnyH_take (i := 8) (v := .pointer (some ⟨eb, eo, none⟩)) rfl (by kernel_rfl) (by kernel_rfl) (by kernel_rfl) (fun _ _ _ h => h) (Or.inl ⟨by rfl, ?_⟩) (by assumption) ?_
                  · intro wz hSw; (try dsimp only at hSw); go_simp; try rfl
                  try simp only [Act.put, List.getElem_toArray, List.getElem_cons_succ, List.getElem_cons_zero, List.setIfInBounds_toArray, List.set_cons_zero, List.set_cons_succ]
                  refine wpAnyH_take (i := 9) (v := .int .i64 (a : Int)) rfl (by kernel_rfl) (by kernel_rfl) (by kernel_rfl) (fun _ _ _ h => h) (Or.inl ⟨by rfl, ?_⟩) (by assumption) ?_
                  · intro wz hSw; (try dsimp only at hSw); go_simp; try rfl
                  try simp only [Act.put, List.getElem_toArray, List.getElem_cons_succ, List.getElem_cons_zero, List.setIfInBounds_toArray, List.set_cons_zero, List.set_cons_succ]
                  refine wpAnyH_ready (rs := [10]) (by kernel_rfl) (by simp) ?_
                  refine AllReadyH.cons rfl (fun K hK => ?_) AllReadyH.nil
                  go_simp
                  go_at_call 44
                  refine (w9Has_any _ (natInts P) (a : Int) _ (by first | exact HPN.out.below (below_dN (Below.refl _ _) 1) | exact HPN.out)).mono ?_
                  rintro e wx ⟨he, hw⟩
                  rw [HDA.out] at he
                  subst he
                  subst hw
                  refine hK.out _ _ ?_ (fun hHeld => ?_)
                  · first | exact ⟨HBD.out.at' cp, HBD.out.at' cq, HBD.out.at' ca, HBD.out.at' cb⟩ | exact ⟨cp, cq, ca, cb⟩
                  clear hK K
                  try simp only [Act.put, List.getElem_toArray, List.getElem_cons_succ, List.getElem_cons_zero, List.setIfInBounds_toArray, List.set_cons_zero, List.set_cons_succ]
                  refine wpAnyH_take (i := 11) (v := .bool false) rfl (by kernel_rfl) (by kernel_rfl) (by kernel_rfl) (fun _ _ _ h => h) (Or.inl ⟨by rfl, ?_⟩) (by assumption) ?_
                  · intro wz hSw; (try dsimp only at hSw); go_simp; try rfl
                  try simp only [Act.put, List.getElem_toArray, List.getElem_cons_succ, List.getElem_cons_zero, List.setIfInBounds_toArray, List.set_cons_zero, List.set_cons_succ]
                  refine wpAnyH_take (i := 12) (v := undef) rfl (by kernel_rfl) (by kernel_rfl) (by kernel_rfl) (fun _ _ _ h => h) (Or.inr ⟨by kernel_rfl, rfl⟩) (by assumption) ?_
                  try simp only [Act.put, List.getElem_toArray, List.getElem_cons_succ, List.getElem_cons_zero, List.setIfInBounds_toArray, List.set_cons_zero, List.set_cons_succ]
                  refine wpAnyH_take (i := 13) (v := undef) rfl (by kernel_rfl) (by kernel_rfl) (by kernel_rfl) (fun _ _ _ h => h) (Or.inr ⟨by kernel_rfl, rfl⟩) (by assumption) ?_
                  try simp only [Act.put, List.getElem_toArray, List.getElem_cons_succ, List.getElem_cons_zero, List.setIfInBounds_toArray, List.set_cons_zero, List.set_cons_succ]
                  refine wpAnyH_take (i := 14) (v := undef) rfl (by kernel_rfl) (by kernel_rfl) (by kernel_rfl) (fun _ _ _ h => h) (Or.inr ⟨by kernel_rfl, rfl⟩) (by assumption) ?_
                  try simp only [Act.put, List.getElem_toArray, List.getElem_cons_succ, List.getElem_cons_zero, List.setIfInBounds_toArray, List.set_cons_zero, List.set_cons_succ]
                  refine wpAnyH_take (i := 15) (v := undef) rfl (by kernel_rfl) (by kernel_rfl) (by kernel_rfl) (fun _ _ _ h => h) (Or.inr ⟨by kernel_rfl, rfl⟩) (by assumption) ?_
                  try simp only [Act.put, List.getElem_toArray, List.getElem_cons_succ, List.getElem_cons_zero, List.setIfInBounds_toArray, List.set_cons_zero, List.set_cons_succ]
                  refine wpAnyH_take (i := 16) (v := undef) rfl (by kernel_rfl) (by kernel_rfl) (by kernel_rfl) (fun _ _ _ h => h) (Or.inr ⟨by kernel_rfl, rfl⟩) (by assumption) ?_
                  try simp only [Act.put, List.getElem_toArray, List.getElem_cons_succ, List.getElem_cons_zero, List.setIfInBounds_toArray, List.set_cons_zero, List.set_cons_succ]
                  refine wpAnyH_take (i := 17) (v := undef) rfl (by kernel_rfl) (by kernel_rfl) (by kernel_rfl) (fun _ _ _ h => h) (Or.inr ⟨by kernel_rfl, rfl⟩) (by assumption) ?_
                  try simp only [Act.put, List.getElem_toArray, List.getElem_cons_succ, List.getElem_cons_zero, List.setIfInBounds_toArray, List.set_cons_zero, List.set_cons_succ]
                  refine wpAnyH_take (i := 18) (v := undef) rfl (by kernel_rfl) (by kernel_rfl) (by kernel_rfl) (fun _ _ _ h => h) (Or.inr ⟨by kernel_rfl, rfl⟩) (by assumption) ?_
                  try simp only [Act.put, List.getElem_toArray, List.getElem_cons_succ, List.getElem_cons_zero, List.setIfInBounds_toArray, List.set_cons_zero, List.set_cons_succ]
                  refine wpAnyH_take (i := 19) (v := undef) rfl (by kernel_rfl) (by kernel_rfl) (by kernel_rfl) (fun _ _ _ h => h) (Or.inr ⟨by kernel_rfl, rfl⟩) (by assumption) ?_
                  try simp only [Act.put, List.getElem_toArray, List.getElem_cons_succ, List.getElem_cons_zero, List.setIfInBounds_toArray, List.set_cons_zero, List.set_cons_succ]
                  refine wpAnyH_take (i := 20) (v := undef) rfl (by kernel_rfl) (by kernel_rfl) (by kernel_rfl) (fun _ _ _ h => h) (Or.inr ⟨by kernel_rfl, rfl⟩) (by assumption) ?_
                  try simp only [Act.put, List.getElem_toArray, List.getElem_cons_succ, List.getElem_cons_zero, List.setIfInBounds_toArray, List.set_cons_zero, List.set_cons_succ]
                  refine wpAnyH_take (i := 21) (v := undef) rfl (by kernel_rfl) (by kernel_rfl) (by kernel_rfl) (fun _ _ _ h => h) (Or.inr ⟨by kernel_rfl, rfl⟩) (by assumption) ?_
                  try simp only [Act.put, List.getElem_toArray, List.getElem_cons_succ, List.getElem_cons_zero, List.setIfInBounds_toArray, List.set_cons_zero, List.set_cons_succ]
                  refine wpAnyH_take (i := 22) (v := undef) rfl (by kernel_rfl) (by kernel_rfl) (by kernel_rfl) (fun _ _ _ h => h) (Or.inr ⟨by kernel_rfl, rfl⟩) (by assumption) ?_
                  try simp only [Act.put, List.getElem_toArray, List.getElem_cons_succ, List.getElem_cons_zero, List.setIfInBounds_toArray, List.set_cons_zero, List.set_cons_succ]
                  refine wpAnyH_take (i := 23) (v := .bool false) rfl (by kernel_rfl) (by kernel_rfl) (by kernel_rfl) (fun _ _ _ h => h) (Or.inl ⟨by rfl, ?_⟩) (by assumption) ?_
                  · intro wz hSw; (try dsimp only at hSw); go_simp; try rfl
                  try simp only [Act.put, List.getElem_toArray, List.getElem_cons_succ, List.getElem_cons_zero, List.setIfInBounds_toArray, List.set_cons_zero, List.set_cons_succ]
                  refine wpAnyH_done (by kernel_rfl) ?_ _
                  go_wp2
                  go_meet
                  exact ⟨rfl, below_dN (Below.refl _ _) 1⟩
              case rest =>
              obtain ⟨rfl, hbz⟩ := hcut
              go_wp2_with fail
              go_roundw
              case rel => exact ⟨k + 1, by omega, by go_num, HBJ.out.trans (hbz.mono HBJ.out.size)⟩
              case measure => simp [intOf]; omega
            · obtain rfl : k = K := by omega
              go_wp2_with fail
              go_roundw
              case rel => exact ⟨i + 1, by omega, by go_num, HBK.out⟩
              case measure => simp [intOf]; omega
        · obtain rfl : i = l.length := by omega
          have c12 := (HX11.out.keep HBI.out).cell
          have hwr : IntKind.i64.wrap ((m : Int) + (l.length : Int)) = (K : Int) := by have := HSUM.out; rw [IntKind.wrap_i64]; omega
          clear hi hil
          go_wp2_with (go_at_call 21; refine (PG.out _ _ (HG11.out.below HBI.out)).mono ?_; rintro e w13 ⟨zp, zc, rfl, hb13⟩)
          go_ret
          exact ⟨rfl, HW11.out.trans ((HBI.out.trans (hb13.mono HBI.out.size)).mono HW11.out.size)⟩

end Go.Proofs.YtjdlmjmhlbpooaaDoor
