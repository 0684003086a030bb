/- Walk: the law FnBlocks (printed by wip/mkBl.py). -/
import Derived.Test.YtkppbmfliejnmaaDoorBkQ38
import Derived.Test.YtkppbmfliejnmaaDoorBkQ39
import Derived.Test.YtkppbmfliejnmaaDoorBkQ24
import Derived.Test.YtkppbmfliejnmaaDoorBkQ40
import Derived.Test.YtkppbmfliejnmaaDoorBkQ42
import Derived.Test.YtkppbmfliejnmaaDoorBkQ43
namespace Go.Proofs.YtkppbmfliejnmaaDoor
open Go.RowKit

theorem Gr.dicedB {w0 w w' : World} {db : Nat} {bs : List Int} (h : Dice w0 w db bs) (hg : w.grownBy w' (some db)) {v : Value} {g : List (List Int)} (hs : Gr w v g) : Gr w' v g := by
  obtain ⟨u, rfl, vals, h1, h2, h3⟩ := hs
  exact ⟨u, rfl, vals, h1, Sl.diced h hg (by decide) h2, fun j hj => Sl.diced h hg (by decide) (h3 j hj)⟩

theorem has1_nat {x : Nat} {P : List Nat} : dec ((x : Int) ∈ natInts P) = has1 x P := by
  unfold has1
  by_cases h : x ∈ P
  · rw [dec_true (mem_natInts.2 ⟨x, h, rfl⟩), decide_eq_true h]
  · rw [dec_false (fun k => by
      obtain ⟨j, hj, e⟩ := mem_natInts.1 k
      obtain rfl : j = x := by omega
      exact h hj), decide_eq_false h]
theorem nats_back (l : List Nat) : (natInts l).map Int.toNat = l := by
  unfold natInts
  rw [List.map_map]
  conv => rhs; rw [← List.map_id l]
  exact List.map_congr_left fun x _ => by simp
theorem share_one {P Q : List Nat} (hn : P.Nodup) (h : ∀ x y, x ∈ P → x ∈ Q → y ∈ P → y ∈ Q → x = y) : (P.filter fun x => decide (x ∈ Q)).length ≤ 1 := by
  cases e : P.filter fun x => decide (x ∈ Q) with
  | nil => simp
  | cons z r =>
    have hz : z ∈ P.filter fun x => decide (x ∈ Q) := by rw [e]; exact List.mem_cons_self
    rw [← e]
    have hz2 := List.mem_filter.1 hz
    have := nodup_sub (P.filter fun x => decide (x ∈ Q)) [z] (List.Pairwise.filter _ hn) fun x hx => by
      have hx2 := List.mem_filter.1 hx
      exact List.mem_singleton.2 (h x z hx2.1 (by simpa using hx2.2) hz2.1 (by simpa using hz2.2))
    simpa using this
theorem two_has {B : List (List Nat)} {k i x : Nat} (hk : k < i) (hi : i < B.length) (h1 : x ∈ B[k]) (h2 : x ∈ B[i]) : 2 ≤ (B.filter (has1 x)).length := by
  have e : B = B.take i ++ B[i] :: B.drop (i + 1) := by simp
  have hk' : B[k] ∈ B.take i := by
    rw [List.mem_take_iff_getElem]
    exact ⟨k, by omega, rfl⟩
  have h3 : 1 ≤ ((B.take i).filter (has1 x)).length := List.length_pos_of_mem (a := B[k]) (List.mem_filter.2 ⟨hk', by simpa [has1] using h1⟩)
  have h4 : (B.filter (has1 x)).length = ((B.take i).filter (has1 x)).length + ((B[i] :: B.drop (i + 1)).filter (has1 x)).length := by
    conv => lhs; rw [e]
    rw [List.filter_append, List.length_append]
  have h5 : 1 ≤ ((B[i] :: B.drop (i + 1)).filter (has1 x)).length := List.length_pos_of_mem (a := B[i]) (List.mem_filter.2 ⟨List.mem_cons_self, by simpa [has1] using h2⟩)
  omega

theorem setB_nat {n : Nat} {T : List Nat} (h1 : T.Pairwise (· < ·)) (h2 : ∀ x ∈ T, x < n) : SetIn n (natInts T) := by
  refine ⟨fun x hx => ?_, ?_⟩
  · obtain ⟨i, hi, rfl⟩ := mem_natInts.1 hx
    have := h2 i hi
    omega
  · unfold natInts
    rw [List.pairwise_map]
    exact h1.imp fun h => by omega
set_option maxRecDepth 100000 in
set_option maxHeartbeats 8000000 in
theorem lawBlocks_any (v0 : Value) (bs : List Int) (W : World) (ha : ArgB W v0 bs) (hT : Tab W) :
    Calls Tryd.prog 10 #[v0] W fun e w' => e = .returned (.bool true) ∧ Below W.heap.size W w' := by
  obtain ⟨p, c, e0, _⟩ := id ha
  subst e0
  have HA := Lib.hid ha
  have HT := Lib.hid hT
  clear ha hT
  go_enter Tryd.func10, Tryd.ntmps10
  by_cases hbig : 4096 < bs.length
  · have hd := decide_eq_true hbig
    go_wp2_with (go_at_call 11; refine (big_any _ bs _ HA.out).mono ?_; rintro e w2 ⟨he, rfl⟩; rw [hd] at he; subst he)
    go_ret
    exact ⟨rfl, Below.refl _ _⟩
  have hd := decide_eq_false hbig
  have hl : bs.length ≤ 4096 := by omega
  clear hbig
  go_upto_region 5 with (first
    | (go_at_call 77; refine (w9Graph_any W db bs 7 _ rfl (by decide) (by decide) _ HD2.out HDL.out).mono ?_; rintro e w3 ⟨u, n, E, rfl, hn1, hn7, hse, hsg, hd3, hg3⟩; have HSE := Lib.hid hse; have HSG := Lib.hid hsg; have HD3 := Lib.hid hd3; obtain ⟨gp, gc, rfl⟩ := hsg.shape; clear hse hsg hd3 hg3)
    | (go_at_call 12; refine (roll_any _ bs _ hl _ HA.out).mono ?_; rintro e w2 ⟨db, rfl, hd2, hb2⟩; have HD2 := Lib.hid hd2; have HDL : Hid (db < w2.heap.size) := Lib.hid (by obtain ⟨_, _, _, h1, _⟩ := hd2.ex; exact h1.lt); clear hd2 hb2)
    | (go_at_call 11; refine (big_any _ bs _ HA.out).mono ?_; rintro e w1 ⟨he, rfl⟩; rw [hd] at he; subst he))
  obtain ⟨g, hga⟩ : ∃ g, g = matG n E := ⟨_, rfl⟩
  have hgl : g.length = n := by rw [hga, matG_length]
  have HOK : Hid (GOk g) := Lib.hid (by rw [hga]; exact gok_matG hn1 (by omega) HSE.out.1 HSE.out.2)
  rw [← hga] at HSG ⊢
  have hg7 : g.length ≤ 7 := by omega
  have hgp := HOK.out.pos
  obtain ⟨w4, hw4⟩ : ∃ w4, w4 = w3.alloc (.cells #[.slice gp g.length gc] 29) := ⟨_, rfl⟩
  rw [← hw4]
  have hb34 : Below w3.heap.size w3 w4 := by rw [hw4]; exact below_alloc _ _
  have HX4 : Hid (Box w4 w3.heap.size 29 (.slice gp g.length gc)) := Lib.hid (by rw [hw4]; exact Box.new _ _ _)
  have HG4 : Hid (Gr w4 (.agg #[.slice gp g.length gc]) g) := Lib.hid ((HSG.out.below hb34).gr (by omega))
  have HD4 := Lib.hid (HD3.out.keep hb34)
  have c4 := HX4.out.cell
  have hn7 : g.length ≤ 7 := by omega
  have HT4 := Lib.hid (HT.out.keep HD4.out.bel)
  have HW4 := Lib.hid HD4.out.bel
  obtain ⟨bg, hbg⟩ : ∃ bg, bg = w3.heap.size := ⟨_, rfl⟩
  rw [← hbg] at HX4 c4 ⊢
  clear hga hw4 hb34 HSG hgl hn1 HD2 HDL HD3 HSE hd hbg HA HT HD4
  go_upto_region 8 with (first
    | (have X6 := HB6; go_at_call 80; refine (specEdgesOf_any _ g HOK.out _ (HG4.out.below HB6.out)).mono ?_; rintro e w7 ⟨qv, rfl, hpq, hb7⟩; have HPQ := Lib.hid hpq; have HB7x := Lib.hid hb7; have HB7 := Lib.hid (HB6.out.trans (hb7.mono HB6.out.size)); have c7 := hb7.at' c6; clear hpq hb7)
    | (have X5 := HB5; go_at_call 79; refine (implCutVertices_any _ g HOK.out _ (HG4.out.below HB5.out) (HT4.out.keep HB5.out)).mono ?_; rintro e w6 ⟨cv, C, rfl, hnc, _, _, hcin, hb6⟩; have HNC := Lib.hid hnc; have HCI := Lib.hid hcin; have HB6x := Lib.hid hb6; have HB6 := Lib.hid (HB5.out.trans (hb6.mono HB5.out.size)); have c6 := hb6.at' c5; clear hnc hcin hb6)
    | (go_at_call 78; refine (implBlocksOf_yes _ g _ HG4.out HOK.out HT4.out).mono ?_; rintro e w5 ⟨lu, B, rfl, hpm, hdl, hb5⟩; have HPM := Lib.hid hpm; have HDLL := Lib.hid hdl; have HB5 := Lib.hid hb5; have c5 := hb5.at' c4; clear hpm hdl hb5))
  have HBG : Hid (BlkG (ofG g) g.length B) := Lib.hid ((blkA_ok (ofG_sym HOK.out) (ofG_irr HOK.out) hgp).perm HPM.out)
  have hBl : B.length ≤ 7 := Nat.le_trans HBG.out.len hn7
  have hbl : ∀ b ∈ B, b.length ≤ 7 := fun b hb => Nat.le_trans (nodup_le g.length b ((HBG.out.ris b hb).imp fun h => Nat.ne_of_lt h) (HBG.out.sub b hb)) hn7
  have HBLN := Lib.hid hbl
  have HLG : Hid (Gr w5 (.agg #[lu]) (B.map natInts)) := Lib.hid (HDLL.out.gr (by rw [List.length_map]; omega) fun j hj => by
    rw [List.length_map] at hj
    have e : row (B.map natInts) j = natInts B[j] := by simp [row, hj]
    rw [e, natInts_length]
    have := hbl _ (List.getElem_mem hj)
    omega)
  have HLG7 := Lib.hid ((HLG.out.below HB6x.out).below HB7x.out)
  obtain ⟨gu, eGU, hrg⟩ := id HLG7.out
  obtain rfl : lu = gu := by simpa using eGU
  obtain ⟨lp, lc, hlv, _⟩ := id hrg.shape
  rw [List.length_map] at hlv
  subst hlv
  have HRG := Lib.hid hrg
  obtain ⟨l, hldef⟩ : ∃ l, l = edN g.length (ofG g) g.length := ⟨_, rfl⟩
  rw [← hldef] at HPQ
  obtain ⟨qp, qc, hqv⟩ := HPQ.out.shape
  subst hqv
  have hl49 : l.length ≤ 49 := by
    rw [hldef]
    have h1 := edN_length g.length (ofG g) g.length
    have h2 := Nat.mul_le_mul hn7 hn7
    omega
  have HLM : Hid (∀ e ∈ l, e.1 < g.length ∧ e.2 < g.length ∧ ofG g e.1 e.2 = true) := Lib.hid fun e he => by
    rw [hldef] at he
    have := mem_edN (Nat.le_refl _) he
    exact ⟨this.1, this.2.1, this.2.2.2⟩
  obtain ⟨cp', cc, hcv, _⟩ := id HNC.out.shape
  subst hcv
  have HNC7 := Lib.hid (HNC.out.below HB7x.out)
  have hnc1 := natInts_length C
  rw [hnc1] at HNC7 ⊢
  have HX7 := Lib.hid (HX4.out.keep HB7.out)
  have HG7 := Lib.hid (HG4.out.below HB7.out)
  have HT7 := Lib.hid (HT4.out.keep HB7.out)
  have HW7 := Lib.hid (HW4.out.trans (HB7.out.mono HW4.out.size))
  have HCON : Hid (∀ b ∈ B, ConnS g (natInts b)) := Lib.hid fun b hb => ⟨⟨HOK.out, setB_nat (HBG.out.ris b hb) (HBG.out.sub b hb)⟩, by rw [nats_back]; exact (connA_iff (ofG_sym HOK.out)).1 (HBG.out.conn b hb)⟩
  clear hbl hrg eGU HLG HLG7 HDLL hldef HNC HB5 HB6 HB6x HB7 HB7x HX4 HG4 HT4 HW4 c4 c5 c6 hnc1
  go_wp2_with fail
  clear c7
  go_loopw [8, 9, 10] (fun iv _ _ wr => ∃ i : Nat, i ≤ l.length ∧ iv = .int .i64 (i : Int) ∧ Below w7.heap.size w7 wr) (fun iv _ _ _ => l.length - (intOf iv).toNat)
  case atStart => exact ⟨0, Nat.zero_le _, rfl, Below.refl _ _⟩
  case round =>
    obtain ⟨i, hi, rfl, hbi⟩ := hrel
    obtain ⟨wo, hnm⟩ : ∃ z, z = wr := ⟨_, rfl⟩
    rw [← hnm] at hbi ⊢
    clear hnm
    have HBI := Lib.hid hbi
    clear hbi
    by_cases hil : i < l.length
    · have e4 : (i : Int) < (l.length : Int) := by omega
      obtain ⟨qb, qo, rb, ec, hqp, cq, hne⟩ := (HPQ.out.below HBI.out).get hil
      subst hqp
      obtain ⟨⟨a, b⟩, hab⟩ : ∃ e : Nat × Nat, e = l[i] := ⟨_, rfl⟩
      have hmem : (a, b) ∈ l := by rw [hab]; exact List.getElem_mem hil
      rw [← hab] at hne
      simp only at hne
      obtain ⟨eb, eo, hrb, ca⟩ := hne.get (k := 0) (by simp)
      subst hrb
      obtain ⟨_, _, e1, cb⟩ := hne.get (k := 1) (by simp)
      cases e1
      simp only [List.getElem_cons_zero, List.getElem_cons_succ, Nat.add_zero] at ca cb
      have HONE : Hid ((B.filter (has2 a b)).length = 1) := Lib.hid (by
        obtain ⟨h1, h2, h3⟩ := HLM.out (a, b) hmem
        exact HBG.out.edge a h1 b h2 h3)
      have HCQ := Lib.hid cq
      have HCA := Lib.hid ca
      have HCB := Lib.hid cb
      clear hne hab hmem cq ca cb
      go_wp2_with fail
      go_loopw [9, 10] (fun mv kv wx => ∃ k m : Nat, k ≤ B.length ∧ kv = .int .i64 (k : Int) ∧ mv = .int .i64 (m : Int) ∧ Hid (m = ((B.take k).filter (has2 a b)).length) ∧ Below wo.heap.size wo wx) (fun _ kv _ => B.length - (intOf kv).toNat)
      case atStart => exact ⟨0, 0, Nat.zero_le _, rfl, rfl, Lib.hid (by simp), Below.refl _ _⟩
      case round =>
        obtain ⟨k, m, hk, rfl, rfl, HMK, hbk⟩ := hrel
        have hm7 : m ≤ 7 := by
          rw [HMK.out]
          exact Nat.le_trans (List.length_filter_le _ _) (by rw [List.length_take]; omega)
        have HBK := Lib.hid (HBI.out.trans (hbk.mono HBI.out.size))
        have HBJ := Lib.hid hbk
        have cq := hbk.at' HCQ.out
        have ca := hbk.at' HCA.out
        have cb := hbk.at' HCB.out
        clear hbk
        by_cases hkl : k < B.length
        · obtain ⟨pb, po, rp, rc, hpp, cp, hpn⟩ := (HRG.out.below HBK.out).get (k := k) (by rw [List.length_map]; exact hkl)
          subst hpp
          obtain ⟨P, hP⟩ : ∃ P, P = B[k] := ⟨_, rfl⟩
          have eP : (B.map natInts).getD k [] = natInts P := by rw [hP]; simp [hkl]
          rw [eP, natInts_length] at cp hpn
          have HPN := Lib.hid hpn
          obtain ⟨pn, hpnl⟩ : ∃ pn, pn = P.length := ⟨_, rfl⟩
          rw [← hpnl] at cp HPN
          have HBD := Lib.hid (below_dN (Below.refl wr.heap.size wr) 1)
          have e3 : (k : Int) < (B.length : Int) := by omega
          have HTK : Hid (B.take (k + 1) = B.take k ++ [P]) := Lib.hid (by rw [take_snoc' B k hkl, hP])
          obtain ⟨r, hr⟩ : ∃ r, r = has2 a b P := ⟨_, rfl⟩
          have HR := Lib.hid hr
          clear hpn hP eP hpnl
          go_upto_region 15 with fail
          go_cut [63] (fun s wx => s = .bool r ∧ Below wr.heap.size wr wx)
          case first =>
            by_cases haP : a ∈ P
            · have HDA := Lib.hid (dec_true (show (a : Int) ∈ natInts P from mem_natInts.2 ⟨a, haP, rfl⟩))
              have HDB : Hid (dec ((b : Int) ∈ natInts P) = r) := Lib.hid (by rw [has1_nat, hr]; unfold has1 has2; simp [haP])
              clear haP hr
              go_region_held3 (fun w' => w'.cell? ⟨pb, po + k, none⟩ = some (.slice rp pn rc) ∧ w'.cell? ⟨qb, qo + i, none⟩ = some (.slice (some ⟨eb, eo, none⟩) 2 ec) ∧ w'.cell? ⟨eb, eo, none⟩ = some (.int .i64 (a : Int)) ∧ w'.cell? ⟨eb, eo + 1, none⟩ = some (.int .i64 (b : Int)))
                (first | exact ⟨cp, cq, ca, cb⟩ | exact ⟨HBD.out.at' cp, HBD.out.at' cq, HBD.out.at' ca, HBD.out.at' cb⟩ | go_keep)
                (first
                  | (have X1 := MK1; go_at_call 81; refine (w9Has_any _ (natInts P) (b : Int) _ (by first | exact HPN.out.below (below_dN (Below.refl _ _) 1) | exact HPN.out)).mono ?_; rintro e wa ⟨he, hw⟩; rw [HDB.out] at he; subst he; subst hw)
                  | (go_at_call 81; refine (w9Has_any _ (natInts P) (a : Int) _ (by first | exact HPN.out.below (below_dN (Below.refl _ _) 1) | exact HPN.out)).mono ?_; rintro e wa ⟨he, hw⟩; rw [HDA.out] at he; subst he; subst hw; have MK1 := trivial))
              all_goals go_wp2
              all_goals go_meet
              all_goals exact ⟨rfl, below_dN (Below.refl _ _) 1⟩
            · have HDA := Lib.hid (dec_false (show ¬ (a : Int) ∈ natInts P from fun h => by
                obtain ⟨j, hj, e⟩ := mem_natInts.1 h
                obtain rfl : j = a := by omega
                exact haP hj))
              have HRF : Hid (r = false) := Lib.hid (by rw [hr]; unfold has2; simp [haP])
              clear haP hr
              refine wp_region_held_drew (S := (fun w' => w'.cell? ⟨pb, po + k, none⟩ = some (.slice rp pn rc) ∧ w'.cell? ⟨qb, qo + i, none⟩ = some (.slice (some ⟨eb, eo, none⟩) 2 ec) ∧ w'.cell? ⟨eb, eo, none⟩ = some (.int .i64 (a : Int)) ∧ w'.cell? ⟨eb, eo + 1, none⟩ = some (.int .i64 (b : Int)))) (by kernel_rfl) ?_ (fun hHeld => ?_)
              · exact ⟨cp, cq, ca, cb⟩
              refine wpAnyH_take (i := 0) (v := .slice (some ⟨pb, po, none⟩) B.length lc) rfl (by kernel_rfl) (by kernel_rfl) (by kernel_rfl) (fun _ _ _ h => h) (Or.inl ⟨by rfl, ?_⟩) (by assumption) ?_
              · intro wz hSw; (try dsimp only at hSw); go_simp; try rfl
              try simp only [Act.put, List.getElem_toArray, List.getElem_cons_succ, List.getElem_cons_zero, List.setIfInBounds_toArray, List.set_cons_zero, List.set_cons_succ]
              refine wpAnyH_take (i := 1) (v := .int .i64 (k : Int)) rfl (by kernel_rfl) (by kernel_rfl) (by kernel_rfl) (fun _ _ _ h => h) (Or.inl ⟨by rfl, ?_⟩) (by assumption) ?_
              · intro wz hSw; (try dsimp only at hSw); go_simp; try rfl
              try simp only [Act.put, List.getElem_toArray, List.getElem_cons_succ, List.getElem_cons_zero, List.setIfInBounds_toArray, List.set_cons_zero, List.set_cons_succ]
              refine wpAnyH_take (i := 2) (v := .pointer (some ⟨pb, po + k, none⟩)) rfl (by kernel_rfl) (by kernel_rfl) (by kernel_rfl) (fun _ _ _ h => h) (Or.inl ⟨by rfl, ?_⟩) (by assumption) ?_
              · intro wz hSw; (try dsimp only at hSw); go_simp; try rfl
              try simp only [Act.put, List.getElem_toArray, List.getElem_cons_succ, List.getElem_cons_zero, List.setIfInBounds_toArray, List.set_cons_zero, List.set_cons_succ]
              refine wpAnyH_take (i := 3) (v := .slice rp pn rc) rfl (by kernel_rfl) (by kernel_rfl) (by kernel_rfl) (fun _ _ _ h => h) (Or.inl ⟨by rfl, ?_⟩) (by assumption) ?_
              · intro wz hSw; (try dsimp only at hSw); go_simp; try rfl
              try simp only [Act.put, List.getElem_toArray, List.getElem_cons_succ, List.getElem_cons_zero, List.setIfInBounds_toArray, List.set_cons_zero, List.set_cons_succ]
              refine wpAnyH_take (i := 4) (v := .slice (some ⟨qb, qo, none⟩) l.length qc) rfl (by kernel_rfl) (by kernel_rfl) (by kernel_rfl) (fun _ _ _ h => h) (Or.inl ⟨by rfl, ?_⟩) (by assumption) ?_
              · intro wz hSw; (try dsimp only at hSw); go_simp; try rfl
              try simp only [Act.put, List.getElem_toArray, List.getElem_cons_succ, List.getElem_cons_zero, List.setIfInBounds_toArray, List.set_cons_zero, List.set_cons_succ]
              refine wpAnyH_take (i := 5) (v := .int .i64 (i : Int)) rfl (by kernel_rfl) (by kernel_rfl) (by kernel_rfl) (fun _ _ _ h => h) (Or.inl ⟨by rfl, ?_⟩) (by assumption) ?_
              · intro wz hSw; (try dsimp only at hSw); go_simp; try rfl
              try simp only [Act.put, List.getElem_toArray, List.getElem_cons_succ, List.getElem_cons_zero, List.setIfInBounds_toArray, List.set_cons_zero, List.set_cons_succ]
              refine wpAnyH_take (i := 6) (v := .pointer (some ⟨qb, qo + i, none⟩)) rfl (by kernel_rfl) (by kernel_rfl) (by kernel_rfl) (fun _ _ _ h => h) (Or.inl ⟨by rfl, ?_⟩) (by assumption) ?_
              · intro wz hSw; (try dsimp only at hSw); go_simp; try rfl
              try simp only [Act.put, List.getElem_toArray, List.getElem_cons_succ, List.getElem_cons_zero, List.setIfInBounds_toArray, List.set_cons_zero, List.set_cons_succ]
              refine wpAnyH_take (i := 7) (v := .slice (some ⟨eb, eo, none⟩) 2 ec) rfl (by kernel_rfl) (by kernel_rfl) (by kernel_rfl) (fun _ _ _ h => h) (Or.inl ⟨by rfl, ?_⟩) (by assumption) ?_
              · intro wz hSw; (try dsimp only at hSw); go_simp; try rfl
              try simp only [Act.put, List.getElem_toArray, List.getElem_cons_succ, List.getElem_cons_zero, List.setIfInBounds_toArray, List.set_cons_zero, List.set_cons_succ]
              refine wpAnyH_take (i := 8) (v := .pointer (some ⟨eb, eo, none⟩)) rfl (by kernel_rfl) (by kernel_rfl) (by kernel_rfl) (fun _ _ _ h => h) (Or.inl ⟨by rfl, ?_⟩) (by assumption) ?_
              · intro wz hSw; (try dsimp only at hSw); go_simp; try rfl
              try simp only [Act.put, List.getElem_toArray, List.getElem_cons_succ, List.getElem_cons_zero, List.setIfInBounds_toArray, List.set_cons_zero, List.set_cons_succ]
              refine wpAnyH_take (i := 9) (v := .int .i64 (a : Int)) rfl (by kernel_rfl) (by kernel_rfl) (by kernel_rfl) (fun _ _ _ h => h) (Or.inl ⟨by rfl, ?_⟩) (by assumption) ?_
              · intro wz hSw; (try dsimp only at hSw); go_simp; try rfl
              try simp only [Act.put, List.getElem_toArray, List.getElem_cons_succ, List.getElem_cons_zero, List.setIfInBounds_toArray, List.set_cons_zero, List.set_cons_succ]
              refine wpAnyH_ready (rs := [10]) (by kernel_rfl) (by simp) ?_
              refine AllReadyH.cons rfl (fun K hK => ?_) AllReadyH.nil
              go_simp
              go_at_call 81
              refine (w9Has_any _ (natInts P) (a : Int) _ (by first | exact HPN.out.below (below_dN (Below.refl _ _) 1) | exact HPN.out)).mono ?_
              rintro e wx ⟨he, hw⟩
              rw [HDA.out] at he
              subst he
              subst hw
              refine hK.out _ _ ?_ (fun hHeld => ?_)
              · first | exact ⟨HBD.out.at' cp, HBD.out.at' cq, HBD.out.at' ca, HBD.out.at' cb⟩ | exact ⟨cp, cq, ca, cb⟩
              clear hK K
              try simp only [Act.put, List.getElem_toArray, List.getElem_cons_succ, List.getElem_cons_zero, List.setIfInBounds_toArray, List.set_cons_zero, List.set_cons_succ]
              refine wpAnyH_take (i := 11) (v := .bool false) rfl (by kernel_rfl) (by kernel_rfl) (by kernel_rfl) (fun _ _ _ h => h) (Or.inl ⟨by rfl, ?_⟩) (by assumption) ?_
              · intro wz hSw; (try dsimp only at hSw); go_simp; try rfl
              try simp only [Act.put, List.getElem_toArray, List.getElem_cons_succ, List.getElem_cons_zero, List.setIfInBounds_toArray, List.set_cons_zero, List.set_cons_succ]
              refine wpAnyH_take (i := 12) (v := undef) rfl (by kernel_rfl) (by kernel_rfl) (by kernel_rfl) (fun _ _ _ h => h) (Or.inr ⟨by kernel_rfl, rfl⟩) (by assumption) ?_
              try simp only [Act.put, List.getElem_toArray, List.getElem_cons_succ, List.getElem_cons_zero, List.setIfInBounds_toArray, List.set_cons_zero, List.set_cons_succ]
              refine wpAnyH_take (i := 13) (v := undef) rfl (by kernel_rfl) (by kernel_rfl) (by kernel_rfl) (fun _ _ _ h => h) (Or.inr ⟨by kernel_rfl, rfl⟩) (by assumption) ?_
              try simp only [Act.put, List.getElem_toArray, List.getElem_cons_succ, List.getElem_cons_zero, List.setIfInBounds_toArray, List.set_cons_zero, List.set_cons_succ]
              refine wpAnyH_take (i := 14) (v := undef) rfl (by kernel_rfl) (by kernel_rfl) (by kernel_rfl) (fun _ _ _ h => h) (Or.inr ⟨by kernel_rfl, rfl⟩) (by assumption) ?_
              try simp only [Act.put, List.getElem_toArray, List.getElem_cons_succ, List.getElem_cons_zero, List.setIfInBounds_toArray, List.set_cons_zero, List.set_cons_succ]
              refine wpAnyH_take (i := 15) (v := undef) rfl (by kernel_rfl) (by kernel_rfl) (by kernel_rfl) (fun _ _ _ h => h) (Or.inr ⟨by kernel_rfl, rfl⟩) (by assumption) ?_
              try simp only [Act.put, List.getElem_toArray, List.getElem_cons_succ, List.getElem_cons_zero, List.setIfInBounds_toArray, List.set_cons_zero, List.set_cons_succ]
              refine wpAnyH_take (i := 16) (v := undef) rfl (by kernel_rfl) (by kernel_rfl) (by kernel_rfl) (fun _ _ _ h => h) (Or.inr ⟨by kernel_rfl, rfl⟩) (by assumption) ?_
              try simp only [Act.put, List.getElem_toArray, List.getElem_cons_succ, List.getElem_cons_zero, List.setIfInBounds_toArray, List.set_cons_zero, List.set_cons_succ]
              refine wpAnyH_take (i := 17) (v := undef) rfl (by kernel_rfl) (by kernel_rfl) (by kernel_rfl) (fun _ _ _ h => h) (Or.inr ⟨by kernel_rfl, rfl⟩) (by assumption) ?_
              try simp only [Act.put, List.getElem_toArray, List.getElem_cons_succ, List.getElem_cons_zero, List.setIfInBounds_toArray, List.set_cons_zero, List.set_cons_succ]
              refine wpAnyH_take (i := 18) (v := undef) rfl (by kernel_rfl) (by kernel_rfl) (by kernel_rfl) (fun _ _ _ h => h) (Or.inr ⟨by kernel_rfl, rfl⟩) (by assumption) ?_
              try simp only [Act.put, List.getElem_toArray, List.getElem_cons_succ, List.getElem_cons_zero, List.setIfInBounds_toArray, List.set_cons_zero, List.set_cons_succ]
              refine wpAnyH_take (i := 19) (v := undef) rfl (by kernel_rfl) (by kernel_rfl) (by kernel_rfl) (fun _ _ _ h => h) (Or.inr ⟨by kernel_rfl, rfl⟩) (by assumption) ?_
              try simp only [Act.put, List.getElem_toArray, List.getElem_cons_succ, List.getElem_cons_zero, List.setIfInBounds_toArray, List.set_cons_zero, List.set_cons_succ]
              refine wpAnyH_take (i := 20) (v := undef) rfl (by kernel_rfl) (by kernel_rfl) (by kernel_rfl) (fun _ _ _ h => h) (Or.inr ⟨by kernel_rfl, rfl⟩) (by assumption) ?_
              try simp only [Act.put, List.getElem_toArray, List.getElem_cons_succ, List.getElem_cons_zero, List.setIfInBounds_toArray, List.set_cons_zero, List.set_cons_succ]
              refine wpAnyH_take (i := 21) (v := undef) rfl (by kernel_rfl) (by kernel_rfl) (by kernel_rfl) (fun _ _ _ h => h) (Or.inr ⟨by kernel_rfl, rfl⟩) (by assumption) ?_
              try simp only [Act.put, List.getElem_toArray, List.getElem_cons_succ, List.getElem_cons_zero, List.setIfInBounds_toArray, List.set_cons_zero, List.set_cons_succ]
              refine wpAnyH_take (i := 22) (v := undef) rfl (by kernel_rfl) (by kernel_rfl) (by kernel_rfl) (fun _ _ _ h => h) (Or.inr ⟨by kernel_rfl, rfl⟩) (by assumption) ?_
              try simp only [Act.put, List.getElem_toArray, List.getElem_cons_succ, List.getElem_cons_zero, List.setIfInBounds_toArray, List.set_cons_zero, List.set_cons_succ]
              refine wpAnyH_take (i := 23) (v := .bool false) rfl (by kernel_rfl) (by kernel_rfl) (by kernel_rfl) (fun _ _ _ h => h) (Or.inl ⟨by rfl, ?_⟩) (by assumption) ?_
              · intro wz hSw; (try dsimp only at hSw); go_simp; try rfl
              try simp only [Act.put, List.getElem_toArray, List.getElem_cons_succ, List.getElem_cons_zero, List.setIfInBounds_toArray, List.set_cons_zero, List.set_cons_succ]
              refine wpAnyH_done (by kernel_rfl) ?_ _
              go_wp2
              go_meet
              exact ⟨by first | rfl | (rw [HRF.out]; rfl) | rw [HRF.out], below_dN (Below.refl _ _) 1⟩
          case rest =>
          obtain ⟨rfl, hbz⟩ := hcut
          have HBZ := Lib.hid (HBJ.out.trans (hbz.mono HBJ.out.size))
          clear hbz hr
          cases r
          · have HNEW : Hid (m = ((B.take (k + 1)).filter (has2 a b)).length) := Lib.hid (by rw [HTK.out, List.filter_append, List.length_append, ← HMK.out]; simp [← HR.out])
            go_wp2_with fail
            go_roundw
            case rel => exact ⟨k + 1, m, by omega, by go_num, rfl, HNEW, HBZ.out⟩
            case measure => simp [intOf]; omega
          · have HNEW : Hid (m + 1 = ((B.take (k + 1)).filter (has2 a b)).length) := Lib.hid (by rw [HTK.out, List.filter_append, List.length_append, ← HMK.out]; simp [← HR.out])
            go_wp2_with fail
            go_roundw
            case rel => exact ⟨k + 1, m + 1, by omega, by go_num, by go_num, HNEW, HBZ.out⟩
            case measure => simp [intOf]; omega
        · obtain rfl : k = B.length := by omega
          rw [List.take_length, HONE.out] at HMK
          have hm1 := HMK.out
          subst hm1
          clear cq ca cb
          go_wp2_with fail
          go_roundw
          case rel => exact ⟨i + 1, by omega, by go_num, HBK.out⟩
          case measure => simp [intOf]; omega
    · obtain rfl : i = l.length := by omega
      clear hil hi HPQ HLM hl49
      have HXo := Lib.hid (HX7.out.keep HBI.out)
      have HGo := Lib.hid (HG7.out.below HBI.out)
      have HTo := Lib.hid (HT7.out.keep HBI.out)
      have HWo := Lib.hid (HW7.out.trans (HBI.out.mono HW7.out.size))
      have HRGo := Lib.hid (HRG.out.below HBI.out)
      have HNCo := Lib.hid (HNC7.out.below HBI.out)
      clear HX7 HG7 HT7 HW7 HRG HNC7 HBI
      go_wp2_with fail
      go_loopw [11, 12, 13, 14] (fun iv _ _ _ wr => ∃ i : Nat, i ≤ B.length ∧ iv = .int .i64 (i : Int) ∧ Below wo.heap.size wo wr) (fun iv _ _ _ _ => B.length - (intOf iv).toNat)
      case atStart => exact ⟨0, Nat.zero_le _, rfl, Below.refl _ _⟩
      case round =>
        obtain ⟨i, hi, rfl, hbi⟩ := hrel
        obtain ⟨wi, hnm⟩ : ∃ z, z = wr := ⟨_, rfl⟩
        rw [← hnm] at hbi ⊢
        clear hnm
        have HBI := Lib.hid hbi
        have ci := (HXo.out.keep hbi).cell
        clear hbi
        by_cases hil : i < B.length
        · have e4 : (i : Int) < (B.length : Int) := by omega
          obtain ⟨pb, po, rp, rc, hpp, cp, hpn⟩ := (HRGo.out.below HBI.out).get (k := i) (by rw [List.length_map]; exact hil)
          subst hpp
          obtain ⟨P, hP⟩ : ∃ P, P = B[i] := ⟨_, rfl⟩
          have hPB : P ∈ B := by rw [hP]; exact List.getElem_mem hil
          have eP : (B.map natInts).getD i [] = natInts P := by rw [hP]; simp [hil]
          rw [eP, natInts_length] at cp hpn
          have HPN := Lib.hid hpn
          have HDC := Lib.hid (dec_true (HCON.out P hPB))
          have hP7 : P.length ≤ 7 := HBLN.out P hPB
          have HPE := Lib.hid hP
          have HPR := Lib.hid (HBG.out.ris P hPB)
          have HPB := Lib.hid hPB
          clear hpn hP eP hPB
          go_upto_region 22 with fail
          go_cut [80] (fun s wx => s = .bool false ∧ Below wi.heap.size wi wx)
          case first =>
            go_region_held3 (fun w' => w'.cell? ⟨bg, 0, none⟩ = some (.slice gp g.length gc) ∧ w'.cell? ⟨pb, po + i, none⟩ = some (.slice rp P.length rc))
              (first | exact ⟨ci, cp⟩ | go_keep | exact ⟨BWA.at' ci, BWA.at' cp⟩)
              (first | (go_at_call 82; refine (specConnectedIn_any _ _ g (natInts P) (by omega) _ ((HGo.out.below HBI.out).below (below_dN (Below.refl _ _) 1)) (HPN.out.below (below_dN (Below.refl _ _) 1))).mono ?_; rintro e wz ⟨he, hbq⟩; rw [HDC.out] at he; subst he; have BWA : Below wi.heap.size wi wz := (below_dN (Below.refl _ _) 1).trans hbq; clear hbq))
            all_goals go_wp2
            all_goals go_meet
            all_goals exact ⟨rfl, BWA⟩
          case rest =>
          obtain ⟨rfl, hbz⟩ := hcut
          obtain ⟨wj, hnm⟩ : ∃ z, z = wc := ⟨_, rfl⟩
          rw [← hnm] at hbz ⊢
          clear hnm
          have HBZ := Lib.hid (HBI.out.trans (hbz.mono HBI.out.size))
          have HPNj := Lib.hid (HPN.out.below hbz)
          have HCPj := Lib.hid (hbz.at' cp)
          clear hbz cp ci HPN HDC
          go_wp2_with fail
          go_loopw [12, 13, 14] (fun kv _ _ wr => ∃ k : Nat, k ≤ i ∧ kv = .int .i64 (k : Int) ∧ Below wj.heap.size wj wr) (fun kv _ _ _ => i - (intOf kv).toNat)
          case atStart => exact ⟨0, Nat.zero_le _, rfl, Below.refl _ _⟩
          case round =>
            obtain ⟨k, hk, rfl, hbk⟩ := hrel
            obtain ⟨wk, hnm⟩ : ∃ z, z = wr := ⟨_, rfl⟩
            rw [← hnm] at hbk ⊢
            clear hnm
            have HBK := Lib.hid hbk
            have HBKo := Lib.hid (HBZ.out.trans (hbk.mono HBZ.out.size))
            by_cases hkl : k < i
            · have e3 : (k : Int) < (i : Int) := by omega
              have e5 : (k : Int) < (B.length : Int) := by omega
              have hkB : k < B.length := by omega
              obtain ⟨pb2, po2, rp2, rc2, hpp2, cp2, hpn2⟩ := (HRGo.out.below HBKo.out).get (k := k) (by rw [List.length_map]; exact hkB)
              obtain ⟨rfl, rfl⟩ : pb = pb2 ∧ po = po2 := by
                simp only [Option.some.injEq, Addr.mk.injEq] at hpp2
                exact ⟨hpp2.1, hpp2.2.1⟩
              obtain ⟨Q, hQ⟩ : ∃ Q, Q = B[k] := ⟨_, rfl⟩
              have eQ : (B.map natInts).getD k [] = natInts Q := by rw [hQ]; simp [hkB]
              rw [eQ, natInts_length] at cp2 hpn2
              have HQN := Lib.hid hpn2
              have HCQ2 := Lib.hid cp2
              have HCP2 := Lib.hid (hbk.at' HCPj.out)
              have HPNk := Lib.hid (HPNj.out.below hbk)
              have HNCk := Lib.hid (HNCo.out.below HBKo.out)
              have HSH : Hid ((P.filter fun x => decide (x ∈ Q)).length ≤ 1) := Lib.hid (share_one (HPR.out.imp fun h => Nat.ne_of_lt h) fun x y h1 h2 h3 h4 => by
                have := List.pairwise_iff_getElem.1 HBG.out.pair k i hkB hil hkl
                rw [← hQ, ← HPE.out] at this
                exact this x y h2 h1 h4 h3)
              have HCUTS : Hid (∀ x, x ∈ P → x ∈ Q → x ∈ C) := Lib.hid fun x h1 h2 => by
                rw [HCI.out]
                have hxn := HBG.out.sub P HPB.out x h1
                rw [HBG.out.cut x hxn]
                exact two_has hkl hil (by rw [← hQ]; exact h2) (by rw [← HPE.out]; exact h1)
              clear hpn2 hQ eQ cp2 hbk hpp2
              go_wp2_with fail
              go_loopw [13, 14] (fun mv xv wr => ∃ x m : Nat, x ≤ P.length ∧ xv = .int .i64 (x : Int) ∧ mv = .int .i64 (m : Int) ∧ Hid (m = ((P.take x).filter fun x => decide (x ∈ Q)).length) ∧ Below wk.heap.size wk wr) (fun _ xv _ => P.length - (intOf xv).toNat)
              case atStart => exact ⟨0, 0, Nat.zero_le _, rfl, rfl, Lib.hid (by simp), Below.refl _ _⟩
              case round =>
                obtain ⟨x, m, hx, rfl, rfl, HMX, hbx⟩ := hrel
                obtain ⟨wx, hnm⟩ : ∃ z, z = wr := ⟨_, rfl⟩
                rw [← hnm] at hbx ⊢
                clear hnm
                have HBX := Lib.hid hbx
                have c1 := hbx.at' HCP2.out
                have c2 := hbx.at' HCQ2.out
                have hm7 : m ≤ 7 := by
                  rw [HMX.out]
                  exact Nat.le_trans (List.length_filter_le _ _) (by rw [List.length_take]; omega)
                by_cases hxl : x < P.length
                · have e6 : (x : Int) < (P.length : Int) := by omega
                  obtain ⟨y, hy⟩ : ∃ y, y = P[x] := ⟨_, rfl⟩
                  have hyP : y ∈ P := by rw [hy]; exact List.getElem_mem hxl
                  obtain ⟨eb, eo, hep, hce⟩ := (HPNk.out.below hbx).get (k := x) (by rw [natInts_length]; exact hxl)
                  subst hep
                  have e1 : (natInts P)[x]'(by rw [natInts_length]; exact hxl) = (y : Int) := by rw [hy]; simp [natInts]
                  rw [e1] at hce
                  have HTK : Hid (P.take (x + 1) = P.take x ++ [y]) := Lib.hid (by rw [take_snoc' P x hxl, hy])
                  have HQX := Lib.hid (HQN.out.below hbx)
                  have HNCx := Lib.hid (HNCk.out.below hbx)
                  have HYP := Lib.hid hyP
                  obtain ⟨r, hr⟩ : ∃ r, r = has1 y Q := ⟨_, rfl⟩
                  have HDR : Hid (dec ((y : Int) ∈ natInts Q) = r) := Lib.hid (by rw [has1_nat, hr])
                  have HR := Lib.hid hr
                  clear hy hyP e1 hbx hr
                  go_upto_region 31 with fail
                  go_cut [106] (fun s wz => s = .bool r ∧ Below wx.heap.size wx wz)
                  case first =>
                    go_region_held3 (fun w' => w'.cell? ⟨pb, po + k, none⟩ = some (.slice rp2 Q.length rc2) ∧ w'.cell? ⟨pb, po + i, none⟩ = some (.slice (some ⟨eb, eo, none⟩) P.length rc) ∧ w'.cell? ⟨eb, eo + x, none⟩ = some (.int .i64 (y : Int)))
                      (first | exact ⟨c2, c1, hce⟩ | go_keep)
                      (first | (go_at_call 81; refine (w9Has_any _ (natInts Q) (y : Int) _ (by first | exact HQX.out.below (below_dN (Below.refl _ _) 1) | exact HQX.out)).mono ?_; rintro e wa ⟨he, hw⟩; rw [HDR.out] at he; subst he; subst hw))
                    all_goals go_wp2
                    all_goals go_meet
                    all_goals exact ⟨rfl, below_dN (Below.refl _ _) 1⟩
                  case rest =>
                  obtain ⟨rfl, hbz⟩ := hcut
                  have c3 := hbz.at' c1
                  have hce3 := hbz.at' hce
                  have HNCz := Lib.hid (HNCx.out.below hbz)
                  have HBXZ := Lib.hid (HBX.out.trans (hbz.mono HBX.out.size))
                  clear hbz c1 c2 hce
                  cases r
                  · have HNEW : Hid (m = ((P.take (x + 1)).filter fun x => decide (x ∈ Q)).length) := Lib.hid (by
                      have h1 := HR.out
                      unfold has1 at h1
                      rw [HTK.out, List.filter_append, List.length_append, ← HMX.out]
                      simp [← h1])
                    go_wp2_with fail
                    go_roundw
                    case rel => exact ⟨x + 1, m, by omega, by go_num, rfl, HNEW, HBXZ.out⟩
                    case measure => simp [intOf]; omega
                  · have hyQ : y ∈ Q := by
                      have h1 := HR.out
                      unfold has1 at h1
                      simpa using h1.symm
                    have HDX := Lib.hid (dec_true (show (y : Int) ∈ natInts C from mem_natInts.2 ⟨y, HCUTS.out y HYP.out hyQ, rfl⟩))
                    have HNEW : Hid (m + 1 = ((P.take (x + 1)).filter fun x => decide (x ∈ Q)).length) := Lib.hid (by
                      rw [HTK.out, List.filter_append, List.length_append, ← HMX.out]
                      simp [hyQ])
                    clear hyQ
                    go_wp2_with (go_at_call 81; refine (w9Has_any _ (natInts C) (y : Int) _ HNCz.out).mono ?_; rintro e wa ⟨he, rfl⟩; rw [HDX.out] at he; subst he)
                    go_roundw
                    case rel => exact ⟨x + 1, m + 1, by omega, by go_num, by go_num, HNEW, HBXZ.out⟩
                    case measure => simp [intOf]; omega
                · obtain rfl : x = P.length := by omega
                  rw [List.take_length] at HMX
                  have hm1 : ¬ (1 : Int) < (m : Int) := by have := HSH.out; have := HMX.out; omega
                  clear hbx
                  go_wp2_with fail
                  go_roundw
                  case rel => exact ⟨k + 1, by omega, by go_num, HBK.out.trans (HBX.out.mono HBK.out.size)⟩
                  case measure => simp [intOf]; omega
            · obtain rfl : k = i := by omega
              clear hbk
              go_wp2_with fail
              go_roundw
              case rel => exact ⟨k + 1, by omega, by go_num, HBKo.out⟩
              case measure => simp [intOf]; omega
        · obtain rfl : i = B.length := by omega
          have HXi := Lib.hid (HXo.out.keep HBI.out)
          have HGi := Lib.hid (HGo.out.below HBI.out)
          have HTi := Lib.hid (HTo.out.keep HBI.out)
          have HWi := Lib.hid (HWo.out.trans (HBI.out.mono HWo.out.size))
          have HNCi := Lib.hid (HNCo.out.below HBI.out)
          clear hil hi HXo HGo HTo HWo HRGo HNCo HBI ci HCON HBLN
          go_wp2_with fail
          go_loopw [15] (fun vv wr => ∃ v : Nat, v ≤ g.length ∧ vv = .int .i64 (v : Int) ∧ Below wi.heap.size wi wr) (fun vv _ => g.length - (intOf vv).toNat)
          case atStart => exact ⟨0, Nat.zero_le _, rfl, Below.refl _ _⟩
          case round =>
            obtain ⟨v, hv, rfl, hbv⟩ := hrel
            obtain ⟨wv, hnm⟩ : ∃ z, z = wr := ⟨_, rfl⟩
            rw [← hnm] at hbv ⊢
            clear hnm
            have HBV := Lib.hid hbv
            have cv := (HXi.out.keep hbv).cell
            clear hbv
            by_cases hvl : v < g.length
            · have e7 : (v : Int) < (g.length : Int) := by omega
              obtain ⟨N, hN⟩ : ∃ N, N = ((blkA (ofG g) g.length).filter (has1 v)).length := ⟨_, rfl⟩
              have AT : Hid (∀ wz, Gr wz (.agg #[.slice gp g.length gc]) g → Tab wz → Calls Tryd.prog 83 #[.agg #[.slice gp g.length gc], .int .i64 (v : Int)] wz fun e w' => ∃ p c, e = .returned (.slice p N c) ∧ Below wz.heap.size wz w') := Lib.hid fun wz h1 h2 => by
                rw [hN]
                exact implBlocksAt_yes _ _ v rfl g hvl wz h1 HOK.out h2
              have hiff : v ∈ C ↔ 2 ≤ N := by
                rw [HCI.out, HBG.out.cut v hvl, hN, (HPM.out.filter _).length_eq]
              have hN16 : N ≤ 16 := by
                rw [hN]
                exact Nat.le_trans (List.length_filter_le _ _) (by rw [← HPM.out.length_eq]; omega)
              clear hN
              go_upto_region 40 with fail
              go_cut [136] (fun s wx => s = .bool false ∧ Below wv.heap.size wv wx)
              case first =>
                by_cases hvC : v ∈ C
                · have HD := Lib.hid (dec_true (show (v : Int) ∈ natInts C from mem_natInts.2 ⟨v, hvC, rfl⟩))
                  have h2N : (1 : Int) < (N : Int) := by have := hiff.1 hvC; omega
                  clear hvC hiff
                  go_region_held3 (fun w' => w'.cell? ⟨bg, 0, none⟩ = some (.slice gp g.length gc))
                    (first | exact cv | go_keep | exact BWA.at' cv)
                    (first
                      | (go_at_call 83; refine (AT.out _ ((HGi.out.below HBV.out).below (below_dN (Below.refl _ _) 1)) ((HTi.out.keep HBV.out).keep (below_dN (Below.refl _ _) 1))).mono ?_; rintro e wz ⟨zp, zc, rfl, hbq⟩; have BWA : Below wv.heap.size wv wz := (below_dN (Below.refl _ _) 1).trans hbq; clear hbq)
                      | (go_at_call 81; refine (w9Has_any _ (natInts C) (v : Int) _ ((HNCi.out.below HBV.out).below (below_dN (Below.refl _ _) 1))).mono ?_; rintro e wa ⟨he, hw⟩; rw [HD.out] at he; subst he; subst hw))
                  all_goals go_wp2
                  all_goals go_meet
                  all_goals exact ⟨by first | rfl | simp [h2N], BWA⟩
                · have HD := Lib.hid (dec_false (show ¬ (v : Int) ∈ natInts C from fun h => by
                    obtain ⟨j, hj, e⟩ := mem_natInts.1 h
                    obtain rfl : j = v := by omega
                    exact hvC hj))
                  have h2N : ¬ (1 : Int) < (N : Int) := by
                    have : ¬ 2 ≤ N := fun k => hvC (hiff.2 k)
                    omega
                  clear hvC hiff
                  go_region_held3 (fun w' => w'.cell? ⟨bg, 0, none⟩ = some (.slice gp g.length gc))
                    (first | exact cv | go_keep | exact BWA.at' cv)
                    (first
                      | (go_at_call 83; refine (AT.out _ ((HGi.out.below HBV.out).below (below_dN (Below.refl _ _) 1)) ((HTi.out.keep HBV.out).keep (below_dN (Below.refl _ _) 1))).mono ?_; rintro e wz ⟨zp, zc, rfl, hbq⟩; have BWA : Below wv.heap.size wv wz := (below_dN (Below.refl _ _) 1).trans hbq; clear hbq)
                      | (go_at_call 81; refine (w9Has_any _ (natInts C) (v : Int) _ ((HNCi.out.below HBV.out).below (below_dN (Below.refl _ _) 1))).mono ?_; rintro e wa ⟨he, hw⟩; rw [HD.out] at he; subst he; subst hw))
                  all_goals go_wp2
                  all_goals go_meet
                  all_goals exact ⟨by first | rfl | simp [h2N], BWA⟩
              case rest =>
              obtain ⟨rfl, hbz⟩ := hcut
              go_wp2_with fail
              go_roundw
              case rel => exact ⟨v + 1, by omega, by go_num, HBV.out.trans (hbz.mono HBV.out.size)⟩
              case measure => simp [intOf]; omega
            · obtain rfl : v = g.length := by omega
              have HGv := Lib.hid (HGi.out.below HBV.out)
              have HTv := Lib.hid (HTi.out.keep HBV.out)
              have HWv := Lib.hid (HWi.out.trans (HBV.out.mono HWi.out.size))
              have hone : TwoC g ↔ B.length = 1 ∧ 2 < g.length := ⟨fun h => ⟨HBG.out.one.2 h.2, h.1⟩, fun h => ⟨h.2, HBG.out.one.1 h.1⟩⟩
              by_cases h1 : B.length = 1
              · have h1i : ((B.length : Int) == 1) = true := by simp [h1]
                by_cases h2 : 2 < g.length
                · have h2i : (2 : Int) < (g.length : Int) := by omega
                  have HD := Lib.hid (dec_true (hone.2 ⟨h1, h2⟩))
                  clear hone h1 h2
                  go_wp2_with (go_at_call 84; refine (implTwoConnected_yes _ g _ HGv.out HOK.out HTv.out).mono ?_; rintro e wz ⟨he, hbz⟩; rw [HD.out] at he; subst he; have cz := hbz.at' cv)
                  go_ret
                  exact ⟨by first | rfl | exact ret_bool (by simp [h2i]), HWv.out.trans (hbz.mono HWv.out.size)⟩
                · have h2i : ¬ (2 : Int) < (g.length : Int) := by omega
                  have HD := Lib.hid (dec_false (fun k => h2 (hone.1 k).2))
                  clear hone h1 h2
                  go_wp2_with (go_at_call 84; refine (implTwoConnected_yes _ g _ HGv.out HOK.out HTv.out).mono ?_; rintro e wz ⟨he, hbz⟩; rw [HD.out] at he; subst he; have cz := hbz.at' cv)
                  go_ret
                  exact ⟨by first | rfl | exact ret_bool (by simp [h2i]), HWv.out.trans (hbz.mono HWv.out.size)⟩
              · have h1i : ((B.length : Int) == 1) = false := by simp; omega
                have HD := Lib.hid (dec_false (fun k => h1 (hone.1 k).1))
                clear hone h1
                go_wp2_with (go_at_call 84; refine (implTwoConnected_yes _ g _ HGv.out HOK.out HTv.out).mono ?_; rintro e wz ⟨he, hbz⟩; rw [HD.out] at he; subst he; have cz := hbz.at' cv)
                go_ret
                exact ⟨by first | rfl | exact ret_bool (by simp [h2i]), HWv.out.trans (hbz.mono HWv.out.size)⟩

end Go.Proofs.YtkppbmfliejnmaaDoor
