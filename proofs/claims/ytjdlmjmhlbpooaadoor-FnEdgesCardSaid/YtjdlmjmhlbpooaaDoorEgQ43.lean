/- Walk: the law FnEdges. -/
import Derived.Test.YtjdlmjmhlbpooaaDoorEgQ36
import Derived.Test.YtjdlmjmhlbpooaaDoorEgQ37
import Derived.Test.YtjdlmjmhlbpooaaDoorEgQ42
import Derived.Test.YtjdlmjmhlbpooaaDoorEgQ28
namespace Go.Proofs.YtjdlmjmhlbpooaaDoor
open Go.RowKit

theorem edN_le120 {g : List (List Int)} (hg : GOk g) : (edN g.length (ofG g) g.length).length ≤ 120 := by
  have h1 := two_cntE hg
  rw [cntE_edN hg _ (Nat.le_refl _)] at h1
  have h2 : totN g.length (ofG g) ≤ (List.range g.length).length * 15 := sum_le_mul fun x hx => by
    have hx := List.mem_range.1 hx
    have h16 := hg.le
    unfold degN
    have h3 := List.length_eq_countP_add_countP (p := ofG g x) (l := List.range g.length)
    have h4 : 0 < (List.range g.length).countP (fun a => ¬ (ofG g x a = true)) := List.countP_pos_iff.2 ⟨x, List.mem_range.2 hx, by simp [ofG_irr hg]⟩
    rw [List.length_range] at h3
    omega
  rw [List.length_range] at h2
  have := hg.le
  omega

set_option maxRecDepth 100000 in
set_option maxHeartbeats 8000000 in
theorem lawEdges_any (v0 : Value) (bs : List Int) (W : World) (ha : ArgB W v0 bs) (hT : Tab W) :
    Calls Tryd.prog 6 #[v0] W fun e w' => e = .returned (.bool true) ∧ Below W.heap.size W w' := by
  obtain ⟨p, c, e0, _⟩ := id ha
  subst e0
  have HA := Lib.hid ha
  have HT := Lib.hid hT
  clear ha hT
  go_enter Tryd.func6, Tryd.ntmps6
  by_cases hbig : 4096 < bs.length
  · have hd := decide_eq_true hbig
    go_wp2_with (go_at_call 18; refine (big_any _ bs _ HA.out).mono ?_; rintro e w2 ⟨he, rfl⟩; rw [hd] at he; subst he)
    go_ret
    exact ⟨rfl, Below.refl _ _⟩
  have hd := decide_eq_false hbig
  have hl : bs.length ≤ 4096 := by omega
  clear hbig
  go_upto_region 4 with (first
    | (go_at_call 30; refine (drawEdges_any _ bs hl _ HA.out).mono ?_; rintro e w2 ⟨u, g, rfl, hg, hgl, hgr, hb2⟩; obtain ⟨gu, rfl, hgr2⟩ := hg; obtain ⟨gp, gc, rfl, _⟩ := hgr2.shape)
    | (go_at_call 18; refine (big_any _ bs _ HA.out).mono ?_; rintro e w1 ⟨he, rfl⟩; rw [hd] at he; subst he))
  obtain ⟨w3, hw3⟩ : ∃ w3, w3 = w2.alloc (.cells #[.slice gp g.length gc] 29) := ⟨_, rfl⟩
  rw [← hw3]
  have hb23 : Below w2.heap.size w2 w3 := by rw [hw3]; exact below_alloc _ _
  have HX3 : Hid (Box w3 w2.heap.size 29 (.slice gp g.length gc)) := Lib.hid (by rw [hw3]; exact Box.new _ _ _)
  have HG3 : Hid (Gr w3 (.agg #[.slice gp g.length gc]) g) := Lib.hid ⟨_, rfl, hgr2.below hb23⟩
  have HW3 := Lib.hid (hb2.trans (hb23.mono hb2.size))
  have c3 := HX3.out.cell
  generalize w2.heap.size = bx at *
  clear hw3 hb23 hb2 hgr2 hd
  obtain ⟨l, HLG, HLB⟩ : ∃ l : List (Nat × Nat), Hid (GOk g → l = edN g.length (ofG g) g.length) ∧ Hid (¬ GOk g → l = []) := by
    by_cases h : GOk g
    · exact ⟨_, Lib.hid fun _ => rfl, Lib.hid fun h2 => absurd h h2⟩
    · exact ⟨[], Lib.hid fun h2 => absurd h2 h, Lib.hid fun _ => rfl⟩
  have HLP : Hid (∀ e ∈ l, e.1 < e.2 ∧ e.2 < g.length) := Lib.hid (fun e he => by
    by_cases h : GOk g
    · rw [HLG.out h] at he
      have := (mem_edN_iff (a := e.1) (b := e.2)).1 he
      exact ⟨this.1, this.2.1⟩
    · rw [HLB.out h] at he; cases he)
  have h120 : l.length ≤ 120 := by
    by_cases h : GOk g
    · rw [HLG.out h]; exact edN_le120 h
    · rw [HLB.out h]; exact Nat.zero_le _
  obtain ⟨GV, hGV⟩ : ∃ GV : Value, GV = .agg #[.slice gp g.length gc] := ⟨_, rfl⟩
  have EO : Hid (∀ wz, Gr wz (.agg #[.slice gp g.length gc]) g → Calls Tryd.prog 31 #[.agg #[.slice gp g.length gc]] wz fun e w' => ∃ p c, e = .returned (.slice p l.length c) ∧ (∃ b, PrsO w' b (.slice p l.length c) l) ∧ Below wz.heap.size wz w') := Lib.hid (fun wz hz => by
    refine (implEdgesOf_any _ g wz hz).mono ?_
    rintro e w2 ⟨u, rfl, h | ⟨h, rfl⟩, hb⟩
    · rw [← HLG.out h.1] at h
      obtain ⟨q, d, rfl⟩ := h.2.shape
      exact ⟨q, d, rfl, ⟨_, h.2⟩, hb⟩
    · rw [HLB.out h]
      exact ⟨none, 0, rfl, ⟨0, [], rfl, World.ownsRow_nil _ _ _ _, fun j hj => by simp [prsL] at hj⟩, hb⟩)
  have SE : Hid (∀ wz, Gr wz (.agg #[.slice gp g.length gc]) g → Calls Tryd.prog 34 #[.agg #[.slice gp g.length gc]] wz fun e w' => ∃ p c, e = .returned (.slice p l.length c) ∧ (∃ b, PrsO w' b (.slice p l.length c) l) ∧ Below wz.heap.size wz w') := Lib.hid (fun wz hz => by
    refine (specEdgesE_any _ g wz hz).mono ?_
    rintro e w2 ⟨u, b, rfl, h | h, hb⟩
    · rw [← HLG.out h.1] at h
      obtain ⟨q, d, rfl⟩ := h.2.shape
      exact ⟨q, d, rfl, ⟨_, h.2⟩, hb⟩
    · rw [← HLB.out h.1] at h
      obtain ⟨q, d, rfl⟩ := h.2.shape
      exact ⟨q, d, rfl, ⟨_, h.2⟩, hb⟩)
  have ME : Hid (∀ wz, Gr wz (.agg #[.slice gp g.length gc]) g → Calls Tryd.prog 33 #[.agg #[.slice gp g.length gc]] wz fun e w' => e = .returned (.int .i64 (l.length : Int)) ∧ Below wz.heap.size wz w') := Lib.hid (fun wz hz => by
    have e : manE g = l.length := by
      by_cases h : GOk g
      · rw [manE_yes h, HLG.out h]
      · rw [manE_no h, HLB.out h]; rfl
    rw [← e]
    exact implManyE_any _ g wz hz)
  clear hGV GV
  go_upto_region 5 with (go_at_call 31; refine (EO.out _ HG3.out).mono ?_; rintro e w4 ⟨lp, lc, rfl, ⟨Bl, hp4⟩, hb4⟩; have c4 := hb4.at' c3)
  have HP4 := Lib.hid hp4
  have HX4 := Lib.hid (HX3.out.keep hb4)
  have HG4 := Lib.hid (HG3.out.below hb4)
  have HW4 := Lib.hid (HW3.out.trans (hb4.mono HW3.out.size))
  clear hp4 hb4 c3 HX3 HG3 HW3 EO
  obtain ⟨d, HD⟩ : ∃ d, Hid (dec (GOk g) = d) := ⟨_, Lib.hid rfl⟩
  go_cut [35] (fun s wx => s = .bool false ∧ Below w4.heap.size w4 wx)
  case first =>
    cases d
    all_goals
      go_region_held3 (fun w' => w'.cell? ⟨bx, 0, none⟩ = some (.slice gp g.length gc))
        (first | exact c4 | go_keep | exact BWE.at' c4 | exact BWD.at' c4 | exact BWC.at' c4 | exact BWB.at' c4 | exact BWA.at' c4)
        (first
          | (go_at_call 34; refine (SE.out _ (HG4.out.below BWC)).mono ?_; rintro e wd ⟨sp, sc, rfl, ⟨bs5, hp5⟩, hbq⟩; have HP5 := Lib.hid hp5; have BWD : Below w4.heap.size w4 wd := BWC.trans (hbq.mono BWC.size); clear hbq hp5)
          | (go_at_call 33; refine (ME.out _ (HG4.out.below BWB)).mono ?_; rintro e wc ⟨rfl, hbq⟩; have BWC : Below w4.heap.size w4 wc := BWB.trans (hbq.mono BWB.size); clear hbq)
          | (go_at_call 29; refine (specGraphOk_any _ g _ (HG4.out.below BWA)).mono ?_; rintro e wb ⟨he, hbq⟩; rw [HD.out] at he; subst he; have BWB : Below w4.heap.size w4 wb := BWA.trans (hbq.mono BWA.size); clear hbq)
          | (go_at_call 32; refine (implGraphOk_any _ g _ (HG4.out.below (below_dN (Below.refl _ _) 1))).mono ?_; rintro e wa ⟨he, hbq⟩; rw [HD.out] at he; subst he; have BWA : Below w4.heap.size w4 wa := (below_dN (Below.refl _ _) 1).trans hbq; clear hbq)
          | (go_at_call 26; refine (w5Lists_any _ _ (prsL l) (prsL l) _ ((HP4.out.below BWD).rwsE (by omega)) (HP5.out.rwsE (by omega))).mono ?_; rintro e we ⟨he, hbq⟩; rw [dec_true (rfl : prsL l = prsL l)] at he; subst he; have BWE : Below w4.heap.size w4 we := BWD.trans (hbq.mono BWD.size); clear hbq))
    all_goals go_wp2
    all_goals go_meet
    all_goals exact ⟨rfl, BWE⟩
  case rest =>
  obtain ⟨rfl, hb5⟩ := hcut
  rename_i w5
  have HP5 := Lib.hid (HP4.out.below hb5)
  have HX5 := Lib.hid (HX4.out.keep hb5)
  have HG5 := Lib.hid (HG4.out.below hb5)
  have HW5 := Lib.hid (HW4.out.trans (hb5.mono HW4.out.size))
  have HT5 := Lib.hid (HT.out.keep HW5.out)
  have c5 := hb5.at' c4
  clear hb5 c4 HX4 HG4 HW4 HP4 SE HT
  go_upto_region 8 with (go_at_call 35; refine (implGraphOf_any (.slice lp l.length lc) (g.length : Int) g.length Bl l rfl (by omega) HLP.out h120 _ HP5.out HT5.out).mono ?_; rintro e w7 ⟨xp, xk, xc, rfl, hgx, hb7⟩; have HGX := Lib.hid hgx; have c7 := hb7.at' c5; clear hgx)
  obtain ⟨w8, hw8⟩ : ∃ W', W' = w7.alloc (.cells #[.slice xp xk xc] 29) := ⟨_, rfl⟩
  rw [← hw8]
  have hba : Below w7.heap.size w7 w8 := by rw [hw8]; exact below_alloc _ _
  have HXX : Hid (Box w8 w7.heap.size 29 (.slice xp xk xc)) := Lib.hid (by rw [hw8]; exact Box.new _ _ _)
  have HB8 := Lib.hid (hb7.trans (hba.mono hb7.size))
  have HX8 := Lib.hid (HX5.out.keep HB8.out)
  have HG8 := Lib.hid (HG5.out.below HB8.out)
  have HP8 := Lib.hid (HP5.out.below HB8.out)
  have HW8 := Lib.hid (HW5.out.trans (HB8.out.mono HW5.out.size))
  have c8 := HX8.out.cell
  have HGX8 : Hid (GOk g → xk = g.length ∧ Gr w8 (.agg #[.slice xp xk xc]) g) := Lib.hid (fun h => by
    obtain ⟨e, hd⟩ := HGX.out ⟨h.pos, h.le⟩
    rw [HLG.out h, memE_edN h] at hd
    exact ⟨e, (hd.gr (by omega) (fun j _ => Nat.le_trans (hgr j) (by decide))).below hba⟩)
  obtain ⟨xb, hxb⟩ : ∃ xb, xb = w7.heap.size := ⟨_, rfl⟩
  rw [← hxb] at HXX ⊢
  clear hw8 hba hb7 hxb c7 c5 HX5 HG5 HP5 HW5 HT5 HGX HB8 HD
  by_cases hok : GOk g
  case neg =>
    obtain rfl : l = [] := HLB.out hok
    have HDF := Lib.hid (dec_false hok)
    have HOK := Lib.hid hok
    clear hok
    go_wp2_with (first
      | (go_at_call 36; refine (implDegreesOf_any _ g _ (HG8.out.below hb9)).mono ?_; rintro e w10 ⟨u, rfl, hu, hb10⟩; obtain rfl : u = .slice none 0 0 := hu.elim (fun h => absurd h.1 HOK.out) (fun h => h.2))
      | (go_at_call 29; refine (specGraphOk_any _ g _ HG8.out).mono ?_; rintro e w9 ⟨he, hb9⟩; rw [HDF.out] at he; subst he; have c9 := hb9.at' c8))
    go_ret
    exact ⟨rfl, HW8.out.trans ((hb9.trans (hb10.mono hb9.size)).mono HW8.out.size)⟩
  have HOK := Lib.hid hok
  have HDT := Lib.hid (dec_true hok)
  obtain ⟨hxk, hgx⟩ := HGX8.out hok
  subst hxk
  have HGXX := Lib.hid hgx
  have HIS := Lib.hid (dec_true (show 1 ≤ g.length ∧ g.length ≤ 16 from ⟨hok.pos, hok.le⟩))
  rw [HIS.out]
  have HSUM : Hid ((degL g g.length).sum = 2 * (l.length : Int)) := Lib.hid (by rw [HLG.out hok, degL_sum hok]; omega)
  have g16 := hok.le
  have g1 := hok.pos
  clear hok hgx HIS HGX8 HLB
  go_upto_region 12 with (first
    | (go_at_call 36; refine (implDegreesOf_any _ g _ (HG8.out.below hb9)).mono ?_; rintro e w10 ⟨u, rfl, hu, hb10⟩; obtain ⟨zs, hzl, hzs, hzb, hzo⟩ := hu.elim (fun h => h.2) (fun h => absurd HOK.out h.1); have hnz := Nums.of_owns hzo rfl (by omega); obtain ⟨q, dc, hq, _⟩ := hnz.shape; subst hq; have HZL := Lib.hid hzl; have HZS := Lib.hid hzs; have HZB := Lib.hid hzb; have HNZ := Lib.hid hnz; clear hu hzb hzo hnz hzs)
    | (go_at_call 29; refine (specGraphOk_any _ g _ HG8.out).mono ?_; rintro e w9 ⟨he, hb9⟩; rw [HDT.out] at he; subst he; have c9 := hb9.at' c8))
  rw [hzl] at HNZ
  have HB10 := Lib.hid (hb9.trans (hb10.mono hb9.size))
  have HX10 := Lib.hid (HX8.out.keep HB10.out)
  have HXX10 := Lib.hid (HXX.out.keep HB10.out)
  have HG10 := Lib.hid (HG8.out.below HB10.out)
  have HGX10 := Lib.hid (HGXX.out.below HB10.out)
  have HP10 := Lib.hid (HP8.out.below HB10.out)
  have HW10 := Lib.hid (HW8.out.trans (HB10.out.mono HW8.out.size))
  clear hzl hb9 hb10 c8 c9 HX8 HXX HG8 HGXX HP8 HW8 HB10 HDT
  go_wp2_with fail
  go_loopw [7, 9] (fun sv iv wr => ∃ k : Nat, k ≤ g.length ∧ sv = .int .i64 (zs.take k).sum ∧ iv = .int .i64 (k : Int) ∧ wr = w10) (fun _ iv _ => g.length - (intOf iv).toNat)
  case atStart => exact ⟨0, Nat.zero_le _, rfl, rfl, rfl⟩
  case round =>
    obtain ⟨k, hk, rfl, rfl, hw⟩ := hrel
    have hw' := hw.symm
    clear hw
    subst hw'
    by_cases hlt : k < g.length
    · have hlz : k < zs.length := by have := HZL.out; omega
      obtain ⟨b, o, rfl, hc⟩ := HNZ.out.get hlz
      have hwr : IntKind.i64.wrap ((zs.take k).sum + zs[k]) = (zs.take (k + 1)).sum := by
        have hz := HZB.out _ (List.getElem_mem hlz)
        have hs := sum_bound (l := zs.take k) (c := 16) (fun x hx => HZB.out x (List.mem_of_mem_take hx))
        rw [List.length_take, Nat.min_eq_left (by omega)] at hs
        rw [sum_take_snoc hlz, IntKind.wrap_i64]
        omega
      go_wp2_with fail
      go_roundw
      case rel => exact ⟨k + 1, by omega, rfl, by go_num, by first | rfl | trivial⟩
      case measure => simp [intOf]; omega
    · obtain rfl : k = g.length := by omega
      have hsum : (zs.take g.length).sum = 2 * (l.length : Int) := by rw [← HZL.out, List.take_length, HZS.out, HSUM.out]
      rw [hsum]
      clear hsum hlt hk
      go_wp2_with fail
      go_loopw [10] (fun iv wr => ∃ k : Nat, k ≤ l.length ∧ iv = .int .i64 (k : Int) ∧ Below w10.heap.size w10 wr) (fun iv _ => l.length - (intOf iv).toNat)
      case atStart => exact ⟨0, Nat.zero_le _, rfl, Below.refl _ _⟩
      case round =>
        obtain ⟨k, hk, rfl, hb⟩ := hrel
        have HB := Lib.hid hb
        by_cases hlt : k < l.length
        · have cg := (HX10.out.keep hb).cell
          have hmem : l[k] ∈ edN g.length (ofG g) g.length := by
            rw [← HLG.out HOK.out]
            exact List.getElem_mem hlt
          obtain ⟨eb, eo, rp, rc, rfl, hce, hne⟩ := (HP10.out.below hb).get hlt
          obtain ⟨⟨a, b⟩, hab⟩ : ∃ e : Nat × Nat, e = l[k] := ⟨_, rfl⟩
          rw [← hab] at hne hmem
          simp only at hne
          obtain ⟨rb, ro, rfl, hc0⟩ := hne.get (k := 0) (by simp)
          obtain ⟨_, _, e1, hc1⟩ := hne.get (k := 1) (by simp)
          cases e1
          simp only [List.getElem_cons_zero, List.getElem_cons_succ, Nat.add_zero] at hc0 hc1
          obtain ⟨m1, m2, m4⟩ := mem_edN_iff.1 hmem
          have m3 : a < g.length := by omega
          have HM4 := Lib.hid m4
          have HM5 := Lib.hid (ofG_sym HOK.out _ _ m4)
          have HGr := Lib.hid (HG10.out.below hb)
          clear hne hmem hab m4 hb
          go_upto_region 19 with fail
          go_cut [107] (fun s wx => s = .bool false ∧ Below wr.heap.size wr wx)
          case first =>
            go_region_held3 (fun w' => w'.cell? ⟨bx, 0, none⟩ = some (.slice gp g.length gc) ∧ w'.cell? ⟨eb, eo + k, none⟩ = some (.slice (some ⟨rb, ro, none⟩) 2 rc) ∧ w'.cell? ⟨rb, ro, none⟩ = some (.int .i64 (a : Int)) ∧ w'.cell? ⟨rb, ro + 1, none⟩ = some (.int .i64 (b : Int)))
              (first | exact ⟨cg, hce, hc0, hc1⟩ | go_keep | exact ⟨BWB.at' cg, BWB.at' hce, BWB.at' hc0, BWB.at' hc1⟩ | exact ⟨BWA.at' cg, BWA.at' hce, BWA.at' hc0, BWA.at' hc1⟩)
              (first
                | (go_at_call 37; refine (implEdgeIn_yes _ g _ _ b a rfl rfl HOK.out m2 HM5.out _ (HGr.out.below BWA)).mono ?_; rintro e wb ⟨rfl, hbq⟩; have BWB : Below wr.heap.size wr wb := BWA.trans (hbq.mono BWA.size); clear hbq)
                | (go_at_call 37; refine (implEdgeIn_yes _ g _ _ a b rfl rfl HOK.out m3 HM4.out _ (HGr.out.below (below_dN (Below.refl _ _) 1))).mono ?_; rintro e wa ⟨rfl, hbq⟩; have BWA : Below wr.heap.size wr wa := (below_dN (Below.refl _ _) 1).trans hbq; clear hbq))
            all_goals go_wp2
            all_goals go_meet
            all_goals exact ⟨rfl, BWB⟩
          case rest =>
          obtain ⟨rfl, hbz⟩ := hcut
          go_wp2_with fail
          go_roundw
          case rel => exact ⟨k + 1, by omega, by go_num, HB.out.trans (hbz.mono HB.out.size)⟩
          case measure => simp [intOf]; omega
        · obtain rfl : k = l.length := by omega
          have HG11 := Lib.hid (HG10.out.below hb)
          have HGX11 := Lib.hid (HGX10.out.below hb)
          have cg := (HX10.out.keep hb).cell
          have cx := (HXX10.out.keep hb).cell
          have hwr2 : IntKind.i64.wrap (2 * (l.length : Int)) = 2 * (l.length : Int) := by rw [IntKind.wrap_i64]; omega
          clear hb hlt hk
          go_wp2_with (first
            | (go_at_call 33; refine (ME.out _ (HG11.out.below hb12)).mono ?_; rintro e w13 ⟨rfl, hb13⟩; have cg3 := hb13.at' cg2)
            | (go_at_call 38; refine (implSameGraph_any _ _ g g _ HGX11.out HG11.out).mono ?_; rintro e w12 ⟨he, hb12⟩; rw [dec_true ⟨HOK.out, HOK.out, rfl⟩] at he; subst he; have cg2 := hb12.at' cg))
          go_ret
          exact ⟨rfl, HW10.out.trans ((HB.out.trans ((hb12.trans (hb13.mono hb12.size)).mono HB.out.size)).mono HW10.out.size)⟩

end Go.Proofs.YtjdlmjmhlbpooaaDoor
